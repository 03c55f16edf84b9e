/- Part of the proof of KnownTightUptoCardSaid: see the last file.  -/
import Derived.WalkKit
import Derived.ProofKit
import Derived.JoinedCond
import Derived.OpenShut
import Derived.Deep.DeepHandedRow
import Derived.Laws.Externs
import Derived.KernelRfl
import Derived.Test.YtloofbfkaombbaaDoorProg
import Derived.Laws.MathBits
import Derived.Test.YtloofbfkaombbaaDoorT0
import Derived.Test.YtloofbfkaombbaaDoorT1
set_option linter.unusedSimpArgs false
set_option linter.unusedVariables false
set_option linter.unusedSectionVars false
/- The abstract machine: regions that draw are sound, II. -/
set_option linter.unusedVariables false
namespace Go.AM
open Go

section
variable {C : Ctx} {ops : List Oper} {fr0 : Fr} {S0 : St} {an : List Nat}

theorem sameTag_comm (a b : Option Nat) : sameTag a b = sameTag b a := by
  cases a <;> cases b <;> first | rfl | skip
  rename_i x y
  show Nat.beq x y = Nat.beq y x
  rw [Bool.eq_iff_iff, Nat.beq_eq, Nat.beq_eq]
  exact ⟨Eq.symm, Eq.symm⟩
theorem putS_get (fr : Fr) (d : Option Nat) (s : Slot) (t : Nat) : (putS fr d s)[t]? = if d = some t then (fr[t]?).map fun _ => s else fr[t]? := by
  cases d with
  | none => rfl
  | some d =>
    simp only [putS, List.getElem?_set, Option.some.injEq]
    by_cases h : d = t
    · subst h
      rw [if_pos rfl, if_pos rfl]
      split
      · rename_i hl; rw [List.getElem?_eq_getElem hl]; rfl
      · rename_i hl; rw [List.getElem?_eq_none (by omega)]; rfl
    · rw [if_neg h, if_neg h]
theorem getS_of {fr fr' : Fr} {t : Nat} (h : fr[t]? = fr'[t]?) : getS fr t = getS fr' t := by
  unfold getS; rw [List.getD_eq_getElem?_getD, List.getD_eq_getElem?_getD, h]

variable (C ops fr0 S0) in
/-- The frame where the operations that are listed have been carried out. -/
def FD (L : Array Bool) : Nat → Fr
  | 0 => fr0
  | i + 1 => match L.getD i false with
    | true => match ops[i]? with
      | some o => putS (FD L i) o.dst (sl C ops fr0 S0 i)
      | none => FD L i
    | false => FD L i

theorem FD_slot {L : Array Bool} (hok : ∀ j o, ops[j]? = some o → ∃ b, OKi C ops fr0 S0 j o b) {t j : Nat} (hj : j ≤ ops.length)
    (h1 : ∀ i o, i < j → ops[i]? = some o → o.dst = some t → L.getD i false = true) (h2 : ∀ i o, j ≤ i → ops[i]? = some o → o.dst = some t → L.getD i false = false) :
    ∀ m, m ≤ ops.length → (FD C ops fr0 S0 L m)[t]? = ((stp C ops fr0 S0 (min m j)).1)[t]?
  | 0, _ => by rw [Nat.zero_min]; rfl
  | m + 1, hm => by
    have ih := FD_slot hok hj h1 h2 m (by omega)
    have hom : ∃ o, ops[m]? = some o := ⟨ops[m], by simp⟩
    obtain ⟨o, ho⟩ := hom
    obtain ⟨b, hb⟩ := hok m o ho
    unfold FD
    rcases Nat.lt_or_ge m j with q | q
    · rw [Nat.min_eq_left q, hb.next, putS_get]
      rw [Nat.min_eq_left (by omega)] at ih
      cases hL : L.getD m false with
      | true =>
        dsimp only
        rw [ho]
        dsimp only
        rw [putS_get, ih]
      | false =>
        dsimp only
        rw [ih]
        split
        · rename_i hd; rw [h1 m o q ho hd] at hL; cases hL
        · rfl
    · rw [Nat.min_eq_right (by omega)]
      rw [Nat.min_eq_right q] at ih
      cases hL : L.getD m false with
      | true =>
        dsimp only
        rw [ho]
        dsimp only
        rw [putS_get, ih]
        split
        · rename_i hd; rw [h2 m o q ho hd] at hL; cases hL
        · rfl
      | false => dsimp only; exact ih

theorem getD_set {L : Array Bool} {j i : Nat} (hj : j < L.size) : (L.setIfInBounds j true).getD i false = if i = j then true else L.getD i false := by
  simp only [Array.getD_eq_getD_getElem?, Array.getElem?_setIfInBounds]
  by_cases h : j = i
  · subst h; rw [if_pos rfl, if_pos rfl, if_pos hj]; rfl
  · rw [if_neg h, if_neg (fun e => h e.symm)]

theorem FD_set {L : Array Bool} {j : Nat} {oj : Oper} (hoj : ops[j]? = some oj) (hjL : j < L.size) (hnj : L.getD j false = false)
    (h2 : ∀ i o, j < i → ops[i]? = some o → L.getD i false = true → ∀ d, oj.dst = some d → o.dst ≠ some d) :
    ∀ m, m ≤ ops.length → FD C ops fr0 S0 (L.setIfInBounds j true) m = if m ≤ j then FD C ops fr0 S0 L m else putS (FD C ops fr0 S0 L m) oj.dst (sl C ops fr0 S0 j)
  | 0, _ => by rw [if_pos (Nat.zero_le _)]; rfl
  | m + 1, hm => by
    have ih := FD_set hoj hjL hnj h2 m (by omega)
    unfold FD
    rw [getD_set hjL]
    obtain ⟨o, ho⟩ : ∃ o, ops[m]? = some o := ⟨ops[m], by simp⟩
    rcases Nat.lt_trichotomy m j with q | q | q
    · rw [if_neg (by omega), if_pos (by omega)]
      rw [if_pos (by omega)] at ih
      rw [ih]
    · subst q
      rw [if_pos rfl, if_neg (by omega), hnj]
      rw [if_pos (Nat.le_refl _)] at ih
      rw [hoj]
      dsimp only
      rw [ih]
    · rw [if_neg (by omega), if_neg (by omega)]
      rw [if_neg (by omega)] at ih
      cases hL : L.getD m false with
      | false => dsimp only; exact ih
      | true =>
        dsimp only
        rw [ho]
        dsimp only
        rw [ih]
        apply List.ext_getElem?
        intro t
        simp only [putS_get]
        have := h2 m o q ho hL
        by_cases e1 : o.dst = some t
        · by_cases e2 : oj.dst = some t
          · exact absurd e1 (this t e2)
          · rw [if_pos e1, if_neg e2, if_neg e2, if_pos e1]
        · rw [if_neg e1, if_neg e1]

variable (C ops fr0 S0) in
def Effw (i : Nat) : Prop := ∃ o, ops[i]? = some o ∧ Wd C ops fr0 S0 i o ∧ kindOf C.P o.op = .eff

theorem T_const (hok : ∀ j o, ops[j]? = some o → ∃ b, OKi C ops fr0 S0 j o b) {m : Nat} : ∀ m', m ≤ m' → m' ≤ ops.length → (∀ i, m ≤ i → i < m' → ¬ Effw C ops fr0 S0 i) → (stp C ops fr0 S0 m').2 = (stp C ops fr0 S0 m).2 := by
  intro m' hm
  induction m' with
  | zero => intro _ _; have : m = 0 := by omega
            rw [this]
  | succ n ih =>
    intro hn h
    rcases Nat.lt_or_ge n m with q | q
    · have : m = n + 1 := by omega
      rw [this]
    · rw [← ih q (by omega) (fun i h1 h2 => h i h1 (by omega))]
      obtain ⟨o, ho⟩ : ∃ o, ops[n]? = some o := ⟨ops[n], by simp⟩
      obtain ⟨b, hb⟩ := hok n o ho
      cases b with
      | false => exact (hb.no rfl).2
      | true =>
        have hk : kindOf C.P o.op ≠ .eff := fun hk => h n q (Nat.lt_succ_self n) ⟨o, ho, hb.guard, hk⟩
        have hR := hb.yes rfl
        refine (opR_pr (S2 := (stp C ops fr0 S0 n).2) hR ?_).1
        cases hq : kindOf C.P o.op with
        | pure => exact .inl rfl
        | read => exact .inr ⟨rfl, rfl⟩
        | eff => exact absurd hq hk

/-- What a reading yields, wherever it stands. -/
theorem read_any (hok : ∀ j o, ops[j]? = some o → ∃ b, OKi C ops fr0 S0 j o b) (hchk : ∀ j o, ops[j]? = some o → Chk C ops fr0 S0 an j o)
    {j : Nat} {o : Oper} (ho : ops[j]? = some o) (hb : OKi C ops fr0 S0 j o true) (hk : kindOf C.P o.op = .read) :
    (∀ n, ∀ m, m + n = j → (∀ i, m ≤ i → i < j → Effw C ops fr0 S0 i → (an.getD j 0).testBit i = false) → opR C (stp C ops fr0 S0 j).1 (stp C ops fr0 S0 m).2 o = some (sl C ops fr0 S0 j, (stp C ops fr0 S0 m).2)) ∧
    (∀ m, j ≤ m → m ≤ ops.length → (∀ i, j < i → i < m → Effw C ops fr0 S0 i → (an.getD i 0).testBit j = false) → opR C (stp C ops fr0 S0 j).1 (stp C ops fr0 S0 m).2 o = some (sl C ops fr0 S0 j, (stp C ops fr0 S0 m).2)) := by
  have h0 : opR C (stp C ops fr0 S0 j).1 (stp C ops fr0 S0 j).2 o = some (sl C ops fr0 S0 j, (stp C ops fr0 S0 j).2) := (opR_pr (hb.yes rfl) (.inr ⟨hk, rfl⟩)).2
  have hjl := (List.getElem?_eq_some_iff.1 ho).1
  refine ⟨fun n => ?_, fun m => ?_⟩
  · induction n with
    | zero => intro m hm _; have : m = j := by omega
              rw [this]; exact h0
    | succ n ih =>
      intro m hm hno
      have h1 := ih (m + 1) (by omega) (fun i h1 h2 => hno i (by omega) h2)
      obtain ⟨om, hom⟩ : ∃ om, ops[m]? = some om := ⟨ops[m], by simp⟩
      by_cases hw : Wd C ops fr0 S0 m om ∧ kindOf C.P om.op = .eff
      · have hbit := hno m (Nat.le_refl _) (by omega) ⟨om, hom, hw.1, hw.2⟩
        cases ht : sameTag (tagOf C (stp C ops fr0 S0 m).1 om) (tagOf C (stp C ops fr0 S0 j).1 o) with
        | true => exact (hchk j o ho).1 hb.guard hk m om (by omega) hom hw.1 hw.2 hbit ht
        | false =>
          obtain ⟨b, hbm⟩ := hok m om hom
          have hbt : b = true := by have := hbm.guard; rw [hw.1] at this; cases this; rfl
          subst hbt
          have htag := eff_tag (hbm.yes rfl) hw.2
          have hst : sameTag (tagOf C (stp C ops fr0 S0 j).1 o) (tagOf C (stp C ops fr0 S0 m).1 om) = false := by rw [sameTag_comm]; exact ht
          have := htag.other hst
          refine read_same h1 hk ?_
          unfold sameOn at this ⊢
          split at this
          · exact this.symm
          · exact this.symm
      · have hT : (stp C ops fr0 S0 (m + 1)).2 = (stp C ops fr0 S0 m).2 := T_const hok (m + 1) (by omega) (by omega) (fun i h1 h2 he => by
          have : i = m := by omega
          subst this
          obtain ⟨o', ho', hw1, hw2⟩ := he
          rw [hom] at ho'; cases ho'
          exact hw ⟨hw1, hw2⟩)
        rw [hT] at h1; exact h1
  · induction m with
    | zero => intro hm _ _; have : j = 0 := by omega
              subst this; exact h0
    | succ m ih =>
      intro hm hml hno
      rcases Nat.lt_or_ge m j with q | q
      · have : m + 1 = j := by omega
        rw [this]; exact h0
      · have h1 := ih q (by omega) (fun i h1 h2 => hno i h1 (by omega))
        obtain ⟨om, hom⟩ : ∃ om, ops[m]? = some om := ⟨ops[m], by simp⟩
        by_cases hw : Wd C ops fr0 S0 m om ∧ kindOf C.P om.op = .eff
        · have hjm : j < m := by
            rcases Nat.lt_or_ge j m with q' | q'
            · exact q'
            · have : m = j := by omega
              subst this
              rw [ho] at hom; cases hom
              rw [hk] at hw; cases hw.2
          have hbit := hno m hjm (Nat.lt_succ_self m) ⟨om, hom, hw.1, hw.2⟩
          cases ht : sameTag (tagOf C (stp C ops fr0 S0 j).1 o) (tagOf C (stp C ops fr0 S0 m).1 om) with
          | true => exact (hchk m om hom).2 hw.1 hw.2 j o hjm ho hb.guard hk hbit ht
          | false =>
            obtain ⟨b, hbm⟩ := hok m om hom
            have hbt : b = true := by have := hbm.guard; rw [hw.1] at this; cases this; rfl
            subst hbt
            exact read_same h1 hk ((eff_tag (hbm.yes rfl) hw.2).other ht)
        · have hT : (stp C ops fr0 S0 (m + 1)).2 = (stp C ops fr0 S0 m).2 := T_const hok (m + 1) (by omega) (by omega) (fun i h1 h2 he => by
            have : i = m := by omega
            subst this
            obtain ⟨o', ho', hw1, hw2⟩ := he
            rw [hom] at ho'; cases ho'
            exact hw ⟨hw1, hw2⟩)
          rw [hT]; exact h1
end

theorem draws_sound {P : Program} (O : Orc) (h : Handler) (f : FuncId) (hh : SimC P h) : DrawS ⟨P, O, h, f⟩ := by
  intro α w0 H0 β0 r ops k Q W S1 a1 β1 l1 hord hW hk fr0 S0 a w β lam hrun hG hM
  generalize hC : (⟨P, O, h, f⟩ : Ctx) = C at *
  have hhC : SimC C.P C.h := by rw [← hC]; exact hh
  clear hC hh
  obtain ⟨hend, hall⟩ := drawC_inv (C := C) (ops := ops) (fr0 := fr0) (S0 := S0) (an := ancs ops) ops 0 [] [] rfl hrun (fun l o' hl => by omega) (fun l o' hl => by omega) (fun q hq => by cases hq)
  have hok : ∀ j o, ops[j]? = some o → ∃ b, OKi C ops fr0 S0 j o b := fun j o ho => (hall j o (Nat.zero_le _) ho).1
  have hchk : ∀ j o, ops[j]? = some o → Chk C ops fr0 S0 (ancs ops) j o := fun j o ho => (hall j o (Nat.zero_le _) ho).2
  have fin : ∀ (L : Array Bool) (a : Act) (w : World) (β : Bt) (lam : Nat → Nat) (m : Nat), (∀ i, i < ops.length → L.getD i false = true) → m ≤ ops.length → (∀ i, m ≤ i → Effw C ops fr0 S0 i → L.getD i false = false) →
      Good C.P w0 H0 β0 (FD C ops fr0 S0 L ops.length) (stp C ops fr0 S0 m).2 a w β lam → Moved W S1 a1 β1 l1 (stp C ops fr0 S0 m).2 a β lam → Q .normal a w := by
    intro L a w β lam m hL hm hm2 hG hM
    have hF : ∀ q, q ≤ ops.length → FD C ops fr0 S0 L q = (stp C ops fr0 S0 q).1 := by
      intro q
      induction q with
      | zero => intro _; rfl
      | succ q ih =>
        intro hq
        obtain ⟨o, ho⟩ : ∃ o, ops[q]? = some o := ⟨ops[q], by simp⟩
        obtain ⟨b, hb⟩ := hok q o ho
        unfold FD
        rw [hL q (by omega)]
        dsimp only
        rw [ho]
        dsimp only
        rw [ih (by omega), hb.next]
    have hT : (stp C ops fr0 S0 ops.length).2 = (stp C ops fr0 S0 m).2 := T_const hok _ hm (Nat.le_refl _) (fun i h1 h2 he => by
      have := hm2 i h1 he
      rw [hL i h2] at this; cases this)
    rw [hF _ (Nat.le_refl _)] at hG
    rw [← hT] at hG hM
    exact hk _ _ a w β lam hend hG hM
  have full : ∀ (L : Array Bool), L.size = ops.length → Region.ready .any ops.toArray L = [] → ∀ i, i < ops.length → L.getD i false = true := by
    intro L hs hr i
    induction i using Nat.strongRecOn with
    | _ i ih =>
      intro hi
      cases hL : L.getD i false with
      | true => rfl
      | false =>
        exfalso
        have : i ∈ Region.ready .any ops.toArray L := by
          refine mem_ready.2 ⟨?_, ops[i], by simp [hi], fun e he hb => ?_⟩
          · rw [Array.getD_eq_getD_getElem?] at hL ⊢
            rw [Array.getElem?_eq_getElem (by omega)] at hL ⊢
            exact hL
          · have hlt := inOrder_edges hord (j := i) (o := ops[i]) (by simp) e he hb
            exact ih e.on hlt (by omega)
        rw [hr] at this; cases this
  have main : ∀ (fuel : Nat) (L : Array Bool) (a : Act) (w : World) (β : Bt) (lam : Nat → Nat) (U : List Nat) (m : Nat), L.size = ops.length → U.length = fuel → (∀ i, i < ops.length → L.getD i false = false → i ∈ U) →
      (∀ i o, L.getD i false = true → ops[i]? = some o → ∀ e ∈ o.after, Region.binds .any e = true → L.getD e.on false = true) →
      m ≤ ops.length → (∀ i, i < m → Effw C ops fr0 S0 i → L.getD i false = true) → (∀ i, m ≤ i → Effw C ops fr0 S0 i → L.getD i false = false) →
      Good C.P w0 H0 β0 (FD C ops fr0 S0 L ops.length) (stp C ops fr0 S0 m).2 a w β lam → Moved W S1 a1 β1 l1 (stp C ops fr0 S0 m).2 a β lam →
      wpAny C.P .any ops.toArray Q fuel L a w := by
    intro fuel
    induction fuel with
    | zero =>
      intro L a w β lam U m hs hU hUm hcl hm hm1 hm2 hG hM
      have hU0 : U = [] := List.length_eq_zero_iff.1 hU
      subst hU0
      have hL : ∀ i, i < ops.length → L.getD i false = true := fun i hi => by
        cases hq : L.getD i false with
        | true => rfl
        | false => exact absurd (hUm i hi hq) (by simp)
      refine ⟨?_, fin L a w β lam m hL hm hm2 hG hM⟩
      cases hr : Region.ready .any ops.toArray L with
      | nil => rfl
      | cons j js =>
        obtain ⟨h1, o, h2, _⟩ := mem_ready.1 (show j ∈ Region.ready .any ops.toArray L by rw [hr]; exact List.mem_cons_self ..)
        have hj : j < ops.length := by have := (Array.getElem?_eq_some_iff.1 h2).1; simpa using this
        have h3 := hL j hj
        rw [Array.getD_eq_getD_getElem?, Array.getElem?_eq_getElem (by omega)] at h1 h3
        simp only [Option.getD_some] at h1 h3
        rw [h1] at h3; cases h3
    | succ fuel ih =>
      intro L a w β lam U m hs hU hUm hcl hm hm1 hm2 hG hM
      refine ⟨fun hr => fin L a w β lam m (full L hs hr) hm hm2 hG hM, fun j hj => ?_⟩
      obtain ⟨hnj, o, ho, he⟩ := mem_ready.1 hj
      have ho : ops[j]? = some o := by simpa using ho
      have hjn := (List.getElem?_eq_some_iff.1 ho).1
      have hjL : j < L.size := by omega
      have hnj' : L.getD j false = false := by
        rw [Array.getD_eq_getD_getElem?, Array.getElem?_eq_getElem hjL] at hnj ⊢
        exact hnj
      have hanc : ∀ l, ((ancs ops).getD j 0).testBit l = true → L.getD l false = true := anc_in (D := fun i => L.getD i false = true) hcl j o ho he
      have hdesc : ∀ i oi, ops[i]? = some oi → L.getD i false = true → ((ancs ops).getD i 0).testBit j = true → False := fun i oi hoi hi hbit => by
        have := anc_in (D := fun i => L.getD i false = true) hcl i oi hoi (hcl i oi hi hoi) j hbit
        have this : L.getD j false = true := this
        rw [hnj'] at this; cases this
      have hslot : ∀ t ∈ touches ops o, getS (FD C ops fr0 S0 L ops.length) t = getS (stp C ops fr0 S0 j).1 t := by
        intro t ht
        have := FD_slot (L := L) (t := t) (j := j) hok (Nat.le_of_lt hjn) (fun i oi hij hoi hd => by
          rcases inOrder_pair hord hij hoi ho with q | q
          · exact hanc i q
          · exact absurd ht ((clash_false q.1).1 t hd).1) (fun i oi hij hoi hd => by
          cases hL : L.getD i false with
          | false => rfl
          | true =>
            rcases Nat.lt_or_ge j i with q | q
            · rcases inOrder_pair hord q ho hoi with q' | q'
              · exact (hdesc i oi hoi hL q').elim
              · exact absurd ht ((clash_false q'.1).2 t hd)
            · have : i = j := by omega
              subst this; rw [hnj'] at hL; cases hL) ops.length (Nat.le_refl _)
        rw [Nat.min_eq_right (Nat.le_of_lt hjn)] at this
        exact getS_of this
      obtain ⟨b, hb⟩ := hok j o ho
      have hwant : Region.wanted o (yielded ops.toArray a.tmps) = b := by
        have hg : guardV ops (FD C ops fr0 S0 L ops.length) o = some b := by rw [guardV_congr hslot]; exact hb.guard
        obtain ⟨b', fr', e1, _, e2⟩ := guard_sound hg hG.fr
        cases e1; exact e2
      have hset : FD C ops fr0 S0 (L.setIfInBounds j true) ops.length = putS (FD C ops fr0 S0 L ops.length) o.dst (sl C ops fr0 S0 j) := by
        rw [FD_set ho hjL hnj' (fun i oi hij hoi hL d hd => by
          rcases inOrder_pair hord hij ho hoi with q | q
          · exact (hdesc i oi hoi hL q).elim
          · exact ((clash_false q.1).1 d hd).2) ops.length (Nat.le_refl _), if_neg (by omega)]
      have hmono : ∀ x, L.getD x false = true → (L.setIfInBounds j true).getD x false = true := fun x hx => by
        rw [getD_set hjL]; split
        · rfl
        · exact hx
      have hjj : (L.setIfInBounds j true).getD j false = true := by rw [getD_set hjL, if_pos rfl]
      have hne : ∀ x, x ≠ j → (L.setIfInBounds j true).getD x false = L.getD x false := fun x hx => by rw [getD_set hjL, if_neg hx]
      have hjU : j ∈ U := hUm j hjn hnj'
      have hWo := hW o (List.mem_of_getElem? ho)
      -- the next stage
      have next : ∀ (a' : Act) (w' : World) (β' : Bt) (lam' : Nat → Nat) (m' : Nat), m' ≤ ops.length → (∀ i, i < m' → Effw C ops fr0 S0 i → (L.setIfInBounds j true).getD i false = true) → (∀ i, m' ≤ i → Effw C ops fr0 S0 i → (L.setIfInBounds j true).getD i false = false) →
          Good C.P w0 H0 β0 (putS (FD C ops fr0 S0 L ops.length) o.dst (sl C ops fr0 S0 j)) (stp C ops fr0 S0 m').2 a' w' β' lam' → Moved W S1 a1 β1 l1 (stp C ops fr0 S0 m').2 a' β' lam' → wpAny C.P .any ops.toArray Q fuel (L.setIfInBounds j true) a' w' := by
        intro a' w' β' lam' m' q1 q2 q3 q4 q5
        refine ih (L.setIfInBounds j true) a' w' β' lam' (U.erase j) m' (by simpa using hs) (by rw [List.length_erase_of_mem hjU, hU]; rfl) (fun i hi hLi => ?_) (fun i oi hLi hoi e hem hbd => ?_) q1 q2 q3 (by rw [hset]; exact q4) q5
        · have hij : i ≠ j := fun q => by subst q; rw [hjj] at hLi; cases hLi
          rw [hne i hij] at hLi
          exact (List.mem_erase_of_ne hij).2 (hUm i hi hLi)
        · by_cases hij : i = j
          · subst hij
            rw [ho] at hoi; cases hoi
            exact hmono _ (he e hem hbd)
          · rw [hne i hij] at hLi
            exact hmono _ (hcl i oi hLi hoi e hem hbd)
      unfold wpOp
      simp only [List.getElem?_toArray, ho, hwant]
      cases b with
      | false =>
        simp only [Bool.false_eq_true, if_false]
        have hnoteff : ∀ i, Effw C ops fr0 S0 i → i ≠ j := fun i ⟨oi, hoi, hw, _⟩ q => by
          subst q; rw [ho] at hoi; cases hoi
          have h1 := hb.guard
          unfold Wd at hw
          rw [hw] at h1; cases h1
        refine next _ w β lam m hm (fun i hi hei => hmono i (hm1 i hi hei)) (fun i hi hei => by rw [hne i (hnoteff i hei)]; exact hm2 i hi hei) ⟨hG.rel, ?_, hG.ext⟩ (hM.put hWo _ (BMv.refl _ _) (Bt.le_refl _))
        rw [(hb.no rfl).1]
        exact hG.fr.put (s := .und) rfl _
      | true =>
        simp only [if_true]
        have hcong : opR C (FD C ops fr0 S0 L ops.length) (stp C ops fr0 S0 m).2 o = opR C (stp C ops fr0 S0 j).1 (stp C ops fr0 S0 m).2 o := opR_congr (ev_touch hslot)
        have step : ∀ m', m' ≤ ops.length → (∀ i, i < m' → Effw C ops fr0 S0 i → (L.setIfInBounds j true).getD i false = true) → (∀ i, m' ≤ i → Effw C ops fr0 S0 i → (L.setIfInBounds j true).getD i false = false) →
            opR C (stp C ops fr0 S0 j).1 (stp C ops fr0 S0 m).2 o = some (sl C ops fr0 S0 j, (stp C ops fr0 S0 m').2) → o.wp C.P a w (wpAny C.P .any ops.toArray Q fuel (L.setIfInBounds j true)) Q := by
          intro m' q1 q2 q3 q4
          rw [← hcong] at q4
          refine op_sound (r := (sl C ops fr0 S0 j, (stp C ops fr0 S0 m').2)) hhC hG.n q4 hG.rel hG.fr fun s S' w' v' β' lam' g1 g2 g3 g4 g5 g6 => ?_
          cases g1
          exact next _ w' β' lam' m' q1 q2 q3 ⟨g2, g3.put g4 _, hG.ext.trans g5⟩ (hM.put hWo _ g6 g5.le)
        refine .inl ?_
        cases hkd : kindOf C.P o.op with
        | pure =>
          have hnoteff : ∀ i, Effw C ops fr0 S0 i → i ≠ j := fun i ⟨oi, hoi, hw, hk⟩ q => by
            subst q; rw [ho] at hoi; cases hoi
            rw [hkd] at hk; cases hk
          exact step m hm (fun i hi hei => hmono i (hm1 i hi hei)) (fun i hi hei => by rw [hne i (hnoteff i hei)]; exact hm2 i hi hei) (opR_pr (S2 := (stp C ops fr0 S0 m).2) (hb.yes rfl) (.inl hkd)).2
        | read =>
          have hnoteff : ∀ i, Effw C ops fr0 S0 i → i ≠ j := fun i ⟨oi, hoi, hw, hk⟩ q => by
            subst q; rw [ho] at hoi; cases hoi
            rw [hkd] at hk; cases hk
          refine step m hm (fun i hi hei => hmono i (hm1 i hi hei)) (fun i hi hei => by rw [hne i (hnoteff i hei)]; exact hm2 i hi hei) ?_
          obtain ⟨r1, r2⟩ := read_any hok hchk ho hb hkd
          rcases Nat.le_total m j with q | q
          · refine r1 (j - m) m (by omega) fun i h1 h2 hei => ?_
            cases hbit : ((ancs ops).getD j 0).testBit i with
            | false => rfl
            | true =>
              have h3 := hanc i hbit
              rw [hm2 i h1 hei] at h3; cases h3
          · refine r2 m q hm fun i h1 h2 hei => ?_
            cases hbit : ((ancs ops).getD i 0).testBit j with
            | false => rfl
            | true =>
              have h3 := hm1 i h2 hei
              obtain ⟨oi, hoi, _⟩ := hei
              exact (hdesc i oi hoi h3 hbit).elim
        | eff =>
          have hej : Effw C ops fr0 S0 j := ⟨o, ho, hb.guard, hkd⟩
          have hmj : m ≤ j := by
            rcases Nat.lt_or_ge j m with q | q
            · have := hm1 j q hej
              rw [hnj'] at this; cases this
            · exact q
          have hno : ∀ i, m ≤ i → i < j → ¬ Effw C ops fr0 S0 i := fun i h1 h2 hei => by
            have h3 := hm2 i h1 hei
            obtain ⟨oi, hoi, hw, hk⟩ := hei
            rcases inOrder_pair hord h2 hoi ho with q | q
            · rw [hanc i q] at h3; cases h3
            · exact q.2 ⟨hk, hkd⟩
          have hT := T_const hok j hmj (Nat.le_of_lt hjn) hno
          refine step (j + 1) hjn (fun i hi hei => ?_) (fun i hi hei => ?_) ?_
          · rcases Nat.lt_or_ge i m with q | q
            · exact hmono i (hm1 i q hei)
            · rcases Nat.lt_or_ge i j with q' | q'
              · exact absurd hei (hno i q q')
              · have : i = j := by omega
                subst this; exact hjj
          · rw [hne i (by omega)]
            exact hm2 i (by omega) hei
          · rw [← hT]
            exact hb.yes rfl
  have hrep : ∀ i, (Array.replicate ops.length false).getD i false = false := fun i => by
    rw [Array.getD_eq_getD_getElem?, Array.getElem?_replicate]
    split <;> rfl
  have hFD : ∀ m, FD C ops fr0 S0 (Array.replicate ops.length false) m = fr0 := by
    intro m
    induction m with
    | zero => rfl
    | succ m ih => unfold FD; rw [hrep]; exact ih
  refine main ops.length _ a w β lam (List.range ops.length) 0 (by simp) (by simp) (fun i hi _ => List.mem_range.2 hi) ?_ (Nat.zero_le _) (fun i hi => by omega) (fun i _ _ => hrep i) ?_ hM
  · intro i o hi
    rw [hrep] at hi; cases hi
  · rw [hFD]; exact hG
end Go.AM
/- The abstract machine: it is sound. -/
set_option linter.unusedVariables false
namespace Go.AM
open Go
theorem sound {P : Program} {O : Orc} {ext : Ext1} (hm : P.follows .mixedOrders = true) (he : ExtC P ext) (hx : XtC P O.xt) : SimC P (run P O ext) := run_sound hm (fun O h f hh => draws_sound O h f hh) he hx
theorem sound1 {P : Program} {O : Orc} {ext : Ext1} (hm : P.follows .mixedOrders = true) (he : ExtC P ext) (hx : XtC P O.xt) {f : FuncId} (hf : O.xt f = none) {args : List Value} {H : Hp} {v : Value} {H' : Hp} (h : run P O ext f args H = some (v, H')) :
    Enters P f ∧ ∀ args' w β, LRel β args args' → Rel P w H β → Calls P f args'.toArray w fun e w' => ∃ v' β', e = .returned v' ∧ Rel P w' H' β' ∧ Ext w.heap.size w H β w' H' β' ∧ VRel β' v v' := by
  rcases sound (O := O) hm he hx f args H v H' h with h1 | ⟨_, h2, _⟩
  · exact h1
  · exact absurd h2 (run_body hf h)
#print axioms sound
end Go.AM
/- The abstract machine: from a run to a row. -/
set_option linter.unusedVariables false
namespace Go.AM
open Go Go.ChangeShapes Go.WideShapes Go.ChangeAt Go.RowKit

/-- A run that ends in 'true' over a heap that owns nothing. -/
theorem below_of_run {P : Program} {O : Orc} {ext : Ext1} (hm : P.follows .mixedOrders = true) (he : ExtC P ext) {f : FuncId} {W : World} {args : Array Value} {H H' : Hp} {β : Bt} {xs : List Value}
    (hR : Rel P W H β) (hno : ∀ i o, H.get i = some o → o.own = false) (ha : LRel β xs args.toList) (hrun : run P O ext f xs H = some (.bool true, H')) (hx : XtC P O.xt := by intro f e h; cases h) (hxf : O.xt f = none := by rfl) :
    Calls P f args W fun e W' => e = .returned (.bool true) ∧ Below W.heap.size W W' := by
  have h := (sound1 (O := O) hm he hx hxf hrun).2 args.toList W β ha hR
  rw [show args.toList.toArray = args from by simp] at h
  refine h.mono fun e W' ⟨v', β', h1, h2, h3, h4⟩ => ?_
  cases h4
  exact ⟨h1, h3.os, h3.tape, h3.output, h3.size, fun k hk => h3.frame k hk fun ⟨i, o, x, g1, g2, _, _⟩ => by rw [hno i o g1] at g2; cases g2⟩

theorem trodAll_below {HH : Type} {enc : TypeId × Value → HH} {P : Program} (hl : laidOutB P = true) {W W' : World} (hb : Below W.heap.size W W') :
    ∀ {ts : List TypeId} {vs : List Value} {ds : List (DataW HH)} {ps : List MemPlace}, (∀ t ∈ ts, P.readableRec t = true ∧ t < P.types.size) → DataW.TrodAll enc P W 0 (fun _ => true) true ts vs ds ps →
      (∀ x ∈ ps, x.block < W.heap.size) → DataW.TrodAll enc P W' 0 (fun b => decide (b < W.heap.size)) true ts vs ds ps
  | [], [], [], ps, _, h, _ => h
  | t :: ts, v :: vs, d :: ds, ps, ht, h, hlt => by
    obtain ⟨p, q, h1, h2, e⟩ := h
    have h0 := ht t (List.mem_cons_self ..)
    exact ⟨p, q, Below.trod hl h0.1 h0.2 h1 hb (fun x hx => hlt x (by rw [e]; simp [hx])), trodAll_below hl hb (fun t h => ht t (List.mem_cons_of_mem _ h)) h2 (fun x hx => hlt x (by rw [e]; simp [hx])), e⟩
  | [], _ :: _, _, _, _, h, _ => h.elim
  | [], [], _ :: _, _, _, h, _ => h.elim
  | _ :: _, [], _, _, _, h, _ => h.elim
  | _ :: _, _ :: _, [], _, _, h, _ => h.elim

theorem post_true {HH : Type} {enc : TypeId × Value → HH} {P : Program} {f : Func} {s : ChangeSpec} (hl : laidOutB P = true) (hp : ∀ t ∈ f.params.toList, P.readableRec t = true ∧ t < P.types.size) (hv : s.vars = [])
    {tb : TypeId} (hr : f.resultTypes = #[tb]) (hb : P.underlying tb = some .bool) {W W' : World} {args : Array Value} {ds gs : List (DataW HH)} {before : List MemPlace}
    (hW : DataW.Whole enc P f.params.toList s.vars false W args.toList ds gs before) (hB : Below W.heap.size W W') (hfn : s.fn HH (ds ++ gs) = { results := [.lit (.bool true)], args := ds }) :
    s.post enc P f false true false false W args (.bool true) W' := by
  have hlt := hW.lt
  obtain ⟨p, q, h1, h2, e, h3, h4⟩ := id hW
  rw [hv] at h2
  have hq : gs = [] ∧ q = [] := by
    cases gs with
    | nil => exact ⟨rfl, h2⟩
    | cons g gs => exact h2.elim
  refine ⟨ds, gs, before, [], p, [], hW, ?_, ?_, ?_, ?_, fun h => by cases h⟩
  · rw [hfn, hr]
    exact trodAll_cons_mk (shut_bool hb _) trodAll_mk0
  · rw [hfn]
    exact trodAll_below hl hB hp h1 (fun x hx => hlt x (by rw [e]; simp [hx]))
  · rw [hfn, hv]; rfl
  · exact hB.frame _

/-- The package variables have their blocks. -/
theorem shaped_size {P : Program} {W : World} (h : W.ShapedOpen P) (hg : P.globals.size = 0 ∨ ∃ x, (((begin P (fun _ _ => 0) default).world.heap[P.globals.size - 1]?).bind Obj.row?) = some x) : P.globals.size ≤ W.heap.size := by
  rcases hg with hg | ⟨⟨z, t⟩, hx⟩
  · omega
  · rcases Nat.eq_zero_or_pos P.globals.size with h0 | h0
    · omega
    · obtain ⟨cs, hc, _⟩ := h.1 (P.globals.size - 1) z t (by omega) hx
      have := (Array.getElem?_eq_some_iff.1 hc).1
      omega

/-- **From a run to a row**, for a row without package variables and with a condition. -/
theorem returns_true {C : Checked} {os : Os} {f : FuncId} {fn : Func} {s : OpenSpec} {HH : Type} {enc : TypeId × Value → HH} {k : (H : Type) → List (DataW H) → Bool} (hk : s.cond = some k) {F : Stop.Interp} {conds : List PathCond}
    (own : ownKnob C.prog.godebug = none) (started : os.Started) (noInit : C.prog.inits.idxOf? f = none) (hfn : C.prog.funcs[f]? = some fn)
    (witness : ∃ (w : World) (tape : Tape) (i : Input), w.os = os ∧ (w.forCall tape i).Shaped C.prog ∧ i.vars = [] ∧ Input.okWide C.prog (w.forCall tape i) .any w.heap.size f i ∧
      s.pre6 enc C.prog fn conds false (w.forCall tape i).memory i.args ∧ ({} : Assume).holds C.prog (lone (Frame.enter C.prog f i.args .normal) [] (w.forCall tape i)))
    (hl : laidOutB C.prog = true) (hp : ∀ t ∈ fn.params.toList, C.prog.readableRec t = true ∧ t < C.prog.types.size) (hv : s.vars = []) {tb : TypeId} (hr : fn.resultTypes = #[tb]) (hb : C.prog.underlying tb = some .bool)
    (hg : C.prog.globals.size = 0 ∨ ∃ x, (((begin C.prog (fun _ _ => 0) default).world.heap[C.prog.globals.size - 1]?).bind Obj.row?) = some x)
    (hsp : ∀ ds : List (DataW HH), ds.length = fn.params.size → (s.at F).fn HH ds = { results := [.lit (.bool true)], args := ds })
    {O : Orc} {ext : Ext1} (hm : C.prog.follows .mixedOrders = true) (he : ExtC C.prog ext)
    (main : ∀ (W : World) (base : Nat) (args : Array Value) (ds : List (DataW HH)) (ps : List MemPlace), C.prog.globals.size ≤ W.heap.size →
      (∀ (j : Nat) t v, fn.params[j]? = some t → args[j]? = some v → Value.okWide C.prog W .any base t v) → DataW.TrodAll enc C.prog W 0 (fun _ => true) true fn.params.toList args.toList ds ps → k HH ds = true →
      ∃ (H0 H1 : Hp) (β : Bt) (xs : List Value), Rel C.prog W H0 β ∧ (∀ i o, H0.get i = some o → o.own = false) ∧ LRel β xs args.toList ∧ run C.prog O ext f xs H0 = some (.bool true, H1))
    (hx : XtC C.prog O.xt := by intro f e h; cases h) (hxf : O.xt f = none := by rfl) :
    ReturnsInHanded {} C os f .any (s.pre6 enc C.prog fn conds false) ((s.at F).post enc C.prog fn false true false false) := by
  refine returnsInHanded_of_calls own started noInit witness ?_
  intro w tape i _ hsh _ hok hpre _
  obtain ⟨_, _, _, fn', hfn', _, _, _, _, hval⟩ := hok
  have e : fn' = fn := Option.some.inj (hfn'.symm.trans hfn)
  subst e
  obtain ⟨ds, gs, before, hw, hc, hkk⟩ := (OpenSpec.pre_some hk conds false _ _).1 hpre.1
  have hw' := DataW.Whole.of_heap (w' := w.forCall tape i) (by rfl) hw
  obtain ⟨p, q, h1, h2, e, _, _⟩ := id hw'
  have hgs : gs = [] := by
    rw [hv] at h2
    cases gs with
    | nil => rfl
    | cons g gs => exact h2.elim
  subst hgs
  rw [List.append_nil] at hkk
  obtain ⟨H0, H1, β, xs, g1, g2, g3, g4⟩ := main (w.forCall tape i) _ i.args ds p (shaped_size hsh hg) hval h1 hkk
  refine (below_of_run hm he g1 g2 g3 g4 hx hxf).mono fun e W' ⟨h3, h4⟩ => ?_
  subst h3
  have hlen : ds.length = fn'.params.size := by
    have : ∀ {ts : List TypeId} {vs : List Value} {ds : List (DataW HH)} {ps : List MemPlace}, DataW.TrodAll enc C.prog (w.forCall tape i) 0 (fun _ => true) true ts vs ds ps → ds.length = ts.length := by
      intro ts
      induction ts with
      | nil => intro vs ds ps h; cases vs <;> cases ds <;> first | rfl | exact h.elim
      | cons t ts ih => intro vs ds ps h; cases vs <;> cases ds <;> first | exact h.elim | (obtain ⟨p, q, _, h2, _⟩ := h; simp [ih h2])
    simpa using this h1
  exact ChangeSpec.post_blind (post_true (s := s.at F) hl hp hv hr hb hw' h4 (by rw [List.append_nil]; exact hsp ds hlen))
end Go.AM
/- The abstract machine: from a run to a row over package variables that are laid. -/
set_option linter.unusedVariables false
namespace Go.AM
open Go Go.ChangeShapes Go.WideShapes Go.ChangeAt Go.RowKit
theorem trodAll_length {HH : Type} {enc : TypeId × Value → HH} {P : Program} {W : World} : ∀ {ts : List TypeId} {vs : List Value} {ds : List (DataW HH)} {ps : List MemPlace}, DataW.TrodAll enc P W 0 (fun _ => true) true ts vs ds ps → ds.length = ts.length := by
  intro ts
  induction ts with
  | nil => intro vs ds ps h; cases vs <;> cases ds <;> first | rfl | exact h.elim
  | cons t ts ih => intro vs ds ps h; cases vs <;> cases ds <;> first | exact h.elim | (obtain ⟨p, q, _, h2, _⟩ := h; simp [ih h2])
theorem returns_true_laid {C : Checked} {os : Os} {f : FuncId} {fn : Func} {s : OpenSpec} {HH : Type} {enc : TypeId × Value → HH} {k : (H : Type) → List (DataW H) → Bool} (hk : s.cond = some k) {F : Stop.Interp} {conds : List PathCond} {laid : List (String × DataW Unit)}
    (own : ownKnob C.prog.godebug = none) (started : os.Started) (noInit : C.prog.inits.idxOf? f = none) (hfn : C.prog.funcs[f]? = some fn)
    (witness : ∃ (w : World) (tape : Tape) (i : Input), w.os = os ∧ (w.forCall tape i).Shaped C.prog ∧ i.vars = [] ∧ Input.okWide C.prog (w.forCall tape i) .any w.heap.size f i ∧
      s.preRow enc C.prog fn conds false laid (w.forCall tape i).memory i.args ∧ ({} : Assume).holds C.prog (lone (Frame.enter C.prog f i.args .normal) [] (w.forCall tape i)))
    (hl : laidOutB C.prog = true) (hp : ∀ t ∈ fn.params.toList, C.prog.readableRec t = true ∧ t < C.prog.types.size) (hv : s.vars = []) {tb : TypeId} (hr : fn.resultTypes = #[tb]) (hb : C.prog.underlying tb = some .bool)
    (hg : C.prog.globals.size = 0 ∨ ∃ x, (((begin C.prog (fun _ _ => 0) default).world.heap[C.prog.globals.size - 1]?).bind Obj.row?) = some x)
    (hsp : ∀ ds : List (DataW HH), ds.length = fn.params.size → (s.at F).fn HH ds = { results := [.lit (.bool true)], args := ds })
    {O : Orc} {ext : Ext1} (hm : C.prog.follows .mixedOrders = true) (he : ExtC C.prog ext)
    (main : ∀ (W : World) (base : Nat) (args : Array Value) (ds : List (DataW HH)) (ps : List MemPlace), C.prog.globals.size ≤ W.heap.size →
      (∀ (j : Nat) t v, fn.params[j]? = some t → args[j]? = some v → Value.okWide C.prog W .any base t v) → DataW.TrodAll enc C.prog W 0 (fun _ => true) true fn.params.toList args.toList ds ps → k HH ds = true → laidMetH C.prog laid W →
      ∃ (H0 H1 : Hp) (β : Bt) (xs : List Value), Rel C.prog W H0 β ∧ (∀ i o, H0.get i = some o → o.own = false) ∧ LRel β xs args.toList ∧ run C.prog O ext f xs H0 = some (.bool true, H1))
    (hx : XtC C.prog O.xt := by intro f e h; cases h) (hxf : O.xt f = none := by rfl) :
    ReturnsInHanded {} C os f .any (s.preRow enc C.prog fn conds false laid) ((s.at F).post enc C.prog fn false true false false) := by
  refine returnsInHanded_of_row own started noInit hfn witness ?_
  intro W base args ds gs before hval hw hc hkk _ hL hsh _
  have hkk := hkk k hk
  obtain ⟨p, q, h1, h2, e, _, _⟩ := id hw
  have hgs : gs = [] := by
    rw [hv] at h2
    cases gs with
    | nil => rfl
    | cons g gs => exact h2.elim
  subst hgs
  rw [List.append_nil] at hkk
  obtain ⟨H0, H1, β, xs, g1, g2, g3, g4⟩ := main W base args ds p (shaped_size hsh hg) hval h1 hkk hL
  refine (below_of_run hm he g1 g2 g3 g4 hx hxf).mono fun e W' ⟨h3, h4⟩ => ?_
  subst h3
  have hlen : ds.length = fn.params.size := by simpa using trodAll_length h1
  exact ⟨_, rfl, post_true (s := s.at F) hl hp hv hr hb hw h4 (by rw [List.append_nil]; exact hsp ds hlen)⟩
end Go.AM
/- The abstract machine: library functions that the model answers at once. -/
set_option linter.unusedVariables false
namespace Go.AM
open Go
def add64 (l : List Value) : Option Value :=
  match l with
  | [.int .u64 (.ofNat x), .int .u64 (.ofNat y), .int .u64 (.ofNat c)] => match Nat.ble c 1 with
    | true => some (.tuple #[.int .u64 (((x + y + c) % 18446744073709551616 : Nat) : Int), .int .u64 (((x + y + c) / 18446744073709551616 : Nat) : Int)])
    | false => none
  | _ => none
theorem LRel.ints3 {β : Bt} {k1 k2 k3 : IntKind} {a b c : Int} {l : List Value} (h : LRel β [.int k1 a, .int k2 b, .int k3 c] l) : l = [.int k1 a, .int k2 b, .int k3 c] := by
  obtain ⟨h1, h2⟩ := h
  match l, h1 with
  | [x, y, z], _ =>
    have e0 := h2 0 _ x rfl rfl
    have e1 := h2 1 _ y rfl rfl
    have e2 := h2 2 _ z rfl rfl
    cases e0; cases e1; cases e2
    rfl
theorem add64_xt {P : Program} {f : FuncId} {fn : Func} (hf : P.funcs[f]? = some fn) (hname : (fn.name == "runtime.NumGoroutine") = false) (hb : fn.body.isNone = true) (hn : Extern.findNext fn = none) (he : Extern.find fn = some add64Entry)
    (args : List Value) (v : Value) (h : add64 args = some v) : XT P f args v := by
  unfold add64 at h
  split at h
  · rename_i x y c
    split at h
    · rename_i hc
      cases h
      have hc : c ≤ 1 := Nat.le_of_ble_eq_true hc
      intro args' β w hl
      have hl : LRel β [.int .u64 (x : Int), .int .u64 (y : Int), .int .u64 (c : Int)] args' := hl
      obtain rfl := hl.ints3
      refine ⟨.tuple #[.int .u64 (((x + y + c) % 18446744073709551616 : Nat) : Int), .int .u64 (((x + y + c) / 18446744073709551616 : Nat) : Int)], ?_, ?_⟩
      · refine .tuple _ _ rfl fun k v v' h1 h2 => ?_
        have := h1.symm.trans h2
        cases this
        match k, h1 with
        | 0, h1 => cases h1; exact .int _ _
        | 1, h1 => cases h1; exact .int _ _
        | k + 2, h1 => cases h1
      · rw [run_callFunc_extern hf hname hb hn he, run_add64 x y c (by omega) (by omega) (by omega) (by omega)]
        simp only [Result.andThen]
        congr 5 <;> omega
    · cases h
  · cases h
end Go.AM
namespace Go.AM.N14
open Go Go.AM
set_option linter.unusedVariables false
set_option maxRecDepth 100000
def orc : Orc := { mkOrc [(3, [2, 5, 7]), (4, [4, 5, 6, 9, 11, 13, 15, 17, 19, 21, 22, 23, 24, 25, 26, 27, 29, 31]), (5, [4, 5, 9, 11]), (6, [1, 3, 5, 7, 9]), (7, [1, 2, 4]), (8, [1]), (9, [2]), (10, [2]), (12, [2, 3, 4, 6, 7]), (14, [2, 3, 4, 6, 7]), (15, [2]), (16, [2]), (17, [4]), (18, [4]), (19, [1]), (20, [1, 2, 4]), (22, [2, 3, 4, 6, 7, 9]), (23, [2, 3, 4, 6, 7]), (24, [4, 5, 6, 7, 8, 10, 14, 17, 19]), (25, [2]), (27, [2]), (29, [2, 3, 4, 5, 7, 9]), (30, [2, 3, 4]), (31, [2]), (32, [4]), (33, [1, 2, 8]), (34, [1]), (35, [1]), (36, [2, 3, 4, 5, 7, 9]), (37, [2, 3, 4, 5]), (39, [2, 3, 7, 8]), (40, [2, 3, 7]), (41, [4, 5, 6, 7, 8, 12]), (44, [2]), (45, [2]), (46, [3]), (51, [3]), (55, [6]), (56, [4, 5, 6, 7]), (57, [2, 3, 4, 6]), (58, [2, 3, 4, 7]), (59, [2, 3, 4, 6]), (60, [2, 3, 4, 5]), (61, [4, 5, 6, 8, 11]), (62, [3, 4, 5, 6, 9, 14]), (66, [1]), (67, [3]), (68, [3]), (69, [15]), (71, [4]), (73, [5, 6]), (76, [1]), (78, [2, 6, 7]), (83, [14]), (85, [4]), (86, [6]), (87, [5, 6])]
  [(3, [(11, some ([], []))]), (4, [(29, some ([33], [])), (25, some ([], [])), (22, some ([], [])), (18, some ([], [])), (13, some ([], [])), (8, some ([], []))]), (5, [(17, some ([], [])), (13, some ([], [])), (9, some ([], [])), (5, some ([], []))]), (8, [(3, some ([], []))]), (19, [(3, some ([], []))]), (24, [(6, some ([12], [])), (3, some ([], [8]))]), (29, [(3, some ([], [4, 5]))]), (33, [(5, some ([], [2]))]), (36, [(3, some ([], [4, 5]))]), (41, [(17, some ([112], [])), (15, some ([83], [])), (12, some ([60], [])), (9, some ([38], [])), (6, some ([19], []))]), (44, [(13, some ([81], []))]), (51, [(26, some ([], [])), (21, some ([], [])), (5, some ([], [])), (3, some ([], []))]), (64, [(6, some ([4], []))]), (67, [(8, some ([27], []))]), (68, [(12, some ([60], [])), (4, some ([13], []))]), (69, [(7, some ([5], [])), (3, some ([], []))]), (73, [(10, some ([72], [])), (13, some ([10, 11], []))]), (80, [(4, some ([0, 2], []))]), (92, [(5, some ([], [])), (3, some ([], []))]), (96, [(3, some ([], []))]), (99, [(3, some ([], []))]), (100, [(5, some ([], [])), (3, some ([], []))])]
  [(3, [(19, [10, 11, 12, 13, 14], [])]), (24, [(16, [15, 61], [8, 10, 14]), (7, [12, 46], [])]), (33, [(8, [56], [8])]), (34, [(2, [4], [])]), (35, [(2, [3], [])]), (39, [(5, [20], [7])]), (40, [(4, [20], [7])]), (44, [(10, [8], [])]), (51, [(6, [35], [])]), (61, [(4, [9, 17], [8])]), (69, [(4, [], [15])]), (73, [(21, [21, 99], []), (15, [20, 88], []), (4, [10, 11, 12, 13, 31], [])]), (83, [(16, [8, 10], []), (11, [8, 10, 36], []), (2, [18], [])])] with xt := look none [(89, some add64)] }
noncomputable def m3 (R : Handler) (x0 x1 : Value) (H0 : Hp) : Option (Value × Hp) :=
 pCallF R 6 [] H0 fun r1 H2 =>
 pUn .not r1 fun v3 =>
 pBool v3 fun b4 => br b4
 (some ((.bool false), H2))
 (pCell 5 true (cellsL x0) 0 fun v5 =>
 pCallF R 7 [v5] H2 fun r6 H7 =>
 pExtract r6 0 fun v8 =>
 pExtract r6 1 fun v9 =>
 pSplice 5 [.int .i64 0, .int .u64 0, .int .u64 0, .int .u64 0, .int .u64 0] 0 v8 fun c10 =>
 pCell 5 true (cellsL x0) 0 fun v11 =>
 pCallF R 8 [v11] H7 fun r12 H13 =>
 pUn .not r12 fun v14 =>
 pBool v14 fun b15 => br b15
 (pUn .not v9 fun v16 =>
 pBool v16 fun b17 => br b17
 (pCell 5 true c10 0 fun v18 =>
 pBuild Go.Proofs.Tryd.prog 24 [] fun v19 =>
 pBin Go.Proofs.Tryd.prog .eql 24 v18 v19 fun v20 =>
 some (v20, H13))
 (some ((.bool false), H13)))
 (pUn .not v9 fun v21 =>
 pBool v21 fun b22 => br b22
 (pCell 5 true c10 0 fun v23 =>
 pBuild Go.Proofs.Tryd.prog 24 [] fun v24 =>
 pBin Go.Proofs.Tryd.prog .eql 24 v23 v24 fun v25 =>
 pBool v25 fun b26 => br b26
 (pCell 5 true (cellsL x0) 0 fun v27 =>
 pCallF R 9 [v27, x1] H13 fun r28 H29 =>
 pUn .not r28 fun v30 =>
 pBool v30 fun b31 => br b31
 (pCell 5 true (cellsL x0) 0 fun v32 =>
 pCell 1 false (cellsL x0) 3 fun v33 =>
 pCallF R 9 [v32, v33] H29 fun r34 H35 =>
 pUn .not r34 fun v36 =>
 pBool v36 fun b37 => br b37
 (pCell 5 true (cellsL x0) 0 fun v38 =>
 pCell 1 false (cellsL x0) 4 fun v39 =>
 pCallF R 9 [v38, v39] H35 fun r40 H41 =>
 pUn .not r40 fun v42 =>
 some (v42, H41))
 (some ((.bool false), H35)))
 (some ((.bool false), H29)))
 (some ((.bool false), H13)))
 (pCell 5 true c10 0 fun v43 =>
 pCallF R 7 [v43] H13 fun r44 H45 =>
 pExtract r44 0 fun v46 =>
 pExtract r44 1 fun v47 =>
 pSplice 5 [.int .i64 0, .int .u64 0, .int .u64 0, .int .u64 0, .int .u64 0] 0 v46 fun c48 =>
 bindO (
 pUn .not v47 fun v49 =>
 pBool v49 fun b50 => br b50
 (some (.ret, [(.bool false)], H45))
 (pCell 5 true c10 0 fun v51 =>
 pCell 5 true c48 0 fun v52 =>
 pBin Go.Proofs.Tryd.prog .neq 24 v51 v52 fun v53 =>
 pBool v53 fun b54 => br b54
 (some (.ret, [(.bool false)], H45))
 (pCell 1 false c10 0 fun v55 =>
 pCell 1 false (cellsL x0) 0 fun v56 =>
 pBin Go.Proofs.Tryd.prog .neq 3 v55 v56 fun v57 =>
 pBool v57 fun b58 => br b58
 (some (.ret, [(.bool false)], H45))
 (pCell 5 true (cellsL x0) 0 fun v59 =>
 pCell 1 false c10 3 fun v60 =>
 pCallF R 9 [v59, v60] H45 fun r61 H62 =>
 pUn .not r61 fun v63 =>
 pBool v63 fun b64 => br b64
 (some (.ret, [(.bool false)], H62))
 (pCell 5 true (cellsL x0) 0 fun v65 =>
 pCell 1 false c10 4 fun v66 =>
 pCallF R 9 [v65, v66] H62 fun r67 H68 =>
 pUn .not r67 fun v69 =>
 pBool v69 fun b70 => br b70
 (some (.ret, [(.bool false)], H68))
 (pCell 5 true (cellsL x0) 0 fun v71 =>
 pCallF R 9 [v71, x1] H68 fun r72 H73 =>
 pCell 5 true c10 0 fun v74 =>
 pCallF R 10 [v74, x1] H73 fun r75 H76 =>
 pBin Go.Proofs.Tryd.prog .neq 4 r72 r75 fun v77 =>
 pBool v77 fun b78 => br b78
 (some (.ret, [(.bool false)], H76))
 (some (.next, [], H76)))))))) fun q79 l80 H81 => onCtl q79
 (pCell 1 false (cellsL x0) 0 fun v83 =>
 pBin Go.Proofs.Tryd.prog .gtr 3 v83 (.int .i64 8) fun v84 =>
 pBool v84 fun b85 => br b85
 (some ((.bool true), H81))
 (pCell 1 false (cellsL x0) 0 fun v86 =>
 pCallF R 11 [v86] H81 fun r87 H88 =>
 bindO (loopD (fun l89 H90 =>
 pBin Go.Proofs.Tryd.prog .leq 22 (l89.getD 4 undef) r87 fun v91 =>
 pBool v91 fun b92 => br b92
 (pCell 5 true (cellsL x0) 0 fun v93 =>
 pCallF R 9 [v93, (l89.getD 4 undef)] H90 fun r94 H95 =>
 pUn .not r94 fun v96 =>
 pBool v96 fun b97 => br b97
 (pBin Go.Proofs.Tryd.prog .add 22 (l89.getD 4 undef) (.int .u64 1) fun v98 =>
 some (.next, [(l89.getD 0 undef), (l89.getD 1 undef), (l89.getD 2 undef), (l89.getD 3 undef), v98], H95))
 (pBin Go.Proofs.Tryd.prog .and 22 (l89.getD 0 undef) (l89.getD 4 undef) fun v99 =>
 pBin Go.Proofs.Tryd.prog .or 22 (l89.getD 1 undef) (l89.getD 4 undef) fun v100 =>
 pBin Go.Proofs.Tryd.prog .lss 22 (l89.getD 4 undef) (l89.getD 2 undef) fun v101 =>
 pBool v101 fun b102 => br b102
 (pBin Go.Proofs.Tryd.prog .add 22 (l89.getD 4 undef) (.int .u64 1) fun v103 =>
 some (.next, [v99, v100, (l89.getD 4 undef), (l89.getD 4 undef), v103], H95))
 (pBin Go.Proofs.Tryd.prog .add 22 (l89.getD 4 undef) (.int .u64 1) fun v104 =>
 some (.next, [v99, v100, (l89.getD 2 undef), (l89.getD 4 undef), v104], H95))))
 (some (.exit 0, [(l89.getD 0 undef), (l89.getD 1 undef), (l89.getD 2 undef), (l89.getD 3 undef), (l89.getD 4 undef)], H90))) [r87, (.int .u64 0), r87, (.int .u64 0), (.int .u64 0)] H88) fun q105 l106 H107 => onCtl q105 none
 (fun i108 => onExit i108 0 (
 pCell 5 true c10 0 fun v109 =>
 pCell 1 false (cellsL x0) 0 fun v110 =>
 pBin Go.Proofs.Tryd.prog .andNot 22 r87 (l106.getD 1 undef) fun v111 =>
 pBuild Go.Proofs.Tryd.prog 24 [(0, v110), (1, (l106.getD 0 undef)), (2, v111), (3, (l106.getD 2 undef)), (4, (l106.getD 3 undef))] fun v112 =>
 pBin Go.Proofs.Tryd.prog .eql 24 v109 v112 fun v113 =>
 some (v113, H107)) (
 none))
 (some ((l106.headD undef), H107))))
 (fun i82 => none)
 (some ((l80.headD undef), H81)))))
theorem e3 (R : Handler) (x0 x1 : Value) (H0 : Hp) : execF Go.Proofs.Tryd.prog orc R 3 Go.Proofs.Tryd.f3 [x0, x1] H0 = m3 R x0 x1 H0 := by kernel_rfl
noncomputable def m4 (R : Handler) (x0 x1 x2 x3 : Value) (H0 : Hp) : Option (Value × Hp) :=
 pCallF R 6 [] H0 fun r1 H2 =>
 pUn .not r1 fun v3 =>
 pBool v3 fun b4 => br b4
 (some ((.bool false), H2))
 (pCell 5 true (cellsL x0) 0 fun v5 =>
 pCallF R 7 [v5] H2 fun r6 H7 =>
 pExtract r6 0 fun v8 =>
 pExtract r6 1 fun v9 =>
 pSplice 5 [.int .i64 0, .int .u64 0, .int .u64 0, .int .u64 0, .int .u64 0] 0 v8 fun c10 =>
 pCell 5 true (cellsL x1) 0 fun v11 =>
 pCallF R 7 [v11] H7 fun r12 H13 =>
 pExtract r12 0 fun v14 =>
 pExtract r12 1 fun v15 =>
 pSplice 5 [.int .i64 0, .int .u64 0, .int .u64 0, .int .u64 0, .int .u64 0] 0 v14 fun c16 =>
 pCell 5 true (cellsL x2) 0 fun v17 =>
 pCallF R 7 [v17] H13 fun r18 H19 =>
 pExtract r18 0 fun v20 =>
 pExtract r18 1 fun v21 =>
 pSplice 5 [.int .i64 0, .int .u64 0, .int .u64 0, .int .u64 0, .int .u64 0] 0 v20 fun c22 =>
 bindO (
 pUn .not v9 fun v23 =>
 pBool v23 fun b24 => br b24
 (some (.ret, [(.bool true)], H19))
 (pUn .not v15 fun v25 =>
 pBool v25 fun b26 => br b26
 (some (.ret, [(.bool true)], H19))
 (pUn .not v21 fun v27 =>
 pBool v27 fun b28 => br b28
 (some (.ret, [(.bool true)], H19))
 (pCell 1 false c10 0 fun v29 =>
 pCell 1 false c16 0 fun v30 =>
 pBin Go.Proofs.Tryd.prog .neq 3 v29 v30 fun v31 =>
 pBool v31 fun b32 => br b32
 (some (.ret, [(.bool true)], H19))
 (pCell 1 false c16 0 fun v33 =>
 pCell 1 false c22 0 fun v34 =>
 pBin Go.Proofs.Tryd.prog .neq 3 v33 v34 fun v35 =>
 pBool v35 fun b36 => br b36
 (some (.ret, [(.bool true)], H19))
 (some (.next, [], H19))))))) fun q37 l38 H39 => onCtl q37
 (pCell 5 true c10 0 fun v41 =>
 pCell 5 true c16 0 fun v42 =>
 pCallF R 12 [v41, v42] H39 fun r43 H44 =>
 pExtract r43 0 fun v45 =>
 pExtract r43 1 fun v46 =>
 pSplice 5 [.int .i64 0, .int .u64 0, .int .u64 0, .int .u64 0, .int .u64 0] 0 v45 fun c47 =>
 pCell 5 true c16 0 fun v48 =>
 pCell 5 true c10 0 fun v49 =>
 pCallF R 12 [v48, v49] H44 fun r50 H51 =>
 pExtract r50 0 fun v52 =>
 pExtract r50 1 fun v53 =>
 pSplice 5 [.int .i64 0, .int .u64 0, .int .u64 0, .int .u64 0, .int .u64 0] 0 v52 fun c54 =>
 pCell 5 true c10 0 fun v55 =>
 pCell 5 true c10 0 fun v56 =>
 pCallF R 12 [v55, v56] H51 fun r57 H58 =>
 pExtract r57 0 fun v59 =>
 pExtract r57 1 fun v60 =>
 pSplice 5 [.int .i64 0, .int .u64 0, .int .u64 0, .int .u64 0, .int .u64 0] 0 v59 fun c61 =>
 bindO (
 pCallF R 13 [v46] H58 fun r62 H63 =>
 pCallF R 13 [v53] H63 fun r64 H65 =>
 pBin Go.Proofs.Tryd.prog .add 3 r62 r64 fun v66 =>
 pCallF R 13 [v60] H65 fun r67 H68 =>
 pBin Go.Proofs.Tryd.prog .add 3 v66 r67 fun v69 =>
 pBin Go.Proofs.Tryd.prog .neq 3 v69 (.int .i64 0) fun v70 =>
 pBool v70 fun b71 => br b71
 (some (.ret, [(.bool false)], H68))
 (pCell 5 true c47 0 fun v72 =>
 pCell 5 true c54 0 fun v73 =>
 pBin Go.Proofs.Tryd.prog .neq 24 v72 v73 fun v74 =>
 pBool v74 fun b75 => br b75
 (some (.ret, [(.bool false)], H68))
 (pCell 5 true c61 0 fun v76 =>
 pCell 5 true c10 0 fun v77 =>
 pBin Go.Proofs.Tryd.prog .neq 24 v76 v77 fun v78 =>
 pBool v78 fun b79 => br b79
 (some (.ret, [(.bool false)], H68))
 (pCell 5 true c10 0 fun v80 =>
 pCallF R 10 [v80, x3] H68 fun r81 H82 =>
 pBool r81 fun b83 => br b83
 (pCell 5 true c47 0 fun v84 =>
 pCallF R 10 [v84, x3] H82 fun r85 H86 =>
 pUn .not r85 fun v87 =>
 pBool v87 fun b88 => br b88
 (some (.ret, [(.bool false)], H86))
 (some (.next, [], H86)))
 (pCell 5 true c16 0 fun v89 =>
 pCallF R 10 [v89, x3] H82 fun r90 H91 =>
 pBool r90 fun b92 => br b92
 (pCell 5 true c47 0 fun v93 =>
 pCallF R 10 [v93, x3] H91 fun r94 H95 =>
 pUn .not r94 fun v96 =>
 pBool v96 fun b97 => br b97
 (some (.ret, [(.bool false)], H95))
 (some (.next, [], H95)))
 (some (.next, [], H91))))))) fun q98 l99 H100 => onCtl q98
 (pCell 5 true c47 0 fun v102 =>
 pCell 5 true c22 0 fun v103 =>
 pCallF R 12 [v102, v103] H100 fun r104 H105 =>
 pExtract r104 0 fun v106 =>
 pExtract r104 1 fun v107 =>
 pSplice 5 [.int .i64 0, .int .u64 0, .int .u64 0, .int .u64 0, .int .u64 0] 0 v106 fun c108 =>
 pCell 5 true c16 0 fun v109 =>
 pCell 5 true c22 0 fun v110 =>
 pCallF R 12 [v109, v110] H105 fun r111 H112 =>
 pExtract r111 0 fun v113 =>
 pExtract r111 1 fun v114 =>
 pSplice 5 [.int .i64 0, .int .u64 0, .int .u64 0, .int .u64 0, .int .u64 0] 0 v113 fun c115 =>
 pCell 5 true c10 0 fun v116 =>
 pCell 5 true c115 0 fun v117 =>
 pCallF R 12 [v116, v117] H112 fun r118 H119 =>
 pExtract r118 0 fun v120 =>
 pExtract r118 1 fun v121 =>
 pSplice 5 [.int .i64 0, .int .u64 0, .int .u64 0, .int .u64 0, .int .u64 0] 0 v120 fun c122 =>
 bindO (
 pCallF R 13 [v107] H119 fun r123 H124 =>
 pCallF R 13 [v114] H124 fun r125 H126 =>
 pBin Go.Proofs.Tryd.prog .add 3 r123 r125 fun v127 =>
 pCallF R 13 [v121] H126 fun r128 H129 =>
 pBin Go.Proofs.Tryd.prog .add 3 v127 r128 fun v130 =>
 pBin Go.Proofs.Tryd.prog .neq 3 v130 (.int .i64 0) fun v131 =>
 pBool v131 fun b132 => br b132
 (some (.ret, [(.bool false)], H129))
 (pCell 5 true c108 0 fun v133 =>
 pCell 5 true c122 0 fun v134 =>
 pBin Go.Proofs.Tryd.prog .neq 24 v133 v134 fun v135 =>
 pBool v135 fun b136 => br b136
 (some (.ret, [(.bool false)], H129))
 (some (.next, [], H129)))) fun q137 l138 H139 => onCtl q137
 (pCell 5 true c10 0 fun v141 =>
 pCell 5 true c16 0 fun v142 =>
 pCallF R 14 [v141, v142] H139 fun r143 H144 =>
 pExtract r143 0 fun v145 =>
 pExtract r143 1 fun v146 =>
 pSplice 5 [.int .i64 0, .int .u64 0, .int .u64 0, .int .u64 0, .int .u64 0] 0 v145 fun c147 =>
 pCell 5 true c16 0 fun v148 =>
 pCell 5 true c10 0 fun v149 =>
 pCallF R 14 [v148, v149] H144 fun r150 H151 =>
 pExtract r150 0 fun v152 =>
 pExtract r150 1 fun v153 =>
 pSplice 5 [.int .i64 0, .int .u64 0, .int .u64 0, .int .u64 0, .int .u64 0] 0 v152 fun c154 =>
 bindO (
 pBin Go.Proofs.Tryd.prog .neq 31 v146 v153 fun v155 =>
 pBool v155 fun b156 => br b156
 (some (.ret, [(.bool false)], H151))
 (pCell 5 true c147 0 fun v157 =>
 pCell 5 true c154 0 fun v158 =>
 pBin Go.Proofs.Tryd.prog .neq 24 v157 v158 fun v159 =>
 pBool v159 fun b160 => br b160
 (some (.ret, [(.bool false)], H151))
 (pCell 5 true c147 0 fun v161 =>
 pCallF R 10 [v161, x3] H151 fun r162 H163 =>
 pCell 5 true c10 0 fun v164 =>
 pCallF R 10 [v164, x3] H163 fun r165 H166 =>
 pBool r165 fun b167 => br b167
 (pCell 5 true c16 0 fun v168 =>
 pCallF R 10 [v168, x3] H166 fun r169 H170 =>
 pBin Go.Proofs.Tryd.prog .neq 4 r162 r169 fun v171 =>
 pBool v171 fun b172 => br b172
 (pCallF R 13 [v146] H170 fun r173 H174 =>
 pBin Go.Proofs.Tryd.prog .eql 3 r173 (.int .i64 0) fun v175 =>
 pBool v175 fun b176 => br b176
 (some (.ret, [(.bool false)], H174))
 (pCallF R 13 [v146] H174 fun r177 H178 =>
 pBin Go.Proofs.Tryd.prog .neq 3 r177 (.int .i64 0) fun v179 =>
 pBool v179 fun b180 => br b180
 (pCell 5 true c10 0 fun v181 =>
 pCallF R 10 [v181, x3] H178 fun r182 H183 =>
 pBool r182 fun b184 => br b184
 (pCell 5 true c16 0 fun v185 =>
 pCallF R 10 [v185, x3] H183 fun r186 H187 =>
 pBool r186 fun b188 => br b188
 (some (.ret, [(.bool false)], H187))
 (some (.next, [], H187)))
 (some (.next, [], H183)))
 (some (.next, [], H178))))
 (pCallF R 13 [v146] H170 fun r189 H190 =>
 pBin Go.Proofs.Tryd.prog .neq 3 r189 (.int .i64 0) fun v191 =>
 pBool v191 fun b192 => br b192
 (pCell 5 true c10 0 fun v193 =>
 pCallF R 10 [v193, x3] H190 fun r194 H195 =>
 pBool r194 fun b196 => br b196
 (pCell 5 true c16 0 fun v197 =>
 pCallF R 10 [v197, x3] H195 fun r198 H199 =>
 pBool r198 fun b200 => br b200
 (some (.ret, [(.bool false)], H199))
 (some (.next, [], H199)))
 (some (.next, [], H195)))
 (some (.next, [], H190))))
 (pBin Go.Proofs.Tryd.prog .neq 4 r162 (.bool false) fun v201 =>
 pBool v201 fun b202 => br b202
 (pCallF R 13 [v146] H166 fun r203 H204 =>
 pBin Go.Proofs.Tryd.prog .eql 3 r203 (.int .i64 0) fun v205 =>
 pBool v205 fun b206 => br b206
 (some (.ret, [(.bool false)], H204))
 (pCallF R 13 [v146] H204 fun r207 H208 =>
 pBin Go.Proofs.Tryd.prog .neq 3 r207 (.int .i64 0) fun v209 =>
 pBool v209 fun b210 => br b210
 (pCell 5 true c10 0 fun v211 =>
 pCallF R 10 [v211, x3] H208 fun r212 H213 =>
 pBool r212 fun b214 => br b214
 (pCell 5 true c16 0 fun v215 =>
 pCallF R 10 [v215, x3] H213 fun r216 H217 =>
 pBool r216 fun b218 => br b218
 (some (.ret, [(.bool false)], H217))
 (some (.next, [], H217)))
 (some (.next, [], H213)))
 (some (.next, [], H208))))
 (pCallF R 13 [v146] H166 fun r219 H220 =>
 pBin Go.Proofs.Tryd.prog .neq 3 r219 (.int .i64 0) fun v221 =>
 pBool v221 fun b222 => br b222
 (pCell 5 true c10 0 fun v223 =>
 pCallF R 10 [v223, x3] H220 fun r224 H225 =>
 pBool r224 fun b226 => br b226
 (pCell 5 true c16 0 fun v227 =>
 pCallF R 10 [v227, x3] H225 fun r228 H229 =>
 pBool r228 fun b230 => br b230
 (some (.ret, [(.bool false)], H229))
 (some (.next, [], H229)))
 (some (.next, [], H225)))
 (some (.next, [], H220))))))) fun q231 l232 H233 => onCtl q231
 (pCell 5 true c10 0 fun v235 =>
 pCell 5 true c10 0 fun v236 =>
 pCallF R 14 [v235, v236] H233 fun r237 H238 =>
 pExtract r237 0 fun v239 =>
 pExtract r237 1 fun v240 =>
 pSplice 5 [.int .i64 0, .int .u64 0, .int .u64 0, .int .u64 0, .int .u64 0] 0 v239 fun c241 =>
 bindO (
 pCallF R 13 [v240] H238 fun r242 H243 =>
 pBin Go.Proofs.Tryd.prog .neq 3 r242 (.int .i64 0) fun v244 =>
 pBool v244 fun b245 => br b245
 (some (.ret, [(.bool false)], H243))
 (pCell 5 true c241 0 fun v246 =>
 pCell 5 true c10 0 fun v247 =>
 pBin Go.Proofs.Tryd.prog .neq 24 v246 v247 fun v248 =>
 pBool v248 fun b249 => br b249
 (some (.ret, [(.bool false)], H243))
 (some (.next, [], H243)))) fun q250 l251 H252 => onCtl q250
 (pCell 5 true c16 0 fun v254 =>
 pCell 5 true c22 0 fun v255 =>
 pCallF R 14 [v254, v255] H252 fun r256 H257 =>
 pExtract r256 0 fun v258 =>
 pExtract r256 1 fun v259 =>
 pSplice 5 [.int .i64 0, .int .u64 0, .int .u64 0, .int .u64 0, .int .u64 0] 0 v258 fun c260 =>
 pCell 5 true c147 0 fun v261 =>
 pCell 5 true c22 0 fun v262 =>
 pCallF R 14 [v261, v262] H257 fun r263 H264 =>
 pExtract r263 0 fun v265 =>
 pExtract r263 1 fun v266 =>
 pSplice 5 [.int .i64 0, .int .u64 0, .int .u64 0, .int .u64 0, .int .u64 0] 0 v265 fun c267 =>
 pCell 5 true c10 0 fun v268 =>
 pCell 5 true c260 0 fun v269 =>
 pCallF R 14 [v268, v269] H264 fun r270 H271 =>
 pExtract r270 0 fun v272 =>
 pExtract r270 1 fun v273 =>
 pSplice 5 [.int .i64 0, .int .u64 0, .int .u64 0, .int .u64 0, .int .u64 0] 0 v272 fun c274 =>
 bindO (
 pCallF R 13 [v146] H271 fun r275 H276 =>
 pBin Go.Proofs.Tryd.prog .eql 3 r275 (.int .i64 0) fun v277 =>
 pBool v277 fun b278 => br b278
 (pCallF R 13 [v266] H276 fun r279 H280 =>
 pBin Go.Proofs.Tryd.prog .eql 3 r279 (.int .i64 0) fun v281 =>
 some (.next, [v281], H280))
 (some (.next, [(.bool false)], H276))) fun q282 l283 H284 => onCtl q282
 (pCallF R 13 [v259] H284 fun r286 H287 =>
 pBin Go.Proofs.Tryd.prog .eql 3 r286 (.int .i64 0) fun v288 =>
 pBool v288 fun b289 => br b289
 (pCallF R 13 [v273] H287 fun r290 H291 =>
 pBin Go.Proofs.Tryd.prog .eql 3 r290 (.int .i64 0) fun v292 =>
 pBin Go.Proofs.Tryd.prog .eql 4 (l283.getD 0 undef) v292 fun v293 =>
 pBool v293 fun b294 => br b294
 (pUn .not (l283.getD 0 undef) fun v295 =>
 pBool v295 fun b296 => br b296
 (some ((.bool true), H291))
 (pCell 5 true c267 0 fun v297 =>
 pCell 5 true c274 0 fun v298 =>
 pBin Go.Proofs.Tryd.prog .eql 24 v297 v298 fun v299 =>
 some (v299, H291)))
 (some ((.bool false), H291)))
 (pBin Go.Proofs.Tryd.prog .eql 4 (l283.getD 0 undef) (.bool false) fun v300 =>
 pBool v300 fun b301 => br b301
 (pUn .not (l283.getD 0 undef) fun v302 =>
 pBool v302 fun b303 => br b303
 (some ((.bool true), H287))
 (pCell 5 true c267 0 fun v304 =>
 pCell 5 true c274 0 fun v305 =>
 pBin Go.Proofs.Tryd.prog .eql 24 v304 v305 fun v306 =>
 some (v306, H287)))
 (some ((.bool false), H287))))
 (fun i285 => none)
 (some ((l283.headD undef), H284)))
 (fun i253 => none)
 (some ((l251.headD undef), H252)))
 (fun i234 => none)
 (some ((l232.headD undef), H233)))
 (fun i140 => none)
 (some ((l138.headD undef), H139)))
 (fun i101 => none)
 (some ((l99.headD undef), H100)))
 (fun i40 => none)
 (some ((l38.headD undef), H39)))
theorem e4 (R : Handler) (x0 x1 x2 x3 : Value) (H0 : Hp) : execF Go.Proofs.Tryd.prog orc R 4 Go.Proofs.Tryd.f4 [x0, x1, x2, x3] H0 = m4 R x0 x1 x2 x3 H0 := by kernel_rfl
noncomputable def m5 (R : Handler) (x0 x1 x2 x3 : Value) (H0 : Hp) : Option (Value × Hp) :=
 pCallF R 15 [x2] H0 fun r1 H2 =>
 pExtract r1 0 fun v3 =>
 pExtract r1 1 fun v4 =>
 pSplice 5 [.int .i64 0, .int .u64 0, .int .u64 0, .int .u64 0, .int .u64 0] 0 v3 fun c5 =>
 pCallF R 16 [x2] H2 fun r6 H7 =>
 pExtract r6 0 fun v8 =>
 pExtract r6 1 fun v9 =>
 pSplice 5 [.int .i64 0, .int .u64 0, .int .u64 0, .int .u64 0, .int .u64 0] 0 v8 fun c10 =>
 bindO (
 pCell 5 true c5 0 fun v11 =>
 pCell 5 true c10 0 fun v12 =>
 pBin Go.Proofs.Tryd.prog .neq 24 v11 v12 fun v13 =>
 pBool v13 fun b14 => br b14
 (some (.ret, [(.bool false)], H7))
 (pCallF R 13 [v4] H7 fun r15 H16 =>
 pBin Go.Proofs.Tryd.prog .neq 3 r15 v9 fun v17 =>
 pBool v17 fun b18 => br b18
 (some (.ret, [(.bool false)], H16))
 (pCallF R 6 [] H16 fun r19 H20 =>
 pUn .not r19 fun v21 =>
 pBool v21 fun b22 => br b22
 (some (.ret, [(.bool false)], H20))
 (some (.next, [], H20))))) fun q23 l24 H25 => onCtl q23
 (pCallF R 17 [x2, x3] H25 fun r27 H28 =>
 pExtract r27 0 fun v29 =>
 pExtract r27 1 fun v30 =>
 pSplice 5 c5 0 v29 fun c31 =>
 pCallF R 18 [x2, x3] H28 fun r32 H33 =>
 pExtract r32 0 fun v34 =>
 pExtract r32 1 fun v35 =>
 pSplice 5 c10 0 v34 fun c36 =>
 bindO (
 pCell 5 true c31 0 fun v37 =>
 pCell 5 true c36 0 fun v38 =>
 pBin Go.Proofs.Tryd.prog .neq 24 v37 v38 fun v39 =>
 pBool v39 fun b40 => br b40
 (some (.ret, [(.bool false)], H33))
 (pCallF R 13 [v30] H33 fun r41 H42 =>
 pBin Go.Proofs.Tryd.prog .neq 3 r41 v35 fun v43 =>
 pBool v43 fun b44 => br b44
 (some (.ret, [(.bool false)], H42))
 (pCell 5 true (cellsL x0) 0 fun v45 =>
 pCallF R 19 [v45] H42 fun r46 H47 =>
 pCell 5 true (cellsL x0) 0 fun v48 =>
 pCallF R 8 [v48] H47 fun r49 H50 =>
 pBin Go.Proofs.Tryd.prog .neq 4 r46 r49 fun v51 =>
 pBool v51 fun b52 => br b52
 (some (.ret, [(.bool false)], H50))
 (pCell 5 true (cellsL x0) 0 fun v53 =>
 pCallF R 10 [v53, x3] H50 fun r54 H55 =>
 pCell 5 true (cellsL x0) 0 fun v56 =>
 pCallF R 9 [v56, x3] H55 fun r57 H58 =>
 pBin Go.Proofs.Tryd.prog .neq 4 r54 r57 fun v59 =>
 pBool v59 fun b60 => br b60
 (some (.ret, [(.bool false)], H58))
 (some (.next, [], H58)))))) fun q61 l62 H63 => onCtl q61
 (pCell 5 true (cellsL x0) 0 fun v65 =>
 pCallF R 20 [v65] H63 fun r66 H67 =>
 pExtract r66 0 fun v68 =>
 pExtract r66 1 fun v69 =>
 pSplice 5 c31 0 v68 fun c70 =>
 pCell 5 true (cellsL x0) 0 fun v71 =>
 pCallF R 21 [v71] H67 fun r72 H73 =>
 pExtract r72 0 fun v74 =>
 pExtract r72 1 fun v75 =>
 pSplice 5 c36 0 v74 fun c76 =>
 bindO (
 pCell 5 true c70 0 fun v77 =>
 pCell 5 true c76 0 fun v78 =>
 pBin Go.Proofs.Tryd.prog .neq 24 v77 v78 fun v79 =>
 pBool v79 fun b80 => br b80
 (some (.ret, [(.bool false)], H73))
 (pCallF R 13 [v69] H73 fun r81 H82 =>
 pBin Go.Proofs.Tryd.prog .neq 3 r81 v75 fun v83 =>
 pBool v83 fun b84 => br b84
 (some (.ret, [(.bool false)], H82))
 (some (.next, [], H82)))) fun q85 l86 H87 => onCtl q85
 (pCell 5 true (cellsL x0) 0 fun v89 =>
 pCell 5 true (cellsL x1) 0 fun v90 =>
 pCallF R 14 [v89, v90] H87 fun r91 H92 =>
 pExtract r91 0 fun v93 =>
 pExtract r91 1 fun v94 =>
 pSplice 5 c70 0 v93 fun c95 =>
 pCell 5 true (cellsL x0) 0 fun v96 =>
 pCell 5 true (cellsL x1) 0 fun v97 =>
 pCallF R 22 [v96, v97] H92 fun r98 H99 =>
 pExtract r98 0 fun v100 =>
 pExtract r98 1 fun v101 =>
 pSplice 5 c76 0 v100 fun c102 =>
 bindO (
 pCell 5 true c95 0 fun v103 =>
 pCell 5 true c102 0 fun v104 =>
 pBin Go.Proofs.Tryd.prog .neq 24 v103 v104 fun v105 =>
 pBool v105 fun b106 => br b106
 (some (.ret, [(.bool false)], H99))
 (pCallF R 13 [v94] H99 fun r107 H108 =>
 pBin Go.Proofs.Tryd.prog .neq 3 r107 v101 fun v109 =>
 pBool v109 fun b110 => br b110
 (some (.ret, [(.bool false)], H108))
 (some (.next, [], H108)))) fun q111 l112 H113 => onCtl q111
 (pCell 5 true (cellsL x0) 0 fun v115 =>
 pCell 5 true (cellsL x1) 0 fun v116 =>
 pCallF R 12 [v115, v116] H113 fun r117 H118 =>
 pExtract r117 0 fun v119 =>
 pExtract r117 1 fun v120 =>
 pSplice 5 c95 0 v119 fun c121 =>
 pCell 5 true (cellsL x0) 0 fun v122 =>
 pCell 5 true (cellsL x1) 0 fun v123 =>
 pCallF R 23 [v122, v123] H118 fun r124 H125 =>
 pExtract r124 0 fun v126 =>
 pExtract r124 1 fun v127 =>
 pSplice 5 c102 0 v126 fun c128 =>
 pCell 5 true c121 0 fun v129 =>
 pCell 5 true c128 0 fun v130 =>
 pBin Go.Proofs.Tryd.prog .eql 24 v129 v130 fun v131 =>
 pBool v131 fun b132 => br b132
 (pCallF R 13 [v120] H125 fun r133 H134 =>
 pBin Go.Proofs.Tryd.prog .eql 3 r133 v127 fun v135 =>
 some (v135, H134))
 (some ((.bool false), H125)))
 (fun i114 => none)
 (some ((l112.headD undef), H113)))
 (fun i88 => none)
 (some ((l86.headD undef), H87)))
 (fun i64 => none)
 (some ((l62.headD undef), H63)))
 (fun i26 => none)
 (some ((l24.headD undef), H25))
theorem e5 (R : Handler) (x0 x1 x2 x3 : Value) (H0 : Hp) : execF Go.Proofs.Tryd.prog orc R 5 Go.Proofs.Tryd.f5 [x0, x1, x2, x3] H0 = m5 R x0 x1 x2 x3 H0 := by kernel_rfl
noncomputable def m7 (R : Handler) (x0 : Value) (H0 : Hp) : Option (Value × Hp) :=
 pCell 5 true (cellsL x0) 0 fun v1 =>
 pCallF R 20 [v1] H0 fun r2 H3 =>
 pExtract r2 0 fun v4 =>
 pExtract r2 1 fun v5 =>
 pSplice 5 [.int .i64 0, .int .u64 0, .int .u64 0, .int .u64 0, .int .u64 0] 0 v4 fun c6 =>
 pCell 5 true c6 0 fun v7 =>
 pCallF R 13 [v5] H3 fun r8 H9 =>
 pBin Go.Proofs.Tryd.prog .eql 3 r8 (.int .i64 0) fun v10 =>
 pSplice 5 [.int .i64 0, .int .u64 0, .int .u64 0, .int .u64 0, .int .u64 0] 0 v7 fun c11 =>
 pCell 5 true c11 0 fun v12 =>
 some ((.tuple #[v12, v10]), H9)
theorem e7 (R : Handler) (x0 : Value) (H0 : Hp) : execF Go.Proofs.Tryd.prog orc R 7 Go.Proofs.Tryd.f7 [x0] H0 = m7 R x0 H0 := by kernel_rfl
noncomputable def m8 (R : Handler) (x0 : Value) (H0 : Hp) : Option (Value × Hp) :=
 bindO (
 pCell 1 false (cellsL x0) 0 fun v1 =>
 pBin Go.Proofs.Tryd.prog .lss 3 v1 (.int .i64 0) fun v2 =>
 pBool v2 fun b3 => br b3
 (some (.ret, [(.bool false)], H0))
 (pCell 1 false (cellsL x0) 0 fun v4 =>
 pBin Go.Proofs.Tryd.prog .gtr 3 v4 (.int .i64 64) fun v5 =>
 pBool v5 fun b6 => br b6
 (some (.ret, [(.bool false)], H0))
 (some (.next, [], H0)))) fun q7 l8 H9 => onCtl q7
 (pCell 1 false (cellsL x0) 0 fun v11 =>
 pCallF R 11 [v11] H9 fun r12 H13 =>
 pCell 1 false (cellsL x0) 1 fun v14 =>
 pBin Go.Proofs.Tryd.prog .leq 22 v14 r12 fun v15 =>
 pBool v15 fun b16 => br b16
 (pCell 1 false (cellsL x0) 2 fun v17 =>
 pBin Go.Proofs.Tryd.prog .leq 22 v17 r12 fun v18 =>
 pBool v18 fun b19 => br b19
 (pCell 1 false (cellsL x0) 3 fun v20 =>
 pBin Go.Proofs.Tryd.prog .leq 22 v20 r12 fun v21 =>
 pBool v21 fun b22 => br b22
 (pCell 1 false (cellsL x0) 4 fun v23 =>
 pBin Go.Proofs.Tryd.prog .leq 22 v23 r12 fun v24 =>
 some (v24, H13))
 (some ((.bool false), H13)))
 (some ((.bool false), H13)))
 (some ((.bool false), H13)))
 (fun i10 => none)
 (some ((l8.headD undef), H9))
theorem e8 (R : Handler) (x0 : Value) (H0 : Hp) : execF Go.Proofs.Tryd.prog orc R 8 Go.Proofs.Tryd.f8 [x0] H0 = m8 R x0 H0 := by kernel_rfl
noncomputable def m9 (R : Handler) (x0 x1 : Value) (H0 : Hp) : Option (Value × Hp) :=
 pCell 5 true (cellsL x0) 0 fun v1 =>
 pCallF R 8 [v1] H0 fun r2 H3 =>
 pBool r2 fun b4 => br b4
 (pCell 1 false (cellsL x0) 0 fun v5 =>
 pCallF R 11 [v5] H3 fun r6 H7 =>
 pBin Go.Proofs.Tryd.prog .leq 22 x1 r6 fun v8 =>
 pBool v8 fun b9 => br b9
 (pCell 5 true (cellsL x0) 0 fun v10 =>
 pCallF R 25 [v10, x1] H7 fun r11 H12 =>
 pBool r11 fun b13 => br b13
 (pCell 1 false (cellsL x0) 3 fun v14 =>
 pBin Go.Proofs.Tryd.prog .geq 22 x1 v14 fun v15 =>
 pBool v15 fun b16 => br b16
 (pCell 1 false (cellsL x0) 4 fun v17 =>
 pBin Go.Proofs.Tryd.prog .leq 22 x1 v17 fun v18 =>
 some (v18, H12))
 (some ((.bool false), H12)))
 (some ((.bool false), H12)))
 (some ((.bool false), H7)))
 (some ((.bool false), H3))
theorem e9 (R : Handler) (x0 x1 : Value) (H0 : Hp) : execF Go.Proofs.Tryd.prog orc R 9 Go.Proofs.Tryd.f9 [x0, x1] H0 = m9 R x0 x1 H0 := by kernel_rfl
noncomputable def m10 (R : Handler) (x0 x1 : Value) (H0 : Hp) : Option (Value × Hp) :=
 pCell 5 true (cellsL x0) 0 fun v1 =>
 pCallF R 19 [v1] H0 fun r2 H3 =>
 pBool r2 fun b4 => br b4
 (pCell 1 false (cellsL x0) 0 fun v5 =>
 pCallF R 26 [v5] H3 fun r6 H7 =>
 pBin Go.Proofs.Tryd.prog .leq 22 x1 r6 fun v8 =>
 pBool v8 fun b9 => br b9
 (pCell 5 true (cellsL x0) 0 fun v10 =>
 pCallF R 27 [v10, x1] H7 fun r11 H12 =>
 pBool r11 fun b13 => br b13
 (pCell 1 false (cellsL x0) 3 fun v14 =>
 pBin Go.Proofs.Tryd.prog .geq 22 x1 v14 fun v15 =>
 pBool v15 fun b16 => br b16
 (pCell 1 false (cellsL x0) 4 fun v17 =>
 pBin Go.Proofs.Tryd.prog .leq 22 x1 v17 fun v18 =>
 some (v18, H12))
 (some ((.bool false), H12)))
 (some ((.bool false), H12)))
 (some ((.bool false), H7)))
 (some ((.bool false), H3))
theorem e10 (R : Handler) (x0 x1 : Value) (H0 : Hp) : execF Go.Proofs.Tryd.prog orc R 10 Go.Proofs.Tryd.f10 [x0, x1] H0 = m10 R x0 x1 H0 := by kernel_rfl
noncomputable def m11 (R : Handler) (x0 : Value) (H0 : Hp) : Option (Value × Hp) :=
 pCallF R 28 [x0] H0 fun r1 H2 =>
 pBin Go.Proofs.Tryd.prog .geq 3 r1 (.int .i64 64) fun v3 =>
 pBool v3 fun b4 => br b4
 (some ((.int .u64 18446744073709551615), H2))
 (pConvInt .u64 r1 fun v5 =>
 pBin Go.Proofs.Tryd.prog .shl 22 (.int .u64 1) v5 fun v6 =>
 pBin Go.Proofs.Tryd.prog .sub 22 v6 (.int .u64 1) fun v7 =>
 some (v7, H2))
theorem e11 (R : Handler) (x0 : Value) (H0 : Hp) : execF Go.Proofs.Tryd.prog orc R 11 Go.Proofs.Tryd.f11 [x0] H0 = m11 R x0 H0 := by kernel_rfl
noncomputable def m12 (R : Handler) (x0 x1 : Value) (H0 : Hp) : Option (Value × Hp) :=
 pCell 5 true (cellsL x0) 0 fun v1 =>
 pCell 5 true (cellsL x1) 0 fun v2 =>
 pCallF R 29 [v1, v2] H0 fun r3 H4 =>
 pExtract r3 0 fun v5 =>
 pExtract r3 1 fun v6 =>
 pExtract r3 2 fun v7 =>
 pSplice 5 [.int .i64 0, .int .u64 0, .int .u64 0, .int .u64 0, .int .u64 0] 0 v5 fun c8 =>
 pSplice 5 [.int .i64 0, .int .u64 0, .int .u64 0, .int .u64 0, .int .u64 0] 0 v6 fun c9 =>
 pBin Go.Proofs.Tryd.prog .neq 31 v7 (.int .i64 0) fun v10 =>
 pBool v10 fun b11 => br b11
 (pBuild Go.Proofs.Tryd.prog 24 [] fun v12 =>
 pSplice 5 [.int .i64 0, .int .u64 0, .int .u64 0, .int .u64 0, .int .u64 0] 0 v12 fun c13 =>
 pCell 5 true c13 0 fun v14 =>
 some ((.tuple #[v14, v7]), H4))
 (pCell 5 true c8 0 fun v15 =>
 pCell 5 true c9 0 fun v16 =>
 pCallF R 30 [v15, v16] H4 fun r17 H18 =>
 pSplice 5 [.int .i64 0, .int .u64 0, .int .u64 0, .int .u64 0, .int .u64 0] 0 r17 fun c19 =>
 pCell 5 true c19 0 fun v20 =>
 some ((.tuple #[v20, (.int .i64 0)]), H18))
theorem e12 (R : Handler) (x0 x1 : Value) (H0 : Hp) : execF Go.Proofs.Tryd.prog orc R 12 Go.Proofs.Tryd.f12 [x0, x1] H0 = m12 R x0 x1 H0 := by kernel_rfl
noncomputable def m13 (R : Handler) (x0 : Value) (H0 : Hp) : Option (Value × Hp) :=
 some (x0, H0)
theorem e13 (R : Handler) (x0 : Value) (H0 : Hp) : execF Go.Proofs.Tryd.prog orc R 13 Go.Proofs.Tryd.f13 [x0] H0 = m13 R x0 H0 := by kernel_rfl
noncomputable def m14 (R : Handler) (x0 x1 : Value) (H0 : Hp) : Option (Value × Hp) :=
 pCell 5 true (cellsL x0) 0 fun v1 =>
 pCell 5 true (cellsL x1) 0 fun v2 =>
 pCallF R 29 [v1, v2] H0 fun r3 H4 =>
 pExtract r3 0 fun v5 =>
 pExtract r3 1 fun v6 =>
 pExtract r3 2 fun v7 =>
 pSplice 5 [.int .i64 0, .int .u64 0, .int .u64 0, .int .u64 0, .int .u64 0] 0 v5 fun c8 =>
 pSplice 5 [.int .i64 0, .int .u64 0, .int .u64 0, .int .u64 0, .int .u64 0] 0 v6 fun c9 =>
 pBin Go.Proofs.Tryd.prog .neq 31 v7 (.int .i64 0) fun v10 =>
 pBool v10 fun b11 => br b11
 (pBuild Go.Proofs.Tryd.prog 24 [] fun v12 =>
 pSplice 5 [.int .i64 0, .int .u64 0, .int .u64 0, .int .u64 0, .int .u64 0] 0 v12 fun c13 =>
 pCell 5 true c13 0 fun v14 =>
 some ((.tuple #[v14, v7]), H4))
 (pCell 1 false c8 0 fun v15 =>
 pCell 1 false c8 1 fun v16 =>
 pCell 1 false c9 1 fun v17 =>
 pBin Go.Proofs.Tryd.prog .or 22 v16 v17 fun v18 =>
 pCell 1 false c8 2 fun v19 =>
 pCell 1 false c9 2 fun v20 =>
 pBin Go.Proofs.Tryd.prog .or 22 v19 v20 fun v21 =>
 pCell 1 false c8 3 fun v22 =>
 pCell 1 false c9 3 fun v23 =>
 pMM true [v22, v23] fun v24 =>
 pCell 1 false c8 4 fun v25 =>
 pCell 1 false c9 4 fun v26 =>
 pMM false [v25, v26] fun v27 =>
 pBuild Go.Proofs.Tryd.prog 24 [(0, v15), (1, v18), (2, v21), (3, v24), (4, v27)] fun v28 =>
 pCallF R 20 [v28] H4 fun r29 H30 =>
 pExtract r29 0 fun v31 =>
 pExtract r29 1 fun v32 =>
 pSplice 5 [.int .i64 0, .int .u64 0, .int .u64 0, .int .u64 0, .int .u64 0] 0 v31 fun c33 =>
 pCell 5 true c33 0 fun v34 =>
 some ((.tuple #[v34, v32]), H30))
theorem e14 (R : Handler) (x0 x1 : Value) (H0 : Hp) : execF Go.Proofs.Tryd.prog orc R 14 Go.Proofs.Tryd.f14 [x0, x1] H0 = m14 R x0 x1 H0 := by kernel_rfl
noncomputable def m15 (R : Handler) (x0 : Value) (H0 : Hp) : Option (Value × Hp) :=
 pBin Go.Proofs.Tryd.prog .lss 3 x0 (.int .i64 0) fun v1 =>
 pBool v1 fun b2 => br b2
 (pBuild Go.Proofs.Tryd.prog 24 [] fun v3 =>
 pSplice 5 [.int .i64 0, .int .u64 0, .int .u64 0, .int .u64 0, .int .u64 0] 0 v3 fun c4 =>
 pCell 5 true c4 0 fun v5 =>
 some ((.tuple #[v5, (.int .i64 5)]), H0))
 (pBin Go.Proofs.Tryd.prog .gtr 3 x0 (.int .i64 64) fun v6 =>
 pBool v6 fun b7 => br b7
 (pBuild Go.Proofs.Tryd.prog 24 [] fun v8 =>
 pSplice 5 [.int .i64 0, .int .u64 0, .int .u64 0, .int .u64 0, .int .u64 0] 0 v8 fun c9 =>
 pCell 5 true c9 0 fun v10 =>
 some ((.tuple #[v10, (.int .i64 5)]), H0))
 (pCallF R 31 [x0] H0 fun r11 H12 =>
 pSplice 5 [.int .i64 0, .int .u64 0, .int .u64 0, .int .u64 0, .int .u64 0] 0 r11 fun c13 =>
 pCell 5 true c13 0 fun v14 =>
 some ((.tuple #[v14, (.int .i64 0)]), H12)))
theorem e15 (R : Handler) (x0 : Value) (H0 : Hp) : execF Go.Proofs.Tryd.prog orc R 15 Go.Proofs.Tryd.f15 [x0] H0 = m15 R x0 H0 := by kernel_rfl
noncomputable def m16 (R : Handler) (x0 : Value) (H0 : Hp) : Option (Value × Hp) :=
 pBin Go.Proofs.Tryd.prog .lss 3 x0 (.int .i64 0) fun v1 =>
 pBool v1 fun b2 => br b2
 (pBuild Go.Proofs.Tryd.prog 24 [] fun v3 =>
 pSplice 5 [.int .i64 0, .int .u64 0, .int .u64 0, .int .u64 0, .int .u64 0] 0 v3 fun c4 =>
 pCell 5 true c4 0 fun v5 =>
 some ((.tuple #[v5, (.int .i64 5)]), H0))
 (pBin Go.Proofs.Tryd.prog .gtr 3 x0 (.int .i64 64) fun v6 =>
 pBool v6 fun b7 => br b7
 (pBuild Go.Proofs.Tryd.prog 24 [] fun v8 =>
 pSplice 5 [.int .i64 0, .int .u64 0, .int .u64 0, .int .u64 0, .int .u64 0] 0 v8 fun c9 =>
 pCell 5 true c9 0 fun v10 =>
 some ((.tuple #[v10, (.int .i64 5)]), H0))
 (pCallF R 11 [x0] H0 fun r11 H12 =>
 pBuild Go.Proofs.Tryd.prog 24 [(0, x0), (4, r11)] fun v13 =>
 pSplice 5 [.int .i64 0, .int .u64 0, .int .u64 0, .int .u64 0, .int .u64 0] 0 v13 fun c14 =>
 pCell 5 true c14 0 fun v15 =>
 some ((.tuple #[v15, (.int .i64 0)]), H12)))
theorem e16 (R : Handler) (x0 : Value) (H0 : Hp) : execF Go.Proofs.Tryd.prog orc R 16 Go.Proofs.Tryd.f16 [x0] H0 = m16 R x0 H0 := by kernel_rfl
noncomputable def m17 (R : Handler) (x0 x1 : Value) (H0 : Hp) : Option (Value × Hp) :=
 pBin Go.Proofs.Tryd.prog .lss 3 x0 (.int .i64 0) fun v1 =>
 pBool v1 fun b2 => br b2
 (pBuild Go.Proofs.Tryd.prog 24 [] fun v3 =>
 pSplice 5 [.int .i64 0, .int .u64 0, .int .u64 0, .int .u64 0, .int .u64 0] 0 v3 fun c4 =>
 pCell 5 true c4 0 fun v5 =>
 some ((.tuple #[v5, (.int .i64 5)]), H0))
 (pBin Go.Proofs.Tryd.prog .gtr 3 x0 (.int .i64 64) fun v6 =>
 pBool v6 fun b7 => br b7
 (pBuild Go.Proofs.Tryd.prog 24 [] fun v8 =>
 pSplice 5 [.int .i64 0, .int .u64 0, .int .u64 0, .int .u64 0, .int .u64 0] 0 v8 fun c9 =>
 pCell 5 true c9 0 fun v10 =>
 some ((.tuple #[v10, (.int .i64 5)]), H0))
 (pCallF R 26 [x0] H0 fun r11 H12 =>
 pBin Go.Proofs.Tryd.prog .gtr 22 x1 r11 fun v13 =>
 pBool v13 fun b14 => br b14
 (pBuild Go.Proofs.Tryd.prog 24 [] fun v15 =>
 pSplice 5 [.int .i64 0, .int .u64 0, .int .u64 0, .int .u64 0, .int .u64 0] 0 v15 fun c16 =>
 pCell 5 true c16 0 fun v17 =>
 some ((.tuple #[v17, (.int .i64 5)]), H12))
 (pCallF R 32 [x0, x1] H12 fun r18 H19 =>
 pSplice 5 [.int .i64 0, .int .u64 0, .int .u64 0, .int .u64 0, .int .u64 0] 0 r18 fun c20 =>
 pCell 5 true c20 0 fun v21 =>
 some ((.tuple #[v21, (.int .i64 0)]), H19))))
theorem e17 (R : Handler) (x0 x1 : Value) (H0 : Hp) : execF Go.Proofs.Tryd.prog orc R 17 Go.Proofs.Tryd.f17 [x0, x1] H0 = m17 R x0 x1 H0 := by kernel_rfl
noncomputable def m18 (R : Handler) (x0 x1 : Value) (H0 : Hp) : Option (Value × Hp) :=
 pBin Go.Proofs.Tryd.prog .lss 3 x0 (.int .i64 0) fun v1 =>
 pBool v1 fun b2 => br b2
 (pBuild Go.Proofs.Tryd.prog 24 [] fun v3 =>
 pSplice 5 [.int .i64 0, .int .u64 0, .int .u64 0, .int .u64 0, .int .u64 0] 0 v3 fun c4 =>
 pCell 5 true c4 0 fun v5 =>
 some ((.tuple #[v5, (.int .i64 5)]), H0))
 (pBin Go.Proofs.Tryd.prog .gtr 3 x0 (.int .i64 64) fun v6 =>
 pBool v6 fun b7 => br b7
 (pBuild Go.Proofs.Tryd.prog 24 [] fun v8 =>
 pSplice 5 [.int .i64 0, .int .u64 0, .int .u64 0, .int .u64 0, .int .u64 0] 0 v8 fun c9 =>
 pCell 5 true c9 0 fun v10 =>
 some ((.tuple #[v10, (.int .i64 5)]), H0))
 (pCallF R 11 [x0] H0 fun r11 H12 =>
 pBin Go.Proofs.Tryd.prog .gtr 22 x1 r11 fun v13 =>
 pBool v13 fun b14 => br b14
 (pBuild Go.Proofs.Tryd.prog 24 [] fun v15 =>
 pSplice 5 [.int .i64 0, .int .u64 0, .int .u64 0, .int .u64 0, .int .u64 0] 0 v15 fun c16 =>
 pCell 5 true c16 0 fun v17 =>
 some ((.tuple #[v17, (.int .i64 5)]), H12))
 (pCallF R 11 [x0] H12 fun r18 H19 =>
 pBin Go.Proofs.Tryd.prog .andNot 22 r18 x1 fun v20 =>
 pBuild Go.Proofs.Tryd.prog 24 [(0, x0), (1, x1), (2, v20), (3, x1), (4, x1)] fun v21 =>
 pSplice 5 [.int .i64 0, .int .u64 0, .int .u64 0, .int .u64 0, .int .u64 0] 0 v21 fun c22 =>
 pCell 5 true c22 0 fun v23 =>
 some ((.tuple #[v23, (.int .i64 0)]), H19))))
theorem e18 (R : Handler) (x0 x1 : Value) (H0 : Hp) : execF Go.Proofs.Tryd.prog orc R 18 Go.Proofs.Tryd.f18 [x0, x1] H0 = m18 R x0 x1 H0 := by kernel_rfl
noncomputable def m19 (R : Handler) (x0 : Value) (H0 : Hp) : Option (Value × Hp) :=
 bindO (
 pCell 1 false (cellsL x0) 0 fun v1 =>
 pBin Go.Proofs.Tryd.prog .lss 3 v1 (.int .i64 0) fun v2 =>
 pBool v2 fun b3 => br b3
 (some (.ret, [(.bool false)], H0))
 (pCell 1 false (cellsL x0) 0 fun v4 =>
 pBin Go.Proofs.Tryd.prog .gtr 3 v4 (.int .i64 64) fun v5 =>
 pBool v5 fun b6 => br b6
 (some (.ret, [(.bool false)], H0))
 (some (.next, [], H0)))) fun q7 l8 H9 => onCtl q7
 (pCell 1 false (cellsL x0) 0 fun v11 =>
 pCallF R 26 [v11] H9 fun r12 H13 =>
 pCell 1 false (cellsL x0) 1 fun v14 =>
 pBin Go.Proofs.Tryd.prog .leq 22 v14 r12 fun v15 =>
 pBool v15 fun b16 => br b16
 (pCell 1 false (cellsL x0) 2 fun v17 =>
 pBin Go.Proofs.Tryd.prog .leq 22 v17 r12 fun v18 =>
 pBool v18 fun b19 => br b19
 (pCell 1 false (cellsL x0) 3 fun v20 =>
 pBin Go.Proofs.Tryd.prog .leq 22 v20 r12 fun v21 =>
 pBool v21 fun b22 => br b22
 (pCell 1 false (cellsL x0) 4 fun v23 =>
 pBin Go.Proofs.Tryd.prog .leq 22 v23 r12 fun v24 =>
 some (v24, H13))
 (some ((.bool false), H13)))
 (some ((.bool false), H13)))
 (some ((.bool false), H13)))
 (fun i10 => none)
 (some ((l8.headD undef), H9))
theorem e19 (R : Handler) (x0 : Value) (H0 : Hp) : execF Go.Proofs.Tryd.prog orc R 19 Go.Proofs.Tryd.f19 [x0] H0 = m19 R x0 H0 := by kernel_rfl
noncomputable def m20 (R : Handler) (x0 : Value) (H0 : Hp) : Option (Value × Hp) :=
 pCell 5 true (cellsL x0) 0 fun v1 =>
 pCallF R 19 [v1] H0 fun r2 H3 =>
 pUn .not r2 fun v4 =>
 pBool v4 fun b5 => br b5
 (pBuild Go.Proofs.Tryd.prog 24 [] fun v6 =>
 pSplice 5 [.int .i64 0, .int .u64 0, .int .u64 0, .int .u64 0, .int .u64 0] 0 v6 fun c7 =>
 pCell 5 true c7 0 fun v8 =>
 some ((.tuple #[v8, (.int .i64 5)]), H3))
 (pCell 5 true (cellsL x0) 0 fun v9 =>
 pCallF R 33 [v9] H3 fun r10 H11 =>
 pExtract r10 0 fun v12 =>
 pExtract r10 1 fun v13 =>
 pSplice 5 [.int .i64 0, .int .u64 0, .int .u64 0, .int .u64 0, .int .u64 0] 0 v12 fun c14 =>
 pUn .not v13 fun v15 =>
 pBool v15 fun b16 => br b16
 (pBuild Go.Proofs.Tryd.prog 24 [] fun v17 =>
 pSplice 5 [.int .i64 0, .int .u64 0, .int .u64 0, .int .u64 0, .int .u64 0] 0 v17 fun c18 =>
 pCell 5 true c18 0 fun v19 =>
 some ((.tuple #[v19, (.int .i64 1)]), H11))
 (pCell 5 true c14 0 fun v20 =>
 pSplice 5 [.int .i64 0, .int .u64 0, .int .u64 0, .int .u64 0, .int .u64 0] 0 v20 fun c21 =>
 pCell 5 true c21 0 fun v22 =>
 some ((.tuple #[v22, (.int .i64 0)]), H11)))
theorem e20 (R : Handler) (x0 : Value) (H0 : Hp) : execF Go.Proofs.Tryd.prog orc R 20 Go.Proofs.Tryd.f20 [x0] H0 = m20 R x0 H0 := by kernel_rfl
noncomputable def m22 (R : Handler) (x0 x1 : Value) (H0 : Hp) : Option (Value × Hp) :=
 pCell 5 true (cellsL x0) 0 fun v1 =>
 pCell 5 true (cellsL x1) 0 fun v2 =>
 pCallF R 36 [v1, v2] H0 fun r3 H4 =>
 pExtract r3 0 fun v5 =>
 pExtract r3 1 fun v6 =>
 pExtract r3 2 fun v7 =>
 pSplice 5 [.int .i64 0, .int .u64 0, .int .u64 0, .int .u64 0, .int .u64 0] 0 v5 fun c8 =>
 pSplice 5 [.int .i64 0, .int .u64 0, .int .u64 0, .int .u64 0, .int .u64 0] 0 v6 fun c9 =>
 pBin Go.Proofs.Tryd.prog .neq 3 v7 (.int .i64 0) fun v10 =>
 pBool v10 fun b11 => br b11
 (pBuild Go.Proofs.Tryd.prog 24 [] fun v12 =>
 pSplice 5 [.int .i64 0, .int .u64 0, .int .u64 0, .int .u64 0, .int .u64 0] 0 v12 fun c13 =>
 pCell 5 true c13 0 fun v14 =>
 some ((.tuple #[v14, v7]), H4))
 (pCell 1 false c8 0 fun v15 =>
 pCell 1 false c8 1 fun v16 =>
 pCell 1 false c9 1 fun v17 =>
 pBin Go.Proofs.Tryd.prog .or 22 v16 v17 fun v18 =>
 pCell 1 false c8 2 fun v19 =>
 pCell 1 false c9 2 fun v20 =>
 pBin Go.Proofs.Tryd.prog .or 22 v19 v20 fun v21 =>
 pCell 1 false c8 3 fun v22 =>
 pCell 1 false c8 4 fun v23 =>
 pBuild Go.Proofs.Tryd.prog 24 [(0, v15), (1, v18), (2, v21), (3, v22), (4, v23)] fun v24 =>
 pSplice 5 [.int .i64 0, .int .u64 0, .int .u64 0, .int .u64 0, .int .u64 0] 0 v24 fun c25 =>
 pCell 1 false c9 3 fun v26 =>
 pCell 1 false c25 3 fun v27 =>
 pBin Go.Proofs.Tryd.prog .gtr 22 v26 v27 fun v28 =>
 pBool v28 fun b29 => br b29
 (pCell 1 false c9 3 fun v30 =>
 pSplice 1 c25 3 v30 fun c31 =>
 pCell 1 false c9 4 fun v32 =>
 pCell 1 false c31 4 fun v33 =>
 pBin Go.Proofs.Tryd.prog .lss 22 v32 v33 fun v34 =>
 pBool v34 fun b35 => br b35
 (pCell 1 false c9 4 fun v36 =>
 pSplice 1 c31 4 v36 fun c37 =>
 pCell 5 true c37 0 fun v38 =>
 pCallF R 21 [v38] H4 fun r39 H40 =>
 pExtract r39 0 fun v41 =>
 pExtract r39 1 fun v42 =>
 pSplice 5 [.int .i64 0, .int .u64 0, .int .u64 0, .int .u64 0, .int .u64 0] 0 v41 fun c43 =>
 pCell 5 true c43 0 fun v44 =>
 some ((.tuple #[v44, v42]), H40))
 (pCell 5 true c31 0 fun v45 =>
 pCallF R 21 [v45] H4 fun r46 H47 =>
 pExtract r46 0 fun v48 =>
 pExtract r46 1 fun v49 =>
 pSplice 5 [.int .i64 0, .int .u64 0, .int .u64 0, .int .u64 0, .int .u64 0] 0 v48 fun c50 =>
 pCell 5 true c50 0 fun v51 =>
 some ((.tuple #[v51, v49]), H47)))
 (pCell 1 false c9 4 fun v52 =>
 pCell 1 false c25 4 fun v53 =>
 pBin Go.Proofs.Tryd.prog .lss 22 v52 v53 fun v54 =>
 pBool v54 fun b55 => br b55
 (pCell 1 false c9 4 fun v56 =>
 pSplice 1 c25 4 v56 fun c57 =>
 pCell 5 true c57 0 fun v58 =>
 pCallF R 21 [v58] H4 fun r59 H60 =>
 pExtract r59 0 fun v61 =>
 pExtract r59 1 fun v62 =>
 pSplice 5 [.int .i64 0, .int .u64 0, .int .u64 0, .int .u64 0, .int .u64 0] 0 v61 fun c63 =>
 pCell 5 true c63 0 fun v64 =>
 some ((.tuple #[v64, v62]), H60))
 (pCell 5 true c25 0 fun v65 =>
 pCallF R 21 [v65] H4 fun r66 H67 =>
 pExtract r66 0 fun v68 =>
 pExtract r66 1 fun v69 =>
 pSplice 5 [.int .i64 0, .int .u64 0, .int .u64 0, .int .u64 0, .int .u64 0] 0 v68 fun c70 =>
 pCell 5 true c70 0 fun v71 =>
 some ((.tuple #[v71, v69]), H67))))
theorem e22 (R : Handler) (x0 x1 : Value) (H0 : Hp) : execF Go.Proofs.Tryd.prog orc R 22 Go.Proofs.Tryd.f22 [x0, x1] H0 = m22 R x0 x1 H0 := by kernel_rfl
noncomputable def m23 (R : Handler) (x0 x1 : Value) (H0 : Hp) : Option (Value × Hp) :=
 pCell 5 true (cellsL x0) 0 fun v1 =>
 pCell 5 true (cellsL x1) 0 fun v2 =>
 pCallF R 36 [v1, v2] H0 fun r3 H4 =>
 pExtract r3 0 fun v5 =>
 pExtract r3 1 fun v6 =>
 pExtract r3 2 fun v7 =>
 pSplice 5 [.int .i64 0, .int .u64 0, .int .u64 0, .int .u64 0, .int .u64 0] 0 v5 fun c8 =>
 pSplice 5 [.int .i64 0, .int .u64 0, .int .u64 0, .int .u64 0, .int .u64 0] 0 v6 fun c9 =>
 pBin Go.Proofs.Tryd.prog .neq 3 v7 (.int .i64 0) fun v10 =>
 pBool v10 fun b11 => br b11
 (pBuild Go.Proofs.Tryd.prog 24 [] fun v12 =>
 pSplice 5 [.int .i64 0, .int .u64 0, .int .u64 0, .int .u64 0, .int .u64 0] 0 v12 fun c13 =>
 pCell 5 true c13 0 fun v14 =>
 some ((.tuple #[v14, v7]), H4))
 (pCell 5 true c8 0 fun v15 =>
 pCell 5 true c9 0 fun v16 =>
 pCallF R 37 [v15, v16] H4 fun r17 H18 =>
 pCallF R 21 [r17] H18 fun r19 H20 =>
 pExtract r19 0 fun v21 =>
 pExtract r19 1 fun v22 =>
 pSplice 5 [.int .i64 0, .int .u64 0, .int .u64 0, .int .u64 0, .int .u64 0] 0 v21 fun c23 =>
 pCell 5 true c23 0 fun v24 =>
 some ((.tuple #[v24, v22]), H20))
theorem e23 (R : Handler) (x0 x1 : Value) (H0 : Hp) : execF Go.Proofs.Tryd.prog orc R 23 Go.Proofs.Tryd.f23 [x0, x1] H0 = m23 R x0 x1 H0 := by kernel_rfl
noncomputable def m25 (R : Handler) (x0 x1 : Value) (H0 : Hp) : Option (Value × Hp) :=
 pCell 1 false (cellsL x0) 1 fun v1 =>
 pBin Go.Proofs.Tryd.prog .and 22 x1 v1 fun v2 =>
 pCell 1 false (cellsL x0) 1 fun v3 =>
 pBin Go.Proofs.Tryd.prog .eql 22 v2 v3 fun v4 =>
 pBool v4 fun b5 => br b5
 (pCell 1 false (cellsL x0) 2 fun v6 =>
 pBin Go.Proofs.Tryd.prog .and 22 x1 v6 fun v7 =>
 pBin Go.Proofs.Tryd.prog .eql 22 v7 (.int .u64 0) fun v8 =>
 some (v8, H0))
 (some ((.bool false), H0))
theorem e25 (R : Handler) (x0 x1 : Value) (H0 : Hp) : execF Go.Proofs.Tryd.prog orc R 25 Go.Proofs.Tryd.f25 [x0, x1] H0 = m25 R x0 x1 H0 := by kernel_rfl
noncomputable def m26 (R : Handler) (x0 : Value) (H0 : Hp) : Option (Value × Hp) :=
 pCallF R 43 [x0] H0 fun r1 H2 =>
 pCallF R 42 [r1, (.int .u64 18446744073709551615)] H2 fun r3 H4 =>
 some (r3, H4)
theorem e26 (R : Handler) (x0 : Value) (H0 : Hp) : execF Go.Proofs.Tryd.prog orc R 26 Go.Proofs.Tryd.f26 [x0] H0 = m26 R x0 H0 := by kernel_rfl
noncomputable def m27 (R : Handler) (x0 x1 : Value) (H0 : Hp) : Option (Value × Hp) :=
 pCell 1 false (cellsL x0) 1 fun v1 =>
 pBin Go.Proofs.Tryd.prog .and 22 x1 v1 fun v2 =>
 pCell 1 false (cellsL x0) 1 fun v3 =>
 pBin Go.Proofs.Tryd.prog .eql 22 v2 v3 fun v4 =>
 pBool v4 fun b5 => br b5
 (pCell 1 false (cellsL x0) 2 fun v6 =>
 pBin Go.Proofs.Tryd.prog .and 22 x1 v6 fun v7 =>
 pBin Go.Proofs.Tryd.prog .eql 22 v7 (.int .u64 0) fun v8 =>
 some (v8, H0))
 (some ((.bool false), H0))
theorem e27 (R : Handler) (x0 x1 : Value) (H0 : Hp) : execF Go.Proofs.Tryd.prog orc R 27 Go.Proofs.Tryd.f27 [x0, x1] H0 = m27 R x0 x1 H0 := by kernel_rfl
noncomputable def m28 (R : Handler) (x0 : Value) (H0 : Hp) : Option (Value × Hp) :=
 pBin Go.Proofs.Tryd.prog .eql 3 x0 (.int .i64 0) fun v1 =>
 pBool v1 fun b2 => br b2
 (some ((.int .i64 1), H0))
 (some (x0, H0))
theorem e28 (R : Handler) (x0 : Value) (H0 : Hp) : execF Go.Proofs.Tryd.prog orc R 28 Go.Proofs.Tryd.f28 [x0] H0 = m28 R x0 H0 := by kernel_rfl
noncomputable def m29 (R : Handler) (x0 x1 : Value) (H0 : Hp) : Option (Value × Hp) :=
 bindO (
 pCell 5 true (cellsL x0) 0 fun v1 =>
 pCallF R 19 [v1] H0 fun r2 H3 =>
 pUn .not r2 fun v4 =>
 pBool v4 fun b5 => br b5
 (pCell 5 true (cellsL x0) 0 fun v6 =>
 pCell 5 true (cellsL x1) 0 fun v7 =>
 pSplice 5 [.int .i64 0, .int .u64 0, .int .u64 0, .int .u64 0, .int .u64 0] 0 v6 fun c8 =>
 pSplice 5 [.int .i64 0, .int .u64 0, .int .u64 0, .int .u64 0, .int .u64 0] 0 v7 fun c9 =>
 pCell 5 true c8 0 fun v10 =>
 pCell 5 true c9 0 fun v11 =>
 some (.ret, [(.tuple #[v10, v11, (.int .i64 5)])], H3))
 (pCell 5 true (cellsL x1) 0 fun v12 =>
 pCallF R 19 [v12] H3 fun r13 H14 =>
 pUn .not r13 fun v15 =>
 pBool v15 fun b16 => br b16
 (pCell 5 true (cellsL x0) 0 fun v17 =>
 pCell 5 true (cellsL x1) 0 fun v18 =>
 pSplice 5 [.int .i64 0, .int .u64 0, .int .u64 0, .int .u64 0, .int .u64 0] 0 v17 fun c19 =>
 pSplice 5 [.int .i64 0, .int .u64 0, .int .u64 0, .int .u64 0, .int .u64 0] 0 v18 fun c20 =>
 pCell 5 true c19 0 fun v21 =>
 pCell 5 true c20 0 fun v22 =>
 some (.ret, [(.tuple #[v21, v22, (.int .i64 5)])], H14))
 (pCell 1 false (cellsL x0) 0 fun v23 =>
 pCell 1 false (cellsL x1) 0 fun v24 =>
 pBin Go.Proofs.Tryd.prog .neq 3 v23 v24 fun v25 =>
 pBool v25 fun b26 => br b26
 (pCell 5 true (cellsL x0) 0 fun v27 =>
 pCell 5 true (cellsL x1) 0 fun v28 =>
 pSplice 5 [.int .i64 0, .int .u64 0, .int .u64 0, .int .u64 0, .int .u64 0] 0 v27 fun c29 =>
 pSplice 5 [.int .i64 0, .int .u64 0, .int .u64 0, .int .u64 0, .int .u64 0] 0 v28 fun c30 =>
 pCell 5 true c29 0 fun v31 =>
 pCell 5 true c30 0 fun v32 =>
 some (.ret, [(.tuple #[v31, v32, (.int .i64 5)])], H14))
 (some (.next, [(.agg [.int .i64 0, .int .u64 0, .int .u64 0, .int .u64 0, .int .u64 0].toArray), (.agg [.int .i64 0, .int .u64 0, .int .u64 0, .int .u64 0, .int .u64 0].toArray)], H14))))) fun q33 l34 H35 => onCtl q33
 (pCell 5 true (cellsL x0) 0 fun v37 =>
 pCallF R 33 [v37] H35 fun r38 H39 =>
 pExtract r38 0 fun v40 =>
 pExtract r38 1 fun v41 =>
 pSplice 5 [.int .i64 0, .int .u64 0, .int .u64 0, .int .u64 0, .int .u64 0] 0 v40 fun c42 =>
 pCell 5 true (cellsL x1) 0 fun v43 =>
 pCallF R 33 [v43] H39 fun r44 H45 =>
 pExtract r44 0 fun v46 =>
 pExtract r44 1 fun v47 =>
 pSplice 5 [.int .i64 0, .int .u64 0, .int .u64 0, .int .u64 0, .int .u64 0] 0 v46 fun c48 =>
 pUn .not v41 fun v49 =>
 pBool v49 fun b50 => br b50
 (pCell 5 true (cellsL x0) 0 fun v51 =>
 pCell 5 true (cellsL x1) 0 fun v52 =>
 pSplice 5 (cellsL ((l34.drop 0).getD 0 undef)) 0 v51 fun c53 =>
 pSplice 5 (cellsL ((l34.drop 0).getD 1 undef)) 0 v52 fun c54 =>
 pCell 5 true c53 0 fun v55 =>
 pCell 5 true c54 0 fun v56 =>
 some ((.tuple #[v55, v56, (.int .i64 1)]), H45))
 (pUn .not v47 fun v57 =>
 pBool v57 fun b58 => br b58
 (pCell 5 true (cellsL x0) 0 fun v59 =>
 pCell 5 true (cellsL x1) 0 fun v60 =>
 pSplice 5 (cellsL ((l34.drop 0).getD 0 undef)) 0 v59 fun c61 =>
 pSplice 5 (cellsL ((l34.drop 0).getD 1 undef)) 0 v60 fun c62 =>
 pCell 5 true c61 0 fun v63 =>
 pCell 5 true c62 0 fun v64 =>
 some ((.tuple #[v63, v64, (.int .i64 1)]), H45))
 (pCell 5 true c42 0 fun v65 =>
 pCell 5 true c48 0 fun v66 =>
 pSplice 5 (cellsL ((l34.drop 0).getD 0 undef)) 0 v65 fun c67 =>
 pSplice 5 (cellsL ((l34.drop 0).getD 1 undef)) 0 v66 fun c68 =>
 pCell 5 true c67 0 fun v69 =>
 pCell 5 true c68 0 fun v70 =>
 some ((.tuple #[v69, v70, (.int .i64 0)]), H45))))
 (fun i36 => none)
 (some ((l34.headD undef), H35))
theorem e29 (R : Handler) (x0 x1 : Value) (H0 : Hp) : execF Go.Proofs.Tryd.prog orc R 29 Go.Proofs.Tryd.f29 [x0, x1] H0 = m29 R x0 x1 H0 := by kernel_rfl
noncomputable def m30 (R : Handler) (x0 x1 : Value) (H0 : Hp) : Option (Value × Hp) :=
 pCell 1 false (cellsL x0) 0 fun v1 =>
 pCell 1 false (cellsL x0) 1 fun v2 =>
 pCell 1 false (cellsL x1) 1 fun v3 =>
 pBin Go.Proofs.Tryd.prog .and 22 v2 v3 fun v4 =>
 pCell 1 false (cellsL x0) 2 fun v5 =>
 pCell 1 false (cellsL x1) 2 fun v6 =>
 pBin Go.Proofs.Tryd.prog .and 22 v5 v6 fun v7 =>
 pCell 1 false (cellsL x0) 3 fun v8 =>
 pCell 1 false (cellsL x1) 3 fun v9 =>
 pMM false [v8, v9] fun v10 =>
 pCell 1 false (cellsL x0) 4 fun v11 =>
 pCell 1 false (cellsL x1) 4 fun v12 =>
 pMM true [v11, v12] fun v13 =>
 pBuild Go.Proofs.Tryd.prog 24 [(0, v1), (1, v4), (2, v7), (3, v10), (4, v13)] fun v14 =>
 pSplice 5 [.int .i64 0, .int .u64 0, .int .u64 0, .int .u64 0, .int .u64 0] 0 v14 fun c15 =>
 pCell 5 true c15 0 fun v16 =>
 some (v16, H0)
theorem e30 (R : Handler) (x0 x1 : Value) (H0 : Hp) : execF Go.Proofs.Tryd.prog orc R 30 Go.Proofs.Tryd.f30 [x0, x1] H0 = m30 R x0 x1 H0 := by kernel_rfl
noncomputable def m31 (R : Handler) (x0 : Value) (H0 : Hp) : Option (Value × Hp) :=
 pCallF R 26 [x0] H0 fun r1 H2 =>
 pBuild Go.Proofs.Tryd.prog 24 [(0, x0), (4, r1)] fun v3 =>
 pSplice 5 [.int .i64 0, .int .u64 0, .int .u64 0, .int .u64 0, .int .u64 0] 0 v3 fun c4 =>
 pCell 5 true c4 0 fun v5 =>
 some (v5, H2)
theorem e31 (R : Handler) (x0 : Value) (H0 : Hp) : execF Go.Proofs.Tryd.prog orc R 31 Go.Proofs.Tryd.f31 [x0] H0 = m31 R x0 H0 := by kernel_rfl
noncomputable def m32 (R : Handler) (x0 x1 : Value) (H0 : Hp) : Option (Value × Hp) :=
 pCallF R 26 [x0] H0 fun r1 H2 =>
 pBin Go.Proofs.Tryd.prog .andNot 22 r1 x1 fun v3 =>
 pBuild Go.Proofs.Tryd.prog 24 [(0, x0), (1, x1), (2, v3), (3, x1), (4, x1)] fun v4 =>
 pSplice 5 [.int .i64 0, .int .u64 0, .int .u64 0, .int .u64 0, .int .u64 0] 0 v4 fun c5 =>
 pCell 5 true c5 0 fun v6 =>
 some (v6, H2)
theorem e32 (R : Handler) (x0 x1 : Value) (H0 : Hp) : execF Go.Proofs.Tryd.prog orc R 32 Go.Proofs.Tryd.f32 [x0, x1] H0 = m32 R x0 x1 H0 := by kernel_rfl
noncomputable def m33 (R : Handler) (x0 : Value) (H0 : Hp) : Option (Value × Hp) :=
 pCell 5 true (cellsL x0) 0 fun v1 =>
 pCell 1 false (cellsL x0) 3 fun v2 =>
 pCallF R 44 [v1, v2] H0 fun r3 H4 =>
 pExtract r3 0 fun v5 =>
 pExtract r3 1 fun v6 =>
 pCell 5 true (cellsL x0) 0 fun v7 =>
 pCell 1 false (cellsL x0) 4 fun v8 =>
 pCallF R 45 [v7, v8] H4 fun r9 H10 =>
 pExtract r9 0 fun v11 =>
 pExtract r9 1 fun v12 =>
 bindO (
 pUn .not v6 fun v13 =>
 pBool v13 fun b14 => br b14
 (pBuild Go.Proofs.Tryd.prog 24 [] fun v15 =>
 pSplice 5 [.int .i64 0, .int .u64 0, .int .u64 0, .int .u64 0, .int .u64 0] 0 v15 fun c16 =>
 pCell 5 true c16 0 fun v17 =>
 some (.ret, [(.tuple #[v17, (.bool false)])], H10))
 (pUn .not v12 fun v18 =>
 pBool v18 fun b19 => br b19
 (pBuild Go.Proofs.Tryd.prog 24 [] fun v20 =>
 pSplice 5 [.int .i64 0, .int .u64 0, .int .u64 0, .int .u64 0, .int .u64 0] 0 v20 fun c21 =>
 pCell 5 true c21 0 fun v22 =>
 some (.ret, [(.tuple #[v22, (.bool false)])], H10))
 (pBin Go.Proofs.Tryd.prog .gtr 22 v5 v11 fun v23 =>
 pBool v23 fun b24 => br b24
 (pBuild Go.Proofs.Tryd.prog 24 [] fun v25 =>
 pSplice 5 [.int .i64 0, .int .u64 0, .int .u64 0, .int .u64 0, .int .u64 0] 0 v25 fun c26 =>
 pCell 5 true c26 0 fun v27 =>
 some (.ret, [(.tuple #[v27, (.bool false)])], H10))
 (pCell 1 false (cellsL x0) 3 fun v28 =>
 pCell 1 false (cellsL x0) 4 fun v29 =>
 pBin Go.Proofs.Tryd.prog .gtr 22 v28 v29 fun v30 =>
 pBool v30 fun b31 => br b31
 (pBuild Go.Proofs.Tryd.prog 24 [] fun v32 =>
 pSplice 5 [.int .i64 0, .int .u64 0, .int .u64 0, .int .u64 0, .int .u64 0] 0 v32 fun c33 =>
 pCell 5 true c33 0 fun v34 =>
 some (.ret, [(.tuple #[v34, (.bool false)])], H10))
 (some (.next, [(.agg [.int .i64 0, .int .u64 0, .int .u64 0, .int .u64 0, .int .u64 0].toArray)], H10)))))) fun q35 l36 H37 => onCtl q35
 (pCell 1 false (cellsL x0) 0 fun v39 =>
 pBuild Go.Proofs.Tryd.prog 24 [(0, v39), (3, v5), (4, v11)] fun v40 =>
 pSplice 5 [.int .i64 0, .int .u64 0, .int .u64 0, .int .u64 0, .int .u64 0] 0 v40 fun c41 =>
 pCell 1 false (cellsL x0) 0 fun v42 =>
 pCallF R 26 [v42] H37 fun r43 H44 =>
 pCell 1 false (cellsL x0) 0 fun v45 =>
 pCallF R 43 [v45] H44 fun r46 H47 =>
 bindO (loopD (fun l48 H49 =>
 pBin Go.Proofs.Tryd.prog .lss 3 (l48.getD 0 undef) r46 fun v50 =>
 pBool v50 fun b51 => br b51
 (pConvInt .u64 (l48.getD 0 undef) fun v52 =>
 pBin Go.Proofs.Tryd.prog .shl 22 (.int .u64 1) v52 fun v53 =>
 pCell 1 false (cellsL x0) 1 fun v54 =>
 pBin Go.Proofs.Tryd.prog .and 22 v54 v53 fun v55 =>
 pBin Go.Proofs.Tryd.prog .neq 22 v55 (.int .u64 0) fun v56 =>
 pBool v56 fun b57 => br b57
 (pCell 1 false (cellsL ((l48.drop 1).getD 0 undef)) 1 fun v58 =>
 pBin Go.Proofs.Tryd.prog .or 22 v58 v53 fun v59 =>
 pSplice 1 (cellsL ((l48.drop 1).getD 0 undef)) 1 v59 fun c60 =>
 pBin Go.Proofs.Tryd.prog .add 3 (l48.getD 0 undef) (.int .i64 1) fun v61 =>
 some (.next, [v61, (.agg c60.toArray)], H49))
 (pCell 1 false (cellsL x0) 2 fun v62 =>
 pBin Go.Proofs.Tryd.prog .and 22 v62 v53 fun v63 =>
 pBin Go.Proofs.Tryd.prog .neq 22 v63 (.int .u64 0) fun v64 =>
 pBool v64 fun b65 => br b65
 (pCell 1 false (cellsL ((l48.drop 1).getD 0 undef)) 2 fun v66 =>
 pBin Go.Proofs.Tryd.prog .or 22 v66 v53 fun v67 =>
 pSplice 1 (cellsL ((l48.drop 1).getD 0 undef)) 2 v67 fun c68 =>
 pBin Go.Proofs.Tryd.prog .add 3 (l48.getD 0 undef) (.int .i64 1) fun v69 =>
 some (.next, [v69, (.agg c68.toArray)], H49))
 (pCell 1 false (cellsL x0) 0 fun v70 =>
 pCell 1 false (cellsL x0) 1 fun v71 =>
 pBin Go.Proofs.Tryd.prog .or 22 v71 v53 fun v72 =>
 pCell 1 false (cellsL x0) 2 fun v73 =>
 pBuild Go.Proofs.Tryd.prog 24 [(0, v70), (1, v72), (2, v73)] fun v74 =>
 pCallF R 46 [v74, v5, v11] H49 fun r75 H76 =>
 pUn .not r75 fun v77 =>
 pBool v77 fun b78 => br b78
 (pCell 1 false (cellsL ((l48.drop 1).getD 0 undef)) 2 fun v79 =>
 pBin Go.Proofs.Tryd.prog .or 22 v79 v53 fun v80 =>
 pSplice 1 (cellsL ((l48.drop 1).getD 0 undef)) 2 v80 fun c81 =>
 pBin Go.Proofs.Tryd.prog .add 3 (l48.getD 0 undef) (.int .i64 1) fun v82 =>
 some (.next, [v82, (.agg c81.toArray)], H76))
 (pCell 1 false (cellsL x0) 0 fun v83 =>
 pCell 1 false (cellsL x0) 1 fun v84 =>
 pCell 1 false (cellsL x0) 2 fun v85 =>
 pBin Go.Proofs.Tryd.prog .or 22 v85 v53 fun v86 =>
 pBuild Go.Proofs.Tryd.prog 24 [(0, v83), (1, v84), (2, v86)] fun v87 =>
 pCallF R 46 [v87, v5, v11] H76 fun r88 H89 =>
 pUn .not r88 fun v90 =>
 pBool v90 fun b91 => br b91
 (pCell 1 false (cellsL ((l48.drop 1).getD 0 undef)) 1 fun v92 =>
 pBin Go.Proofs.Tryd.prog .or 22 v92 v53 fun v93 =>
 pSplice 1 (cellsL ((l48.drop 1).getD 0 undef)) 1 v93 fun c94 =>
 pBin Go.Proofs.Tryd.prog .add 3 (l48.getD 0 undef) (.int .i64 1) fun v95 =>
 some (.next, [v95, (.agg c94.toArray)], H89))
 (pBin Go.Proofs.Tryd.prog .add 3 (l48.getD 0 undef) (.int .i64 1) fun v96 =>
 some (.next, [v96, (.agg (cellsL ((l48.drop 1).getD 0 undef)).toArray)], H89))))))
 (some (.exit 0, [(l48.getD 0 undef), (.agg (cellsL ((l48.drop 1).getD 0 undef)).toArray)], H49))) [(.int .i64 0), (.agg c41.toArray)] H47) fun q97 l98 H99 => onCtl q97 none
 (fun i100 => onExit i100 0 (
 pCell 1 false (cellsL ((l98.drop 1).getD 0 undef)) 1 fun v101 =>
 pBin Go.Proofs.Tryd.prog .and 22 v101 r43 fun v102 =>
 pSplice 1 (cellsL ((l98.drop 1).getD 0 undef)) 1 v102 fun c103 =>
 pCell 5 true c103 0 fun v104 =>
 pSplice 5 (cellsL ((l36.drop 0).getD 0 undef)) 0 v104 fun c105 =>
 pCell 5 true c105 0 fun v106 =>
 some ((.tuple #[v106, (.bool true)]), H99)) (
 none))
 (some ((l98.headD undef), H99)))
 (fun i38 => none)
 (some ((l36.headD undef), H37))
theorem e33 (R : Handler) (x0 : Value) (H0 : Hp) : execF Go.Proofs.Tryd.prog orc R 33 Go.Proofs.Tryd.f33 [x0] H0 = m33 R x0 H0 := by kernel_rfl
noncomputable def m34 (R : Handler) (x0 : Value) (H0 : Hp) : Option (Value × Hp) :=
 bindO (loopD (fun l1 H2 =>
 pCell 1 false (cellsL x0) 0 fun v3 =>
 pCallF R 28 [v3] H2 fun r4 H5 =>
 pBin Go.Proofs.Tryd.prog .lss 3 (l1.getD 0 undef) r4 fun v6 =>
 pBool v6 fun b7 => br b7
 (pCell 1 false (cellsL x0) 3 fun v8 =>
 pBin Go.Proofs.Tryd.prog .geq 3 (l1.getD 0 undef) (.int .i64 0) fun v9 =>
 pBool v9 fun b10 => br b10
 (pCallF R 47 [v8, (l1.getD 0 undef)] H5 fun r11 H12 =>
 pBool r11 fun b13 => br b13
 (pBin Go.Proofs.Tryd.prog .add 3 (l1.getD 0 undef) (.int .i64 1) fun v14 =>
 some (.next, [v14], H12))
 (pBin Go.Proofs.Tryd.prog .add 3 (l1.getD 0 undef) (.int .i64 1) fun v15 =>
 pCallF R 48 [v15] H12 fun r16 H17 =>
 pBin Go.Proofs.Tryd.prog .andNot 22 v8 r16 fun v18 =>
 pConvInt .u64 (l1.getD 0 undef) fun v19 =>
 pBin Go.Proofs.Tryd.prog .shl 22 (.int .u64 1) v19 fun v20 =>
 pBin Go.Proofs.Tryd.prog .or 22 v18 v20 fun v21 =>
 pCell 1 false (cellsL x0) 1 fun v22 =>
 pCallF R 48 [(l1.getD 0 undef)] H17 fun r23 H24 =>
 pBin Go.Proofs.Tryd.prog .and 22 v22 r23 fun v25 =>
 pBin Go.Proofs.Tryd.prog .or 22 v21 v25 fun v26 =>
 pCell 5 true (cellsL x0) 0 fun v27 =>
 pCallF R 25 [v27, v26] H24 fun r28 H29 =>
 pBool r28 fun b30 => br b30
 (pCell 1 false (cellsL x0) 4 fun v31 =>
 pBin Go.Proofs.Tryd.prog .leq 22 v26 v31 fun v32 =>
 some (.ret, [(.tuple #[v26, v32])], H29))
 (pBin Go.Proofs.Tryd.prog .add 3 (l1.getD 0 undef) (.int .i64 1) fun v33 =>
 some (.next, [v33], H29))))
 (pCell 5 true (cellsL x0) 0 fun v34 =>
 pCallF R 25 [v34, v8] H5 fun r35 H36 =>
 pBool r35 fun b37 => br b37
 (pCell 1 false (cellsL x0) 4 fun v38 =>
 pBin Go.Proofs.Tryd.prog .leq 22 v8 v38 fun v39 =>
 some (.ret, [(.tuple #[v8, v39])], H36))
 (pBin Go.Proofs.Tryd.prog .add 3 (l1.getD 0 undef) (.int .i64 1) fun v40 =>
 some (.next, [v40], H36))))
 (some (.exit 0, [(l1.getD 0 undef)], H5))) [(.int .i64 (-1))] H0) fun q41 l42 H43 => onCtl q41 none
 (fun i44 => onExit i44 0 (
 some ((.tuple #[(.int .u64 0), (.bool false)]), H43)) (
 none))
 (some ((l42.headD undef), H43))
theorem e34 (R : Handler) (x0 : Value) (H0 : Hp) : execF Go.Proofs.Tryd.prog orc R 34 Go.Proofs.Tryd.f34 [x0] H0 = m34 R x0 H0 := by kernel_rfl
noncomputable def m35 (R : Handler) (x0 : Value) (H0 : Hp) : Option (Value × Hp) :=
 bindO (loopD (fun l1 H2 =>
 pCell 1 false (cellsL x0) 0 fun v3 =>
 pCallF R 28 [v3] H2 fun r4 H5 =>
 pBin Go.Proofs.Tryd.prog .lss 3 (l1.getD 0 undef) r4 fun v6 =>
 pBool v6 fun b7 => br b7
 (pCell 1 false (cellsL x0) 4 fun v8 =>
 pBin Go.Proofs.Tryd.prog .geq 3 (l1.getD 0 undef) (.int .i64 0) fun v9 =>
 pBool v9 fun b10 => br b10
 (pCallF R 47 [v8, (l1.getD 0 undef)] H5 fun r11 H12 =>
 pUn .not r11 fun v13 =>
 pBool v13 fun b14 => br b14
 (pBin Go.Proofs.Tryd.prog .add 3 (l1.getD 0 undef) (.int .i64 1) fun v15 =>
 some (.next, [v15], H12))
 (pBin Go.Proofs.Tryd.prog .add 3 (l1.getD 0 undef) (.int .i64 1) fun v16 =>
 pCallF R 48 [v16] H12 fun r17 H18 =>
 pBin Go.Proofs.Tryd.prog .andNot 22 v8 r17 fun v19 =>
 pCallF R 48 [(l1.getD 0 undef)] H18 fun r20 H21 =>
 pCell 1 false (cellsL x0) 2 fun v22 =>
 pBin Go.Proofs.Tryd.prog .andNot 22 r20 v22 fun v23 =>
 pBin Go.Proofs.Tryd.prog .or 22 v19 v23 fun v24 =>
 pCell 5 true (cellsL x0) 0 fun v25 =>
 pCallF R 25 [v25, v24] H21 fun r26 H27 =>
 pBool r26 fun b28 => br b28
 (some (.ret, [v24], H27))
 (pBin Go.Proofs.Tryd.prog .add 3 (l1.getD 0 undef) (.int .i64 1) fun v29 =>
 some (.next, [v29], H27))))
 (pCell 5 true (cellsL x0) 0 fun v30 =>
 pCallF R 25 [v30, v8] H5 fun r31 H32 =>
 pBool r31 fun b33 => br b33
 (some (.ret, [v8], H32))
 (pBin Go.Proofs.Tryd.prog .add 3 (l1.getD 0 undef) (.int .i64 1) fun v34 =>
 some (.next, [v34], H32))))
 (some (.exit 0, [(l1.getD 0 undef)], H5))) [(.int .i64 (-1))] H0) fun q35 l36 H37 => onCtl q35 none
 (fun i38 => onExit i38 0 (
 some ((.int .u64 0), H37)) (
 none))
 (some ((l36.headD undef), H37))
theorem e35 (R : Handler) (x0 : Value) (H0 : Hp) : execF Go.Proofs.Tryd.prog orc R 35 Go.Proofs.Tryd.f35 [x0] H0 = m35 R x0 H0 := by kernel_rfl
noncomputable def m36 (R : Handler) (x0 x1 : Value) (H0 : Hp) : Option (Value × Hp) :=
 bindO (
 pCell 5 true (cellsL x0) 0 fun v1 =>
 pCallF R 8 [v1] H0 fun r2 H3 =>
 pUn .not r2 fun v4 =>
 pBool v4 fun b5 => br b5
 (pCell 5 true (cellsL x0) 0 fun v6 =>
 pCell 5 true (cellsL x1) 0 fun v7 =>
 pSplice 5 [.int .i64 0, .int .u64 0, .int .u64 0, .int .u64 0, .int .u64 0] 0 v6 fun c8 =>
 pSplice 5 [.int .i64 0, .int .u64 0, .int .u64 0, .int .u64 0, .int .u64 0] 0 v7 fun c9 =>
 pCell 5 true c8 0 fun v10 =>
 pCell 5 true c9 0 fun v11 =>
 some (.ret, [(.tuple #[v10, v11, (.int .i64 5)])], H3))
 (pCell 5 true (cellsL x1) 0 fun v12 =>
 pCallF R 8 [v12] H3 fun r13 H14 =>
 pUn .not r13 fun v15 =>
 pBool v15 fun b16 => br b16
 (pCell 5 true (cellsL x0) 0 fun v17 =>
 pCell 5 true (cellsL x1) 0 fun v18 =>
 pSplice 5 [.int .i64 0, .int .u64 0, .int .u64 0, .int .u64 0, .int .u64 0] 0 v17 fun c19 =>
 pSplice 5 [.int .i64 0, .int .u64 0, .int .u64 0, .int .u64 0, .int .u64 0] 0 v18 fun c20 =>
 pCell 5 true c19 0 fun v21 =>
 pCell 5 true c20 0 fun v22 =>
 some (.ret, [(.tuple #[v21, v22, (.int .i64 5)])], H14))
 (pCell 1 false (cellsL x0) 0 fun v23 =>
 pCell 1 false (cellsL x1) 0 fun v24 =>
 pBin Go.Proofs.Tryd.prog .neq 3 v23 v24 fun v25 =>
 pBool v25 fun b26 => br b26
 (pCell 5 true (cellsL x0) 0 fun v27 =>
 pCell 5 true (cellsL x1) 0 fun v28 =>
 pSplice 5 [.int .i64 0, .int .u64 0, .int .u64 0, .int .u64 0, .int .u64 0] 0 v27 fun c29 =>
 pSplice 5 [.int .i64 0, .int .u64 0, .int .u64 0, .int .u64 0, .int .u64 0] 0 v28 fun c30 =>
 pCell 5 true c29 0 fun v31 =>
 pCell 5 true c30 0 fun v32 =>
 some (.ret, [(.tuple #[v31, v32, (.int .i64 5)])], H14))
 (some (.next, [(.agg [.int .i64 0, .int .u64 0, .int .u64 0, .int .u64 0, .int .u64 0].toArray), (.agg [.int .i64 0, .int .u64 0, .int .u64 0, .int .u64 0, .int .u64 0].toArray)], H14))))) fun q33 l34 H35 => onCtl q33
 (pCell 5 true (cellsL x0) 0 fun v37 =>
 pCallF R 21 [v37] H35 fun r38 H39 =>
 pExtract r38 0 fun v40 =>
 pExtract r38 1 fun v41 =>
 pSplice 5 [.int .i64 0, .int .u64 0, .int .u64 0, .int .u64 0, .int .u64 0] 0 v40 fun c42 =>
 pBin Go.Proofs.Tryd.prog .neq 3 v41 (.int .i64 0) fun v43 =>
 pBool v43 fun b44 => br b44
 (pCell 5 true (cellsL x0) 0 fun v45 =>
 pCell 5 true (cellsL x1) 0 fun v46 =>
 pSplice 5 (cellsL ((l34.drop 0).getD 0 undef)) 0 v45 fun c47 =>
 pSplice 5 (cellsL ((l34.drop 0).getD 1 undef)) 0 v46 fun c48 =>
 pCell 5 true c47 0 fun v49 =>
 pCell 5 true c48 0 fun v50 =>
 some ((.tuple #[v49, v50, v41]), H39))
 (pCell 5 true (cellsL x1) 0 fun v51 =>
 pCallF R 21 [v51] H39 fun r52 H53 =>
 pExtract r52 0 fun v54 =>
 pExtract r52 1 fun v55 =>
 pSplice 5 [.int .i64 0, .int .u64 0, .int .u64 0, .int .u64 0, .int .u64 0] 0 v54 fun c56 =>
 pCell 5 true c42 0 fun v57 =>
 pCell 5 true c56 0 fun v58 =>
 pSplice 5 (cellsL ((l34.drop 0).getD 0 undef)) 0 v57 fun c59 =>
 pSplice 5 (cellsL ((l34.drop 0).getD 1 undef)) 0 v58 fun c60 =>
 pCell 5 true c59 0 fun v61 =>
 pCell 5 true c60 0 fun v62 =>
 some ((.tuple #[v61, v62, v55]), H53)))
 (fun i36 => none)
 (some ((l34.headD undef), H35))
theorem e36 (R : Handler) (x0 x1 : Value) (H0 : Hp) : execF Go.Proofs.Tryd.prog orc R 36 Go.Proofs.Tryd.f36 [x0, x1] H0 = m36 R x0 x1 H0 := by kernel_rfl
noncomputable def m37 (R : Handler) (x0 x1 : Value) (H0 : Hp) : Option (Value × Hp) :=
 pCell 1 false (cellsL x0) 0 fun v1 =>
 pCell 1 false (cellsL x0) 1 fun v2 =>
 pCell 1 false (cellsL x1) 1 fun v3 =>
 pBin Go.Proofs.Tryd.prog .and 22 v2 v3 fun v4 =>
 pCell 1 false (cellsL x0) 2 fun v5 =>
 pCell 1 false (cellsL x1) 2 fun v6 =>
 pBin Go.Proofs.Tryd.prog .and 22 v5 v6 fun v7 =>
 pCell 1 false (cellsL x0) 3 fun v8 =>
 pCell 1 false (cellsL x0) 4 fun v9 =>
 pBuild Go.Proofs.Tryd.prog 24 [(0, v1), (1, v4), (2, v7), (3, v8), (4, v9)] fun v10 =>
 pSplice 5 [.int .i64 0, .int .u64 0, .int .u64 0, .int .u64 0, .int .u64 0] 0 v10 fun c11 =>
 pCell 1 false (cellsL x1) 3 fun v12 =>
 pCell 1 false c11 3 fun v13 =>
 pBin Go.Proofs.Tryd.prog .lss 22 v12 v13 fun v14 =>
 pBool v14 fun b15 => br b15
 (pCell 1 false (cellsL x1) 3 fun v16 =>
 pSplice 1 c11 3 v16 fun c17 =>
 pCell 1 false (cellsL x1) 4 fun v18 =>
 pCell 1 false c17 4 fun v19 =>
 pBin Go.Proofs.Tryd.prog .gtr 22 v18 v19 fun v20 =>
 pBool v20 fun b21 => br b21
 (pCell 1 false (cellsL x1) 4 fun v22 =>
 pSplice 1 c17 4 v22 fun c23 =>
 pCell 5 true c23 0 fun v24 =>
 pSplice 5 [.int .i64 0, .int .u64 0, .int .u64 0, .int .u64 0, .int .u64 0] 0 v24 fun c25 =>
 pCell 5 true c25 0 fun v26 =>
 some (v26, H0))
 (pCell 5 true c17 0 fun v27 =>
 pSplice 5 [.int .i64 0, .int .u64 0, .int .u64 0, .int .u64 0, .int .u64 0] 0 v27 fun c28 =>
 pCell 5 true c28 0 fun v29 =>
 some (v29, H0)))
 (pCell 1 false (cellsL x1) 4 fun v30 =>
 pCell 1 false c11 4 fun v31 =>
 pBin Go.Proofs.Tryd.prog .gtr 22 v30 v31 fun v32 =>
 pBool v32 fun b33 => br b33
 (pCell 1 false (cellsL x1) 4 fun v34 =>
 pSplice 1 c11 4 v34 fun c35 =>
 pCell 5 true c35 0 fun v36 =>
 pSplice 5 [.int .i64 0, .int .u64 0, .int .u64 0, .int .u64 0, .int .u64 0] 0 v36 fun c37 =>
 pCell 5 true c37 0 fun v38 =>
 some (v38, H0))
 (pCell 5 true c11 0 fun v39 =>
 pSplice 5 [.int .i64 0, .int .u64 0, .int .u64 0, .int .u64 0, .int .u64 0] 0 v39 fun c40 =>
 pCell 5 true c40 0 fun v41 =>
 some (v41, H0)))
theorem e37 (R : Handler) (x0 x1 : Value) (H0 : Hp) : execF Go.Proofs.Tryd.prog orc R 37 Go.Proofs.Tryd.f37 [x0, x1] H0 = m37 R x0 x1 H0 := by kernel_rfl
noncomputable def m42 (R : Handler) (x0 x1 : Value) (H0 : Hp) : Option (Value × Hp) :=
 pBin Go.Proofs.Tryd.prog .lss 3 x0 (.int .i64 1) fun v1 =>
 pBool v1 fun b2 => br b2
 (some ((.int .u64 0), H0))
 (pBin Go.Proofs.Tryd.prog .geq 3 x0 (.int .i64 64) fun v3 =>
 pBool v3 fun b4 => br b4
 (some (x1, H0))
 (pConvInt .u64 x0 fun v5 =>
 pBin Go.Proofs.Tryd.prog .shl 22 (.int .u64 1) v5 fun v6 =>
 pBin Go.Proofs.Tryd.prog .sub 22 v6 (.int .u64 1) fun v7 =>
 pBin Go.Proofs.Tryd.prog .and 22 x1 v7 fun v8 =>
 some (v8, H0)))
theorem e42 (R : Handler) (x0 x1 : Value) (H0 : Hp) : execF Go.Proofs.Tryd.prog orc R 42 Go.Proofs.Tryd.f42 [x0, x1] H0 = m42 R x0 x1 H0 := by kernel_rfl
noncomputable def m43 (R : Handler) (x0 : Value) (H0 : Hp) : Option (Value × Hp) :=
 pMM true [x0, (.int .i64 1)] fun v1 =>
 some (v1, H0)
theorem e43 (R : Handler) (x0 : Value) (H0 : Hp) : execF Go.Proofs.Tryd.prog orc R 43 Go.Proofs.Tryd.f43 [x0] H0 = m43 R x0 H0 := by kernel_rfl
noncomputable def m44 (R : Handler) (x0 x1 : Value) (H0 : Hp) : Option (Value × Hp) :=
 pCell 1 false (cellsL x0) 1 fun v1 =>
 pCell 1 false (cellsL x0) 2 fun v2 =>
 pBin Go.Proofs.Tryd.prog .and 22 v1 v2 fun v3 =>
 pBin Go.Proofs.Tryd.prog .neq 22 v3 (.int .u64 0) fun v4 =>
 pBool v4 fun b5 => br b5
 (some ((.tuple #[(.int .u64 0), (.bool false)]), H0))
 (pCell 5 true (cellsL x0) 0 fun v6 =>
 pCallF R 27 [v6, x1] H0 fun r7 H8 =>
 pBool r7 fun b9 => br b9
 (some ((.tuple #[x1, (.bool true)]), H8))
 (pCell 1 false (cellsL x0) 2 fun v10 =>
 pBin Go.Proofs.Tryd.prog .and 22 x1 v10 fun v11 =>
 pUn .xor x1 fun v12 =>
 pCell 1 false (cellsL x0) 1 fun v13 =>
 pBin Go.Proofs.Tryd.prog .and 22 v12 v13 fun v14 =>
 pBin Go.Proofs.Tryd.prog .or 22 v11 v14 fun v15 =>
 pCallF R 63 [v15] H8 fun r16 H17 =>
 pBin Go.Proofs.Tryd.prog .sub 3 (.int .i64 63) r16 fun v18 =>
 pCell 1 false (cellsL x0) 1 fun v19 =>
 pConvInt .u64 v18 fun v20 =>
 pBin Go.Proofs.Tryd.prog .shr 22 v19 v20 fun v21 =>
 pBin Go.Proofs.Tryd.prog .and 22 v21 (.int .u64 1) fun v22 =>
 pBin Go.Proofs.Tryd.prog .eql 22 v22 (.int .u64 1) fun v23 =>
 pBool v23 fun b24 => br b24
 (pConvInt .u64 v18 fun v25 =>
 pBin Go.Proofs.Tryd.prog .shr 22 x1 v25 fun v26 =>
 pConvInt .u64 v18 fun v27 =>
 pBin Go.Proofs.Tryd.prog .shl 22 v26 v27 fun v28 =>
 pConvInt .u64 v18 fun v29 =>
 pBin Go.Proofs.Tryd.prog .shl 22 (.int .u64 1) v29 fun v30 =>
 pBin Go.Proofs.Tryd.prog .or 22 v28 v30 fun v31 =>
 pCell 1 false (cellsL x0) 1 fun v32 =>
 pConvInt .u64 v18 fun v33 =>
 pBin Go.Proofs.Tryd.prog .shl 22 (.int .u64 1) v33 fun v34 =>
 pBin Go.Proofs.Tryd.prog .sub 22 v34 (.int .u64 1) fun v35 =>
 pBin Go.Proofs.Tryd.prog .and 22 v32 v35 fun v36 =>
 pBin Go.Proofs.Tryd.prog .or 22 v31 v36 fun v37 =>
 some ((.tuple #[v37, (.bool true)]), H17))
 (pBin Go.Proofs.Tryd.prog .add 3 v18 (.int .i64 1) fun v38 =>
 bindO (loopD (fun l39 H40 =>
 pCell 1 false (cellsL x0) 0 fun v41 =>
 pCallF R 43 [v41] H40 fun r42 H43 =>
 pBin Go.Proofs.Tryd.prog .lss 3 (l39.getD 0 undef) r42 fun v44 =>
 pBool v44 fun b45 => br b45
 (bindO (
 pConvInt .u64 (l39.getD 0 undef) fun v46 =>
 pBin Go.Proofs.Tryd.prog .shr 22 x1 v46 fun v47 =>
 pBin Go.Proofs.Tryd.prog .and 22 v47 (.int .u64 1) fun v48 =>
 pBin Go.Proofs.Tryd.prog .eql 22 v48 (.int .u64 0) fun v49 =>
 pBool v49 fun b50 => br b50
 (pCell 1 false (cellsL x0) 2 fun v51 =>
 pConvInt .u64 (l39.getD 0 undef) fun v52 =>
 pBin Go.Proofs.Tryd.prog .shr 22 v51 v52 fun v53 =>
 pBin Go.Proofs.Tryd.prog .and 22 v53 (.int .u64 1) fun v54 =>
 pBin Go.Proofs.Tryd.prog .eql 22 v54 (.int .u64 0) fun v55 =>
 some (.next, [v55], H43))
 (some (.next, [(.bool false)], H43))) fun q56 l57 H58 => onCtl q56
 (pBool (l57.getD 0 undef) fun b60 => br b60
 (pConvInt .u64 (l39.getD 0 undef) fun v61 =>
 pBin Go.Proofs.Tryd.prog .shr 22 x1 v61 fun v62 =>
 pConvInt .u64 (l39.getD 0 undef) fun v63 =>
 pBin Go.Proofs.Tryd.prog .shl 22 v62 v63 fun v64 =>
 pConvInt .u64 (l39.getD 0 undef) fun v65 =>
 pBin Go.Proofs.Tryd.prog .shl 22 (.int .u64 1) v65 fun v66 =>
 pBin Go.Proofs.Tryd.prog .or 22 v64 v66 fun v67 =>
 pCell 1 false (cellsL x0) 1 fun v68 =>
 pConvInt .u64 (l39.getD 0 undef) fun v69 =>
 pBin Go.Proofs.Tryd.prog .shl 22 (.int .u64 1) v69 fun v70 =>
 pBin Go.Proofs.Tryd.prog .sub 22 v70 (.int .u64 1) fun v71 =>
 pBin Go.Proofs.Tryd.prog .and 22 v68 v71 fun v72 =>
 pBin Go.Proofs.Tryd.prog .or 22 v67 v72 fun v73 =>
 some (.ret, [(.tuple #[v73, (.bool true)])], H58))
 (pBin Go.Proofs.Tryd.prog .add 3 (l39.getD 0 undef) (.int .i64 1) fun v74 =>
 some (.next, [v74], H58)))
 (fun i59 => onExit i59 1 (
 pBin Go.Proofs.Tryd.prog .add 3 (l39.getD 0 undef) (.int .i64 1) fun v75 =>
 some (.next, [v75], H58)) (
 some (.exit i59, [(l39.getD 0 undef)], H58)))
 (some (.ret, [(l57.headD undef)], H58)))
 (some (.exit 0, [(l39.getD 0 undef)], H43))) [v38] H17) fun q76 l77 H78 => onCtl q76 none
 (fun i79 => onExit i79 0 (
 some ((.tuple #[(.int .u64 0), (.bool false)]), H78)) (
 none))
 (some ((l77.headD undef), H78)))))
theorem e44 (R : Handler) (x0 x1 : Value) (H0 : Hp) : execF Go.Proofs.Tryd.prog orc R 44 Go.Proofs.Tryd.f44 [x0, x1] H0 = m44 R x0 x1 H0 := by kernel_rfl
noncomputable def m45 (R : Handler) (x0 x1 : Value) (H0 : Hp) : Option (Value × Hp) :=
 pCell 1 false (cellsL x0) 0 fun v1 =>
 pCallF R 26 [v1] H0 fun r2 H3 =>
 pCell 1 false (cellsL x0) 0 fun v4 =>
 pCell 1 false (cellsL x0) 2 fun v5 =>
 pCell 1 false (cellsL x0) 1 fun v6 =>
 pBuild Go.Proofs.Tryd.prog 24 [(0, v4), (1, v5), (2, v6)] fun v7 =>
 pBin Go.Proofs.Tryd.prog .andNot 22 r2 x1 fun v8 =>
 pCallF R 44 [v7, v8] H3 fun r9 H10 =>
 pExtract r9 0 fun v11 =>
 pExtract r9 1 fun v12 =>
 pBin Go.Proofs.Tryd.prog .andNot 22 r2 v11 fun v13 =>
 some ((.tuple #[v13, v12]), H10)
theorem e45 (R : Handler) (x0 x1 : Value) (H0 : Hp) : execF Go.Proofs.Tryd.prog orc R 45 Go.Proofs.Tryd.f45 [x0, x1] H0 = m45 R x0 x1 H0 := by kernel_rfl
noncomputable def m46 (R : Handler) (x0 x1 x2 : Value) (H0 : Hp) : Option (Value × Hp) :=
 pCell 5 true (cellsL x0) 0 fun v1 =>
 pCallF R 44 [v1, x1] H0 fun r2 H3 =>
 pExtract r2 0 fun v4 =>
 pExtract r2 1 fun v5 =>
 pBool v5 fun b6 => br b6
 (pBin Go.Proofs.Tryd.prog .leq 22 v4 x2 fun v7 =>
 some (v7, H3))
 (some ((.bool false), H3))
theorem e46 (R : Handler) (x0 x1 x2 : Value) (H0 : Hp) : execF Go.Proofs.Tryd.prog orc R 46 Go.Proofs.Tryd.f46 [x0, x1, x2] H0 = m46 R x0 x1 x2 H0 := by kernel_rfl
noncomputable def m47 (R : Handler) (x0 x1 : Value) (H0 : Hp) : Option (Value × Hp) :=
 pConvInt .u64 x1 fun v1 =>
 pBin Go.Proofs.Tryd.prog .shr 22 x0 v1 fun v2 =>
 pBin Go.Proofs.Tryd.prog .and 22 v2 (.int .u64 1) fun v3 =>
 pBin Go.Proofs.Tryd.prog .eql 22 v3 (.int .u64 1) fun v4 =>
 some (v4, H0)
theorem e47 (R : Handler) (x0 x1 : Value) (H0 : Hp) : execF Go.Proofs.Tryd.prog orc R 47 Go.Proofs.Tryd.f47 [x0, x1] H0 = m47 R x0 x1 H0 := by kernel_rfl
noncomputable def m48 (R : Handler) (x0 : Value) (H0 : Hp) : Option (Value × Hp) :=
 pBin Go.Proofs.Tryd.prog .geq 3 x0 (.int .i64 64) fun v1 =>
 pBool v1 fun b2 => br b2
 (some ((.int .u64 18446744073709551615), H0))
 (pConvInt .u64 x0 fun v3 =>
 pBin Go.Proofs.Tryd.prog .shl 22 (.int .u64 1) v3 fun v4 =>
 pBin Go.Proofs.Tryd.prog .sub 22 v4 (.int .u64 1) fun v5 =>
 some (v5, H0))
theorem e48 (R : Handler) (x0 : Value) (H0 : Hp) : execF Go.Proofs.Tryd.prog orc R 48 Go.Proofs.Tryd.f48 [x0] H0 = m48 R x0 H0 := by kernel_rfl
noncomputable def m63 (R : Handler) (x0 : Value) (H0 : Hp) : Option (Value × Hp) :=
 pCallF R 80 [x0] H0 fun r1 H2 =>
 pBin Go.Proofs.Tryd.prog .sub 3 (.int .i64 64) r1 fun v3 =>
 some (v3, H2)
theorem e63 (R : Handler) (x0 : Value) (H0 : Hp) : execF Go.Proofs.Tryd.prog orc R 63 Go.Proofs.Tryd.f63 [x0] H0 = m63 R x0 H0 := by kernel_rfl
noncomputable def m80 (R : Handler) (x0 : Value) (H0 : Hp) : Option (Value × Hp) :=
 bindO (
 pBin Go.Proofs.Tryd.prog .geq 22 x0 (.int .u64 4294967296) fun v1 =>
 pBool v1 fun b2 => br b2
 (pBin Go.Proofs.Tryd.prog .shr 22 x0 (.int .u64 32) fun v3 =>
 some (.next, [v3, (.int .i64 32)], H0))
 (some (.next, [x0, (.int .i64 0)], H0))) fun q4 l5 H6 => onCtl q4
 (pBin Go.Proofs.Tryd.prog .geq 22 (l5.getD 0 undef) (.int .u64 65536) fun v8 =>
 pBool v8 fun b9 => br b9
 (pBin Go.Proofs.Tryd.prog .shr 22 (l5.getD 0 undef) (.int .u64 16) fun v10 =>
 pBin Go.Proofs.Tryd.prog .add 3 (l5.getD 1 undef) (.int .i64 16) fun v11 =>
 pBin Go.Proofs.Tryd.prog .geq 22 v10 (.int .u64 256) fun v12 =>
 pBool v12 fun b13 => br b13
 (pBin Go.Proofs.Tryd.prog .shr 22 v10 (.int .u64 8) fun v14 =>
 pBin Go.Proofs.Tryd.prog .add 3 v11 (.int .i64 8) fun v15 =>
 pConvInt .u8 v14 fun v16 =>
 pAtStr (.string ⟨#[0, 1, 2, 2, 3, 3, 3, 3, 4, 4, 4, 4, 4, 4, 4, 4, 5, 5, 5, 5, 5, 5, 5, 5, 5, 5, 5, 5, 5, 5, 5, 5, 6, 6, 6, 6, 6, 6, 6, 6, 6, 6, 6, 6, 6, 6, 6, 6, 6, 6, 6, 6, 6, 6, 6, 6, 6, 6, 6, 6, 6, 6, 6, 6, 7, 7, 7, 7, 7, 7, 7, 7, 7, 7, 7, 7, 7, 7, 7, 7, 7, 7, 7, 7, 7, 7, 7, 7, 7, 7, 7, 7, 7, 7, 7, 7, 7, 7, 7, 7, 7, 7, 7, 7, 7, 7, 7, 7, 7, 7, 7, 7, 7, 7, 7, 7, 7, 7, 7, 7, 7, 7, 7, 7, 7, 7, 7, 7, 8, 8, 8, 8, 8, 8, 8, 8, 8, 8, 8, 8, 8, 8, 8, 8, 8, 8, 8, 8, 8, 8, 8, 8, 8, 8, 8, 8, 8, 8, 8, 8, 8, 8, 8, 8, 8, 8, 8, 8, 8, 8, 8, 8, 8, 8, 8, 8, 8, 8, 8, 8, 8, 8, 8, 8, 8, 8, 8, 8, 8, 8, 8, 8, 8, 8, 8, 8, 8, 8, 8, 8, 8, 8, 8, 8, 8, 8, 8, 8, 8, 8, 8, 8, 8, 8, 8, 8, 8, 8, 8, 8, 8, 8, 8, 8, 8, 8, 8, 8, 8, 8, 8, 8, 8, 8, 8, 8, 8, 8, 8, 8, 8, 8, 8, 8, 8, 8, 8, 8, 8, 8, 8, 8, 8, 8, 8, 8]⟩) v16 fun v17 =>
 pConvInt .i64 v17 fun v18 =>
 pBin Go.Proofs.Tryd.prog .add 3 v15 v18 fun v19 =>
 some (v19, H6))
 (pConvInt .u8 v10 fun v20 =>
 pAtStr (.string ⟨#[0, 1, 2, 2, 3, 3, 3, 3, 4, 4, 4, 4, 4, 4, 4, 4, 5, 5, 5, 5, 5, 5, 5, 5, 5, 5, 5, 5, 5, 5, 5, 5, 6, 6, 6, 6, 6, 6, 6, 6, 6, 6, 6, 6, 6, 6, 6, 6, 6, 6, 6, 6, 6, 6, 6, 6, 6, 6, 6, 6, 6, 6, 6, 6, 7, 7, 7, 7, 7, 7, 7, 7, 7, 7, 7, 7, 7, 7, 7, 7, 7, 7, 7, 7, 7, 7, 7, 7, 7, 7, 7, 7, 7, 7, 7, 7, 7, 7, 7, 7, 7, 7, 7, 7, 7, 7, 7, 7, 7, 7, 7, 7, 7, 7, 7, 7, 7, 7, 7, 7, 7, 7, 7, 7, 7, 7, 7, 7, 8, 8, 8, 8, 8, 8, 8, 8, 8, 8, 8, 8, 8, 8, 8, 8, 8, 8, 8, 8, 8, 8, 8, 8, 8, 8, 8, 8, 8, 8, 8, 8, 8, 8, 8, 8, 8, 8, 8, 8, 8, 8, 8, 8, 8, 8, 8, 8, 8, 8, 8, 8, 8, 8, 8, 8, 8, 8, 8, 8, 8, 8, 8, 8, 8, 8, 8, 8, 8, 8, 8, 8, 8, 8, 8, 8, 8, 8, 8, 8, 8, 8, 8, 8, 8, 8, 8, 8, 8, 8, 8, 8, 8, 8, 8, 8, 8, 8, 8, 8, 8, 8, 8, 8, 8, 8, 8, 8, 8, 8, 8, 8, 8, 8, 8, 8, 8, 8, 8, 8, 8, 8, 8, 8, 8, 8, 8, 8]⟩) v20 fun v21 =>
 pConvInt .i64 v21 fun v22 =>
 pBin Go.Proofs.Tryd.prog .add 3 v11 v22 fun v23 =>
 some (v23, H6)))
 (pBin Go.Proofs.Tryd.prog .geq 22 (l5.getD 0 undef) (.int .u64 256) fun v24 =>
 pBool v24 fun b25 => br b25
 (pBin Go.Proofs.Tryd.prog .shr 22 (l5.getD 0 undef) (.int .u64 8) fun v26 =>
 pBin Go.Proofs.Tryd.prog .add 3 (l5.getD 1 undef) (.int .i64 8) fun v27 =>
 pConvInt .u8 v26 fun v28 =>
 pAtStr (.string ⟨#[0, 1, 2, 2, 3, 3, 3, 3, 4, 4, 4, 4, 4, 4, 4, 4, 5, 5, 5, 5, 5, 5, 5, 5, 5, 5, 5, 5, 5, 5, 5, 5, 6, 6, 6, 6, 6, 6, 6, 6, 6, 6, 6, 6, 6, 6, 6, 6, 6, 6, 6, 6, 6, 6, 6, 6, 6, 6, 6, 6, 6, 6, 6, 6, 7, 7, 7, 7, 7, 7, 7, 7, 7, 7, 7, 7, 7, 7, 7, 7, 7, 7, 7, 7, 7, 7, 7, 7, 7, 7, 7, 7, 7, 7, 7, 7, 7, 7, 7, 7, 7, 7, 7, 7, 7, 7, 7, 7, 7, 7, 7, 7, 7, 7, 7, 7, 7, 7, 7, 7, 7, 7, 7, 7, 7, 7, 7, 7, 8, 8, 8, 8, 8, 8, 8, 8, 8, 8, 8, 8, 8, 8, 8, 8, 8, 8, 8, 8, 8, 8, 8, 8, 8, 8, 8, 8, 8, 8, 8, 8, 8, 8, 8, 8, 8, 8, 8, 8, 8, 8, 8, 8, 8, 8, 8, 8, 8, 8, 8, 8, 8, 8, 8, 8, 8, 8, 8, 8, 8, 8, 8, 8, 8, 8, 8, 8, 8, 8, 8, 8, 8, 8, 8, 8, 8, 8, 8, 8, 8, 8, 8, 8, 8, 8, 8, 8, 8, 8, 8, 8, 8, 8, 8, 8, 8, 8, 8, 8, 8, 8, 8, 8, 8, 8, 8, 8, 8, 8, 8, 8, 8, 8, 8, 8, 8, 8, 8, 8, 8, 8, 8, 8, 8, 8, 8, 8]⟩) v28 fun v29 =>
 pConvInt .i64 v29 fun v30 =>
 pBin Go.Proofs.Tryd.prog .add 3 v27 v30 fun v31 =>
 some (v31, H6))
 (pConvInt .u8 (l5.getD 0 undef) fun v32 =>
 pAtStr (.string ⟨#[0, 1, 2, 2, 3, 3, 3, 3, 4, 4, 4, 4, 4, 4, 4, 4, 5, 5, 5, 5, 5, 5, 5, 5, 5, 5, 5, 5, 5, 5, 5, 5, 6, 6, 6, 6, 6, 6, 6, 6, 6, 6, 6, 6, 6, 6, 6, 6, 6, 6, 6, 6, 6, 6, 6, 6, 6, 6, 6, 6, 6, 6, 6, 6, 7, 7, 7, 7, 7, 7, 7, 7, 7, 7, 7, 7, 7, 7, 7, 7, 7, 7, 7, 7, 7, 7, 7, 7, 7, 7, 7, 7, 7, 7, 7, 7, 7, 7, 7, 7, 7, 7, 7, 7, 7, 7, 7, 7, 7, 7, 7, 7, 7, 7, 7, 7, 7, 7, 7, 7, 7, 7, 7, 7, 7, 7, 7, 7, 8, 8, 8, 8, 8, 8, 8, 8, 8, 8, 8, 8, 8, 8, 8, 8, 8, 8, 8, 8, 8, 8, 8, 8, 8, 8, 8, 8, 8, 8, 8, 8, 8, 8, 8, 8, 8, 8, 8, 8, 8, 8, 8, 8, 8, 8, 8, 8, 8, 8, 8, 8, 8, 8, 8, 8, 8, 8, 8, 8, 8, 8, 8, 8, 8, 8, 8, 8, 8, 8, 8, 8, 8, 8, 8, 8, 8, 8, 8, 8, 8, 8, 8, 8, 8, 8, 8, 8, 8, 8, 8, 8, 8, 8, 8, 8, 8, 8, 8, 8, 8, 8, 8, 8, 8, 8, 8, 8, 8, 8, 8, 8, 8, 8, 8, 8, 8, 8, 8, 8, 8, 8, 8, 8, 8, 8, 8, 8]⟩) v32 fun v33 =>
 pConvInt .i64 v33 fun v34 =>
 pBin Go.Proofs.Tryd.prog .add 3 (l5.getD 1 undef) v34 fun v35 =>
 some (v35, H6))))
 (fun i7 => none)
 (some ((l5.headD undef), H6))
theorem e80 (R : Handler) (x0 : Value) (H0 : Hp) : execF Go.Proofs.Tryd.prog orc R 80 Go.Proofs.Tryd.f80 [x0] H0 = m80 R x0 H0 := by kernel_rfl
theorem r3 (E : FuncId → Option (List Value → Hp → Option (Value × Hp))) (h : E 3 = none) (x0 x1 : Value) (H0 : Hp) : run Go.Proofs.Tryd.prog orc E 3 [x0, x1] H0 = m3 (run Go.Proofs.Tryd.prog orc E) x0 x1 H0 := (run_fn Go.Proofs.Tryd.func3 (by kernel_rfl) (by kernel_rfl) h _ _).trans (e3 _ x0 x1 H0)
theorem r4 (E : FuncId → Option (List Value → Hp → Option (Value × Hp))) (h : E 4 = none) (x0 x1 x2 x3 : Value) (H0 : Hp) : run Go.Proofs.Tryd.prog orc E 4 [x0, x1, x2, x3] H0 = m4 (run Go.Proofs.Tryd.prog orc E) x0 x1 x2 x3 H0 := (run_fn Go.Proofs.Tryd.func4 (by kernel_rfl) (by kernel_rfl) h _ _).trans (e4 _ x0 x1 x2 x3 H0)
theorem r5 (E : FuncId → Option (List Value → Hp → Option (Value × Hp))) (h : E 5 = none) (x0 x1 x2 x3 : Value) (H0 : Hp) : run Go.Proofs.Tryd.prog orc E 5 [x0, x1, x2, x3] H0 = m5 (run Go.Proofs.Tryd.prog orc E) x0 x1 x2 x3 H0 := (run_fn Go.Proofs.Tryd.func5 (by kernel_rfl) (by kernel_rfl) h _ _).trans (e5 _ x0 x1 x2 x3 H0)
theorem r7 (E : FuncId → Option (List Value → Hp → Option (Value × Hp))) (h : E 7 = none) (x0 : Value) (H0 : Hp) : run Go.Proofs.Tryd.prog orc E 7 [x0] H0 = m7 (run Go.Proofs.Tryd.prog orc E) x0 H0 := (run_fn Go.Proofs.Tryd.func7 (by kernel_rfl) (by kernel_rfl) h _ _).trans (e7 _ x0 H0)
theorem r8 (E : FuncId → Option (List Value → Hp → Option (Value × Hp))) (h : E 8 = none) (x0 : Value) (H0 : Hp) : run Go.Proofs.Tryd.prog orc E 8 [x0] H0 = m8 (run Go.Proofs.Tryd.prog orc E) x0 H0 := (run_fn Go.Proofs.Tryd.func8 (by kernel_rfl) (by kernel_rfl) h _ _).trans (e8 _ x0 H0)
theorem r9 (E : FuncId → Option (List Value → Hp → Option (Value × Hp))) (h : E 9 = none) (x0 x1 : Value) (H0 : Hp) : run Go.Proofs.Tryd.prog orc E 9 [x0, x1] H0 = m9 (run Go.Proofs.Tryd.prog orc E) x0 x1 H0 := (run_fn Go.Proofs.Tryd.func9 (by kernel_rfl) (by kernel_rfl) h _ _).trans (e9 _ x0 x1 H0)
theorem r10 (E : FuncId → Option (List Value → Hp → Option (Value × Hp))) (h : E 10 = none) (x0 x1 : Value) (H0 : Hp) : run Go.Proofs.Tryd.prog orc E 10 [x0, x1] H0 = m10 (run Go.Proofs.Tryd.prog orc E) x0 x1 H0 := (run_fn Go.Proofs.Tryd.func10 (by kernel_rfl) (by kernel_rfl) h _ _).trans (e10 _ x0 x1 H0)
theorem r11 (E : FuncId → Option (List Value → Hp → Option (Value × Hp))) (h : E 11 = none) (x0 : Value) (H0 : Hp) : run Go.Proofs.Tryd.prog orc E 11 [x0] H0 = m11 (run Go.Proofs.Tryd.prog orc E) x0 H0 := (run_fn Go.Proofs.Tryd.func11 (by kernel_rfl) (by kernel_rfl) h _ _).trans (e11 _ x0 H0)
theorem r12 (E : FuncId → Option (List Value → Hp → Option (Value × Hp))) (h : E 12 = none) (x0 x1 : Value) (H0 : Hp) : run Go.Proofs.Tryd.prog orc E 12 [x0, x1] H0 = m12 (run Go.Proofs.Tryd.prog orc E) x0 x1 H0 := (run_fn Go.Proofs.Tryd.func12 (by kernel_rfl) (by kernel_rfl) h _ _).trans (e12 _ x0 x1 H0)
theorem r13 (E : FuncId → Option (List Value → Hp → Option (Value × Hp))) (h : E 13 = none) (x0 : Value) (H0 : Hp) : run Go.Proofs.Tryd.prog orc E 13 [x0] H0 = m13 (run Go.Proofs.Tryd.prog orc E) x0 H0 := (run_fn Go.Proofs.Tryd.func13 (by kernel_rfl) (by kernel_rfl) h _ _).trans (e13 _ x0 H0)
theorem r14 (E : FuncId → Option (List Value → Hp → Option (Value × Hp))) (h : E 14 = none) (x0 x1 : Value) (H0 : Hp) : run Go.Proofs.Tryd.prog orc E 14 [x0, x1] H0 = m14 (run Go.Proofs.Tryd.prog orc E) x0 x1 H0 := (run_fn Go.Proofs.Tryd.func14 (by kernel_rfl) (by kernel_rfl) h _ _).trans (e14 _ x0 x1 H0)
theorem r15 (E : FuncId → Option (List Value → Hp → Option (Value × Hp))) (h : E 15 = none) (x0 : Value) (H0 : Hp) : run Go.Proofs.Tryd.prog orc E 15 [x0] H0 = m15 (run Go.Proofs.Tryd.prog orc E) x0 H0 := (run_fn Go.Proofs.Tryd.func15 (by kernel_rfl) (by kernel_rfl) h _ _).trans (e15 _ x0 H0)
theorem r16 (E : FuncId → Option (List Value → Hp → Option (Value × Hp))) (h : E 16 = none) (x0 : Value) (H0 : Hp) : run Go.Proofs.Tryd.prog orc E 16 [x0] H0 = m16 (run Go.Proofs.Tryd.prog orc E) x0 H0 := (run_fn Go.Proofs.Tryd.func16 (by kernel_rfl) (by kernel_rfl) h _ _).trans (e16 _ x0 H0)
theorem r17 (E : FuncId → Option (List Value → Hp → Option (Value × Hp))) (h : E 17 = none) (x0 x1 : Value) (H0 : Hp) : run Go.Proofs.Tryd.prog orc E 17 [x0, x1] H0 = m17 (run Go.Proofs.Tryd.prog orc E) x0 x1 H0 := (run_fn Go.Proofs.Tryd.func17 (by kernel_rfl) (by kernel_rfl) h _ _).trans (e17 _ x0 x1 H0)
theorem r18 (E : FuncId → Option (List Value → Hp → Option (Value × Hp))) (h : E 18 = none) (x0 x1 : Value) (H0 : Hp) : run Go.Proofs.Tryd.prog orc E 18 [x0, x1] H0 = m18 (run Go.Proofs.Tryd.prog orc E) x0 x1 H0 := (run_fn Go.Proofs.Tryd.func18 (by kernel_rfl) (by kernel_rfl) h _ _).trans (e18 _ x0 x1 H0)
theorem r19 (E : FuncId → Option (List Value → Hp → Option (Value × Hp))) (h : E 19 = none) (x0 : Value) (H0 : Hp) : run Go.Proofs.Tryd.prog orc E 19 [x0] H0 = m19 (run Go.Proofs.Tryd.prog orc E) x0 H0 := (run_fn Go.Proofs.Tryd.func19 (by kernel_rfl) (by kernel_rfl) h _ _).trans (e19 _ x0 H0)
theorem r20 (E : FuncId → Option (List Value → Hp → Option (Value × Hp))) (h : E 20 = none) (x0 : Value) (H0 : Hp) : run Go.Proofs.Tryd.prog orc E 20 [x0] H0 = m20 (run Go.Proofs.Tryd.prog orc E) x0 H0 := (run_fn Go.Proofs.Tryd.func20 (by kernel_rfl) (by kernel_rfl) h _ _).trans (e20 _ x0 H0)
theorem r22 (E : FuncId → Option (List Value → Hp → Option (Value × Hp))) (h : E 22 = none) (x0 x1 : Value) (H0 : Hp) : run Go.Proofs.Tryd.prog orc E 22 [x0, x1] H0 = m22 (run Go.Proofs.Tryd.prog orc E) x0 x1 H0 := (run_fn Go.Proofs.Tryd.func22 (by kernel_rfl) (by kernel_rfl) h _ _).trans (e22 _ x0 x1 H0)
theorem r23 (E : FuncId → Option (List Value → Hp → Option (Value × Hp))) (h : E 23 = none) (x0 x1 : Value) (H0 : Hp) : run Go.Proofs.Tryd.prog orc E 23 [x0, x1] H0 = m23 (run Go.Proofs.Tryd.prog orc E) x0 x1 H0 := (run_fn Go.Proofs.Tryd.func23 (by kernel_rfl) (by kernel_rfl) h _ _).trans (e23 _ x0 x1 H0)
theorem r25 (E : FuncId → Option (List Value → Hp → Option (Value × Hp))) (h : E 25 = none) (x0 x1 : Value) (H0 : Hp) : run Go.Proofs.Tryd.prog orc E 25 [x0, x1] H0 = m25 (run Go.Proofs.Tryd.prog orc E) x0 x1 H0 := (run_fn Go.Proofs.Tryd.func25 (by kernel_rfl) (by kernel_rfl) h _ _).trans (e25 _ x0 x1 H0)
theorem r26 (E : FuncId → Option (List Value → Hp → Option (Value × Hp))) (h : E 26 = none) (x0 : Value) (H0 : Hp) : run Go.Proofs.Tryd.prog orc E 26 [x0] H0 = m26 (run Go.Proofs.Tryd.prog orc E) x0 H0 := (run_fn Go.Proofs.Tryd.func26 (by kernel_rfl) (by kernel_rfl) h _ _).trans (e26 _ x0 H0)
theorem r27 (E : FuncId → Option (List Value → Hp → Option (Value × Hp))) (h : E 27 = none) (x0 x1 : Value) (H0 : Hp) : run Go.Proofs.Tryd.prog orc E 27 [x0, x1] H0 = m27 (run Go.Proofs.Tryd.prog orc E) x0 x1 H0 := (run_fn Go.Proofs.Tryd.func27 (by kernel_rfl) (by kernel_rfl) h _ _).trans (e27 _ x0 x1 H0)
theorem r28 (E : FuncId → Option (List Value → Hp → Option (Value × Hp))) (h : E 28 = none) (x0 : Value) (H0 : Hp) : run Go.Proofs.Tryd.prog orc E 28 [x0] H0 = m28 (run Go.Proofs.Tryd.prog orc E) x0 H0 := (run_fn Go.Proofs.Tryd.func28 (by kernel_rfl) (by kernel_rfl) h _ _).trans (e28 _ x0 H0)
theorem r29 (E : FuncId → Option (List Value → Hp → Option (Value × Hp))) (h : E 29 = none) (x0 x1 : Value) (H0 : Hp) : run Go.Proofs.Tryd.prog orc E 29 [x0, x1] H0 = m29 (run Go.Proofs.Tryd.prog orc E) x0 x1 H0 := (run_fn Go.Proofs.Tryd.func29 (by kernel_rfl) (by kernel_rfl) h _ _).trans (e29 _ x0 x1 H0)
theorem r30 (E : FuncId → Option (List Value → Hp → Option (Value × Hp))) (h : E 30 = none) (x0 x1 : Value) (H0 : Hp) : run Go.Proofs.Tryd.prog orc E 30 [x0, x1] H0 = m30 (run Go.Proofs.Tryd.prog orc E) x0 x1 H0 := (run_fn Go.Proofs.Tryd.func30 (by kernel_rfl) (by kernel_rfl) h _ _).trans (e30 _ x0 x1 H0)
theorem r31 (E : FuncId → Option (List Value → Hp → Option (Value × Hp))) (h : E 31 = none) (x0 : Value) (H0 : Hp) : run Go.Proofs.Tryd.prog orc E 31 [x0] H0 = m31 (run Go.Proofs.Tryd.prog orc E) x0 H0 := (run_fn Go.Proofs.Tryd.func31 (by kernel_rfl) (by kernel_rfl) h _ _).trans (e31 _ x0 H0)
theorem r32 (E : FuncId → Option (List Value → Hp → Option (Value × Hp))) (h : E 32 = none) (x0 x1 : Value) (H0 : Hp) : run Go.Proofs.Tryd.prog orc E 32 [x0, x1] H0 = m32 (run Go.Proofs.Tryd.prog orc E) x0 x1 H0 := (run_fn Go.Proofs.Tryd.func32 (by kernel_rfl) (by kernel_rfl) h _ _).trans (e32 _ x0 x1 H0)
theorem r33 (E : FuncId → Option (List Value → Hp → Option (Value × Hp))) (h : E 33 = none) (x0 : Value) (H0 : Hp) : run Go.Proofs.Tryd.prog orc E 33 [x0] H0 = m33 (run Go.Proofs.Tryd.prog orc E) x0 H0 := (run_fn Go.Proofs.Tryd.func33 (by kernel_rfl) (by kernel_rfl) h _ _).trans (e33 _ x0 H0)
theorem r34 (E : FuncId → Option (List Value → Hp → Option (Value × Hp))) (h : E 34 = none) (x0 : Value) (H0 : Hp) : run Go.Proofs.Tryd.prog orc E 34 [x0] H0 = m34 (run Go.Proofs.Tryd.prog orc E) x0 H0 := (run_fn Go.Proofs.Tryd.func34 (by kernel_rfl) (by kernel_rfl) h _ _).trans (e34 _ x0 H0)
theorem r35 (E : FuncId → Option (List Value → Hp → Option (Value × Hp))) (h : E 35 = none) (x0 : Value) (H0 : Hp) : run Go.Proofs.Tryd.prog orc E 35 [x0] H0 = m35 (run Go.Proofs.Tryd.prog orc E) x0 H0 := (run_fn Go.Proofs.Tryd.func35 (by kernel_rfl) (by kernel_rfl) h _ _).trans (e35 _ x0 H0)
theorem r36 (E : FuncId → Option (List Value → Hp → Option (Value × Hp))) (h : E 36 = none) (x0 x1 : Value) (H0 : Hp) : run Go.Proofs.Tryd.prog orc E 36 [x0, x1] H0 = m36 (run Go.Proofs.Tryd.prog orc E) x0 x1 H0 := (run_fn Go.Proofs.Tryd.func36 (by kernel_rfl) (by kernel_rfl) h _ _).trans (e36 _ x0 x1 H0)
theorem r37 (E : FuncId → Option (List Value → Hp → Option (Value × Hp))) (h : E 37 = none) (x0 x1 : Value) (H0 : Hp) : run Go.Proofs.Tryd.prog orc E 37 [x0, x1] H0 = m37 (run Go.Proofs.Tryd.prog orc E) x0 x1 H0 := (run_fn Go.Proofs.Tryd.func37 (by kernel_rfl) (by kernel_rfl) h _ _).trans (e37 _ x0 x1 H0)
theorem r42 (E : FuncId → Option (List Value → Hp → Option (Value × Hp))) (h : E 42 = none) (x0 x1 : Value) (H0 : Hp) : run Go.Proofs.Tryd.prog orc E 42 [x0, x1] H0 = m42 (run Go.Proofs.Tryd.prog orc E) x0 x1 H0 := (run_fn Go.Proofs.Tryd.func42 (by kernel_rfl) (by kernel_rfl) h _ _).trans (e42 _ x0 x1 H0)
theorem r43 (E : FuncId → Option (List Value → Hp → Option (Value × Hp))) (h : E 43 = none) (x0 : Value) (H0 : Hp) : run Go.Proofs.Tryd.prog orc E 43 [x0] H0 = m43 (run Go.Proofs.Tryd.prog orc E) x0 H0 := (run_fn Go.Proofs.Tryd.func43 (by kernel_rfl) (by kernel_rfl) h _ _).trans (e43 _ x0 H0)
theorem r44 (E : FuncId → Option (List Value → Hp → Option (Value × Hp))) (h : E 44 = none) (x0 x1 : Value) (H0 : Hp) : run Go.Proofs.Tryd.prog orc E 44 [x0, x1] H0 = m44 (run Go.Proofs.Tryd.prog orc E) x0 x1 H0 := (run_fn Go.Proofs.Tryd.func44 (by kernel_rfl) (by kernel_rfl) h _ _).trans (e44 _ x0 x1 H0)
theorem r45 (E : FuncId → Option (List Value → Hp → Option (Value × Hp))) (h : E 45 = none) (x0 x1 : Value) (H0 : Hp) : run Go.Proofs.Tryd.prog orc E 45 [x0, x1] H0 = m45 (run Go.Proofs.Tryd.prog orc E) x0 x1 H0 := (run_fn Go.Proofs.Tryd.func45 (by kernel_rfl) (by kernel_rfl) h _ _).trans (e45 _ x0 x1 H0)
theorem r46 (E : FuncId → Option (List Value → Hp → Option (Value × Hp))) (h : E 46 = none) (x0 x1 x2 : Value) (H0 : Hp) : run Go.Proofs.Tryd.prog orc E 46 [x0, x1, x2] H0 = m46 (run Go.Proofs.Tryd.prog orc E) x0 x1 x2 H0 := (run_fn Go.Proofs.Tryd.func46 (by kernel_rfl) (by kernel_rfl) h _ _).trans (e46 _ x0 x1 x2 H0)
theorem r47 (E : FuncId → Option (List Value → Hp → Option (Value × Hp))) (h : E 47 = none) (x0 x1 : Value) (H0 : Hp) : run Go.Proofs.Tryd.prog orc E 47 [x0, x1] H0 = m47 (run Go.Proofs.Tryd.prog orc E) x0 x1 H0 := (run_fn Go.Proofs.Tryd.func47 (by kernel_rfl) (by kernel_rfl) h _ _).trans (e47 _ x0 x1 H0)
theorem r48 (E : FuncId → Option (List Value → Hp → Option (Value × Hp))) (h : E 48 = none) (x0 : Value) (H0 : Hp) : run Go.Proofs.Tryd.prog orc E 48 [x0] H0 = m48 (run Go.Proofs.Tryd.prog orc E) x0 H0 := (run_fn Go.Proofs.Tryd.func48 (by kernel_rfl) (by kernel_rfl) h _ _).trans (e48 _ x0 H0)
theorem r63 (E : FuncId → Option (List Value → Hp → Option (Value × Hp))) (h : E 63 = none) (x0 : Value) (H0 : Hp) : run Go.Proofs.Tryd.prog orc E 63 [x0] H0 = m63 (run Go.Proofs.Tryd.prog orc E) x0 H0 := (run_fn Go.Proofs.Tryd.func63 (by kernel_rfl) (by kernel_rfl) h _ _).trans (e63 _ x0 H0)
theorem r80 (E : FuncId → Option (List Value → Hp → Option (Value × Hp))) (h : E 80 = none) (x0 : Value) (H0 : Hp) : run Go.Proofs.Tryd.prog orc E 80 [x0] H0 = m80 (run Go.Proofs.Tryd.prog orc E) x0 H0 := (run_fn Go.Proofs.Tryd.func80 (by kernel_rfl) (by kernel_rfl) h _ _).trans (e80 _ x0 H0)
end Go.AM.N14
set_option linter.unusedVariables false
namespace Go.AM.N14
open Go Go.AM
set_option maxRecDepth 100000
noncomputable def s3_1 (R : Handler) (x0 : Value) (r87 : Value) (l89 : List Value) (H90 : Hp) : Option Outc :=
 pBin Go.Proofs.Tryd.prog .leq 22 (l89.getD 4 undef) r87 fun v91 =>
 pBool v91 fun b92 => br b92
 (pCell 5 true (cellsL x0) 0 fun v93 =>
 pCallF R 9 [v93, (l89.getD 4 undef)] H90 fun r94 H95 =>
 pUn .not r94 fun v96 =>
 pBool v96 fun b97 => br b97
 (pBin Go.Proofs.Tryd.prog .add 22 (l89.getD 4 undef) (.int .u64 1) fun v98 =>
 some (.next, [(l89.getD 0 undef), (l89.getD 1 undef), (l89.getD 2 undef), (l89.getD 3 undef), v98], H95))
 (pBin Go.Proofs.Tryd.prog .and 22 (l89.getD 0 undef) (l89.getD 4 undef) fun v99 =>
 pBin Go.Proofs.Tryd.prog .or 22 (l89.getD 1 undef) (l89.getD 4 undef) fun v100 =>
 pBin Go.Proofs.Tryd.prog .lss 22 (l89.getD 4 undef) (l89.getD 2 undef) fun v101 =>
 pBool v101 fun b102 => br b102
 (pBin Go.Proofs.Tryd.prog .add 22 (l89.getD 4 undef) (.int .u64 1) fun v103 =>
 some (.next, [v99, v100, (l89.getD 4 undef), (l89.getD 4 undef), v103], H95))
 (pBin Go.Proofs.Tryd.prog .add 22 (l89.getD 4 undef) (.int .u64 1) fun v104 =>
 some (.next, [v99, v100, (l89.getD 2 undef), (l89.getD 4 undef), v104], H95))))
 (some (.exit 0, [(l89.getD 0 undef), (l89.getD 1 undef), (l89.getD 2 undef), (l89.getD 3 undef), (l89.getD 4 undef)], H90))
theorem k3 (R : Handler) (x0 x1 : Value) (H0 : Hp) : m3 R x0 x1 H0 =
 pCallF R 6 [] H0 fun r1 H2 =>
 pUn .not r1 fun v3 =>
 pBool v3 fun b4 => br b4
 (some ((.bool false), H2))
 (pCell 5 true (cellsL x0) 0 fun v5 =>
 pCallF R 7 [v5] H2 fun r6 H7 =>
 pExtract r6 0 fun v8 =>
 pExtract r6 1 fun v9 =>
 pSplice 5 [.int .i64 0, .int .u64 0, .int .u64 0, .int .u64 0, .int .u64 0] 0 v8 fun c10 =>
 pCell 5 true (cellsL x0) 0 fun v11 =>
 pCallF R 8 [v11] H7 fun r12 H13 =>
 pUn .not r12 fun v14 =>
 pBool v14 fun b15 => br b15
 (pUn .not v9 fun v16 =>
 pBool v16 fun b17 => br b17
 (pCell 5 true c10 0 fun v18 =>
 pBuild Go.Proofs.Tryd.prog 24 [] fun v19 =>
 pBin Go.Proofs.Tryd.prog .eql 24 v18 v19 fun v20 =>
 some (v20, H13))
 (some ((.bool false), H13)))
 (pUn .not v9 fun v21 =>
 pBool v21 fun b22 => br b22
 (pCell 5 true c10 0 fun v23 =>
 pBuild Go.Proofs.Tryd.prog 24 [] fun v24 =>
 pBin Go.Proofs.Tryd.prog .eql 24 v23 v24 fun v25 =>
 pBool v25 fun b26 => br b26
 (pCell 5 true (cellsL x0) 0 fun v27 =>
 pCallF R 9 [v27, x1] H13 fun r28 H29 =>
 pUn .not r28 fun v30 =>
 pBool v30 fun b31 => br b31
 (pCell 5 true (cellsL x0) 0 fun v32 =>
 pCell 1 false (cellsL x0) 3 fun v33 =>
 pCallF R 9 [v32, v33] H29 fun r34 H35 =>
 pUn .not r34 fun v36 =>
 pBool v36 fun b37 => br b37
 (pCell 5 true (cellsL x0) 0 fun v38 =>
 pCell 1 false (cellsL x0) 4 fun v39 =>
 pCallF R 9 [v38, v39] H35 fun r40 H41 =>
 pUn .not r40 fun v42 =>
 some (v42, H41))
 (some ((.bool false), H35)))
 (some ((.bool false), H29)))
 (some ((.bool false), H13)))
 (pCell 5 true c10 0 fun v43 =>
 pCallF R 7 [v43] H13 fun r44 H45 =>
 pExtract r44 0 fun v46 =>
 pExtract r44 1 fun v47 =>
 pSplice 5 [.int .i64 0, .int .u64 0, .int .u64 0, .int .u64 0, .int .u64 0] 0 v46 fun c48 =>
 bindO (
 pUn .not v47 fun v49 =>
 pBool v49 fun b50 => br b50
 (some (.ret, [(.bool false)], H45))
 (pCell 5 true c10 0 fun v51 =>
 pCell 5 true c48 0 fun v52 =>
 pBin Go.Proofs.Tryd.prog .neq 24 v51 v52 fun v53 =>
 pBool v53 fun b54 => br b54
 (some (.ret, [(.bool false)], H45))
 (pCell 1 false c10 0 fun v55 =>
 pCell 1 false (cellsL x0) 0 fun v56 =>
 pBin Go.Proofs.Tryd.prog .neq 3 v55 v56 fun v57 =>
 pBool v57 fun b58 => br b58
 (some (.ret, [(.bool false)], H45))
 (pCell 5 true (cellsL x0) 0 fun v59 =>
 pCell 1 false c10 3 fun v60 =>
 pCallF R 9 [v59, v60] H45 fun r61 H62 =>
 pUn .not r61 fun v63 =>
 pBool v63 fun b64 => br b64
 (some (.ret, [(.bool false)], H62))
 (pCell 5 true (cellsL x0) 0 fun v65 =>
 pCell 1 false c10 4 fun v66 =>
 pCallF R 9 [v65, v66] H62 fun r67 H68 =>
 pUn .not r67 fun v69 =>
 pBool v69 fun b70 => br b70
 (some (.ret, [(.bool false)], H68))
 (pCell 5 true (cellsL x0) 0 fun v71 =>
 pCallF R 9 [v71, x1] H68 fun r72 H73 =>
 pCell 5 true c10 0 fun v74 =>
 pCallF R 10 [v74, x1] H73 fun r75 H76 =>
 pBin Go.Proofs.Tryd.prog .neq 4 r72 r75 fun v77 =>
 pBool v77 fun b78 => br b78
 (some (.ret, [(.bool false)], H76))
 (some (.next, [], H76)))))))) fun q79 l80 H81 => onCtl q79
 (pCell 1 false (cellsL x0) 0 fun v83 =>
 pBin Go.Proofs.Tryd.prog .gtr 3 v83 (.int .i64 8) fun v84 =>
 pBool v84 fun b85 => br b85
 (some ((.bool true), H81))
 (pCell 1 false (cellsL x0) 0 fun v86 =>
 pCallF R 11 [v86] H81 fun r87 H88 =>
 bindO (loopD (s3_1 R x0 r87) [r87, (.int .u64 0), r87, (.int .u64 0), (.int .u64 0)] H88) fun q105 l106 H107 => onCtl q105 none
 (fun i108 => onExit i108 0 (
 pCell 5 true c10 0 fun v109 =>
 pCell 1 false (cellsL x0) 0 fun v110 =>
 pBin Go.Proofs.Tryd.prog .andNot 22 r87 (l106.getD 1 undef) fun v111 =>
 pBuild Go.Proofs.Tryd.prog 24 [(0, v110), (1, (l106.getD 0 undef)), (2, v111), (3, (l106.getD 2 undef)), (4, (l106.getD 3 undef))] fun v112 =>
 pBin Go.Proofs.Tryd.prog .eql 24 v109 v112 fun v113 =>
 some (v113, H107)) (
 none))
 (some ((l106.headD undef), H107))))
 (fun i82 => none)
 (some ((l80.headD undef), H81))))) := rfl
noncomputable def s33_1 (R : Handler) (x0 : Value) (v5 : Value) (v11 : Value) (r46 : Value) (l48 : List Value) (H49 : Hp) : Option Outc :=
 pBin Go.Proofs.Tryd.prog .lss 3 (l48.getD 0 undef) r46 fun v50 =>
 pBool v50 fun b51 => br b51
 (pConvInt .u64 (l48.getD 0 undef) fun v52 =>
 pBin Go.Proofs.Tryd.prog .shl 22 (.int .u64 1) v52 fun v53 =>
 pCell 1 false (cellsL x0) 1 fun v54 =>
 pBin Go.Proofs.Tryd.prog .and 22 v54 v53 fun v55 =>
 pBin Go.Proofs.Tryd.prog .neq 22 v55 (.int .u64 0) fun v56 =>
 pBool v56 fun b57 => br b57
 (pCell 1 false (cellsL ((l48.drop 1).getD 0 undef)) 1 fun v58 =>
 pBin Go.Proofs.Tryd.prog .or 22 v58 v53 fun v59 =>
 pSplice 1 (cellsL ((l48.drop 1).getD 0 undef)) 1 v59 fun c60 =>
 pBin Go.Proofs.Tryd.prog .add 3 (l48.getD 0 undef) (.int .i64 1) fun v61 =>
 some (.next, [v61, (.agg c60.toArray)], H49))
 (pCell 1 false (cellsL x0) 2 fun v62 =>
 pBin Go.Proofs.Tryd.prog .and 22 v62 v53 fun v63 =>
 pBin Go.Proofs.Tryd.prog .neq 22 v63 (.int .u64 0) fun v64 =>
 pBool v64 fun b65 => br b65
 (pCell 1 false (cellsL ((l48.drop 1).getD 0 undef)) 2 fun v66 =>
 pBin Go.Proofs.Tryd.prog .or 22 v66 v53 fun v67 =>
 pSplice 1 (cellsL ((l48.drop 1).getD 0 undef)) 2 v67 fun c68 =>
 pBin Go.Proofs.Tryd.prog .add 3 (l48.getD 0 undef) (.int .i64 1) fun v69 =>
 some (.next, [v69, (.agg c68.toArray)], H49))
 (pCell 1 false (cellsL x0) 0 fun v70 =>
 pCell 1 false (cellsL x0) 1 fun v71 =>
 pBin Go.Proofs.Tryd.prog .or 22 v71 v53 fun v72 =>
 pCell 1 false (cellsL x0) 2 fun v73 =>
 pBuild Go.Proofs.Tryd.prog 24 [(0, v70), (1, v72), (2, v73)] fun v74 =>
 pCallF R 46 [v74, v5, v11] H49 fun r75 H76 =>
 pUn .not r75 fun v77 =>
 pBool v77 fun b78 => br b78
 (pCell 1 false (cellsL ((l48.drop 1).getD 0 undef)) 2 fun v79 =>
 pBin Go.Proofs.Tryd.prog .or 22 v79 v53 fun v80 =>
 pSplice 1 (cellsL ((l48.drop 1).getD 0 undef)) 2 v80 fun c81 =>
 pBin Go.Proofs.Tryd.prog .add 3 (l48.getD 0 undef) (.int .i64 1) fun v82 =>
 some (.next, [v82, (.agg c81.toArray)], H76))
 (pCell 1 false (cellsL x0) 0 fun v83 =>
 pCell 1 false (cellsL x0) 1 fun v84 =>
 pCell 1 false (cellsL x0) 2 fun v85 =>
 pBin Go.Proofs.Tryd.prog .or 22 v85 v53 fun v86 =>
 pBuild Go.Proofs.Tryd.prog 24 [(0, v83), (1, v84), (2, v86)] fun v87 =>
 pCallF R 46 [v87, v5, v11] H76 fun r88 H89 =>
 pUn .not r88 fun v90 =>
 pBool v90 fun b91 => br b91
 (pCell 1 false (cellsL ((l48.drop 1).getD 0 undef)) 1 fun v92 =>
 pBin Go.Proofs.Tryd.prog .or 22 v92 v53 fun v93 =>
 pSplice 1 (cellsL ((l48.drop 1).getD 0 undef)) 1 v93 fun c94 =>
 pBin Go.Proofs.Tryd.prog .add 3 (l48.getD 0 undef) (.int .i64 1) fun v95 =>
 some (.next, [v95, (.agg c94.toArray)], H89))
 (pBin Go.Proofs.Tryd.prog .add 3 (l48.getD 0 undef) (.int .i64 1) fun v96 =>
 some (.next, [v96, (.agg (cellsL ((l48.drop 1).getD 0 undef)).toArray)], H89))))))
 (some (.exit 0, [(l48.getD 0 undef), (.agg (cellsL ((l48.drop 1).getD 0 undef)).toArray)], H49))
theorem k33 (R : Handler) (x0 : Value) (H0 : Hp) : m33 R x0 H0 =
 pCell 5 true (cellsL x0) 0 fun v1 =>
 pCell 1 false (cellsL x0) 3 fun v2 =>
 pCallF R 44 [v1, v2] H0 fun r3 H4 =>
 pExtract r3 0 fun v5 =>
 pExtract r3 1 fun v6 =>
 pCell 5 true (cellsL x0) 0 fun v7 =>
 pCell 1 false (cellsL x0) 4 fun v8 =>
 pCallF R 45 [v7, v8] H4 fun r9 H10 =>
 pExtract r9 0 fun v11 =>
 pExtract r9 1 fun v12 =>
 bindO (
 pUn .not v6 fun v13 =>
 pBool v13 fun b14 => br b14
 (pBuild Go.Proofs.Tryd.prog 24 [] fun v15 =>
 pSplice 5 [.int .i64 0, .int .u64 0, .int .u64 0, .int .u64 0, .int .u64 0] 0 v15 fun c16 =>
 pCell 5 true c16 0 fun v17 =>
 some (.ret, [(.tuple #[v17, (.bool false)])], H10))
 (pUn .not v12 fun v18 =>
 pBool v18 fun b19 => br b19
 (pBuild Go.Proofs.Tryd.prog 24 [] fun v20 =>
 pSplice 5 [.int .i64 0, .int .u64 0, .int .u64 0, .int .u64 0, .int .u64 0] 0 v20 fun c21 =>
 pCell 5 true c21 0 fun v22 =>
 some (.ret, [(.tuple #[v22, (.bool false)])], H10))
 (pBin Go.Proofs.Tryd.prog .gtr 22 v5 v11 fun v23 =>
 pBool v23 fun b24 => br b24
 (pBuild Go.Proofs.Tryd.prog 24 [] fun v25 =>
 pSplice 5 [.int .i64 0, .int .u64 0, .int .u64 0, .int .u64 0, .int .u64 0] 0 v25 fun c26 =>
 pCell 5 true c26 0 fun v27 =>
 some (.ret, [(.tuple #[v27, (.bool false)])], H10))
 (pCell 1 false (cellsL x0) 3 fun v28 =>
 pCell 1 false (cellsL x0) 4 fun v29 =>
 pBin Go.Proofs.Tryd.prog .gtr 22 v28 v29 fun v30 =>
 pBool v30 fun b31 => br b31
 (pBuild Go.Proofs.Tryd.prog 24 [] fun v32 =>
 pSplice 5 [.int .i64 0, .int .u64 0, .int .u64 0, .int .u64 0, .int .u64 0] 0 v32 fun c33 =>
 pCell 5 true c33 0 fun v34 =>
 some (.ret, [(.tuple #[v34, (.bool false)])], H10))
 (some (.next, [(.agg [.int .i64 0, .int .u64 0, .int .u64 0, .int .u64 0, .int .u64 0].toArray)], H10)))))) fun q35 l36 H37 => onCtl q35
 (pCell 1 false (cellsL x0) 0 fun v39 =>
 pBuild Go.Proofs.Tryd.prog 24 [(0, v39), (3, v5), (4, v11)] fun v40 =>
 pSplice 5 [.int .i64 0, .int .u64 0, .int .u64 0, .int .u64 0, .int .u64 0] 0 v40 fun c41 =>
 pCell 1 false (cellsL x0) 0 fun v42 =>
 pCallF R 26 [v42] H37 fun r43 H44 =>
 pCell 1 false (cellsL x0) 0 fun v45 =>
 pCallF R 43 [v45] H44 fun r46 H47 =>
 bindO (loopD (s33_1 R x0 v5 v11 r46) [(.int .i64 0), (.agg c41.toArray)] H47) fun q97 l98 H99 => onCtl q97 none
 (fun i100 => onExit i100 0 (
 pCell 1 false (cellsL ((l98.drop 1).getD 0 undef)) 1 fun v101 =>
 pBin Go.Proofs.Tryd.prog .and 22 v101 r43 fun v102 =>
 pSplice 1 (cellsL ((l98.drop 1).getD 0 undef)) 1 v102 fun c103 =>
 pCell 5 true c103 0 fun v104 =>
 pSplice 5 (cellsL ((l36.drop 0).getD 0 undef)) 0 v104 fun c105 =>
 pCell 5 true c105 0 fun v106 =>
 some ((.tuple #[v106, (.bool true)]), H99)) (
 none))
 (some ((l98.headD undef), H99)))
 (fun i38 => none)
 (some ((l36.headD undef), H37)) := rfl
noncomputable def s34_1 (R : Handler) (x0 : Value) (l1 : List Value) (H2 : Hp) : Option Outc :=
 pCell 1 false (cellsL x0) 0 fun v3 =>
 pCallF R 28 [v3] H2 fun r4 H5 =>
 pBin Go.Proofs.Tryd.prog .lss 3 (l1.getD 0 undef) r4 fun v6 =>
 pBool v6 fun b7 => br b7
 (pCell 1 false (cellsL x0) 3 fun v8 =>
 pBin Go.Proofs.Tryd.prog .geq 3 (l1.getD 0 undef) (.int .i64 0) fun v9 =>
 pBool v9 fun b10 => br b10
 (pCallF R 47 [v8, (l1.getD 0 undef)] H5 fun r11 H12 =>
 pBool r11 fun b13 => br b13
 (pBin Go.Proofs.Tryd.prog .add 3 (l1.getD 0 undef) (.int .i64 1) fun v14 =>
 some (.next, [v14], H12))
 (pBin Go.Proofs.Tryd.prog .add 3 (l1.getD 0 undef) (.int .i64 1) fun v15 =>
 pCallF R 48 [v15] H12 fun r16 H17 =>
 pBin Go.Proofs.Tryd.prog .andNot 22 v8 r16 fun v18 =>
 pConvInt .u64 (l1.getD 0 undef) fun v19 =>
 pBin Go.Proofs.Tryd.prog .shl 22 (.int .u64 1) v19 fun v20 =>
 pBin Go.Proofs.Tryd.prog .or 22 v18 v20 fun v21 =>
 pCell 1 false (cellsL x0) 1 fun v22 =>
 pCallF R 48 [(l1.getD 0 undef)] H17 fun r23 H24 =>
 pBin Go.Proofs.Tryd.prog .and 22 v22 r23 fun v25 =>
 pBin Go.Proofs.Tryd.prog .or 22 v21 v25 fun v26 =>
 pCell 5 true (cellsL x0) 0 fun v27 =>
 pCallF R 25 [v27, v26] H24 fun r28 H29 =>
 pBool r28 fun b30 => br b30
 (pCell 1 false (cellsL x0) 4 fun v31 =>
 pBin Go.Proofs.Tryd.prog .leq 22 v26 v31 fun v32 =>
 some (.ret, [(.tuple #[v26, v32])], H29))
 (pBin Go.Proofs.Tryd.prog .add 3 (l1.getD 0 undef) (.int .i64 1) fun v33 =>
 some (.next, [v33], H29))))
 (pCell 5 true (cellsL x0) 0 fun v34 =>
 pCallF R 25 [v34, v8] H5 fun r35 H36 =>
 pBool r35 fun b37 => br b37
 (pCell 1 false (cellsL x0) 4 fun v38 =>
 pBin Go.Proofs.Tryd.prog .leq 22 v8 v38 fun v39 =>
 some (.ret, [(.tuple #[v8, v39])], H36))
 (pBin Go.Proofs.Tryd.prog .add 3 (l1.getD 0 undef) (.int .i64 1) fun v40 =>
 some (.next, [v40], H36))))
 (some (.exit 0, [(l1.getD 0 undef)], H5))
theorem k34 (R : Handler) (x0 : Value) (H0 : Hp) : m34 R x0 H0 =
 bindO (loopD (s34_1 R x0) [(.int .i64 (-1))] H0) fun q41 l42 H43 => onCtl q41 none
 (fun i44 => onExit i44 0 (
 some ((.tuple #[(.int .u64 0), (.bool false)]), H43)) (
 none))
 (some ((l42.headD undef), H43)) := rfl
noncomputable def s35_1 (R : Handler) (x0 : Value) (l1 : List Value) (H2 : Hp) : Option Outc :=
 pCell 1 false (cellsL x0) 0 fun v3 =>
 pCallF R 28 [v3] H2 fun r4 H5 =>
 pBin Go.Proofs.Tryd.prog .lss 3 (l1.getD 0 undef) r4 fun v6 =>
 pBool v6 fun b7 => br b7
 (pCell 1 false (cellsL x0) 4 fun v8 =>
 pBin Go.Proofs.Tryd.prog .geq 3 (l1.getD 0 undef) (.int .i64 0) fun v9 =>
 pBool v9 fun b10 => br b10
 (pCallF R 47 [v8, (l1.getD 0 undef)] H5 fun r11 H12 =>
 pUn .not r11 fun v13 =>
 pBool v13 fun b14 => br b14
 (pBin Go.Proofs.Tryd.prog .add 3 (l1.getD 0 undef) (.int .i64 1) fun v15 =>
 some (.next, [v15], H12))
 (pBin Go.Proofs.Tryd.prog .add 3 (l1.getD 0 undef) (.int .i64 1) fun v16 =>
 pCallF R 48 [v16] H12 fun r17 H18 =>
 pBin Go.Proofs.Tryd.prog .andNot 22 v8 r17 fun v19 =>
 pCallF R 48 [(l1.getD 0 undef)] H18 fun r20 H21 =>
 pCell 1 false (cellsL x0) 2 fun v22 =>
 pBin Go.Proofs.Tryd.prog .andNot 22 r20 v22 fun v23 =>
 pBin Go.Proofs.Tryd.prog .or 22 v19 v23 fun v24 =>
 pCell 5 true (cellsL x0) 0 fun v25 =>
 pCallF R 25 [v25, v24] H21 fun r26 H27 =>
 pBool r26 fun b28 => br b28
 (some (.ret, [v24], H27))
 (pBin Go.Proofs.Tryd.prog .add 3 (l1.getD 0 undef) (.int .i64 1) fun v29 =>
 some (.next, [v29], H27))))
 (pCell 5 true (cellsL x0) 0 fun v30 =>
 pCallF R 25 [v30, v8] H5 fun r31 H32 =>
 pBool r31 fun b33 => br b33
 (some (.ret, [v8], H32))
 (pBin Go.Proofs.Tryd.prog .add 3 (l1.getD 0 undef) (.int .i64 1) fun v34 =>
 some (.next, [v34], H32))))
 (some (.exit 0, [(l1.getD 0 undef)], H5))
theorem k35 (R : Handler) (x0 : Value) (H0 : Hp) : m35 R x0 H0 =
 bindO (loopD (s35_1 R x0) [(.int .i64 (-1))] H0) fun q35 l36 H37 => onCtl q35 none
 (fun i38 => onExit i38 0 (
 some ((.int .u64 0), H37)) (
 none))
 (some ((l36.headD undef), H37)) := rfl
noncomputable def s44_1 (R : Handler) (x0 : Value) (x1 : Value) (l39 : List Value) (H40 : Hp) : Option Outc :=
 pCell 1 false (cellsL x0) 0 fun v41 =>
 pCallF R 43 [v41] H40 fun r42 H43 =>
 pBin Go.Proofs.Tryd.prog .lss 3 (l39.getD 0 undef) r42 fun v44 =>
 pBool v44 fun b45 => br b45
 (bindO (
 pConvInt .u64 (l39.getD 0 undef) fun v46 =>
 pBin Go.Proofs.Tryd.prog .shr 22 x1 v46 fun v47 =>
 pBin Go.Proofs.Tryd.prog .and 22 v47 (.int .u64 1) fun v48 =>
 pBin Go.Proofs.Tryd.prog .eql 22 v48 (.int .u64 0) fun v49 =>
 pBool v49 fun b50 => br b50
 (pCell 1 false (cellsL x0) 2 fun v51 =>
 pConvInt .u64 (l39.getD 0 undef) fun v52 =>
 pBin Go.Proofs.Tryd.prog .shr 22 v51 v52 fun v53 =>
 pBin Go.Proofs.Tryd.prog .and 22 v53 (.int .u64 1) fun v54 =>
 pBin Go.Proofs.Tryd.prog .eql 22 v54 (.int .u64 0) fun v55 =>
 some (.next, [v55], H43))
 (some (.next, [(.bool false)], H43))) fun q56 l57 H58 => onCtl q56
 (pBool (l57.getD 0 undef) fun b60 => br b60
 (pConvInt .u64 (l39.getD 0 undef) fun v61 =>
 pBin Go.Proofs.Tryd.prog .shr 22 x1 v61 fun v62 =>
 pConvInt .u64 (l39.getD 0 undef) fun v63 =>
 pBin Go.Proofs.Tryd.prog .shl 22 v62 v63 fun v64 =>
 pConvInt .u64 (l39.getD 0 undef) fun v65 =>
 pBin Go.Proofs.Tryd.prog .shl 22 (.int .u64 1) v65 fun v66 =>
 pBin Go.Proofs.Tryd.prog .or 22 v64 v66 fun v67 =>
 pCell 1 false (cellsL x0) 1 fun v68 =>
 pConvInt .u64 (l39.getD 0 undef) fun v69 =>
 pBin Go.Proofs.Tryd.prog .shl 22 (.int .u64 1) v69 fun v70 =>
 pBin Go.Proofs.Tryd.prog .sub 22 v70 (.int .u64 1) fun v71 =>
 pBin Go.Proofs.Tryd.prog .and 22 v68 v71 fun v72 =>
 pBin Go.Proofs.Tryd.prog .or 22 v67 v72 fun v73 =>
 some (.ret, [(.tuple #[v73, (.bool true)])], H58))
 (pBin Go.Proofs.Tryd.prog .add 3 (l39.getD 0 undef) (.int .i64 1) fun v74 =>
 some (.next, [v74], H58)))
 (fun i59 => onExit i59 1 (
 pBin Go.Proofs.Tryd.prog .add 3 (l39.getD 0 undef) (.int .i64 1) fun v75 =>
 some (.next, [v75], H58)) (
 some (.exit i59, [(l39.getD 0 undef)], H58)))
 (some (.ret, [(l57.headD undef)], H58)))
 (some (.exit 0, [(l39.getD 0 undef)], H43))
theorem k44 (R : Handler) (x0 x1 : Value) (H0 : Hp) : m44 R x0 x1 H0 =
 pCell 1 false (cellsL x0) 1 fun v1 =>
 pCell 1 false (cellsL x0) 2 fun v2 =>
 pBin Go.Proofs.Tryd.prog .and 22 v1 v2 fun v3 =>
 pBin Go.Proofs.Tryd.prog .neq 22 v3 (.int .u64 0) fun v4 =>
 pBool v4 fun b5 => br b5
 (some ((.tuple #[(.int .u64 0), (.bool false)]), H0))
 (pCell 5 true (cellsL x0) 0 fun v6 =>
 pCallF R 27 [v6, x1] H0 fun r7 H8 =>
 pBool r7 fun b9 => br b9
 (some ((.tuple #[x1, (.bool true)]), H8))
 (pCell 1 false (cellsL x0) 2 fun v10 =>
 pBin Go.Proofs.Tryd.prog .and 22 x1 v10 fun v11 =>
 pUn .xor x1 fun v12 =>
 pCell 1 false (cellsL x0) 1 fun v13 =>
 pBin Go.Proofs.Tryd.prog .and 22 v12 v13 fun v14 =>
 pBin Go.Proofs.Tryd.prog .or 22 v11 v14 fun v15 =>
 pCallF R 63 [v15] H8 fun r16 H17 =>
 pBin Go.Proofs.Tryd.prog .sub 3 (.int .i64 63) r16 fun v18 =>
 pCell 1 false (cellsL x0) 1 fun v19 =>
 pConvInt .u64 v18 fun v20 =>
 pBin Go.Proofs.Tryd.prog .shr 22 v19 v20 fun v21 =>
 pBin Go.Proofs.Tryd.prog .and 22 v21 (.int .u64 1) fun v22 =>
 pBin Go.Proofs.Tryd.prog .eql 22 v22 (.int .u64 1) fun v23 =>
 pBool v23 fun b24 => br b24
 (pConvInt .u64 v18 fun v25 =>
 pBin Go.Proofs.Tryd.prog .shr 22 x1 v25 fun v26 =>
 pConvInt .u64 v18 fun v27 =>
 pBin Go.Proofs.Tryd.prog .shl 22 v26 v27 fun v28 =>
 pConvInt .u64 v18 fun v29 =>
 pBin Go.Proofs.Tryd.prog .shl 22 (.int .u64 1) v29 fun v30 =>
 pBin Go.Proofs.Tryd.prog .or 22 v28 v30 fun v31 =>
 pCell 1 false (cellsL x0) 1 fun v32 =>
 pConvInt .u64 v18 fun v33 =>
 pBin Go.Proofs.Tryd.prog .shl 22 (.int .u64 1) v33 fun v34 =>
 pBin Go.Proofs.Tryd.prog .sub 22 v34 (.int .u64 1) fun v35 =>
 pBin Go.Proofs.Tryd.prog .and 22 v32 v35 fun v36 =>
 pBin Go.Proofs.Tryd.prog .or 22 v31 v36 fun v37 =>
 some ((.tuple #[v37, (.bool true)]), H17))
 (pBin Go.Proofs.Tryd.prog .add 3 v18 (.int .i64 1) fun v38 =>
 bindO (loopD (s44_1 R x0 x1) [v38] H17) fun q76 l77 H78 => onCtl q76 none
 (fun i79 => onExit i79 0 (
 some ((.tuple #[(.int .u64 0), (.bool false)]), H78)) (
 none))
 (some ((l77.headD undef), H78))))) := rfl
end Go.AM.N14
/- Facts as the program keeps them: widths, masks, fits. -/
set_option linter.unusedVariables false
set_option linter.unusedSimpArgs false
namespace Go.AM.N14
open Go Go.AM
abbrev E14 : FuncId → Option (List Value → Hp → Option (Value × Hp)) := fun _ => none
noncomputable abbrev R : Handler := run Go.Proofs.Tryd.prog orc E14
/-- A fact. -/
structure Fct where
  w : Int
  one : W64
  zero : W64
  least : W64
  top : W64
def Fct.val (f : Fct) : Value := .agg #[.int .i64 f.w, wv f.one, wv f.zero, wv f.least, wv f.top]
abbrev V0 : List Value := [.int .i64 0, .int .u64 0, .int .u64 0, .int .u64 0, .int .u64 0]
section
variable {α : Type}
theorem f_w (f : Fct) (k : Value → Option α) : pCell 1 false (cellsL f.val) 0 k = k (.int .i64 f.w) := rfl
theorem f_one (f : Fct) (k : Value → Option α) : pCell 1 false (cellsL f.val) 1 k = k (wv f.one) := rfl
theorem f_zero (f : Fct) (k : Value → Option α) : pCell 1 false (cellsL f.val) 2 k = k (wv f.zero) := rfl
theorem f_least (f : Fct) (k : Value → Option α) : pCell 1 false (cellsL f.val) 3 k = k (wv f.least) := rfl
theorem f_top (f : Fct) (k : Value → Option α) : pCell 1 false (cellsL f.val) 4 k = k (wv f.top) := rfl
theorem f_all (f : Fct) (k : Value → Option α) : pCell 5 true (cellsL f.val) 0 k = k f.val := rfl
theorem b_5 (w : Int) (b c d e : W64) (k : Value → Option α) : pBuild Go.Proofs.Tryd.prog 24 [(0, .int .i64 w), (1, wv b), (2, wv c), (3, wv d), (4, wv e)] k = k (Fct.val ⟨w, b, c, d, e⟩) := by kernel_rfl
theorem b_w3 (w : Int) (b c : W64) (k : Value → Option α) : pBuild Go.Proofs.Tryd.prog 24 [(0, .int .i64 w), (1, wv b), (2, wv c)] k = k (Fct.val ⟨w, b, c, 0#64, 0#64⟩) := by kernel_rfl
theorem b_wt (w : Int) (b : W64) (k : Value → Option α) : pBuild Go.Proofs.Tryd.prog 24 [(0, .int .i64 w), (4, wv b)] k = k (Fct.val ⟨w, 0#64, 0#64, 0#64, b⟩) := by kernel_rfl
theorem b_wlt (w : Int) (b c : W64) (k : Value → Option α) : pBuild Go.Proofs.Tryd.prog 24 [(0, .int .i64 w), (3, wv b), (4, wv c)] k = k (Fct.val ⟨w, 0#64, 0#64, b, c⟩) := by kernel_rfl
theorem v_mk (w : Int) (a b c d : W64) : Value.agg #[.int .i64 w, wv a, wv b, wv c, wv d] = Fct.val ⟨w, a, b, c, d⟩ := rfl
theorem u_0 : Value.int .u64 0 = wv 0#64 := rfl
theorem u_1 : Value.int .u64 1 = wv 1#64 := rfl
theorem u_all : Value.int .u64 18446744073709551615 = wv (msk 64) := rfl
theorem cells_val (f : Fct) : [Value.int .i64 f.w, wv f.one, wv f.zero, wv f.least, wv f.top] = cellsL f.val := rfl
theorem sp_all (f : Fct) (l : List Value) (hl : l.length = 5) (k : List Value → Option α) : pSplice 5 l 0 f.val k = k (cellsL f.val) := by
  match l, hl with
  | [a, b, c, d, e], _ => rfl
theorem sp_one (f : Fct) (x : W64) (k : List Value → Option α) : pSplice 1 (cellsL f.val) 1 (wv x) k = k (cellsL { f with one := x }.val) := rfl
theorem sp_zero (f : Fct) (x : W64) (k : List Value → Option α) : pSplice 1 (cellsL f.val) 2 (wv x) k = k (cellsL { f with zero := x }.val) := rfl
theorem sp_least (f : Fct) (x : W64) (k : List Value → Option α) : pSplice 1 (cellsL f.val) 3 (wv x) k = k (cellsL { f with least := x }.val) := rfl
theorem sp_top (f : Fct) (x : W64) (k : List Value → Option α) : pSplice 1 (cellsL f.val) 4 (wv x) k = k (cellsL { f with top := x }.val) := rfl
theorem cu64 (n : Nat) (h : n < 18446744073709551616) (k : Value → Option α) : pConvInt .u64 (.int .i64 (n : Int)) k = k (.int .u64 (n : Int)) := by
  rw [q_conv, q_u64 (by omega) (by omega)]
end
/-- How many bits a width has. -/
def wd (w : Int) : Nat := (max w 1).toNat
theorem wd_le {w : Int} (h : w ≤ 64) : wd w ≤ 64 := by unfold wd; omega
theorem wd_pos (w : Int) : 1 ≤ wd w := by unfold wd; omega
theorem wd_max (w : Int) : (max w 1 : Int) = (wd w : Int) := by unfold wd; omega
theorem c43 (w : Int) (H : Hp) : R 43 [.int .i64 w] H = some (.int .i64 (wd w), H) := by
  refine (r43 E14 rfl _ H).trans ?_
  show some (Value.int .i64 (if (1 : Int) > w then 1 else w), H) = _
  rw [← wd_max]
  congr 3
  split <;> omega
theorem c42 (n : Nat) (hn : n ≤ 64) (x : W64) (H : Hp) : R 42 [.int .i64 (n : Int), wv x] H = some (wv (x &&& msk n), H) := by
  refine (r42 E14 rfl _ _ H).trans ?_
  unfold m42
  simp only [s_lss, s_geq, s_bool, s_br, decide_eq_true_eq, cu64 n (by omega), u_1, b_shl, b_sub, b_and]
  by_cases h0 : n = 0
  · subst h0
    rw [if_pos (by omega)]
    have : x &&& msk 0 = 0#64 := bit_eq fun j => by rw [BitVec.getLsbD_and, bit_msk]; simp
    rw [this]; rfl
  · rw [if_neg (by omega)]
    by_cases h1 : n = 64
    · subst h1
      rw [if_pos (by decide), msk_all, BitVec.and_allOnes]
    · rw [if_neg (by omega), msk_sub n (by omega)]
theorem c26 {w : Int} (hw : w ≤ 64) (H : Hp) : R 26 [.int .i64 w] H = some (wv (msk (wd w)), H) := by
  refine (r26 E14 rfl _ H).trans ?_
  unfold m26
  rw [s_call (c43 w H), u_all, s_call (c42 (wd w) (wd_le hw) (msk 64) H)]
  have : msk 64 &&& msk (wd w) = msk (wd w) := by rw [msk_all, BitVec.allOnes_and]
  rw [this]
theorem c28 {w : Int} (hw : 0 ≤ w) (H : Hp) : R 28 [.int .i64 w] H = some (.int .i64 (wd w), H) := by
  refine (r28 E14 rfl _ H).trans ?_
  unfold m28
  simp only [s_eql, s_bool, s_br, decide_eq_true_eq]
  by_cases h : w = 0
  · subst h; rw [if_pos rfl]; rfl
  · rw [if_neg h, ← wd_max]
    congr 3; omega
theorem low_of (n : Nat) (hn : n ≤ 64) (H : Hp) : (pBin Go.Proofs.Tryd.prog .geq 3 (.int .i64 (n : Int)) (.int .i64 64) fun v3 => pBool v3 fun b4 => br b4 (some ((.int .u64 18446744073709551615), H))
    (pConvInt .u64 (.int .i64 (n : Int)) fun v5 => pBin Go.Proofs.Tryd.prog .shl 22 (.int .u64 1) v5 fun v6 => pBin Go.Proofs.Tryd.prog .sub 22 v6 (.int .u64 1) fun v7 => some (v7, H))) = some (wv (msk n), H) := by
  simp only [s_geq, s_bool, s_br, decide_eq_true_eq, cu64 n (by omega), u_1, b_shl, b_sub]
  by_cases h : n = 64
  · subst h; rw [if_pos (by decide)]; rfl
  · rw [if_neg (by omega), msk_sub n (by omega)]
theorem c11 {w : Int} (h0 : 0 ≤ w) (hw : w ≤ 64) (H : Hp) : R 11 [.int .i64 w] H = some (wv (msk (wd w)), H) := by
  refine (r11 E14 rfl _ H).trans ?_
  unfold m11
  rw [s_call (c28 h0 H)]
  exact low_of (wd w) (wd_le hw) H
theorem c48 (n : Nat) (hn : n ≤ 64) (H : Hp) : R 48 [.int .i64 (n : Int)] H = some (wv (msk n), H) := (r48 E14 rfl _ H).trans (low_of n hn H)
theorem c47 (x : W64) (n : Nat) (hn : n < 64) (H : Hp) : R 47 [wv x, .int .i64 (n : Int)] H = some (.bool (x.getLsbD n), H) := by
  refine (r47 E14 rfl _ _ H).trans ?_
  unfold m47
  simp only [cu64 n (by omega), u_1, b_shr, b_and, b_eql]
  congr 3
  have e : ((x >>> n &&& 1#64) = 1#64) ↔ x.getLsbD n = true := by
    constructor
    · intro h
      have := congrArg (fun b => BitVec.getLsbD b 0) h
      simp only [BitVec.getLsbD_and, BitVec.getLsbD_ushiftRight] at this
      simpa using this
    · intro h
      refine bit_eq fun j => ?_
      rw [BitVec.getLsbD_and, BitVec.getLsbD_ushiftRight]
      have e1 : (1#64).getLsbD j = decide (j = 0) := by have := bit_one 0 j (by decide); rwa [BitVec.shiftLeft_zero] at this
      rw [e1]
      by_cases hj : j = 0
      · subst hj; simp [h]
      · simp [hj]
  rw [Bool.eq_iff_iff, decide_eq_true_eq, e]
instance (o z x : W64) : Decidable (Fit o z x) := decidable_of_iff _ fit_iff
theorem c27 (f : Fct) (x : W64) (H : Hp) : R 27 [f.val, wv x] H = some (.bool (decide (Fit f.one f.zero x)), H) := by
  refine (r27 E14 rfl _ _ H).trans ?_
  unfold m27
  simp only [f_one, f_zero, u_0, b_and, b_eql, s_bool, s_br, decide_eq_true_eq]
  by_cases h : x &&& f.one = f.one
  · rw [if_pos h]
    congr 3
    rw [decide_eq_decide, ← fit_iff]
    exact ⟨fun q => ⟨h, q⟩, fun q => q.2⟩
  · rw [if_neg h]
    have : ¬ Fit f.one f.zero x := fun q => h (fit_iff.2 q).1
    rw [decide_eq_false this]
theorem c25 (f : Fct) (x : W64) (H : Hp) : R 25 [f.val, wv x] H = some (.bool (decide (Fit f.one f.zero x)), H) := by
  refine (r25 E14 rfl _ _ H).trans ?_
  exact (r27 E14 rfl _ _ H).symm.trans (c27 f x H)
end Go.AM.N14
/- How long a word is: Len64. May, Has. -/
set_option linter.unusedVariables false
set_option linter.unusedSimpArgs false
namespace Go.AM.N14
open Go Go.AM
section
variable {α : Type}
theorem at8 (s : ByteArray) (i : Nat) (hs : i < s.size) (k : Value → Option α) : pAtStr (.string s) (.int .u8 (i : Int)) k = k (.int .u8 ((s[i]'hs).toNat : Int)) := by
  refine (q_at s i (s[i]'hs) ?_ k)
  rw [Array.getElem?_toList]
  exact Array.getElem?_eq_getElem (xs := s.data) hs
set_option maxRecDepth 100000 in
theorem at_len8 (i : Nat) (h : i < 256) (k : Value → Option α) : pAtStr (.string ⟨#[0, 1, 2, 2, 3, 3, 3, 3, 4, 4, 4, 4, 4, 4, 4, 4, 5, 5, 5, 5, 5, 5, 5, 5, 5, 5, 5, 5, 5, 5, 5, 5, 6, 6, 6, 6, 6, 6, 6, 6, 6, 6, 6, 6, 6, 6, 6, 6, 6, 6, 6, 6, 6, 6, 6, 6, 6, 6, 6, 6, 6, 6, 6, 6, 7, 7, 7, 7, 7, 7, 7, 7, 7, 7, 7, 7, 7, 7, 7, 7, 7, 7, 7, 7, 7, 7, 7, 7, 7, 7, 7, 7, 7, 7, 7, 7, 7, 7, 7, 7, 7, 7, 7, 7, 7, 7, 7, 7, 7, 7, 7, 7, 7, 7, 7, 7, 7, 7, 7, 7, 7, 7, 7, 7, 7, 7, 7, 7, 8, 8, 8, 8, 8, 8, 8, 8, 8, 8, 8, 8, 8, 8, 8, 8, 8, 8, 8, 8, 8, 8, 8, 8, 8, 8, 8, 8, 8, 8, 8, 8, 8, 8, 8, 8, 8, 8, 8, 8, 8, 8, 8, 8, 8, 8, 8, 8, 8, 8, 8, 8, 8, 8, 8, 8, 8, 8, 8, 8, 8, 8, 8, 8, 8, 8, 8, 8, 8, 8, 8, 8, 8, 8, 8, 8, 8, 8, 8, 8, 8, 8, 8, 8, 8, 8, 8, 8, 8, 8, 8, 8, 8, 8, 8, 8, 8, 8, 8, 8, 8, 8, 8, 8, 8, 8, 8, 8, 8, 8, 8, 8, 8, 8, 8, 8, 8, 8, 8, 8, 8, 8, 8, 8, 8, 8, 8, 8]⟩) (.int .u8 (i : Int)) k = k (.int .u8 ((bitLen i : Nat) : Int)) := by
  have hs : i < (⟨#[0, 1, 2, 2, 3, 3, 3, 3, 4, 4, 4, 4, 4, 4, 4, 4, 5, 5, 5, 5, 5, 5, 5, 5, 5, 5, 5, 5, 5, 5, 5, 5, 6, 6, 6, 6, 6, 6, 6, 6, 6, 6, 6, 6, 6, 6, 6, 6, 6, 6, 6, 6, 6, 6, 6, 6, 6, 6, 6, 6, 6, 6, 6, 6, 7, 7, 7, 7, 7, 7, 7, 7, 7, 7, 7, 7, 7, 7, 7, 7, 7, 7, 7, 7, 7, 7, 7, 7, 7, 7, 7, 7, 7, 7, 7, 7, 7, 7, 7, 7, 7, 7, 7, 7, 7, 7, 7, 7, 7, 7, 7, 7, 7, 7, 7, 7, 7, 7, 7, 7, 7, 7, 7, 7, 7, 7, 7, 7, 8, 8, 8, 8, 8, 8, 8, 8, 8, 8, 8, 8, 8, 8, 8, 8, 8, 8, 8, 8, 8, 8, 8, 8, 8, 8, 8, 8, 8, 8, 8, 8, 8, 8, 8, 8, 8, 8, 8, 8, 8, 8, 8, 8, 8, 8, 8, 8, 8, 8, 8, 8, 8, 8, 8, 8, 8, 8, 8, 8, 8, 8, 8, 8, 8, 8, 8, 8, 8, 8, 8, 8, 8, 8, 8, 8, 8, 8, 8, 8, 8, 8, 8, 8, 8, 8, 8, 8, 8, 8, 8, 8, 8, 8, 8, 8, 8, 8, 8, 8, 8, 8, 8, 8, 8, 8, 8, 8, 8, 8, 8, 8, 8, 8, 8, 8, 8, 8, 8, 8, 8, 8, 8, 8, 8, 8, 8, 8]⟩ : ByteArray).size := h
  rw [at8 _ i hs k, len8tab_get i hs]
end
theorem conv8 (y : W64) (h : y.toNat < 256) {α : Type} (k : Value → Option α) : pConvInt .u8 (wv y) k = k (.int .u8 (y.toNat : Int)) := by
  unfold wv
  rw [q_conv, q_u8 (by omega) (by omega)]
theorem shr_nat (x : W64) (n : Nat) : (x >>> n).toNat = x.toNat / 2 ^ n := by rw [BitVec.toNat_ushiftRight, Nat.shiftRight_eq_div_pow]
theorem c80 (x : W64) (H : Hp) : R 80 [wv x] H = some (.int .i64 ((bitLen x.toNat : Nat) : Int), H) := by
  refine (r80 E14 rfl _ H).trans ?_
  unfold m80
  have n1 : Value.int .u64 4294967296 = wv 4294967296#64 := rfl
  have n2 : Value.int .u64 65536 = wv 65536#64 := rfl
  have n3 : Value.int .u64 256 = wv 256#64 := rfl
  have n4 : ∀ n : Nat, Value.int .u64 (n : Int) = .int .u64 (n : Int) := fun _ => rfl
  have s32 : ∀ (a : W64) {α : Type} (k : Value → Option α), pBin Go.Proofs.Tryd.prog .shr 22 (wv a) (.int .u64 32) k = k (wv (a >>> 32)) := fun a _ k => b_shr 22 a k .u64 32
  have s16 : ∀ (a : W64) {α : Type} (k : Value → Option α), pBin Go.Proofs.Tryd.prog .shr 22 (wv a) (.int .u64 16) k = k (wv (a >>> 16)) := fun a _ k => b_shr 22 a k .u64 16
  have s8 : ∀ (a : W64) {α : Type} (k : Value → Option α), pBin Go.Proofs.Tryd.prog .shr 22 (wv a) (.int .u64 8) k = k (wv (a >>> 8)) := fun a _ k => b_shr 22 a k .u64 8
  have tail : ∀ (y : W64) (n : Nat), n ≤ 64 → y.toNat < 2 ^ 16 → ∀ G : Option (Value × Hp), G = some (.int .i64 ((n + bitLen y.toNat : Nat) : Int), H) →
    (pBin Go.Proofs.Tryd.prog .geq 22 (wv y) (.int .u64 256) fun v24 => pBool v24 fun b25 => br b25
      (pBin Go.Proofs.Tryd.prog .shr 22 (wv y) (.int .u64 8) fun v26 => pBin Go.Proofs.Tryd.prog .add 3 (.int .i64 (n : Int)) (.int .i64 8) fun v27 => pConvInt .u8 v26 fun v28 =>
        pAtStr (.string ⟨#[0, 1, 2, 2, 3, 3, 3, 3, 4, 4, 4, 4, 4, 4, 4, 4, 5, 5, 5, 5, 5, 5, 5, 5, 5, 5, 5, 5, 5, 5, 5, 5, 6, 6, 6, 6, 6, 6, 6, 6, 6, 6, 6, 6, 6, 6, 6, 6, 6, 6, 6, 6, 6, 6, 6, 6, 6, 6, 6, 6, 6, 6, 6, 6, 7, 7, 7, 7, 7, 7, 7, 7, 7, 7, 7, 7, 7, 7, 7, 7, 7, 7, 7, 7, 7, 7, 7, 7, 7, 7, 7, 7, 7, 7, 7, 7, 7, 7, 7, 7, 7, 7, 7, 7, 7, 7, 7, 7, 7, 7, 7, 7, 7, 7, 7, 7, 7, 7, 7, 7, 7, 7, 7, 7, 7, 7, 7, 7, 8, 8, 8, 8, 8, 8, 8, 8, 8, 8, 8, 8, 8, 8, 8, 8, 8, 8, 8, 8, 8, 8, 8, 8, 8, 8, 8, 8, 8, 8, 8, 8, 8, 8, 8, 8, 8, 8, 8, 8, 8, 8, 8, 8, 8, 8, 8, 8, 8, 8, 8, 8, 8, 8, 8, 8, 8, 8, 8, 8, 8, 8, 8, 8, 8, 8, 8, 8, 8, 8, 8, 8, 8, 8, 8, 8, 8, 8, 8, 8, 8, 8, 8, 8, 8, 8, 8, 8, 8, 8, 8, 8, 8, 8, 8, 8, 8, 8, 8, 8, 8, 8, 8, 8, 8, 8, 8, 8, 8, 8, 8, 8, 8, 8, 8, 8, 8, 8, 8, 8, 8, 8, 8, 8, 8, 8, 8, 8]⟩) v28 fun v29 => pConvInt .i64 v29 fun v30 => pBin Go.Proofs.Tryd.prog .add 3 v27 v30 fun v31 => some (v31, H))
      (pConvInt .u8 (wv y) fun v32 => pAtStr (.string ⟨#[0, 1, 2, 2, 3, 3, 3, 3, 4, 4, 4, 4, 4, 4, 4, 4, 5, 5, 5, 5, 5, 5, 5, 5, 5, 5, 5, 5, 5, 5, 5, 5, 6, 6, 6, 6, 6, 6, 6, 6, 6, 6, 6, 6, 6, 6, 6, 6, 6, 6, 6, 6, 6, 6, 6, 6, 6, 6, 6, 6, 6, 6, 6, 6, 7, 7, 7, 7, 7, 7, 7, 7, 7, 7, 7, 7, 7, 7, 7, 7, 7, 7, 7, 7, 7, 7, 7, 7, 7, 7, 7, 7, 7, 7, 7, 7, 7, 7, 7, 7, 7, 7, 7, 7, 7, 7, 7, 7, 7, 7, 7, 7, 7, 7, 7, 7, 7, 7, 7, 7, 7, 7, 7, 7, 7, 7, 7, 7, 8, 8, 8, 8, 8, 8, 8, 8, 8, 8, 8, 8, 8, 8, 8, 8, 8, 8, 8, 8, 8, 8, 8, 8, 8, 8, 8, 8, 8, 8, 8, 8, 8, 8, 8, 8, 8, 8, 8, 8, 8, 8, 8, 8, 8, 8, 8, 8, 8, 8, 8, 8, 8, 8, 8, 8, 8, 8, 8, 8, 8, 8, 8, 8, 8, 8, 8, 8, 8, 8, 8, 8, 8, 8, 8, 8, 8, 8, 8, 8, 8, 8, 8, 8, 8, 8, 8, 8, 8, 8, 8, 8, 8, 8, 8, 8, 8, 8, 8, 8, 8, 8, 8, 8, 8, 8, 8, 8, 8, 8, 8, 8, 8, 8, 8, 8, 8, 8, 8, 8, 8, 8, 8, 8, 8, 8, 8, 8]⟩) v32 fun v33 => pConvInt .i64 v33 fun v34 => pBin Go.Proofs.Tryd.prog .add 3 (.int .i64 (n : Int)) v34 fun v35 => some (v35, H))) = G := by
    intro y n hn hy G hG
    rw [hG, n3, b_geq, s_bool, s_br, show (256#64).toNat = 256 from rfl]
    by_cases h : 256 ≤ y.toNat
    · rw [if_pos (decide_eq_true h), s8]
      have e := shr_nat y 8
      have hlt : (y >>> 8).toNat < 256 := by omega
      have hb := bitLen_le8 _ hlt
      have hne : y.toNat / 2 ^ 8 ≠ 0 := by omega
      have hl := bitLen_shift y.toNat 8 hne
      rw [← e] at hl
      rw [s_add, conv8 _ hlt, at_len8 _ hlt, q_conv, s_add, q_i64 (x := (n : Int) + 8) (by omega) (by omega), q_i64 (x := ((bitLen (y >>> 8).toNat : Nat) : Int)) (by omega) (by omega), q_i64 (by omega) (by omega), hl]
      congr 3; omega
    · rw [if_neg (by simpa using h)]
      have hlt : y.toNat < 256 := by omega
      have hb := bitLen_le8 _ hlt
      rw [conv8 _ hlt, at_len8 _ hlt, q_conv, s_add, q_i64 (x := ((bitLen y.toNat : Nat) : Int)) (by omega) (by omega), q_i64 (by omega) (by omega)]
      congr 3
  have mid : ∀ (y : W64) (n : Nat), n ≤ 32 → y.toNat < 2 ^ 32 → ∀ G : Option (Value × Hp), G = some (.int .i64 ((n + bitLen y.toNat : Nat) : Int), H) → (onCtl (α := Value × Hp) .next
 (pBin Go.Proofs.Tryd.prog .geq 22 (wv y) (.int .u64 65536) fun v8 =>
 pBool v8 fun b9 => br b9
 (pBin Go.Proofs.Tryd.prog .shr 22 (wv y) (.int .u64 16) fun v10 =>
 pBin Go.Proofs.Tryd.prog .add 3 (.int .i64 (n : Int)) (.int .i64 16) fun v11 =>
 pBin Go.Proofs.Tryd.prog .geq 22 v10 (.int .u64 256) fun v12 =>
 pBool v12 fun b13 => br b13
 (pBin Go.Proofs.Tryd.prog .shr 22 v10 (.int .u64 8) fun v14 =>
 pBin Go.Proofs.Tryd.prog .add 3 v11 (.int .i64 8) fun v15 =>
 pConvInt .u8 v14 fun v16 =>
 pAtStr (.string ⟨#[0, 1, 2, 2, 3, 3, 3, 3, 4, 4, 4, 4, 4, 4, 4, 4, 5, 5, 5, 5, 5, 5, 5, 5, 5, 5, 5, 5, 5, 5, 5, 5, 6, 6, 6, 6, 6, 6, 6, 6, 6, 6, 6, 6, 6, 6, 6, 6, 6, 6, 6, 6, 6, 6, 6, 6, 6, 6, 6, 6, 6, 6, 6, 6, 7, 7, 7, 7, 7, 7, 7, 7, 7, 7, 7, 7, 7, 7, 7, 7, 7, 7, 7, 7, 7, 7, 7, 7, 7, 7, 7, 7, 7, 7, 7, 7, 7, 7, 7, 7, 7, 7, 7, 7, 7, 7, 7, 7, 7, 7, 7, 7, 7, 7, 7, 7, 7, 7, 7, 7, 7, 7, 7, 7, 7, 7, 7, 7, 8, 8, 8, 8, 8, 8, 8, 8, 8, 8, 8, 8, 8, 8, 8, 8, 8, 8, 8, 8, 8, 8, 8, 8, 8, 8, 8, 8, 8, 8, 8, 8, 8, 8, 8, 8, 8, 8, 8, 8, 8, 8, 8, 8, 8, 8, 8, 8, 8, 8, 8, 8, 8, 8, 8, 8, 8, 8, 8, 8, 8, 8, 8, 8, 8, 8, 8, 8, 8, 8, 8, 8, 8, 8, 8, 8, 8, 8, 8, 8, 8, 8, 8, 8, 8, 8, 8, 8, 8, 8, 8, 8, 8, 8, 8, 8, 8, 8, 8, 8, 8, 8, 8, 8, 8, 8, 8, 8, 8, 8, 8, 8, 8, 8, 8, 8, 8, 8, 8, 8, 8, 8, 8, 8, 8, 8, 8, 8]⟩) v16 fun v17 =>
 pConvInt .i64 v17 fun v18 =>
 pBin Go.Proofs.Tryd.prog .add 3 v15 v18 fun v19 =>
 some (v19, H))
 (pConvInt .u8 v10 fun v20 =>
 pAtStr (.string ⟨#[0, 1, 2, 2, 3, 3, 3, 3, 4, 4, 4, 4, 4, 4, 4, 4, 5, 5, 5, 5, 5, 5, 5, 5, 5, 5, 5, 5, 5, 5, 5, 5, 6, 6, 6, 6, 6, 6, 6, 6, 6, 6, 6, 6, 6, 6, 6, 6, 6, 6, 6, 6, 6, 6, 6, 6, 6, 6, 6, 6, 6, 6, 6, 6, 7, 7, 7, 7, 7, 7, 7, 7, 7, 7, 7, 7, 7, 7, 7, 7, 7, 7, 7, 7, 7, 7, 7, 7, 7, 7, 7, 7, 7, 7, 7, 7, 7, 7, 7, 7, 7, 7, 7, 7, 7, 7, 7, 7, 7, 7, 7, 7, 7, 7, 7, 7, 7, 7, 7, 7, 7, 7, 7, 7, 7, 7, 7, 7, 8, 8, 8, 8, 8, 8, 8, 8, 8, 8, 8, 8, 8, 8, 8, 8, 8, 8, 8, 8, 8, 8, 8, 8, 8, 8, 8, 8, 8, 8, 8, 8, 8, 8, 8, 8, 8, 8, 8, 8, 8, 8, 8, 8, 8, 8, 8, 8, 8, 8, 8, 8, 8, 8, 8, 8, 8, 8, 8, 8, 8, 8, 8, 8, 8, 8, 8, 8, 8, 8, 8, 8, 8, 8, 8, 8, 8, 8, 8, 8, 8, 8, 8, 8, 8, 8, 8, 8, 8, 8, 8, 8, 8, 8, 8, 8, 8, 8, 8, 8, 8, 8, 8, 8, 8, 8, 8, 8, 8, 8, 8, 8, 8, 8, 8, 8, 8, 8, 8, 8, 8, 8, 8, 8, 8, 8, 8, 8]⟩) v20 fun v21 =>
 pConvInt .i64 v21 fun v22 =>
 pBin Go.Proofs.Tryd.prog .add 3 v11 v22 fun v23 =>
 some (v23, H)))
 (pBin Go.Proofs.Tryd.prog .geq 22 (wv y) (.int .u64 256) fun v24 =>
 pBool v24 fun b25 => br b25
 (pBin Go.Proofs.Tryd.prog .shr 22 (wv y) (.int .u64 8) fun v26 =>
 pBin Go.Proofs.Tryd.prog .add 3 (.int .i64 (n : Int)) (.int .i64 8) fun v27 =>
 pConvInt .u8 v26 fun v28 =>
 pAtStr (.string ⟨#[0, 1, 2, 2, 3, 3, 3, 3, 4, 4, 4, 4, 4, 4, 4, 4, 5, 5, 5, 5, 5, 5, 5, 5, 5, 5, 5, 5, 5, 5, 5, 5, 6, 6, 6, 6, 6, 6, 6, 6, 6, 6, 6, 6, 6, 6, 6, 6, 6, 6, 6, 6, 6, 6, 6, 6, 6, 6, 6, 6, 6, 6, 6, 6, 7, 7, 7, 7, 7, 7, 7, 7, 7, 7, 7, 7, 7, 7, 7, 7, 7, 7, 7, 7, 7, 7, 7, 7, 7, 7, 7, 7, 7, 7, 7, 7, 7, 7, 7, 7, 7, 7, 7, 7, 7, 7, 7, 7, 7, 7, 7, 7, 7, 7, 7, 7, 7, 7, 7, 7, 7, 7, 7, 7, 7, 7, 7, 7, 8, 8, 8, 8, 8, 8, 8, 8, 8, 8, 8, 8, 8, 8, 8, 8, 8, 8, 8, 8, 8, 8, 8, 8, 8, 8, 8, 8, 8, 8, 8, 8, 8, 8, 8, 8, 8, 8, 8, 8, 8, 8, 8, 8, 8, 8, 8, 8, 8, 8, 8, 8, 8, 8, 8, 8, 8, 8, 8, 8, 8, 8, 8, 8, 8, 8, 8, 8, 8, 8, 8, 8, 8, 8, 8, 8, 8, 8, 8, 8, 8, 8, 8, 8, 8, 8, 8, 8, 8, 8, 8, 8, 8, 8, 8, 8, 8, 8, 8, 8, 8, 8, 8, 8, 8, 8, 8, 8, 8, 8, 8, 8, 8, 8, 8, 8, 8, 8, 8, 8, 8, 8, 8, 8, 8, 8, 8, 8]⟩) v28 fun v29 =>
 pConvInt .i64 v29 fun v30 =>
 pBin Go.Proofs.Tryd.prog .add 3 v27 v30 fun v31 =>
 some (v31, H))
 (pConvInt .u8 (wv y) fun v32 =>
 pAtStr (.string ⟨#[0, 1, 2, 2, 3, 3, 3, 3, 4, 4, 4, 4, 4, 4, 4, 4, 5, 5, 5, 5, 5, 5, 5, 5, 5, 5, 5, 5, 5, 5, 5, 5, 6, 6, 6, 6, 6, 6, 6, 6, 6, 6, 6, 6, 6, 6, 6, 6, 6, 6, 6, 6, 6, 6, 6, 6, 6, 6, 6, 6, 6, 6, 6, 6, 7, 7, 7, 7, 7, 7, 7, 7, 7, 7, 7, 7, 7, 7, 7, 7, 7, 7, 7, 7, 7, 7, 7, 7, 7, 7, 7, 7, 7, 7, 7, 7, 7, 7, 7, 7, 7, 7, 7, 7, 7, 7, 7, 7, 7, 7, 7, 7, 7, 7, 7, 7, 7, 7, 7, 7, 7, 7, 7, 7, 7, 7, 7, 7, 8, 8, 8, 8, 8, 8, 8, 8, 8, 8, 8, 8, 8, 8, 8, 8, 8, 8, 8, 8, 8, 8, 8, 8, 8, 8, 8, 8, 8, 8, 8, 8, 8, 8, 8, 8, 8, 8, 8, 8, 8, 8, 8, 8, 8, 8, 8, 8, 8, 8, 8, 8, 8, 8, 8, 8, 8, 8, 8, 8, 8, 8, 8, 8, 8, 8, 8, 8, 8, 8, 8, 8, 8, 8, 8, 8, 8, 8, 8, 8, 8, 8, 8, 8, 8, 8, 8, 8, 8, 8, 8, 8, 8, 8, 8, 8, 8, 8, 8, 8, 8, 8, 8, 8, 8, 8, 8, 8, 8, 8, 8, 8, 8, 8, 8, 8, 8, 8, 8, 8, 8, 8, 8, 8, 8, 8, 8, 8]⟩) v32 fun v33 =>
 pConvInt .i64 v33 fun v34 =>
 pBin Go.Proofs.Tryd.prog .add 3 (.int .i64 (n : Int)) v34 fun v35 =>
 some (v35, H)))) (fun i7 => none) none) = G := by
    intro y n hn hy G hG
    rw [s_next, n2, b_geq, s_bool, s_br, show (65536#64).toNat = 65536 from rfl]
    by_cases h : 65536 ≤ y.toNat
    · rw [if_pos (decide_eq_true h), s16, s_add, q_i64 (by omega) (by omega)]
      have e := shr_nat y 16
      have hne : y.toNat / 2 ^ 16 ≠ 0 := by omega
      have hl := bitLen_shift y.toNat 16 hne
      rw [← e] at hl
      have e2 : ((n : Int) + 16) = ((n + 16 : Nat) : Int) := by omega
      rw [e2]
      refine tail (y >>> 16) (n + 16) (by omega) (by omega) G ?_
      rw [hG, hl]
      congr 3; omega
    · rw [if_neg (by simpa using h)]
      exact tail y n (by omega) (by omega) G hG
  rw [n1, b_geq, s_bool, s_br, show (4294967296#64).toNat = 4294967296 from rfl]
  by_cases h : 4294967296 ≤ x.toNat
  · rw [if_pos (decide_eq_true h), s32]
    have e := shr_nat x 32
    have hx := x.isLt
    have hne : x.toNat / 2 ^ 32 ≠ 0 := by omega
    have hl := bitLen_shift x.toNat 32 hne
    rw [← e] at hl
    refine mid (x >>> 32) 32 (by omega) (by omega) _ ?_
    rw [hl]
  · rw [if_neg (by simpa using h)]
    refine mid x 0 (by omega) (by omega) _ ?_
    rw [Nat.zero_add]
theorem bitLen_64 (x : W64) : bitLen x.toNat ≤ 64 := by
  unfold bitLen
  split
  · omega
  · rename_i h
    have := (Nat.log2_lt h).2 x.isLt
    omega
theorem c63 (x : W64) (H : Hp) : R 63 [wv x] H = some (.int .i64 ((64 - bitLen x.toNat : Nat) : Int), H) := by
  refine (r63 E14 rfl _ H).trans ?_
  unfold m63
  have := bitLen_64 x
  rw [s_call (c80 x H), s_sub, q_i64 (by omega) (by omega)]
  congr 3; omega
/-- The highest bit of a word that is not 0. -/
theorem top_bit {x : W64} (h : x ≠ 0#64) : ∃ i, i < 64 ∧ bitLen x.toNat = i + 1 ∧ x.getLsbD i = true ∧ ∀ j, i < j → x.getLsbD j = false := by
  have h0 : x.toNat ≠ 0 := fun e => h (BitVec.eq_of_toNat_eq e)
  refine ⟨x.toNat.log2, (Nat.log2_lt h0).2 x.isLt, by unfold bitLen; rw [if_neg h0], ?_, fun j hj => ?_⟩
  · rw [← BitVec.testBit_toNat]; exact Nat.testBit_log2 h0
  · rw [← BitVec.testBit_toNat]
    exact Nat.testBit_lt_two_pow (Nat.lt_of_lt_of_le Nat.lt_log2_self (Nat.pow_le_pow_right (by decide) hj))
end Go.AM.N14
/- up: the least word from one on that has the bits. -/
set_option linter.unusedVariables false
set_option linter.unusedSimpArgs false
namespace Go.AM.N14
open Go Go.AM
theorem bit_test (x : W64) (n : Nat) : ((x >>> n &&& 1#64) = 1#64) ↔ x.getLsbD n = true := by
  constructor
  · intro h
    have := congrArg (fun b => BitVec.getLsbD b 0) h
    simp only [BitVec.getLsbD_and, BitVec.getLsbD_ushiftRight] at this
    simpa using this
  · intro h
    refine bit_eq fun j => ?_
    rw [BitVec.getLsbD_and, BitVec.getLsbD_ushiftRight]
    have e1 : (1#64).getLsbD j = decide (j = 0) := by have := bit_one 0 j (by decide); rwa [BitVec.shiftLeft_zero] at this
    rw [e1]
    by_cases hj : j = 0
    · subst hj; simp [h]
    · simp [hj]
theorem bit_test0 (x : W64) (n : Nat) : ((x >>> n &&& 1#64) = 0#64) ↔ x.getLsbD n = false := by
  constructor
  · intro h
    have := congrArg (fun b => BitVec.getLsbD b 0) h
    simp only [BitVec.getLsbD_and, BitVec.getLsbD_ushiftRight] at this
    simpa using this
  · intro h
    refine bit_eq fun j => ?_
    rw [BitVec.getLsbD_and, BitVec.getLsbD_ushiftRight, BitVec.getLsbD_zero]
    have e1 : (1#64).getLsbD j = decide (j = 0) := by have := bit_one 0 j (by decide); rwa [BitVec.shiftLeft_zero] at this
    rw [e1]
    by_cases hj : j = 0
    · subst hj; simp [h]
    · simp [hj]
/-- What 'up' answers. -/
def upV (r : Option W64) : Value := .tuple #[wv (r.getD 0#64), .bool r.isSome]
theorem s44_step {f : Fct} (hw : f.w ≤ 64) (x : W64) (i : Nat) (hi : i ≤ 64) (H : Hp) : s44_1 R f.val (wv x) [.int .i64 (i : Int)] H =
    if i < wd f.w then (if x.getLsbD i = false ∧ f.zero.getLsbD i = false then some (.ret, [upV (some (candT f.one x i))], H) else some (.next, [.int .i64 ((i + 1 : Nat) : Int)], H)) else some (.exit 0, [.int .i64 (i : Int)], H) := by
  unfold s44_1
  have hn := wd_le hw
  simp only [f_w, f_zero, f_one, s_call (c43 _ _), List.getD_cons_zero, s_lss, s_bool, s_br, decide_eq_true_eq, cu64 i (by omega), b_shr, u_1, u_0, b_and, b_eql, b_shl, b_sub, b_or, s_add, bit_test0]
  by_cases h : i < wd f.w
  · rw [if_pos (by omega), if_pos h]
    by_cases h1 : x.getLsbD i = false
    · rw [if_pos h1]
      simp only [s_bind, s_next, List.getD_cons_zero, s_bool, s_br, decide_eq_true_eq]
      by_cases h2 : f.zero.getLsbD i = false
      · rw [if_pos h2, if_pos ⟨h1, h2⟩]; rfl
      · rw [if_neg h2, if_neg (fun q => h2 q.2), q_i64 (by omega) (by omega)]; rfl
    · rw [if_neg h1, if_neg (fun q => h1 q.1)]
      simp only [s_bind, s_next, List.getD_cons_zero, s_bool, s_br]
      rw [if_neg (by decide), q_i64 (by omega) (by omega)]; rfl
  · rw [if_neg (by omega), if_neg h]
theorem loop44 {f : Fct} (hw : f.w ≤ 64) (x : W64) (H : Hp) : ∀ (m i : Nat), i + m = 64 → i ≤ wd f.w → (∃ j, i ≤ j ∧ j < wd f.w ∧ x.getLsbD j = false ∧ f.zero.getLsbD j = false ∧ (∀ k, i ≤ k → k < j → ¬ (x.getLsbD k = false ∧ f.zero.getLsbD k = false)) ∧
      loopD (s44_1 R f.val (wv x)) [.int .i64 (i : Int)] H = some (.ret, [upV (some (candT f.one x j))], H)) ∨
    ((∀ k, i ≤ k → k < wd f.w → ¬ (x.getLsbD k = false ∧ f.zero.getLsbD k = false)) ∧ ∃ l, loopD (s44_1 R f.val (wv x)) [.int .i64 (i : Int)] H = some (.exit 0, l, H))
  | m, i, hm, hi => by
    have hn := wd_le hw
    rw [loopD_eq, s44_step hw x i (by omega)]
    by_cases h : i < wd f.w
    · rw [if_pos h]
      by_cases h1 : x.getLsbD i = false ∧ f.zero.getLsbD i = false
      · rw [if_pos h1]
        exact .inl ⟨i, Nat.le_refl _, h, h1.1, h1.2, fun k a b => absurd a (by omega), rfl⟩
      · rw [if_neg h1]
        show _ ∨ (_ ∧ ∃ l, loopD (s44_1 R f.val (wv x)) [.int .i64 ((i + 1 : Nat) : Int)] H = _)
        match m, hm with
        | 0, hm => omega
        | m + 1, hm =>
        rcases loop44 hw x H m (i + 1) (by omega) (by omega) with ⟨j, a1, a2, a3, a4, a5, a6⟩ | ⟨a1, a2⟩
        · refine .inl ⟨j, by omega, a2, a3, a4, fun k b1 b2 => ?_, a6⟩
          rcases Nat.lt_or_eq_of_le b1 with q | rfl
          · exact a5 k q b2
          · exact h1
        · refine .inr ⟨fun k b1 b2 => ?_, a2⟩
          rcases Nat.lt_or_eq_of_le b1 with q | rfl
          · exact a1 k q b2
          · exact h1
    · rw [if_neg h]
      exact .inr ⟨fun k a b => absurd b (by omega), _, rfl⟩
theorem c44 {f : Fct} (h0 : 0 ≤ f.w) (hw : f.w ≤ 64) (ho : f.one.toNat ≤ (msk (wd f.w)).toNat) (hz : f.zero.toNat ≤ (msk (wd f.w)).toNat) {x : W64} (hx : x.toNat ≤ (msk (wd f.w)).toNat) (H : Hp) :
    ∃ r, Up f.one f.zero x (wd f.w) r ∧ R 44 [f.val, wv x] H = some (upV r, H) := by
  have hr := (r44 E14 rfl f.val (wv x) H).trans (k44 _ _ _ _)
  have hn := wd_le hw
  rw [f_one, f_zero, b_and, u_0, b_neq, s_bool, s_br] at hr
  by_cases hd : f.one &&& f.zero = 0#64
  case neg =>
    rw [if_pos (by simp [hd])] at hr
    exact ⟨none, up_clash fun q => hd (dis_iff.2 q), hr⟩
  rw [if_neg (by simp [hd])] at hr
  have hd := dis_iff.1 hd
  rw [f_all, s_call (c27 f x H), s_bool, s_br] at hr
  by_cases hf : Fit f.one f.zero x
  case pos =>
    rw [if_pos (decide_eq_true hf)] at hr
    exact ⟨some x, up_fit hx hf, hr⟩
  rw [if_neg (by simpa using hf)] at hr
  rw [f_zero, b_and, b_not, f_one, b_and, b_or, s_call (c63 _ H)] at hr
  generalize hwr : (x &&& f.zero ||| ~~~x &&& f.one) = wr at hr
  have wbit : ∀ j, wr.getLsbD j = ((x.getLsbD j && f.zero.getLsbD j) || (!x.getLsbD j && f.one.getLsbD j)) := fun j => by
    rw [← hwr, BitVec.getLsbD_or, BitVec.getLsbD_and, BitVec.getLsbD_and, BitVec.getLsbD_not]
    rcases Nat.lt_or_ge j 64 with q | q
    · simp [q]
    · simp [bit_hi x q, bit_hi f.one q]
  have good : ∀ j, wr.getLsbD j = false → (f.one.getLsbD j = true → x.getLsbD j = true) ∧ (f.zero.getLsbD j = true → x.getLsbD j = false) := fun j hj => by
    rw [wbit] at hj
    cases h1 : x.getLsbD j <;> cases h2 : f.zero.getLsbD j <;> cases h3 : f.one.getLsbD j <;> rw [h1, h2, h3] at hj <;> first | (exact absurd hj (by decide)) | simp
  have hne : wr ≠ 0#64 := fun e => hf fun j => good j (by rw [e, BitVec.getLsbD_zero])
  obtain ⟨h, h64, hb, hbit, habove⟩ := top_bit hne
  rw [hb, s_sub, q_i64 (by omega) (by omega), show ((63 : Int) - ((64 - (h + 1) : Nat) : Int)) = (h : Int) by omega] at hr
  simp only [f_one, f_zero, cu64 h (by omega), b_shr, u_1, b_and, b_eql, bit_test, s_bool, s_br, decide_eq_true_eq, b_shl, b_or, b_sub] at hr
  have bad : ∀ i, (∀ j, i < j → (f.one.getLsbD j = true → x.getLsbD j = true) ∧ (f.zero.getLsbD j = true → x.getLsbD j = false)) → h ≤ i := fun i hi => by
    rcases Nat.lt_or_ge i h with q | q
    · have g := hi h q
      rw [wbit] at hbit
      cases h1 : x.getLsbD h <;> cases h2 : f.zero.getLsbD h <;> cases h3 : f.one.getLsbD h <;> rw [h1, h2, h3] at hbit g <;> simp at hbit g
    · exact q
  by_cases h1 : f.one.getLsbD h = true
  · rw [if_pos h1] at hr
    have hz0 := hd h h1
    have hx0 : x.getLsbD h = false := by
      rw [wbit, hz0, h1] at hbit
      cases q : x.getLsbD h with
      | false => rfl
      | true => rw [q] at hbit; cases hbit
    have hlt : h < wd f.w := by
      rcases Nat.lt_or_ge h (wd f.w) with q | q
      · exact q
      · rw [(le_msk hn).1 ho h q] at h1; cases h1
    exact ⟨some (candT f.one x h), up_at hn hlt hx ho hd hf hx0 hz0 (fun j hj => good j (habove j hj)) (fun i _ _ hi => bad i hi) (candT_ok _ _ h64), hr⟩
  · rw [if_neg h1, s_add, q_i64 (by omega) (by omega)] at hr
    have hxz : x.getLsbD h = true ∧ f.zero.getLsbD h = true := by
      rw [wbit] at hbit
      cases q : x.getLsbD h <;> cases q2 : f.zero.getLsbD h <;> rw [q, q2, Bool.eq_false_iff.2 h1] at hbit <;> simp at hbit ⊢
    have hlt : h < wd f.w := by
      rcases Nat.lt_or_ge h (wd f.w) with q | q
      · exact q
      · rw [(le_msk hn).1 hx h q] at hxz; exact absurd hxz.1 (by decide)
    rw [show ((h : Int) + 1) = ((h + 1 : Nat) : Int) by omega] at hr
    rcases loop44 hw x H (64 - (h + 1)) (h + 1) (by omega) hlt with ⟨j, a1, a2, a3, a4, a5, a6⟩ | ⟨a1, l, a2⟩
    · rw [a6, s_bind, s_ret] at hr
      refine ⟨some (candT f.one x j), up_at hn a2 hx ho hd hf a3 a4 (fun k hk => good k (habove k (by omega))) (fun i b1 b2 b3 => ?_) (candT_ok _ _ (by omega)), hr⟩
      have := bad i b3
      rcases Nat.lt_or_ge i j with q | q
      · rcases Nat.lt_or_eq_of_le this with q2 | rfl
        · exact absurd ⟨b1, b2⟩ (a5 i q2 q)
        · rw [hxz.1] at b1; cases b1
      · exact q
    · rw [a2, s_bind, s_exit] at hr
      refine ⟨none, up_none hn hf fun i b1 b2 b3 b4 => ?_, hr⟩
      have := bad i b4
      rcases Nat.lt_or_eq_of_le this with q2 | rfl
      · exact a1 i q2 b1 ⟨b2, b3⟩
      · rw [hxz.1] at b2; cases b2
end Go.AM.N14
/- May, Has; down; some. -/
set_option linter.unusedVariables false
set_option linter.unusedSimpArgs false
namespace Go.AM.N14
open Go Go.AM
/-- A fact that may be. -/
structure Fct.May (f : Fct) : Prop where
  w0 : 0 ≤ f.w
  w64 : f.w ≤ 64
  one : f.one.toNat ≤ (msk (wd f.w)).toNat
  zero : f.zero.toNat ≤ (msk (wd f.w)).toNat
  least : f.least.toNat ≤ (msk (wd f.w)).toNat
  top : f.top.toNat ≤ (msk (wd f.w)).toNat
theorem may_iff (f : Fct) : f.May ↔ ((0 ≤ f.w ∧ f.w ≤ 64) ∧ f.one.toNat ≤ (msk (wd f.w)).toNat ∧ f.zero.toNat ≤ (msk (wd f.w)).toNat ∧ f.least.toNat ≤ (msk (wd f.w)).toNat ∧ f.top.toNat ≤ (msk (wd f.w)).toNat) :=
  ⟨fun ⟨a, b, c, d, e, g⟩ => ⟨⟨a, b⟩, c, d, e, g⟩, fun ⟨⟨a, b⟩, c, d, e, g⟩ => ⟨a, b, c, d, e, g⟩⟩
instance (f : Fct) : Decidable f.May := decidable_of_iff _ (may_iff f).symm
theorem may_chain (H : Hp) (f : Fct) (m : W64) : (pCell 1 false (cellsL f.val) 1 fun v14 => pBin Go.Proofs.Tryd.prog .leq 22 v14 (wv m) fun v15 => pBool v15 fun b16 => br b16
 (pCell 1 false (cellsL f.val) 2 fun v17 => pBin Go.Proofs.Tryd.prog .leq 22 v17 (wv m) fun v18 => pBool v18 fun b19 => br b19
 (pCell 1 false (cellsL f.val) 3 fun v20 => pBin Go.Proofs.Tryd.prog .leq 22 v20 (wv m) fun v21 => pBool v21 fun b22 => br b22
 (pCell 1 false (cellsL f.val) 4 fun v23 => pBin Go.Proofs.Tryd.prog .leq 22 v23 (wv m) fun v24 => some (v24, H))
 (some ((.bool false), H))) (some ((.bool false), H))) (some ((.bool false), H))) =
    some (.bool (decide (f.one.toNat ≤ m.toNat ∧ f.zero.toNat ≤ m.toNat ∧ f.least.toNat ≤ m.toNat ∧ f.top.toNat ≤ m.toNat)), H) := by
  simp only [f_one, f_zero, f_least, f_top, b_leq, s_bool, s_br, decide_eq_true_eq]
  by_cases h1 : f.one.toNat ≤ m.toNat
  · by_cases h2 : f.zero.toNat ≤ m.toNat
    · by_cases h3 : f.least.toNat ≤ m.toNat
      · simp [h1, h2, h3]
      · simp [h1, h2, h3]
    · simp [h1, h2]
  · simp [h1]
theorem c19 (f : Fct) (H : Hp) : R 19 [f.val] H = some (.bool (decide f.May), H) := by
  refine (r19 E14 rfl _ H).trans ?_
  unfold m19
  simp only [f_w, s_lss, s_gtr, s_bool, s_br, decide_eq_true_eq]
  by_cases h0 : f.w < 0
  · rw [if_pos h0, s_bind, s_ret, decide_eq_false (fun q => by have := q.w0; omega)]; rfl
  rw [if_neg h0]
  by_cases h1 : f.w > 64
  · rw [if_pos h1, s_bind, s_ret, decide_eq_false (fun q => by have := q.w64; omega)]; rfl
  rw [if_neg h1, s_bind, s_next, s_call (c26 (by omega) H)]
  have := may_chain H f (msk (wd f.w))
  simp only [s_br, decide_eq_true_eq] at this
  rw [this]
  congr 3
  rw [decide_eq_decide, may_iff]
  exact ⟨fun h => ⟨by omega, h⟩, fun h => h.2⟩
theorem c8 (f : Fct) (H : Hp) : R 8 [f.val] H = some (.bool (decide f.May), H) := by
  refine (r8 E14 rfl _ H).trans ?_
  unfold m8
  simp only [f_w, s_lss, s_gtr, s_bool, s_br, decide_eq_true_eq]
  by_cases h0 : f.w < 0
  · rw [if_pos h0, s_bind, s_ret, decide_eq_false (fun q => by have := q.w0; omega)]; rfl
  rw [if_neg h0]
  by_cases h1 : f.w > 64
  · rw [if_pos h1, s_bind, s_ret, decide_eq_false (fun q => by have := q.w64; omega)]; rfl
  rw [if_neg h1, s_bind, s_next, s_call (c11 (by omega) (by omega) H)]
  have := may_chain H f (msk (wd f.w))
  simp only [s_br, decide_eq_true_eq] at this
  rw [this]
  congr 3
  rw [decide_eq_decide, may_iff]
  exact ⟨fun h => ⟨by omega, h⟩, fun h => h.2⟩
/-- The words of a fact. -/
def Mem (f : Fct) (x : W64) : Prop := Fit f.one f.zero x ∧ f.least.toNat ≤ x.toNat ∧ x.toNat ≤ f.top.toNat
instance (f : Fct) (x : W64) : Decidable (Mem f x) := by unfold Mem; infer_instance
theorem Mem.le {f : Fct} (hf : f.May) {x : W64} (h : Mem f x) : x.toNat ≤ (msk (wd f.w)).toNat := Nat.le_trans h.2.2 hf.top
theorem has_chain (f : Fct) (x : W64) (H : Hp) (hf : f.May) : (pBin Go.Proofs.Tryd.prog .leq 22 (wv x) (wv (msk (wd f.w))) fun v8 => pBool v8 fun b9 => br b9
 (pBool (.bool (decide (Fit f.one f.zero x))) fun b13 => br b13
 (pCell 1 false (cellsL f.val) 3 fun v14 => pBin Go.Proofs.Tryd.prog .geq 22 (wv x) v14 fun v15 => pBool v15 fun b16 => br b16
 (pCell 1 false (cellsL f.val) 4 fun v17 => pBin Go.Proofs.Tryd.prog .leq 22 (wv x) v17 fun v18 => some (v18, H))
 (some ((.bool false), H))) (some ((.bool false), H))) (some ((.bool false), H))) = some (.bool (decide (Mem f x)), H) := by
  simp only [f_least, f_top, b_leq, b_geq, s_bool, s_br, decide_eq_true_eq]
  have hl := hf.top
  by_cases h1 : x.toNat ≤ (msk (wd f.w)).toNat
  · rw [if_pos h1]
    by_cases h2 : Fit f.one f.zero x
    · rw [if_pos h2]
      by_cases h3 : f.least.toNat ≤ x.toNat
      · rw [if_pos h3]
        congr 3
        rw [decide_eq_decide]
        exact ⟨fun q => ⟨h2, h3, q⟩, fun q => q.2.2⟩
      · rw [if_neg h3, decide_eq_false (fun q => h3 q.2.1)]
    · rw [if_neg h2, decide_eq_false (fun q => h2 q.1)]
  · rw [if_neg h1, decide_eq_false (fun q => by have := q.2.2; omega)]
/-- Has. -/
theorem c10 (f : Fct) (x : W64) (H : Hp) : R 10 [f.val, wv x] H = some (.bool (decide (f.May ∧ Mem f x)), H) := by
  refine (r10 E14 rfl _ _ H).trans ?_
  unfold m10
  rw [f_all, s_call (c19 f H), s_bool, s_br]
  by_cases hf : f.May
  · rw [if_pos (decide_eq_true hf), f_w, s_call (c26 hf.w64 H)]
    simp only [f_all, s_call (c27 f x H)]
    rw [has_chain f x H hf]
    congr 3
    rw [decide_eq_decide]
    exact ⟨fun q => ⟨hf, q⟩, fun q => q.2⟩
  · rw [if_neg (by simpa using hf), decide_eq_false (fun q => hf q.1)]
theorem c9 (f : Fct) (x : W64) (H : Hp) : R 9 [f.val, wv x] H = some (.bool (decide (f.May ∧ Mem f x)), H) := by
  refine (r9 E14 rfl _ _ H).trans ?_
  unfold m9
  rw [f_all, s_call (c8 f H), s_bool, s_br]
  by_cases hf : f.May
  · rw [if_pos (decide_eq_true hf), f_w, s_call (c11 hf.w0 hf.w64 H)]
    simp only [f_all, s_call (c25 f x H)]
    rw [has_chain f x H hf]
    congr 3
    rw [decide_eq_decide]
    exact ⟨fun q => ⟨hf, q⟩, fun q => q.2⟩
  · rw [if_neg (by simpa using hf), decide_eq_false (fun q => hf q.1)]
/-- down. -/
theorem c45 {f : Fct} (h0 : 0 ≤ f.w) (hw : f.w ≤ 64) (ho : f.one.toNat ≤ (msk (wd f.w)).toNat) (hz : f.zero.toNat ≤ (msk (wd f.w)).toNat) {x : W64} (hx : x.toNat ≤ (msk (wd f.w)).toNat) (H : Hp) :
    ∃ r b, Down f.one f.zero x (wd f.w) r ∧ (∀ y, r = some y → b = y) ∧ R 45 [f.val, wv x] H = some (.tuple #[wv b, .bool r.isSome], H) := by
  have hn := wd_le hw
  obtain ⟨r, h1, h2⟩ := c44 (f := ⟨f.w, f.zero, f.one, 0#64, 0#64⟩) h0 hw hz ho (x := msk (wd f.w) &&& ~~~x) (flip_le hn x) H
  refine ⟨r.map fun y => msk (wd f.w) &&& ~~~y, msk (wd f.w) &&& ~~~(r.getD 0#64), down_of_up hn ho hz hx h1, fun y hy => ?_, ?_⟩
  · cases r with
    | none => cases hy
    | some z => cases hy; rfl
  · refine (r45 E14 rfl _ _ H).trans ?_
    unfold m45
    rw [f_w, s_call (c26 hw H), f_w, f_zero, f_one, b_w3, b_andNot, s_call h2]
    unfold upV
    rw [q_ext0, q_ext1, b_andNot]
    cases r <;> rfl
/-- some: is there a fitting word from least to top? -/
theorem c46 {f : Fct} (h0 : 0 ≤ f.w) (hw : f.w ≤ 64) (ho : f.one.toNat ≤ (msk (wd f.w)).toNat) (hz : f.zero.toNat ≤ (msk (wd f.w)).toNat) {x y : W64} (hx : x.toNat ≤ (msk (wd f.w)).toNat) (hy : y.toNat ≤ (msk (wd f.w)).toNat) (H : Hp) :
    ∃ b : Bool, (b = true ↔ ∃ t, Fit f.one f.zero t ∧ x.toNat ≤ t.toNat ∧ t.toNat ≤ y.toNat) ∧ R 46 [f.val, wv x, wv y] H = some (.bool b, H) := by
  obtain ⟨r, h1, h2⟩ := c44 h0 hw ho hz hx H
  have hr := r46 E14 rfl f.val (wv x) (wv y) H
  unfold m46 at hr
  rw [f_all, s_call h2] at hr
  unfold upV at hr
  rw [q_ext0, q_ext1, s_bool, s_br] at hr
  cases r with
  | none =>
    rw [if_neg (by simp)] at hr
    refine ⟨false, ⟨fun h => absurd h (by decide), fun ⟨t, a, b, c⟩ => (h1 t a b (by omega)).elim⟩, hr⟩
  | some z =>
    rw [if_pos (by simp), b_leq] at hr
    refine ⟨decide (z.toNat ≤ y.toNat), ?_, hr⟩
    rw [decide_eq_true_eq]
    exact ⟨fun h => ⟨z, h1.1, h1.2.1, h⟩, fun ⟨t, a, b, c⟩ => Nat.le_trans (h1.2.2.2 t a b) c⟩
end Go.AM.N14
/- Settle: the tightest fact with the same words. -/
set_option linter.unusedVariables false
set_option linter.unusedSimpArgs false
namespace Go.AM.N14
open Go Go.AM
abbrev F0 : Fct := ⟨0, 0#64, 0#64, 0#64, 0#64⟩
section
variable {α : Type}
theorem b_nil (k : Value → Option α) : pBuild Go.Proofs.Tryd.prog 24 [] k = k F0.val := by kernel_rfl
theorem agg_cells (f : Fct) : Value.agg (cellsL f.val).toArray = f.val := rfl
theorem V0_len : V0.length = 5 := rfl
theorem V0_val : Value.agg ([Value.int .i64 0, .int .u64 0, .int .u64 0, .int .u64 0, .int .u64 0] : List Value).toArray = F0.val := rfl
theorem sp_0 (f : Fct) (k : List Value → Option α) : pSplice 5 [.int .i64 0, .int .u64 0, .int .u64 0, .int .u64 0, .int .u64 0] 0 f.val k = k (cellsL f.val) := sp_all f _ rfl k
theorem sp_f (f g : Fct) (k : List Value → Option α) : pSplice 5 (cellsL g.val) 0 f.val k = k (cellsL f.val) := sp_all f _ rfl k
end
/-- A fact is settled. -/
structure Stl (f g : Fct) : Prop where
  w : g.w = f.w
  lo : Mem f g.least
  hi : Mem f g.top
  all : ∀ t, Mem f t → g.least.toNat ≤ t.toNat ∧ t.toNat ≤ g.top.toNat
  one : ∀ j, g.one.getLsbD j = true ↔ (j < wd f.w ∧ ∀ t, Mem f t → t.getLsbD j = true)
  zero : ∀ j, g.zero.getLsbD j = true ↔ (j < wd f.w ∧ ∀ t, Mem f t → t.getLsbD j = false)
/-- Up to a bit. -/
structure Inv33 (f g : Fct) (lo hi : W64) (i : Nat) : Prop where
  w : g.w = f.w
  least : g.least = lo
  top : g.top = hi
  one : ∀ j, g.one.getLsbD j = true ↔ (j < i ∧ ∀ t, Mem f t → t.getLsbD j = true)
  zero : ∀ j, g.zero.getLsbD j = true ↔ (j < i ∧ ∀ t, Mem f t → t.getLsbD j = false)
theorem bit_put (o : W64) (i j : Nat) (hi : i < 64) : (o ||| (1#64) <<< i).getLsbD j = (o.getLsbD j || decide (j = i)) := by
  rw [BitVec.getLsbD_or, bit_one i j hi]
theorem fit_one {o z t : W64} {i : Nat} (hi : i < 64) : Fit (o ||| (1#64) <<< i) z t ↔ Fit o z t ∧ t.getLsbD i = true := by
  constructor
  · intro h
    refine ⟨fun j => ⟨fun hj => (h j).1 (by rw [bit_put o i j hi, hj]; rfl), (h j).2⟩, (h i).1 (by rw [bit_put o i i hi]; simp)⟩
  · rintro ⟨h, ht⟩ j
    refine ⟨fun hj => ?_, (h j).2⟩
    rw [bit_put o i j hi] at hj
    by_cases e : j = i
    · subst e; exact ht
    · exact (h j).1 (by simpa [e] using hj)
theorem fit_zero {o z t : W64} {i : Nat} (hi : i < 64) : Fit o (z ||| (1#64) <<< i) t ↔ Fit o z t ∧ t.getLsbD i = false := by
  constructor
  · intro h
    refine ⟨fun j => ⟨(h j).1, fun hj => (h j).2 (by rw [bit_put z i j hi, hj]; rfl)⟩, (h i).2 (by rw [bit_put z i i hi]; simp)⟩
  · rintro ⟨h, ht⟩ j
    refine ⟨(h j).1, fun hj => ?_⟩
    rw [bit_put z i j hi] at hj
    by_cases e : j = i
    · subst e; exact ht
    · exact (h j).2 (by simpa [e] using hj)
theorem and_one_ne {o : W64} {i : Nat} (hi : i < 64) : (o &&& (1#64) <<< i = 0#64) ↔ o.getLsbD i = false := by
  constructor
  · intro h
    have := congrArg (fun b => BitVec.getLsbD b i) h
    simp only [BitVec.getLsbD_and, bit_one i i hi, BitVec.getLsbD_zero] at this
    simpa using this
  · intro h
    refine bit_eq fun j => ?_
    rw [BitVec.getLsbD_and, bit_one i j hi, BitVec.getLsbD_zero]
    by_cases e : j = i
    · subst e; rw [h]; rfl
    · simp [e]
theorem inv_one {f g : Fct} {lo hi : W64} {i : Nat} (h : Inv33 f g lo hi i) (h64 : i < 64) (hm : Mem f lo) (ha : ∀ t, Mem f t → t.getLsbD i = true) : Inv33 f { g with one := g.one ||| (1#64) <<< i } lo hi (i + 1) := by
  refine ⟨h.w, h.least, h.top, fun j => ?_, fun j => ?_⟩
  · show (g.one ||| (1#64) <<< i).getLsbD j = true ↔ _
    rw [bit_put _ _ _ h64, Bool.or_eq_true, h.one j, decide_eq_true_eq]
    constructor
    · rintro (⟨a, b⟩ | rfl)
      · exact ⟨by omega, b⟩
      · exact ⟨by omega, ha⟩
    · rintro ⟨a, b⟩
      by_cases e : j = i
      · exact .inr e
      · exact .inl ⟨by omega, b⟩
  · rw [h.zero j]
    constructor
    · exact fun ⟨a, b⟩ => ⟨by omega, b⟩
    · rintro ⟨a, b⟩
      refine ⟨?_, b⟩
      by_cases e : j = i
      · subst e; have := ha lo hm; rw [b lo hm] at this; cases this
      · omega
theorem inv_zero {f g : Fct} {lo hi : W64} {i : Nat} (h : Inv33 f g lo hi i) (h64 : i < 64) (hm : Mem f lo) (ha : ∀ t, Mem f t → t.getLsbD i = false) : Inv33 f { g with zero := g.zero ||| (1#64) <<< i } lo hi (i + 1) := by
  refine ⟨h.w, h.least, h.top, fun j => ?_, fun j => ?_⟩
  · rw [h.one j]
    constructor
    · exact fun ⟨a, b⟩ => ⟨by omega, b⟩
    · rintro ⟨a, b⟩
      refine ⟨?_, b⟩
      by_cases e : j = i
      · subst e; have := ha lo hm; rw [b lo hm] at this; cases this
      · omega
  · show (g.zero ||| (1#64) <<< i).getLsbD j = true ↔ _
    rw [bit_put _ _ _ h64, Bool.or_eq_true, h.zero j, decide_eq_true_eq]
    constructor
    · rintro (⟨a, b⟩ | rfl)
      · exact ⟨by omega, b⟩
      · exact ⟨by omega, ha⟩
    · rintro ⟨a, b⟩
      by_cases e : j = i
      · exact .inr e
      · exact .inl ⟨by omega, b⟩
theorem inv_same {f g : Fct} {lo hi : W64} {i : Nat} (h : Inv33 f g lo hi i) {t u : W64} (ht : Mem f t) (hu : Mem f u) (h1 : t.getLsbD i = true) (h2 : u.getLsbD i = false) : Inv33 f g lo hi (i + 1) := by
  refine ⟨h.w, h.least, h.top, fun j => ?_, fun j => ?_⟩
  · rw [h.one j]
    constructor
    · exact fun ⟨a, b⟩ => ⟨by omega, b⟩
    · rintro ⟨a, b⟩
      refine ⟨?_, b⟩
      by_cases e : j = i
      · subst e; have := b u hu; rw [h2] at this; cases this
      · omega
  · rw [h.zero j]
    constructor
    · exact fun ⟨a, b⟩ => ⟨by omega, b⟩
    · rintro ⟨a, b⟩
      refine ⟨?_, b⟩
      by_cases e : j = i
      · subst e; have := b t ht; rw [h1] at this; cases this
      · omega
theorem put_le {o : W64} {i n : Nat} (hn : n ≤ 64) (hi : i < n) (ho : o.toNat ≤ (msk n).toNat) : (o ||| (1#64) <<< i).toNat ≤ (msk n).toNat := (le_msk hn).2 fun j hj => by
  rw [bit_put o i j (by omega), (le_msk hn).1 ho j hj]; simp; omega
theorem s33_step {f : Fct} (hf : f.May) {lo hi : W64} (hlo : Mem f lo) (hhi : Mem f hi) (hall : ∀ t, Mem f t ↔ (Fit f.one f.zero t ∧ lo.toNat ≤ t.toNat ∧ t.toNat ≤ hi.toNat)) {g : Fct} {i : Nat} (h : i < wd f.w) (hI : Inv33 f g lo hi i) (H : Hp) :
    ∃ g', Inv33 f g' lo hi (i + 1) ∧ s33_1 R f.val (wv lo) (wv hi) (.int .i64 ((wd f.w : Nat) : Int)) [.int .i64 (i : Int), g.val] H = some (.next, [.int .i64 ((i + 1 : Nat) : Int), g'.val], H) := by
  have hn := wd_le hf.w64
  have hle := hlo.le hf
  have hhe := hhi.le hf
  have w1 : ({ f with one := f.one ||| (1#64) <<< i, least := 0#64, top := 0#64 } : Fct).w = f.w := rfl
  obtain ⟨b1, e1, q1⟩ := c46 (f := ⟨f.w, f.one ||| (1#64) <<< i, f.zero, 0#64, 0#64⟩) hf.w0 hf.w64 (put_le hn h hf.one) hf.zero hle hhe H
  obtain ⟨b2, e2, q2⟩ := c46 (f := ⟨f.w, f.one, f.zero ||| (1#64) <<< i, 0#64, 0#64⟩) hf.w0 hf.w64 hf.one (put_le hn h hf.zero) hle hhe H
  have hs : s33_1 R f.val (wv lo) (wv hi) (.int .i64 ((wd f.w : Nat) : Int)) [.int .i64 (i : Int), g.val] H =
      (if f.one.getLsbD i = true then some (.next, [.int .i64 ((i + 1 : Nat) : Int), ({ g with one := g.one ||| (1#64) <<< i } : Fct).val], H)
       else if f.zero.getLsbD i = true then some (.next, [.int .i64 ((i + 1 : Nat) : Int), ({ g with zero := g.zero ||| (1#64) <<< i } : Fct).val], H)
       else if b1 = false then some (.next, [.int .i64 ((i + 1 : Nat) : Int), ({ g with zero := g.zero ||| (1#64) <<< i } : Fct).val], H)
       else if b2 = false then some (.next, [.int .i64 ((i + 1 : Nat) : Int), ({ g with one := g.one ||| (1#64) <<< i } : Fct).val], H)
       else some (.next, [.int .i64 ((i + 1 : Nat) : Int), g.val], H)) := by
    unfold s33_1
    simp only [List.getD_cons_zero, List.drop_succ_cons, List.drop_zero, s_lss, s_bool, s_br, decide_eq_true_eq, cu64 i (by omega), u_1, u_0, b_shl, f_w, f_one, f_zero, b_and, b_neq, b_or, and_one_ne (show i < 64 by omega), s_add, q_i64 (x := (i : Int) + 1) (by omega) (by omega),
      sp_one, sp_zero, agg_cells, b_w3, s_call q1, s_call q2, s_not]
    rw [if_pos (by omega)]
    have c : ((i : Int) + 1) = ((i + 1 : Nat) : Int) := by omega
    rw [c]
    cases f.one.getLsbD i <;> cases f.zero.getLsbD i <;> cases b1 <;> cases b2 <;> simp
  rw [hs]
  by_cases h1 : f.one.getLsbD i = true
  · rw [if_pos h1]
    exact ⟨_, inv_one hI (by omega) hlo fun t ht => (ht.1 i).1 h1, rfl⟩
  rw [if_neg h1]
  by_cases h2 : f.zero.getLsbD i = true
  · rw [if_pos h2]
    exact ⟨_, inv_zero hI (by omega) hlo fun t ht => (ht.1 i).2 h2, rfl⟩
  rw [if_neg h2]
  by_cases h3 : b1 = false
  · rw [if_pos h3]
    refine ⟨_, inv_zero hI (by omega) hlo fun t ht => ?_, rfl⟩
    cases q : t.getLsbD i with
    | false => rfl
    | true =>
      have := (hall t).1 ht
      rw [e1.2 ⟨t, (fit_one (by omega)).2 ⟨this.1, q⟩, this.2⟩] at h3; cases h3
  rw [if_neg h3]
  by_cases h4 : b2 = false
  · rw [if_pos h4]
    refine ⟨_, inv_one hI (by omega) hlo fun t ht => ?_, rfl⟩
    cases q : t.getLsbD i with
    | true => rfl
    | false =>
      have := (hall t).1 ht
      rw [e2.2 ⟨t, (fit_zero (by omega)).2 ⟨this.1, q⟩, this.2⟩] at h4; cases h4
  rw [if_neg h4]
  obtain ⟨t, t1, t2⟩ := e1.1 (by simpa using h3)
  obtain ⟨u, u1, u2⟩ := e2.1 (by simpa using h4)
  obtain ⟨t1, t3⟩ := (fit_one (by omega)).1 t1
  obtain ⟨u1, u3⟩ := (fit_zero (by omega)).1 u1
  exact ⟨g, inv_same hI ((hall t).2 ⟨t1, t2⟩) ((hall u).2 ⟨u1, u2⟩) t3 u3, rfl⟩
theorem loop33 {f : Fct} (hf : f.May) {lo hi : W64} (hlo : Mem f lo) (hhi : Mem f hi) (hall : ∀ t, Mem f t ↔ (Fit f.one f.zero t ∧ lo.toNat ≤ t.toNat ∧ t.toNat ≤ hi.toNat)) (H : Hp) : ∀ (m i : Nat) (g : Fct), i + m = wd f.w → Inv33 f g lo hi i →
    ∃ g', Inv33 f g' lo hi (wd f.w) ∧ loopD (s33_1 R f.val (wv lo) (wv hi) (.int .i64 ((wd f.w : Nat) : Int))) [.int .i64 (i : Int), g.val] H = some (.exit 0, [.int .i64 ((wd f.w : Nat) : Int), g'.val], H)
  | 0, i, g, hm, hI => by
    have : i = wd f.w := by omega
    subst this
    refine ⟨g, hI, ?_⟩
    rw [loopD_eq]
    have : s33_1 R f.val (wv lo) (wv hi) (.int .i64 ((wd f.w : Nat) : Int)) [.int .i64 ((wd f.w : Nat) : Int), g.val] H = some (.exit 0, [.int .i64 ((wd f.w : Nat) : Int), g.val], H) := by
      unfold s33_1
      simp only [List.getD_cons_zero, List.drop_succ_cons, List.drop_zero, s_lss, s_bool, s_br, decide_eq_true_eq, agg_cells]
      rw [if_neg (by omega)]
    rw [this]; rfl
  | m + 1, i, g, hm, hI => by
    obtain ⟨g1, h1, h2⟩ := s33_step hf hlo hhi hall (by omega) hI H
    obtain ⟨g2, h3, h4⟩ := loop33 hf hlo hhi hall H m (i + 1) g1 (by omega) h1
    refine ⟨g2, h3, ?_⟩
    rw [loopD_eq, h2]
    exact h4
/-- settle. -/
theorem c33 {f : Fct} (hf : f.May) (H : Hp) : (∃ g, Stl f g ∧ R 33 [f.val] H = some (.tuple #[g.val, .bool true], H)) ∨ ((∀ t, ¬ Mem f t) ∧ R 33 [f.val] H = some (.tuple #[F0.val, .bool false], H)) := by
  have hn := wd_le hf.w64
  obtain ⟨r, u1, u2⟩ := c44 hf.w0 hf.w64 hf.one hf.zero hf.least H
  obtain ⟨s, b, d1, d2, d3⟩ := c45 hf.w0 hf.w64 hf.one hf.zero hf.top H
  have hr := (r33 E14 rfl f.val H).trans (k33 _ _ _)
  rw [f_all, f_least, s_call u2] at hr
  unfold upV at hr
  rw [q_ext0, q_ext1, f_all, f_top, s_call d3, q_ext0, q_ext1] at hr
  simp only [s_not, s_bool, s_br, b_nil, sp_0, f_all, f_least, f_top, b_gtr, decide_eq_true_eq, V0_val] at hr
  cases r with
  | none =>
    rw [Option.isSome_none, if_pos (by decide), s_bind, s_ret] at hr
    exact .inr ⟨fun t ht => u1 t ht.1 ht.2.1 (ht.le hf), hr⟩
  | some lo =>
    rw [Option.isSome_some, if_neg (by decide)] at hr
    cases s with
    | none =>
      rw [Option.isSome_none, if_pos (by decide), s_bind, s_ret] at hr
      exact .inr ⟨fun t ht => d1 t ht.1 ht.2.2, hr⟩
    | some hi =>
      obtain rfl : b = hi := d2 hi rfl
      rw [Option.isSome_some, if_neg (by decide), Option.getD_some] at hr
      by_cases h1 : b.toNat < lo.toNat
      · rw [if_pos h1, s_bind, s_ret] at hr
        refine .inr ⟨fun t ht => ?_, hr⟩
        have := u1.2.2.2 t ht.1 ht.2.1
        have := d1.2.2 t ht.1 ht.2.2
        omega
      rw [if_neg h1] at hr
      by_cases h2 : f.top.toNat < f.least.toNat
      · rw [if_pos h2, s_bind, s_ret] at hr
        exact .inr ⟨fun t ht => by have := ht.2.1; have := ht.2.2; omega, hr⟩
      rw [if_neg h2, s_bind, s_next] at hr
      have hlo : Mem f lo := ⟨u1.1, u1.2.1, by have := d1.2.1; omega⟩
      have hhi : Mem f b := ⟨d1.1, by have := u1.2.1; omega, d1.2.1⟩
      have hall : ∀ t, Mem f t ↔ (Fit f.one f.zero t ∧ lo.toNat ≤ t.toNat ∧ t.toNat ≤ b.toNat) := fun t =>
        ⟨fun ht => ⟨ht.1, u1.2.2.2 t ht.1 ht.2.1, d1.2.2 t ht.1 ht.2.2⟩, fun ht => ⟨ht.1, by have := u1.2.1; omega, by have := d1.2.1; omega⟩⟩
      have hI0 : Inv33 f ⟨f.w, 0#64, 0#64, lo, b⟩ lo b 0 := ⟨rfl, rfl, rfl, fun j => by simp, fun j => by simp⟩
      obtain ⟨g, g1, g2⟩ := loop33 hf hlo hhi hall H (wd f.w) 0 ⟨f.w, 0#64, 0#64, lo, b⟩ (by omega) hI0
      rw [f_w, b_wlt, sp_0, f_w, s_call (c26 hf.w64 H), f_w, s_call (c43 f.w H), agg_cells] at hr
      have g2' : loopD (s33_1 R f.val (wv lo) (wv b) (.int .i64 ((wd f.w : Nat) : Int))) [.int .i64 0, Fct.val ⟨f.w, 0#64, 0#64, lo, b⟩] H = some (.exit 0, [.int .i64 ((wd f.w : Nat) : Int), g.val], H) := g2
      rw [g2', s_bind, s_exit] at hr
      have gone : g.one &&& msk (wd f.w) = g.one := bit_eq fun j => by
        rw [BitVec.getLsbD_and, bit_msk]
        cases hj : g.one.getLsbD j with
        | false => rfl
        | true => have := ((g1.one j).1 hj).1; simp [this]; omega
      simp only [s_onExit, List.drop_succ_cons, List.drop_zero, List.getD_cons_zero, f_one, b_and, gone, sp_one, f_all, sp_f, sp_0] at hr
      refine .inl ⟨g, ⟨g1.w, by rw [g1.least]; exact hlo, by rw [g1.top]; exact hhi, fun t ht => ?_, g1.one, g1.zero⟩, ?_⟩
      · have := (hall t).1 ht
        rw [g1.least, g1.top]; exact this.2
      · exact hr
end Go.AM.N14
/- Facts are held against each other; Settle, settled. -/
set_option linter.unusedVariables false
set_option linter.unusedSimpArgs false
namespace Go.AM.N14
open Go Go.AM
def thenF (b : Bool) (k : Option Bool) : Option Bool := match some b with | some true => k | r => r
theorem eq24c (f g : Fct) : eqT Go.Proofs.Tryd.prog 10000 24 f.val g.val =
    thenF (f.w == g.w) (thenF ((f.one.toNat : Int) == (g.one.toNat : Int)) (thenF ((f.zero.toNat : Int) == (g.zero.toNat : Int)) (thenF ((f.least.toNat : Int) == (g.least.toNat : Int)) (thenF ((f.top.toNat : Int) == (g.top.toNat : Int)) (some true))))) := by kernel_rfl
theorem thenF_eq (b : Bool) (c : Bool) : thenF b (some c) = some (b && c) := by cases b <;> rfl
instance : DecidableEq Fct := fun f g => decidable_of_iff (f.w = g.w ∧ f.one = g.one ∧ f.zero = g.zero ∧ f.least = g.least ∧ f.top = g.top) (by
  cases f; cases g; simp)
theorem eq24 (f g : Fct) : eqT Go.Proofs.Tryd.prog 10000 24 f.val g.val = some (decide (f = g)) := by
  rw [eq24c]
  have key : ∀ a b : W64, ((a.toNat : Int) == (b.toNat : Int)) = decide (a = b) := fun a b => by
    rw [Bool.eq_iff_iff, decide_eq_true_eq]
    simp only [beq_iff_eq]
    exact ⟨fun h => BitVec.eq_of_toNat_eq (by omega), fun h => by rw [h]⟩
  have keyw : (f.w == g.w) = decide (f.w = g.w) := by rw [Bool.eq_iff_iff, decide_eq_true_eq]; simp
  simp only [key, keyw, thenF_eq]
  congr 1
  rw [Bool.eq_iff_iff]
  obtain ⟨w, a, b, c, d⟩ := f
  obtain ⟨w', a', b', c', d'⟩ := g
  simp
section
variable {α : Type}
theorem grd24 : Go.Proofs.Tryd.prog.eqGuardType Go.Proofs.Tryd.prog.depth 24 = false := by kernel_rfl
theorem eq24m (f g : Fct) : eqT Go.Proofs.Tryd.prog Op.maxDepth 24 f.val g.val = some (decide (f = g)) := by
  have e : Op.maxDepth = 10000 := rfl
  rw [e]; exact eq24 f g
theorem f_eqOp (f g : Fct) : eqOp Go.Proofs.Tryd.prog 24 f.val g.val = some (decide (f = g)) := by
  have h := eq24m f g
  unfold eqOp Fct.val
  simp only [grd24]
  exact h
theorem f_eql (f g : Fct) (k : Value → Option α) : pBin Go.Proofs.Tryd.prog .eql 24 f.val g.val k = k (.bool (decide (f = g))) := by
  have h := f_eqOp f g
  unfold Fct.val at h
  unfold pBin binV Fct.val
  simp only [h]
theorem f_neq (f g : Fct) (k : Value → Option α) : pBin Go.Proofs.Tryd.prog .neq 24 f.val g.val k = k (.bool (!decide (f = g))) := by
  have h := f_eqOp f g
  unfold Fct.val at h
  unfold pBin binV Fct.val
  simp only [h]
end
/-! ### What a settled fact is -/
theorem Stl.fit {f g : Fct} (hf : f.May) (h : Stl f g) {t : W64} (ht : Fit g.one g.zero t) : Fit f.one f.zero t := by
  have hn := wd_le hf.w64
  intro j
  constructor
  · intro hj
    refine (ht j).1 ((h.one j).2 ⟨?_, fun t ht => (ht.1 j).1 hj⟩)
    rcases Nat.lt_or_ge j (wd f.w) with q | q
    · exact q
    · rw [(le_msk hn).1 hf.one j q] at hj; cases hj
  · intro hj
    refine (ht j).2 ((h.zero j).2 ⟨?_, fun t ht => (ht.1 j).2 hj⟩)
    rcases Nat.lt_or_ge j (wd f.w) with q | q
    · exact q
    · rw [(le_msk hn).1 hf.zero j q] at hj; cases hj
theorem Stl.mem {f g : Fct} (hf : f.May) (h : Stl f g) (t : W64) : Mem g t ↔ Mem f t := by
  constructor
  · intro ht
    exact ⟨h.fit hf ht.1, Nat.le_trans h.lo.2.1 ht.2.1, Nat.le_trans ht.2.2 h.hi.2.2⟩
  · intro ht
    exact ⟨fun j => ⟨fun hj => ((h.one j).1 hj).2 t ht, fun hj => ((h.zero j).1 hj).2 t ht⟩, h.all t ht⟩
theorem Stl.may {f g : Fct} (hf : f.May) (h : Stl f g) : g.May := by
  have hn := wd_le hf.w64
  refine ⟨by rw [h.w]; exact hf.w0, by rw [h.w]; exact hf.w64, ?_, ?_, by rw [h.w]; exact h.lo.le hf, by rw [h.w]; exact h.hi.le hf⟩
  · rw [h.w]
    refine (le_msk hn).2 fun j hj => ?_
    cases q : g.one.getLsbD j with
    | false => rfl
    | true => have := ((h.one j).1 q).1; omega
  · rw [h.w]
    refine (le_msk hn).2 fun j hj => ?_
    cases q : g.zero.getLsbD j with
    | false => rfl
    | true => have := ((h.zero j).1 q).1; omega
theorem bool_iff {a b : Bool} (h : a = true ↔ b = true) : a = b := Bool.eq_iff_iff.2 h
/-- Two settled facts with the same words are one. -/
theorem Stl.same {f f' g h : Fct} (hw : f.w = f'.w) (hm : ∀ t, Mem f t ↔ Mem f' t) (h1 : Stl f g) (h2 : Stl f' h) : g = h := by
  have e1 : g.w = h.w := by rw [h1.w, h2.w, hw]
  have e2 : g.least = h.least := BitVec.eq_of_toNat_eq (by
    have := (h1.all h.least ((hm _).2 h2.lo)).1
    have := (h2.all g.least ((hm _).1 h1.lo)).1
    omega)
  have e3 : g.top = h.top := BitVec.eq_of_toNat_eq (by
    have := (h1.all h.top ((hm _).2 h2.hi)).2
    have := (h2.all g.top ((hm _).1 h1.hi)).2
    omega)
  have e4 : g.one = h.one := bit_eq fun j => bool_iff (by
    rw [h1.one, h2.one, hw]
    exact ⟨fun ⟨a, b⟩ => ⟨a, fun t ht => b t ((hm t).2 ht)⟩, fun ⟨a, b⟩ => ⟨a, fun t ht => b t ((hm t).1 ht)⟩⟩)
  have e5 : g.zero = h.zero := bit_eq fun j => bool_iff (by
    rw [h1.zero, h2.zero, hw]
    exact ⟨fun ⟨a, b⟩ => ⟨a, fun t ht => b t ((hm t).2 ht)⟩, fun ⟨a, b⟩ => ⟨a, fun t ht => b t ((hm t).1 ht)⟩⟩)
  cases g; cases h
  simp only at e1 e2 e3 e4 e5
  rw [e1, e2, e3, e4, e5]
/-- The answer of Settle. -/
def SetR (f g : Fct) (e : Int) : Prop := (¬ f.May ∧ g = F0 ∧ e = 5) ∨ (f.May ∧ (∀ t, ¬ Mem f t) ∧ g = F0 ∧ e = 1) ∨ (f.May ∧ Stl f g ∧ e = 0)
theorem c20 (f : Fct) (H : Hp) : ∃ g e, SetR f g e ∧ R 20 [f.val] H = some (.tuple #[g.val, .int .i64 e], H) := by
  have hr := r20 E14 rfl f.val H
  unfold m20 at hr
  rw [f_all, s_call (c19 f H), s_not, s_bool, s_br] at hr
  by_cases hf : f.May
  case neg =>
    rw [if_pos (by simp [hf]), b_nil, sp_0, f_all] at hr
    exact ⟨F0, 5, .inl ⟨hf, rfl, rfl⟩, hr⟩
  rw [if_neg (by simp [hf]), f_all] at hr
  rcases c33 hf H with ⟨g, h1, h2⟩ | ⟨h1, h2⟩
  · rw [s_call h2, q_ext0, q_ext1, sp_0, s_not, s_bool, s_br, if_neg (by decide), f_all, sp_0, f_all] at hr
    exact ⟨g, 0, .inr (.inr ⟨hf, h1, rfl⟩), hr⟩
  · rw [s_call h2, q_ext0, q_ext1, sp_0, s_not, s_bool, s_br, if_pos (by decide), b_nil, sp_0, f_all] at hr
    exact ⟨F0, 1, .inr (.inl ⟨hf, h1, rfl, rfl⟩), hr⟩
theorem c13 (v : Value) (H : Hp) : R 13 [v] H = some (v, H) := r13 E14 rfl v H
theorem c7 (f : Fct) (H : Hp) : ∃ g e, SetR f g e ∧ R 7 [f.val] H = some (.tuple #[g.val, .bool (decide (e = 0))], H) := by
  obtain ⟨g, e, h1, h2⟩ := c20 f H
  refine ⟨g, e, h1, ?_⟩
  refine (r7 E14 rfl _ H).trans ?_
  unfold m7
  rw [f_all, s_call h2, q_ext0, q_ext1, sp_0, f_all, s_call (c13 _ H), s_eql, sp_0, f_all]
end Go.AM.N14
/- The abstract machine: arguments. -/
set_option linter.unusedVariables false
namespace Go.AM
open Go Go.ChangeShapes Go.WideShapes Go.ChangeAt Go.RowKit

inductive Sc where
  | bool | int (k : IntKind) | str
def okSc : Sc → Value → Prop
  | .bool, v => ∃ b, v = .bool b
  | .int k, v => ∃ n, v = .int k n ∧ k.min ≤ n ∧ n ≤ k.max
  | .str, v => ∃ s : ByteArray, v = .string s
theorem okSc.rel {k : Sc} {v : Value} (h : okSc k v) (β : Bt) : VRel β v v := by
  cases k with
  | bool => obtain ⟨b, rfl⟩ := h; exact .bool b
  | int k => obtain ⟨n, rfl, _⟩ := h; exact .int k n
  | str => obtain ⟨s, rfl⟩ := h; exact .string s

/-- The cells of a type that holds nothing but truths, numbers and texts. -/
def flatFs (P : Program) (c : TypeId → Option (List Sc)) : List Field → Nat → Option (List Sc)
  | [], _ => some []
  | f :: fs, off => match c f.type with
    | none => none
    | some ks => match Nat.beq f.offset off && Nat.beq ks.length (P.cellsOf f.type) with
      | true => match flatFs P c fs (off + ks.length) with
        | some r => some (ks ++ r)
        | none => none
      | false => none
def flat (P : Program) : Nat → TypeId → Option (List Sc)
  | 0, _ => none
  | d + 1, t => match P.underlying t with
    | some .bool => some [.bool]
    | some (.int k) => some [.int k]
    | some .string => some [.str]
    | some (.struct fs) => match flatFs P (flat P d) fs.toList 0 with
      | some ks => match Nat.beq ks.length (P.cellsOf t) with
        | true => some ks
        | false => none
      | none => none
    | _ => none

def OkL (ks : List Sc) (cs : List Value) : Prop := cs.length = ks.length ∧ ∀ (j : Nat) k, ks[j]? = some k → ∃ v, cs[j]? = some v ∧ okSc k v
theorem OkL.one {k : Sc} {v : Value} (h : okSc k v) : OkL [k] [v] := ⟨rfl, fun j k' hk => by
  cases j with
  | zero => cases hk; exact ⟨v, rfl, h⟩
  | succ j => cases hk⟩

variable {HH : Type} {enc : TypeId × Value → HH} {P : Program} {w : World} {base : Nat} {sp : Nat → Bool} {held : Bool}

theorem flatFs_ok {n : Nat} {c : TypeId → Option (List Sc)} (hc : ∀ t ks cs x, c t = some ks → DataW.trod enc P w base sp held n t cs = some x → OkL ks cs) {cs : List Value} :
    ∀ (fs : List Field) (off : Nat) (ks : List Sc), flatFs P c fs off = some ks → (∀ f ∈ fs, ∃ x, DataW.trod enc P w base sp held n f.type ((cs.drop f.offset).take (P.cellsOf f.type)) = some x) → off + ks.length ≤ cs.length →
      ∀ (j : Nat) k, ks[j]? = some k → ∃ v, cs[off + j]? = some v ∧ okSc k v
  | [], off, ks, h, _, _, j, k, hk => by cases h; cases hk
  | f :: fs, off, ks, h, hx, hl, j, k, hk => by
    unfold flatFs at h
    split at h
    · cases h
    · rename_i k1 h1
      split at h
      · rename_i hb
        rw [Bool.and_eq_true] at hb
        have ho : f.offset = off := Nat.eq_of_beq_eq_true hb.1
        have hk1 : k1.length = P.cellsOf f.type := Nat.eq_of_beq_eq_true hb.2
        split at h
        · rename_i r hr
          cases h
          obtain ⟨x, hx1⟩ := hx f (List.mem_cons_self ..)
          have hok := hc _ _ _ _ h1 hx1
          rcases Nat.lt_or_ge j k1.length with q | q
          · rw [List.getElem?_append_left q] at hk
            obtain ⟨v, hv, hs⟩ := hok.2 j k hk
            rw [List.getElem?_take] at hv
            split at hv
            · rw [List.getElem?_drop, ho] at hv
              exact ⟨v, hv, hs⟩
            · cases hv
          · rw [List.getElem?_append_right q] at hk
            simp only [List.length_append] at hl
            obtain ⟨v, hv, hs⟩ := flatFs_ok hc fs (off + k1.length) r hr (fun f hf => hx f (List.mem_cons_of_mem _ hf)) (by omega) (j - k1.length) k hk
            exact ⟨v, by rw [show off + j = off + k1.length + (j - k1.length) by omega]; exact hv, hs⟩
        · cases h
      · cases h

theorem flat_ok : ∀ (d : Nat) (t : TypeId) (ks : List Sc), flat P d t = some ks → ∀ (fuel : Nat) (cs : List Value) (x : DataW HH × List MemPlace), DataW.trod enc P w base sp held fuel t cs = some x → OkL ks cs
  | 0, t, ks, h, _, _, _, _ => by cases h
  | d + 1, t, ks, h, fuel, cs, x, hx => by
    unfold flat at h
    split at h
    · rename_i hu
      cases h
      obtain ⟨b, rfl, _⟩ := DataW.trod_bool hu hx
      exact OkL.one ⟨b, rfl⟩
    · rename_i k hu
      cases h
      obtain ⟨n, rfl, _, hw⟩ := DataW.trod_int hu hx
      refine OkL.one ⟨n, rfl, ?_⟩
      simpa [Lit.wf] using hw
    · rename_i hu
      cases h
      obtain ⟨s, rfl, _⟩ := DataW.trod_string hu hx
      exact OkL.one ⟨s, rfl⟩
    · rename_i fs hu
      split at h
      · rename_i k1 hf
        split at h
        · rename_i hb
          cases h
          have hlen : ks.length = P.cellsOf t := Nat.eq_of_beq_eq_true hb
          obtain ⟨xs, n, rfl, _, hl, hxl, hall⟩ := DataW.trod_struct hu hx
          refine ⟨by omega, fun j k hk => ?_⟩
          obtain ⟨v, hv, hs⟩ := flatFs_ok (n := n) (fun t ks cs x h1 h2 => flat_ok d t ks h1 n cs x h2) (cs := cs) fs.toList 0 ks hf (fun f hf => by
            obtain ⟨i, hi, rfl⟩ := List.getElem_of_mem hf
            have hi' : i < fs.size := by simpa using hi
            have := hall i fs.toList[i] (by simp [hi'])
            rw [this]
            exact ⟨xs[i], by simp⟩) (by omega) j k hk
          exact ⟨v, by simpa using hv, hs⟩
        · cases h
      · cases h
    · cases h

/-! ### Start heaps -/
def H00 (P : Program) : Hp := ⟨P.globals.size, fun _ => none⟩
def B00 (P : Program) : Bt := fun g => if g < P.globals.size then some ⟨g, 0, 0⟩ else none
theorem rel00 {W : World} (h : P.globals.size ≤ W.heap.size) : Rel P W (H00 P) (B00 P) :=
  ⟨fun i cs own hi => (by cases hi), fun i kv hi => (by cases hi), fun i j o o' x y _ hi => (by cases hi), fun i hi => ⟨rfl, by unfold B00; rw [if_neg (by have : P.globals.size ≤ i := hi; omega)]⟩,
    fun i x hx => by unfold B00 at hx; split at hx <;> cases hx; show i < _; omega, fun g hg => ⟨0, by unfold B00; rw [if_pos hg]⟩, fun i o hi => (by cases hi)⟩
/-- A start with package variables that are known. -/
def HFix (P : Program) (F : Nat → Option Obj) : Hp := ⟨P.globals.size, fun i => if i < P.globals.size then (F i).map .fix else none⟩
theorem relFix {W : World} (h : P.globals.size ≤ W.heap.size) {F : Nat → Option Obj} (hF : ∀ i o, F i = some o → W.heap[i]? = some o) : Rel P W (HFix P F) (B00 P) ∧ (∀ i o, (HFix P F).get i = some o → o.own = false) := by
  have key : ∀ i o, (HFix P F).get i = some o → i < P.globals.size ∧ ∃ q, F i = some q ∧ o = .fix q := fun i o hi => by
    have hi : (if i < P.globals.size then (F i).map AObj.fix else none) = some o := hi
    split at hi
    · rename_i hlt
      cases hq : F i with
      | none => rw [hq] at hi; cases hi
      | some q => rw [hq] at hi; cases hi; exact ⟨hlt, q, rfl, rfl⟩
    · cases hi
  have hno : ∀ i o, (HFix P F).get i = some o → o.own = false := fun i o hi => by obtain ⟨_, q, _, rfl⟩ := key i o hi; rfl
  refine ⟨⟨fun i cs own hi => ?_, fun i kv hi => ?_, fun i j o o' x y _ hi _ ho => ?_, fun i hi => ⟨?_, by unfold B00; rw [if_neg (by have : P.globals.size ≤ i := hi; omega)]⟩,
    fun i x hx => (by unfold B00 at hx; split at hx <;> cases hx; show i < _; omega), fun g hg => ⟨0, by unfold B00; rw [if_pos hg]⟩, fun i o hi => ?_⟩, hno⟩
  · obtain ⟨_, q, _, e⟩ := key i _ hi; cases e
  · obtain ⟨_, q, _, e⟩ := key i _ hi; cases e
  · rw [hno i o hi] at ho; cases ho
  · show (if i < P.globals.size then (F i).map AObj.fix else none) = none
    have : P.globals.size ≤ i := hi
    rw [if_neg (by omega)]
  · obtain ⟨h1, q, h2, e⟩ := key i _ hi
    cases e
    exact ⟨⟨i, 0, 0⟩, by unfold B00; rw [if_pos h1], hF i _ h2⟩
/-- A thing that is only read. -/
theorem Rel.addRo {W : World} {H : Hp} {β : Bt} (h : Rel P W H β) (hno : ∀ i o, H.get i = some o → o.own = false) {cs : List Value} {b s t : Nat} (hb : b < W.heap.size)
    (hc : ∀ (j : Nat) v, cs[j]? = some v → ∃ v', W.cell? ⟨b, s + j, none⟩ = some v' ∧ VRel β v v') :
    Rel P W (H.new (.cells cs false)) (β.set H.next ⟨b, s, t⟩) ∧ (∀ i o, (H.new (.cells cs false)).get i = some o → o.own = false) ∧ β.le (β.set H.next ⟨b, s, t⟩) := by
  have hf := (h.fresh H.next (Nat.le_refl _)).2
  have hle : β.le (β.set H.next ⟨b, s, t⟩) := Bt.le_set hf
  have hno' : ∀ i o, (H.new (.cells cs false)).get i = some o → o.own = false := fun i o hi => by
    rw [Hp.get_new] at hi
    split at hi
    · cases hi; rfl
    · exact hno i o hi
  refine ⟨⟨fun i ds own hi => ?_, fun i kv hi => ?_, fun i j o o' x y hij hi hj ho => (by rw [hno' i o hi] at ho; cases ho), fun i hi => ?_, fun i x hx => ?_, fun g hg => ?_, fun i o hi => (by
      rw [Hp.get_new] at hi
      split at hi
      · cases hi
      · obtain ⟨x, hx, h1⟩ := h.fix i o hi
        exact ⟨x, hle i x hx, h1⟩)⟩, hno', hle⟩
  · rw [Hp.get_new] at hi
    split at hi
    · rename_i e
      cases hi
      subst e
      exact ⟨_, Bt.set_same _ _ _, fun j v hv => by obtain ⟨v', h1, h2⟩ := hc j v hv; exact ⟨v', h1, h2.mono hle⟩, fun ho => by cases ho⟩
    · obtain ⟨x, hx, h1, h2⟩ := h.cells i ds own hi
      exact ⟨x, hle i x hx, fun j v hv => by obtain ⟨v', h3, h4⟩ := h1 j v hv; exact ⟨v', h3, h4.mono hle⟩, h2⟩
  · rw [Hp.get_new] at hi
    split at hi
    · cases hi
    · have := hno i _ hi
      cases this
  · have hi : H.next + 1 ≤ i := hi
    have := h.fresh i (by omega)
    refine ⟨?_, ?_⟩
    · rw [Hp.get_new, if_neg (by omega)]; exact this.1
    · unfold Bt.set; rw [if_neg (by omega)]; exact this.2
  · unfold Bt.set at hx
    split at hx
    · cases hx; exact hb
    · exact h.lt i x hx
  · obtain ⟨t', ht⟩ := h.glob g hg
    exact ⟨t', hle g _ ht⟩

/-! ### Slices of flat things -/
theorem mapM_get {γ δ : Type} {f : γ → Option δ} : ∀ (l : List γ) (cs : List δ), l.mapM f = some cs → cs.length = l.length ∧ ∀ (j : Nat) x, l[j]? = some x → ∃ c, cs[j]? = some c ∧ f x = some c
  | [], cs, h => by cases h; exact ⟨rfl, fun j x hx => by cases hx⟩
  | y :: l, cs, h => by
    rw [List.mapM_cons] at h
    cases hy : f y with
    | none => rw [hy] at h; cases h
    | some c =>
      rw [hy] at h
      cases hl : l.mapM f with
      | none => rw [hl] at h; cases h
      | some r =>
        rw [hl] at h
        cases h
        obtain ⟨h1, h2⟩ := mapM_get l r hl
        refine ⟨by simp [h1], fun j x hx => ?_⟩
        cases j with
        | zero => cases hx; exact ⟨c, rfl, hy⟩
        | succ j => exact h2 j x hx
theorem flatten_get {sz : Nat} : ∀ (L : List (List Value)), (∀ l ∈ L, l.length = sz) → ∀ i j, j < sz → L.flatten[i * sz + j]? = L[i]?.bind fun l => l[j]?
  | [], _, i, j, _ => by simp
  | l :: L, hL, i, j, hj => by
    have h0 := hL l (List.mem_cons_self ..)
    rw [List.flatten_cons]
    cases i with
    | zero =>
      rw [Nat.zero_mul, Nat.zero_add, List.getElem?_append_left (by omega)]
      rfl
    | succ i =>
      rw [List.getElem?_append_right (by rw [h0, Nat.succ_mul]; omega), h0, show (i + 1) * sz + j - sz = i * sz + j by rw [Nat.succ_mul]; omega]
      exact flatten_get L (fun l hl => hL l (List.mem_cons_of_mem _ hl)) i j hj
theorem flatten_length {sz : Nat} : ∀ (L : List (List Value)), (∀ l ∈ L, l.length = sz) → L.flatten.length = L.length * sz
  | [], _ => by simp
  | l :: L, hL => by
    rw [List.flatten_cons, List.length_append, hL l (List.mem_cons_self ..), flatten_length L (fun l hl => hL l (List.mem_cons_of_mem _ hl)), List.length_cons, Nat.succ_mul]
    omega

theorem arg_flats {t e : TypeId} {d : Nat} {ks : List Sc} (ht : P.underlying t = some (.slice e)) (hf : flat P d e = some ks) (hk : P.cellsOf e = ks.length) (h0 : 0 < ks.length)
    {W : World} {H : Hp} {β : Bt} (hR : Rel P W H β) (hno : ∀ i o, H.get i = some o → o.own = false) {b0 : Nat} {v' : Value} {dw : DataW HH} {ps : List MemPlace}
    (hval : Value.okWide P W .any b0 t v') (hd : DataW.Trod enc P W 0 (fun _ => true) true t v' dw ps) :
    ∃ (v : Value) (H' : Hp) (β' : Bt), Rel P W H' β' ∧ (∀ i o, H'.get i = some o → o.own = false) ∧ β.le β' ∧ VRel β' v v' ∧
      ((v = .slice none 0 0 ∧ dw = .nil ∧ H' = H) ∨
        ∃ (L : List (List Value)) (es sp : List (DataW HH)), v = .slice (some ⟨H.next, 0, some ks.length⟩) L.length L.length ∧ H' = H.new (.cells L.flatten false) ∧ (∀ l ∈ L, OkL ks l) ∧ dw = .slice es sp ∧ es.length = L.length) := by
  obtain ⟨a, len, cap, rfl⟩ := okWide_slice ht hval
  obtain ⟨fuel, hx⟩ := hd
  rcases DataW.trod_slice ht hx with ⟨h1, h2⟩ | ⟨a', len', cap', elems, rest, n, hfu, h1, h2, h3, h4, h5, h6, h7, _, _⟩
  · cases h1
    cases h2
    exact ⟨.slice none 0 0, H, β, hR, hno, Bt.le_refl _, .snil, .inl ⟨rfl, rfl, rfl⟩⟩
  · cases h1
    have hhas : W.has P .any b0 a' e cap := by
      have := hval
      unfold Value.okWide Cell.okWide Cell.ok at this
      rw [ht] at this
      exact this.2.2
    obtain ⟨_, hspot, row, cells, hshape, _⟩ := hhas
    obtain ⟨b, s, sp0⟩ := a'
    simp only at hspot
    subst hspot
    have hbl : b < W.heap.size := by
      unfold World.shape? at hshape
      cases hq : W.heap[b]? with
      | none => rw [hq] at hshape; cases hshape
      | some o => exact (Array.getElem?_eq_some_iff.1 hq).1
    have hrow : ∀ i, i < len → ∃ l : List Value, OkL ks l ∧ ∀ j u, l[j]? = some u → W.cell? ⟨b, s + (i * ks.length + j), none⟩ = some u := by
      intro i hi
      have := h7 i hi
      cases hc : W.cells? 0 ((⟨b, s, none⟩ : Addr).add (i * P.cellsOf e)) (P.cellsOf e) with
      | none =>
        rw [hc] at this
        have hlt : i < elems.length := by omega
        rw [List.getElem?_eq_getElem hlt] at this; cases this
      | some l =>
        rw [hc] at this
        have hlt : i < elems.length := by omega
        rw [List.getElem?_eq_getElem hlt] at this
        have hok := flat_ok d e ks hf n l _ this
        refine ⟨l, hok, fun j u hu => ?_⟩
        unfold World.cells? at hc
        rw [if_pos (Nat.zero_le _)] at hc
        obtain ⟨g1, g2⟩ := mapM_get _ _ hc
        have hjl : j < l.length := (List.getElem?_eq_some_iff.1 hu).1
        obtain ⟨c, g3, g4⟩ := g2 j j (by rw [List.getElem?_range]; simp at g1; omega)
        rw [hu] at g3; cases g3
        rw [hk, addr_add, addr_add] at g4
        rw [show s + (i * ks.length + j) = s + i * ks.length + j by omega]
        exact g4
    have hL : ∃ L : List (List Value), L.length = len ∧ ∀ i l, L[i]? = some l → OkL ks l ∧ ∀ j u, l[j]? = some u → W.cell? ⟨b, s + (i * ks.length + j), none⟩ = some u := by
      refine ⟨(List.range len).map fun i => if h : i < len then (hrow i h).choose else [], by simp, fun i l hl => ?_⟩
      rw [List.getElem?_map] at hl
      by_cases hi : i < len
      · rw [List.getElem?_range hi] at hl
        simp only [Option.map_some, dif_pos hi, Option.some.injEq] at hl
        subst hl
        exact (hrow i hi).choose_spec
      · rw [List.getElem?_eq_none (by simp; omega)] at hl; cases hl
    obtain ⟨L, hLl, hLp⟩ := hL
    have hLk : ∀ l ∈ L, OkL ks l := fun l hl => by
      obtain ⟨i, hi, rfl⟩ := List.getElem_of_mem hl
      exact (hLp i L[i] (by simp)).1
    have hLs : ∀ l ∈ L, l.length = ks.length := fun l hl => (hLk l hl).1
    obtain ⟨g1, g2, g3⟩ := hR.addRo hno (cs := L.flatten) (b := b) (s := s) (t := s + cap * ks.length) hbl (fun q v hv => by
      have hq : q < L.flatten.length := (List.getElem?_eq_some_iff.1 hv).1
      rw [flatten_length L hLs] at hq
      have hdm : q / ks.length * ks.length + q % ks.length = q := by rw [Nat.mul_comm]; exact Nat.div_add_mod q ks.length
      have hm := Nat.mod_lt q h0
      rw [← hdm, flatten_get L hLs _ _ hm] at hv
      cases hl : L[q / ks.length]? with
      | none => rw [hl] at hv; cases hv
      | some l =>
        rw [hl] at hv
        obtain ⟨p1, p2⟩ := hLp _ l hl
        refine ⟨v, ?_, ?_⟩
        · have := p2 (q % ks.length) v hv
          rw [hdm] at this
          exact this
        · have hkk : q % ks.length < ks.length := hm
          obtain ⟨u, hu1, hu2⟩ := p1.2 (q % ks.length) _ (List.getElem?_eq_getElem hkk)
          have hv' : l[q % ks.length]? = some v := hv
          rw [hu1] at hv'; cases hv'
          exact hu2.rel _)
    refine ⟨.slice (some ⟨H.next, 0, some ks.length⟩) L.length L.length, _, _, g1, g2, g3, ?_, .inr ⟨L, _, _, rfl, rfl, hLk, (Prod.mk.inj h2).1, by simp; omega⟩⟩
    rw [hLl]
    exact .slice _ _ _ _ _ _ _ _ (Bt.set_same _ _ _) (Nat.le_refl _) h4 (Nat.le_refl _) (fun _ => rfl)
end Go.AM
/- The chapter's examples, worked out by the kernel. -/
namespace Go.AM.N14
open Go Go.AM
theorem live_map : (runM 70 Go.Proofs.Tryd.prog orc E14 30 6 [] ⟨1, fun _ => none⟩).map (·.1) = some (.bool true) := by kernel_rfl
theorem globs : Go.Proofs.Tryd.prog.globals.size = 1 := by kernel_rfl
theorem live_run : ∃ H', R 6 [] (H00 Go.Proofs.Tryd.prog) = some (.bool true, H') := by
  have e : H00 Go.Proofs.Tryd.prog = ⟨1, fun _ => none⟩ := by unfold H00; rw [globs]
  rw [e]
  have h := live_map
  cases hq : runM 70 Go.Proofs.Tryd.prog orc E14 30 6 [] ⟨1, fun _ => none⟩ with
  | none => rw [hq] at h; cases h
  | some r =>
    obtain ⟨v, H'⟩ := r
    rw [hq] at h
    have h : some v = some (Value.bool true) := h
    cases h
    exact ⟨H', run_of_runM hq⟩
theorem xt14 : XtC Go.Proofs.Tryd.prog orc.xt := by
  intro f e h
  have h : look none [(89, some add64)] f = some e := h
  unfold look at h
  split at h
  · rename_i q
    cases h
    have : f = 89 := (Nat.eq_of_beq_eq_true q).symm
    subst this
    exact add64_xt Go.Proofs.Tryd.func89 (by kernel_rfl) (by kernel_rfl) (by kernel_rfl) (by kernel_rfl)
  · cases h
end Go.AM.N14
/- KnownTight: the run. -/
set_option linter.unusedVariables false
set_option linter.unusedSimpArgs false
namespace Go.AM.N14
open Go Go.AM
section
variable {α : Type}
theorem u4 : Go.Proofs.Tryd.prog.underlying 4 = some .bool := Go.Proofs.Tryd.underlying4
theorem b_bneq (a b : Bool) (k : Value → Option α) : pBin Go.Proofs.Tryd.prog .neq 4 (.bool a) (.bool b) k = k (.bool (!(a == b))) := by
  have h : eqT Go.Proofs.Tryd.prog Op.maxDepth 4 (.bool a) (.bool b) = some (a == b) := by
    have e : Op.maxDepth = 9999 + 1 := rfl
    rw [e]; simp only [eqT, u4]
  unfold pBin binV eqOp
  simp only [h]
end
/-- Where the walk through all words stands. -/
structure Inv3 (f : Fct) (m a n lo hi : W64) (k : Nat) : Prop where
  one : ∀ j, a.getLsbD j = true ↔ (m.getLsbD j = true ∧ ∀ t : W64, t.toNat < k → Mem f t → t.getLsbD j = true)
  any : ∀ j, n.getLsbD j = true ↔ ∃ t : W64, t.toNat < k ∧ Mem f t ∧ t.getLsbD j = true
  lo1 : ∀ t : W64, t.toNat < k → Mem f t → lo.toNat ≤ t.toNat
  lo2 : lo = m ∨ Mem f lo
  hi1 : ∀ t : W64, t.toNat < k → Mem f t → t.toNat ≤ hi.toNat
  hi2 : hi = 0#64 ∨ Mem f hi
theorem inv3_skip {f : Fct} {m a n lo hi y : W64} (h : Inv3 f m a n lo hi y.toNat) (hy : ¬ Mem f y) : Inv3 f m a n lo hi (y.toNat + 1) := by
  have key : ∀ t : W64, t.toNat < y.toNat + 1 → Mem f t → t.toNat < y.toNat := fun t h1 h2 => by
    rcases Nat.lt_or_eq_of_le (Nat.le_of_lt_succ h1) with q | q
    · exact q
    · exact absurd (BitVec.eq_of_toNat_eq q ▸ h2) hy
  refine ⟨fun j => ?_, fun j => ?_, fun t h1 h2 => h.lo1 t (key t h1 h2) h2, h.lo2, fun t h1 h2 => h.hi1 t (key t h1 h2) h2, h.hi2⟩
  · rw [h.one j]
    exact ⟨fun ⟨a, b⟩ => ⟨a, fun t h1 h2 => b t (key t h1 h2) h2⟩, fun ⟨a, b⟩ => ⟨a, fun t h1 h2 => b t (by omega) h2⟩⟩
  · rw [h.any j]
    exact ⟨fun ⟨t, a, b, c⟩ => ⟨t, by omega, b, c⟩, fun ⟨t, a, b, c⟩ => ⟨t, key t a b, b, c⟩⟩
theorem inv3_put {f : Fct} {m a n lo hi y : W64} (hm : y.toNat ≤ m.toNat) (h : Inv3 f m a n lo hi y.toNat) (hy : Mem f y) : Inv3 f m (a &&& y) (n ||| y) (if y.toNat < lo.toNat then y else lo) y (y.toNat + 1) := by
  have key : ∀ t : W64, t.toNat < y.toNat + 1 → t.toNat < y.toNat ∨ t = y := fun t h1 => by
    rcases Nat.lt_or_eq_of_le (Nat.le_of_lt_succ h1) with q | q
    · exact .inl q
    · exact .inr (BitVec.eq_of_toNat_eq q)
  refine ⟨fun j => ?_, fun j => ?_, fun t h1 h2 => ?_, ?_, fun t h1 h2 => by omega, .inr hy⟩
  · rw [BitVec.getLsbD_and, Bool.and_eq_true, h.one j]
    constructor
    · rintro ⟨⟨a, b⟩, c⟩
      exact ⟨a, fun t h1 h2 => by
        rcases key t h1 with q | rfl
        · exact b t q h2
        · exact c⟩
    · rintro ⟨a, b⟩
      exact ⟨⟨a, fun t h1 h2 => b t (by omega) h2⟩, b y (by omega) hy⟩
  · rw [BitVec.getLsbD_or, Bool.or_eq_true, h.any j]
    constructor
    · rintro (⟨t, a, b, c⟩ | c)
      · exact ⟨t, by omega, b, c⟩
      · exact ⟨y, by omega, hy, c⟩
    · rintro ⟨t, a, b, c⟩
      rcases key t a with q | rfl
      · exact .inl ⟨t, q, b, c⟩
      · exact .inr c
  · split
    · rcases key t h1 with q | rfl
      · have := h.lo1 t q h2; omega
      · exact Nat.le_refl _
    · rcases key t h1 with q | rfl
      · exact h.lo1 t q h2
      · omega
  · split
    · exact .inr hy
    · exact h.lo2
theorem s3_step {f : Fct} (hf : f.May) {m a n lo hi y : W64} (hy : y.toNat ≤ m.toNat) (h : Inv3 f m a n lo hi y.toNat) (H : Hp) : ∃ a' n' lo' hi', Inv3 f m a' n' lo' hi' (y.toNat + 1) ∧
    s3_1 R f.val (wv m) [wv a, wv n, wv lo, wv hi, wv y] H = some (.next, [wv a', wv n', wv lo', wv hi', wv (y + 1#64)], H) := by
  by_cases hM : Mem f y
  · refine ⟨_, _, _, _, inv3_put hy h hM, ?_⟩
    unfold s3_1
    simp only [List.getD_cons_zero, List.getD_cons_succ, b_leq, s_bool, s_br, decide_eq_true_eq, f_all, s_call (c9 f y H), s_not, u_1, b_add, b_and, b_or, b_lss]
    rw [if_pos hy, if_neg (by simp [hf, hM])]
    by_cases q : y.toNat < lo.toNat
    · rw [if_pos q, if_pos q]
    · rw [if_neg q, if_neg q]
  · refine ⟨a, n, lo, hi, inv3_skip h hM, ?_⟩
    unfold s3_1
    simp only [List.getD_cons_zero, List.getD_cons_succ, b_leq, s_bool, s_br, decide_eq_true_eq, f_all, s_call (c9 f y H), s_not, u_1, b_add, b_and, b_or, b_lss]
    rw [if_pos hy, if_pos (by simp [hM])]
theorem loop3 {f : Fct} (hf : f.May) {m : W64} (hm : m.toNat < 2 ^ 32) (H : Hp) : ∀ (d : Nat) (a n lo hi y : W64), y.toNat + d = m.toNat + 1 → Inv3 f m a n lo hi y.toNat →
    ∃ a' n' lo' hi' y', Inv3 f m a' n' lo' hi' (m.toNat + 1) ∧ loopD (s3_1 R f.val (wv m)) [wv a, wv n, wv lo, wv hi, wv y] H = some (.exit 0, [wv a', wv n', wv lo', wv hi', wv y'], H)
  | 0, a, n, lo, hi, y, hd, h => by
    have e : y.toNat = m.toNat + 1 := by omega
    refine ⟨a, n, lo, hi, y, e ▸ h, ?_⟩
    rw [loopD_eq]
    have : s3_1 R f.val (wv m) [wv a, wv n, wv lo, wv hi, wv y] H = some (.exit 0, [wv a, wv n, wv lo, wv hi, wv y], H) := by
      unfold s3_1
      simp only [List.getD_cons_zero, List.getD_cons_succ, b_leq, s_bool, s_br, decide_eq_true_eq]
      rw [if_neg (by omega)]
    rw [this]; rfl
  | d + 1, a, n, lo, hi, y, hd, h => by
    obtain ⟨a1, n1, l1, h1, i1, e1⟩ := s3_step hf (show y.toNat ≤ m.toNat by omega) h H
    have ey : (y + 1#64).toNat = y.toNat + 1 := by
      rw [BitVec.toNat_add]
      show (y.toNat + 1) % 2 ^ 64 = _
      rw [Nat.mod_eq_of_lt (by omega)]
    obtain ⟨a2, n2, l2, h2, y2, i2, e2⟩ := loop3 hf hm H d a1 n1 l1 h1 (y + 1#64) (by omega) (ey ▸ i1)
    refine ⟨a2, n2, l2, h2, y2, i2, ?_⟩
    rw [loopD_eq, e1]
    exact e2
theorem run3 (f : Fct) (x : W64) : ∃ H', R 3 [f.val, wv x] (H00 Go.Proofs.Tryd.prog) = some (.bool true, H') := by
  obtain ⟨HL, hL⟩ := live_run
  obtain ⟨g, e, hs, hg⟩ := c7 f HL
  have hr := (r3 E14 rfl f.val (wv x) (H00 Go.Proofs.Tryd.prog)).trans (k3 _ _ _ _)
  rw [s_call hL, s_not, s_bool, s_br, if_neg (by decide), f_all, s_call hg, q_ext0, q_ext1, sp_0, f_all, s_call (c8 f HL), s_not, s_bool, s_br] at hr
  refine ⟨HL, ?_⟩
  rcases hs with ⟨h1, rfl, rfl⟩ | ⟨h1, h2, rfl, rfl⟩ | ⟨h1, h2, rfl⟩
  · rw [if_pos (by simp [h1]), s_not, s_bool, s_br, if_pos (by decide), f_all, b_nil, f_eql] at hr
    simpa using hr
  · rw [if_neg (by simp [h1]), s_not, s_bool, s_br, if_pos (by decide), f_all, b_nil, f_eql, s_bool, s_br, if_pos (by simp), f_all, s_call (c9 f x HL), s_not, s_bool, s_br, if_pos (by simp [h2]), f_all, f_least, s_call (c9 f f.least HL), s_not, s_bool, s_br, if_pos (by simp [h2]),
      f_all, f_top, s_call (c9 f f.top HL), s_not] at hr
    simpa [h2] using hr
  · have hgm := h2.may h1
    rw [if_neg (by simp [h1]), s_not, s_bool, s_br, if_neg (by decide), f_all] at hr
    obtain ⟨h, e', hs', hh⟩ := c7 g HL
    rcases hs' with ⟨q1, _, _⟩ | ⟨_, q2, _, _⟩ | ⟨_, q3, rfl⟩
    · exact absurd hgm q1
    · exact absurd ((h2.mem h1 _).2 h2.lo) (q2 _)
    have hgh : g = h := h2.same h2.w.symm (fun t => (h2.mem h1 t).symm) q3
    subst hgh
    have n1 : (f.May ∧ Mem f g.least) = True := eq_true ⟨h1, h2.lo⟩
    have n2 : (f.May ∧ Mem f g.top) = True := eq_true ⟨h1, h2.hi⟩
    have n3 : (decide (f.May ∧ Mem f x) == decide (g.May ∧ Mem g x)) = true := by
      have : (f.May ∧ Mem f x) ↔ (g.May ∧ Mem g x) := ⟨fun q => ⟨hgm, (h2.mem h1 x).2 q.2⟩, fun q => ⟨h1, (h2.mem h1 x).1 q.2⟩⟩
      simp [this]
    rw [s_call hh, q_ext0, q_ext1, sp_0, s_not, s_bool, s_br, if_neg (by decide), f_all, f_all, f_neq, s_bool, s_br, if_neg (by simp), f_w, f_w, s_neq, s_bool, s_br, if_neg (by simp [h2.w]), f_all, f_least, s_call (c9 f _ HL), s_not, s_bool, s_br, if_neg (by simp [n1]),
      f_all, f_top, s_call (c9 f _ HL), s_not, s_bool, s_br, if_neg (by simp [n2]), f_all, s_call (c9 f x HL), f_all, s_call (c10 g x HL), b_bneq, s_bool, s_br, if_neg (by rw [n3]; decide), s_bind, s_next, f_w, s_gtr, s_bool, s_br] at hr
    by_cases h8 : f.w > 8
    · rw [if_pos (decide_eq_true h8)] at hr
      exact hr
    rw [if_neg (by simpa using h8), f_w, s_call (c11 h1.w0 h1.w64 HL)] at hr
    have hn := wd_le h1.w64
    have h8n : wd f.w ≤ 8 := by unfold wd; omega
    have hmn := msk_nat (wd f.w) hn
    have hp : 2 ^ wd f.w ≤ 2 ^ 8 := Nat.pow_le_pow_right (by decide) h8n
    have h0 : Inv3 f (msk (wd f.w)) (msk (wd f.w)) 0#64 (msk (wd f.w)) 0#64 (0#64 : W64).toNat :=
      ⟨fun j => ⟨fun q => ⟨q, fun t ht => absurd ht (Nat.not_lt_zero _)⟩, fun q => q.1⟩, fun j => ⟨fun q => absurd q (by rw [BitVec.getLsbD_zero]; decide), fun ⟨t, ht, _⟩ => absurd ht (Nat.not_lt_zero _)⟩, fun t ht => absurd ht (Nat.not_lt_zero _), .inl rfl, fun t ht => absurd ht (Nat.not_lt_zero _), .inl rfl⟩
    obtain ⟨a, n, lo, hi, y, hI, hl⟩ := loop3 h1 (m := msk (wd f.w)) (by omega) HL ((msk (wd f.w)).toNat + 1) (msk (wd f.w)) 0#64 (msk (wd f.w)) 0#64 0#64 (by simp) h0
    have hb : ∀ t, Mem f t → t.toNat < (msk (wd f.w)).toNat + 1 := fun t ht => Nat.lt_succ_of_le (ht.le h1)
    have egl : Mem f lo := by
      rcases hI.lo2 with q | q
      · have a1 := hI.lo1 _ (hb _ h2.lo) h2.lo
        have a2 := h2.lo.le h1
        have : lo = g.least := BitVec.eq_of_toNat_eq (by rw [q] at a1 ⊢; omega)
        rw [this]; exact h2.lo
      · exact q
    have egh : Mem f hi := by
      rcases hI.hi2 with q | q
      · have a1 := hI.hi1 _ (hb _ h2.lo) h2.lo
        have : hi = g.least := BitVec.eq_of_toNat_eq (by rw [q] at a1 ⊢; have e0 : (0#64 : W64).toNat = 0 := rfl; omega)
        rw [this]; exact h2.lo
      · exact q
    have hfin : g = ⟨f.w, a, msk (wd f.w) &&& ~~~n, lo, hi⟩ := by
      have hst : Stl f ⟨f.w, a, msk (wd f.w) &&& ~~~n, lo, hi⟩ := by
        refine ⟨rfl, egl, egh, fun t ht => ⟨hI.lo1 t (hb t ht) ht, hI.hi1 t (hb t ht) ht⟩, fun j => ?_, fun j => ?_⟩
        · show a.getLsbD j = true ↔ _
          rw [hI.one j, bit_msk]
          constructor
          · rintro ⟨q, r⟩
            exact ⟨by simp at q; omega, fun t ht => r t (hb t ht) ht⟩
          · rintro ⟨q, r⟩
            exact ⟨by simp; omega, fun t _ ht => r t ht⟩
        · show (msk (wd f.w) &&& ~~~n).getLsbD j = true ↔ _
          rw [flip_bit, bit_msk, Bool.and_eq_true]
          constructor
          · rintro ⟨q, r⟩
            refine ⟨by simp at q; omega, fun t ht => ?_⟩
            cases qt : t.getLsbD j with
            | false => rfl
            | true => rw [(hI.any j).2 ⟨t, hb t ht, ht, qt⟩] at r; cases r
          · rintro ⟨q, r⟩
            refine ⟨by simp; omega, ?_⟩
            cases qn : n.getLsbD j with
            | false => rfl
            | true =>
              obtain ⟨t, t1, t2, t3⟩ := (hI.any j).1 qn
              rw [r t t2] at t3; cases t3
      exact h2.same rfl (fun _ => Iff.rfl) hst
    have hl' : loopD (s3_1 R f.val (wv (msk (wd f.w)))) [wv (msk (wd f.w)), .int .u64 0, wv (msk (wd f.w)), .int .u64 0, .int .u64 0] HL = some (.exit 0, [wv a, wv n, wv lo, wv hi, wv y], HL) := hl
    rw [hl', s_bind, s_exit, s_onExit, f_all, f_w] at hr
    simp only [List.getD_cons_zero, List.getD_cons_succ] at hr
    rw [b_andNot, b_5, f_eql, ← hfin] at hr
    simpa using hr
end Go.AM.N14
