/- Part of the proof of TermDumpsUptoCardSaid: see the last file.  -/
import Derived.Deep.DeepHandedRow
import Derived.Laws.Externs
import Derived.Test.YtkfhklmklhnfaaaDoorT0
import Derived.Test.YtkfhklmklhnfaaaDoorT1
set_option linter.unusedSimpArgs false
set_option linter.unusedVariables false
set_option linter.unusedSectionVars false
/- The abstract machine: its run is a limit; the equation of a run; loops. -/
set_option linter.unusedVariables false
namespace Go.AM
open Go

/-- A growing family of answers, and what it comes to. -/
structure Lim {α : Type} (F : Nat → Option α) (x : Option α) : Prop where
  mono : ∀ n r, F n = some r → F (n + 1) = some r
  le : ∀ n r, F n = some r → x = some r
  sup : ∀ r, x = some r → ∃ n, F n = some r
section
variable {α γ : Type}
theorem Lim.const (x : Option α) : Lim (fun _ => x) x := ⟨fun _ _ h => h, fun _ _ h => h, fun _ h => ⟨0, h⟩⟩
theorem Lim.of_eq {F : Nat → Option α} {x : Option α} (h : ∀ n, F n = x) : Lim F x := by
  have : F = fun _ => x := funext h
  rw [this]; exact Lim.const x
theorem Lim.mono' {F : Nat → Option α} {x : Option α} (h : Lim F x) {n m : Nat} (hm : n ≤ m) {r : α} (hr : F n = some r) : F m = some r := by
  induction m with
  | zero => have : n = 0 := by omega
            subst this; exact hr
  | succ m ih =>
    rcases Nat.lt_or_ge m n with q | q
    · have : n = m + 1 := by omega
      subst this; exact hr
    · exact h.mono m r (ih q)
theorem Lim.bind {F : Nat → Option γ} {x : Option γ} (h : Lim F x) {G : Nat → γ → Option α} {g : γ → Option α} (hg : ∀ v, Lim (fun n => G n v) (g v)) : Lim (fun n => (F n).bind (G n)) (x.bind g) := by
  have inv : ∀ {a : Option γ} {f : γ → Option α} {r : α}, a.bind f = some r → ∃ v, a = some v ∧ f v = some r := fun {a f r} h => by
    cases a with
    | none => cases h
    | some v => exact ⟨v, rfl, h⟩
  refine ⟨fun n r hr => ?_, fun n r hr => ?_, fun r hr => ?_⟩
  · obtain ⟨v, h1, h2⟩ := inv hr
    rw [h.mono n v h1]; exact (hg v).mono n r h2
  · obtain ⟨v, h1, h2⟩ := inv hr
    rw [h.le n v h1]; exact (hg v).le n r h2
  · obtain ⟨v, h1, h2⟩ := inv hr
    obtain ⟨n, hn⟩ := h.sup v h1
    obtain ⟨m, hm⟩ := (hg v).sup r h2
    refine ⟨max n m, ?_⟩
    rw [h.mono' (Nat.le_max_left n m) hn]
    exact (hg v).mono' (Nat.le_max_right n m) hm
/-- What passes its way on to one continuation. -/
theorem Lim.nat {p : Option γ} {X : Nat → Option α} {x : Option α} {G : Nat → γ → Option α} {g : γ → Option α} (hX : ∀ n, X n = p.bind (G n)) (hx : x = p.bind g) (hg : ∀ v, Lim (fun n => G n v) (g v)) : Lim X x := by
  have : X = fun n => p.bind (G n) := funext hX
  rw [this, hx]
  exact (Lim.const p).bind hg

def nextD (f : List Value → Hp → Option Outc) (o : Outc) : Option Outc :=
  match o with
  | (.next, l, H) => f l H
  | r => some r
theorem iterL_succ (s : List Value → Hp → Option Outc) (m : Nat) (l : List Value) (H : Hp) : iterL s (m + 1) l H = (s l H).bind (nextD (iterL s m)) := by
  show (match s l H with | some (.next, l', H') => iterL s m l' H' | r => r) = _
  rcases s l H with _ | ⟨c, l', H'⟩
  · rfl
  · cases c <;> rfl
theorem bind_some {α γ : Type} {a : Option γ} {f : γ → Option α} {r : α} (h : a.bind f = some r) : ∃ v, a = some v ∧ f v = some r := by
  cases a with
  | none => cases h
  | some v => exact ⟨v, rfl, h⟩
theorem nextD_imp {f g : List Value → Hp → Option Outc} {o r : Outc} (h : ∀ l H, f l H = some r → g l H = some r) (hr : nextD f o = some r) : nextD g o = some r := by
  obtain ⟨c, l, H⟩ := o
  cases c with
  | next => exact h l H hr
  | _ => exact hr
theorem iterL_add {step : List Value → Hp → Option Outc} : ∀ (n : Nat) {l : List Value} {H : Hp} {r : Outc}, iterL step n l H = some r → iterL step (n + 1) l H = some r
  | 0, l, H, r, h => by cases h
  | n + 1, l, H, r, h => by
    rw [iterL_succ] at h ⊢
    obtain ⟨v, h1, h2⟩ := bind_some h
    rw [h1]
    exact nextD_imp (fun l H => iterL_add n) h2
theorem iterL_le {step : List Value → Hp → Option Outc} {n m : Nat} (hm : n ≤ m) {l : List Value} {H : Hp} {r : Outc} (h : iterL step n l H = some r) : iterL step m l H = some r := by
  induction m with
  | zero => have : n = 0 := by omega
            subst this; exact h
  | succ m ih =>
    rcases Nat.lt_or_ge m n with q | q
    · have : n = m + 1 := by omega
      subst this; exact h
    · exact iterL_add m (ih q)
theorem loopD_iff {step : List Value → Hp → Option Outc} {l : List Value} {H : Hp} {r : Outc} : loopD step l H = some r ↔ ∃ n, iterL step n l H = some r := by
  unfold loopD
  constructor
  · intro h
    split at h
    · rename_i hex
      obtain ⟨n, hn⟩ := hex.choose_spec
      have h : hex.choose = r := by simpa using h
      exact ⟨n, by rw [hn, h]⟩
    · cases h
  · rintro ⟨n, hn⟩
    have hex : ∃ r n, iterL step n l H = some r := ⟨r, n, hn⟩
    rw [dif_pos hex]
    obtain ⟨m, hm⟩ := hex.choose_spec
    have h1 := iterL_le (Nat.le_max_left n m) hn
    have h2 := iterL_le (Nat.le_max_right n m) hm
    rw [h1] at h2
    exact h2.symm
/-- A loop, round by round. -/
theorem loopD_eq (step : List Value → Hp → Option Outc) (l : List Value) (H : Hp) : loopD step l H = (step l H).bind (nextD (loopD step)) := by
  apply Option.ext
  intro r
  rw [loopD_iff]
  constructor
  · rintro ⟨n, hn⟩
    cases n with
    | zero => cases hn
    | succ n =>
      rw [iterL_succ] at hn
      obtain ⟨v, h1, h2⟩ := bind_some hn
      rw [h1]
      exact nextD_imp (fun l H h => loopD_iff.2 ⟨n, h⟩) h2
  · intro h
    obtain ⟨⟨c, l', H'⟩, h1, h2⟩ := bind_some h
    cases c with
    | next =>
      obtain ⟨n, hn⟩ := loopD_iff.1 h2
      exact ⟨n + 1, by rw [iterL_succ, h1]; exact hn⟩
    | _ => exact ⟨1, by rw [iterL_succ, h1]; exact h2⟩
theorem Lim.iter {F : Nat → List Value → Hp → Option Outc} {step : List Value → Hp → Option Outc} (h : ∀ l H, Lim (fun n => F n l H) (step l H)) : ∀ (m : Nat) (l : List Value) (H : Hp), Lim (fun n => iterL (F n) m l H) (iterL step m l H)
  | 0, l, H => Lim.const none
  | m + 1, l, H => by
    have e1 : (fun n => iterL (F n) (m + 1) l H) = fun n => (F n l H).bind (nextD (iterL (F n) m)) := funext fun n => iterL_succ (F n) m l H
    rw [e1, iterL_succ]
    refine (h l H).bind fun o => ?_
    obtain ⟨c, l', H'⟩ := o
    cases c with
    | next => exact Lim.iter h m l' H'
    | _ => exact Lim.const _
theorem Lim.loop {F : Nat → List Value → Hp → Option Outc} {step : List Value → Hp → Option Outc} (h : ∀ l H, Lim (fun n => F n l H) (step l H)) (l : List Value) (H : Hp) : Lim (fun n => loopD (F n) l H) (loopD step l H) := by
  refine ⟨fun n r hr => ?_, fun n r hr => ?_, fun r hr => ?_⟩
  · obtain ⟨m, hm⟩ := loopD_iff.1 hr
    exact loopD_iff.2 ⟨m, (Lim.iter h m l H).mono n r hm⟩
  · obtain ⟨m, hm⟩ := loopD_iff.1 hr
    exact loopD_iff.2 ⟨m, (Lim.iter h m l H).le n r hm⟩
  · obtain ⟨m, hm⟩ := loopD_iff.1 hr
    obtain ⟨n, hn⟩ := (Lim.iter h m l H).sup r hm
    exact ⟨n, loopD_iff.2 ⟨m, hn⟩⟩

/-! ### Handlers -/
structure Chain (P : Program) (O : Orc) (f : FuncId) (hs : Nat → Handler) (h : Handler) : Prop where
  lim : ∀ g a H, Lim (fun n => hs n g a H) (h g a H)

variable {P : Program} {O : Orc} {f : FuncId} {hs : Nat → Handler} {h : Handler}

theorem opR_lim (hc : Chain P O f hs h) (fr : Fr) (S : St) (o : Oper) : Lim (fun n => opR ⟨P, O, hs n, f⟩ fr S o) (opR ⟨P, O, h, f⟩ fr S o) := by
  unfold opR opC
  dsimp only
  cases o.op <;> (try dsimp only) <;> first | exact Lim.of_eq fun n => rfl | skip
  case makeMap t r => cases r <;> exact Lim.of_eq fun n => rfl
  case slice T x lo hi mx => cases mx <;> exact Lim.of_eq fun n => rfl
  case next it b => cases b <;> exact Lim.of_eq fun n => rfl
  rename_i c
  rcases c.callee with fo | ⟨rv, m⟩ | b
  · refine Lim.nat (fun n => sV_nat (g := some) fun v => rfl) (sV_nat (g := some) fun v => rfl) fun fv => ?_
    refine Lim.nat (fun n => evs_nat _ (g := some) fun v => rfl) (evs_nat _ (g := some) fun v => rfl) fun vs => ?_
    have e : ∀ h' : Handler, pCall h' fv vs S.hp (fun v H => some (Slot.val v, (⟨S.bx, H⟩ : St))) = (pCall h' fv vs S.hp fun v H => some (v, H)).bind fun p => some (Slot.val p.1, (⟨S.bx, p.2⟩ : St)) := fun h' => pCall_nat fun _ _ => rfl
    have e1 : (fun n => pCall (hs n) fv vs S.hp (fun v H => some (Slot.val v, (⟨S.bx, H⟩ : St)))) = fun n => (pCall (hs n) fv vs S.hp fun v H => some (v, H)).bind fun p => some (Slot.val p.1, (⟨S.bx, p.2⟩ : St)) := funext fun n => e (hs n)
    show Lim (fun n => pCall (hs n) fv vs S.hp (fun v H => some (Slot.val v, (⟨S.bx, H⟩ : St)))) (pCall h fv vs S.hp (fun v H => some (Slot.val v, (⟨S.bx, H⟩ : St))))
    rw [e1, e h]
    refine Lim.bind ?_ fun v => Lim.const _
    unfold pCall
    split
    · rename_i g first captured
      have e2 : ∀ h' : Handler, pCallF h' g (first.toList ++ (vs ++ captured.toList)) S.hp (fun v H => some (v, H)) = h' g (first.toList ++ (vs ++ captured.toList)) S.hp := fun h' => by
        unfold pCallF
        rcases h' g (first.toList ++ (vs ++ captured.toList)) S.hp with _ | ⟨v, H'⟩ <;> rfl
      simp only [e2]
      exact hc.lim g _ S.hp
    · exact Lim.const _
  · exact Lim.const _
  · exact Lim.const _
theorem opC_lim (hc : Chain P O f hs h) {fr : Fr} {S : St} {o : Oper} {K : Nat → Slot → St → Option α} {k : Slot → St → Option α} (hk : ∀ s S, Lim (fun n => K n s S) (k s S)) : Lim (fun n => opC ⟨P, O, hs n, f⟩ fr S o (K n)) (opC ⟨P, O, h, f⟩ fr S o k) := by
  have e1 : (fun n => opC ⟨P, O, hs n, f⟩ fr S o (K n)) = fun n => (opR ⟨P, O, hs n, f⟩ fr S o).bind fun p => K n p.1 p.2 := funext fun n => opC_nat _ _ _ _ _
  rw [e1, opC_nat]
  exact (opR_lim hc fr S o).bind fun p => hk p.1 p.2

/-! ### Regions, code, functions -/
theorem guardC_nat {α : Type} (ops : List Oper) (fr : Fr) (o : Oper) (k : Bool → Fr → Option α) : guardC ops fr o k = (guardC ops fr o fun b fr => some (b, fr)).bind fun p => k p.1 p.2 := by
  unfold guardC
  split
  · rfl
  · split
    · split
      · split
        · rfl
        · exact sV_nat fun v => pBool_nat fun b => br_nat rfl rfl
      · rfl
    · rfl
theorem guardC_lim {α : Type} {ops : List Oper} {fr : Fr} {o : Oper} {K : Nat → Bool → Fr → Option α} {k : Bool → Fr → Option α} (hk : ∀ b fr, Lim (fun n => K n b fr) (k b fr)) : Lim (fun n => guardC ops fr o (K n)) (guardC ops fr o k) :=
  Lim.nat (fun n => guardC_nat ops fr o (K n)) (guardC_nat ops fr o k) fun p => hk p.1 p.2
theorem opsC_lim {α : Type} (hc : Chain P O f hs h) {ops : List Oper} {K : Nat → Fr → St → Option α} {k : Fr → St → Option α} (hk : ∀ fr S, Lim (fun n => K n fr S) (k fr S)) : ∀ (l : List Oper) (fr : Fr) (S : St), Lim (fun n => opsC ⟨P, O, hs n, f⟩ ops (K n) l fr S) (opsC ⟨P, O, h, f⟩ ops k l fr S)
  | [], fr, S => hk fr S
  | o :: l, fr, S => by
    refine guardC_lim fun b fr => ?_
    cases b with
    | true => exact opC_lim hc fun s S' => opsC_lim hc hk l _ _
    | false => exact opsC_lim hc hk l _ _
theorem chk_nat {α : Type} {p : Prop} (k : Option α) : chk p k = (chk p (some ())).bind fun _ => k := by
  unfold chk; split <;> rfl
theorem again_nat {α : Type} (C : Ctx) (fr : Fr) (S : St) (o : Oper) (s : Slot) (k : Option α) : again C fr S o s k = (again C fr S o s (some ())).bind fun _ => k := by
  unfold again
  dsimp only
  cases s <;> first | rfl | skip
  rename_i v
  cases o.op <;> (try dsimp only) <;> first | rfl | skip
  case load T a =>
    refine tyC_nat fun n agg => ?_
    cases ev C.P.globals.size fr a with
    | loc d off =>
      dsimp only
      rcases S.bx d with _ | b
      · rfl
      · cases b <;> first | rfl | exact chk_nat k
    | val p => exact chk_nat k
    | _ => rfl
  case lookup T m key ok => exact sV_nat fun m => sV_nat fun key => mapC_nat fun kt z => chk_nat k
  case call c =>
    refine evs_nat _ fun vs => ?_
    generalize c.argTypes.toList = ts
    rcases vs with _ | ⟨x, _ | ⟨y, vs⟩⟩ <;> rcases ts with _ | ⟨t, _ | ⟨u, ts⟩⟩ <;> (try dsimp only) <;> first | rfl | skip
    rcases C.P.underlying t with _ | d
    · rfl
    · dsimp only
      rcases lenK d with _ | q
      · rfl
      · exact chk_nat k
theorem again_lim {α : Type} {fr : Fr} {S : St} {o : Oper} {s : Slot} {K : Nat → Option α} {k : Option α} (hk : Lim K k) : Lim (fun n => again ⟨P, O, hs n, f⟩ fr S o s (K n)) (again ⟨P, O, h, f⟩ fr S o s k) := by
  have e : ∀ h', again ⟨P, O, h', f⟩ fr S o s (some ()) = again ⟨P, O, h, f⟩ fr S o s (some ()) := fun h' => rfl
  exact Lim.nat (p := again ⟨P, O, h, f⟩ fr S o s (some ())) (G := fun n _ => K n) (g := fun _ => k) (fun n => by rw [again_nat, e]) (again_nat _ _ _ _ _ _) fun _ => hk
theorem chkBack_lim {α : Type} {a i : Nat} {o : Oper} {fr : Fr} {s : Slot} {tag : Option Nat} {K : Nat → Option α} {k : Option α} (hk : Lim K k) : ∀ es : List (Nat × Option Nat × St), Lim (fun n => chkBack ⟨P, O, hs n, f⟩ a i o fr s tag (K n) es) (chkBack ⟨P, O, h, f⟩ a i o fr s tag k es)
  | [] => hk
  | (j, t, S) :: es => by
    unfold chkBack
    split
    · exact chkBack_lim hk es
    · exact again_lim (chkBack_lim hk es)
theorem chkFore_lim {α : Type} {a : Nat} {tag : Option Nat} {S : St} {K : Nat → Option α} {k : Option α} (hk : Lim K k) : ∀ rs : List Rd, Lim (fun n => chkFore ⟨P, O, hs n, f⟩ a tag S (K n) rs) (chkFore ⟨P, O, h, f⟩ a tag S k rs)
  | [] => hk
  | r :: rs => by
    unfold chkFore
    split
    · exact chkFore_lim hk rs
    · exact again_lim (chkFore_lim hk rs)
theorem opD_lim (hc : Chain P O f hs h) {fr : Fr} {S : St} {o : Oper} {K : Nat → Slot → St → Option α} {k : Slot → St → Option α} (hk : ∀ s S, Lim (fun n => K n s S) (k s S)) : Lim (fun n => opD ⟨P, O, hs n, f⟩ fr S o (K n)) (opD ⟨P, O, h, f⟩ fr S o k) := by
  unfold opD
  dsimp only
  cases hl : isLA O f o with
  | true =>
    cases hd : o.dst with
    | none => exact Lim.const _
    | some d => exact hk _ _
  | false => exact opC_lim hc hk
theorem hoistC_lim (hc : Chain P O f hs h) {K : Nat → St → Option α} {k : St → Option α} (hk : ∀ S, Lim (fun n => K n S) (k S)) : ∀ (l : List Oper) (S : St), Lim (fun n => hoistC ⟨P, O, hs n, f⟩ (K n) l S) (hoistC ⟨P, O, h, f⟩ k l S)
  | [], S => hk S
  | o :: l, S => by
    unfold hoistC
    dsimp only
    cases isLA O f o with
    | true => exact opC_lim hc fun _ S' => hoistC_lim hc hk l S'
    | false => exact hoistC_lim hc hk l S
theorem drawC_lim {α : Type} (hc : Chain P O f hs h) {ops : List Oper} {an : List Nat} {K : Nat → Fr → St → Option α} {k : Fr → St → Option α} (hk : ∀ fr S, Lim (fun n => K n fr S) (k fr S)) :
    ∀ (l : List Oper) (i : Nat) (fr : Fr) (S : St) (es : List (Nat × Option Nat × St)) (rs : List Rd), Lim (fun n => drawC ⟨P, O, hs n, f⟩ ops an (K n) l i fr S es rs) (drawC ⟨P, O, h, f⟩ ops an k l i fr S es rs)
  | [], i, fr, S, es, rs => hk fr S
  | o :: l, i, fr, S, es, rs => by
    unfold drawC
    refine guardC_lim fun b fr => ?_
    cases b with
    | false => exact drawC_lim hc hk l _ _ _ _ _
    | true =>
      dsimp only
      obtain ⟨tg, ht⟩ : ∃ t, ∀ h', tagOf ⟨P, O, h', f⟩ fr o = t := ⟨tagOf ⟨P, O, h, f⟩ fr o, fun h' => rfl⟩
      simp only [ht]
      cases kindD P O f o with
      | pure => exact opD_lim hc fun s S' => drawC_lim hc hk l _ _ _ _ _
      | read => exact opD_lim hc fun s S' => chkBack_lim (drawC_lim hc hk l _ _ _ _ _) es
      | eff => exact opD_lim hc fun s S' => chkFore_lim (drawC_lim hc hk l _ _ _ _ _) rs

theorem drawH_lim {α : Type} (hc : Chain P O f hs h) {ops : List Oper} {K : Nat → Fr → St → Option α} {k : Fr → St → Option α} (hk : ∀ fr S, Lim (fun n => K n fr S) (k fr S)) (fr : Fr) (S : St) :
    Lim (fun n => drawH ⟨P, O, hs n, f⟩ ops (K n) fr S) (drawH ⟨P, O, h, f⟩ ops k fr S) :=
  hoistC_lim hc (fun S => drawC_lim hc hk _ _ _ _ _ _) _ _
theorem resC_nat {α : Type} {fr : Fr} {S : St} : ∀ (rs : List ResultVar) (k : List Value → Option α), resC P fr S rs k = (resC P fr S rs some).bind k
  | [], k => rfl
  | .tmp t :: rs, k => by
    have e : ∀ {γ : Type} (k : List Value → Option γ), resC P fr S (.tmp t :: rs) k = sV (getS fr t) fun v => resC P fr S rs fun vs => k (v :: vs) := fun k => rfl
    rw [e, e]
    refine sV_nat fun v => ?_
    rw [resC_nat rs, resC_nat rs fun vs => some (v :: vs)]
    cases resC P fr S rs some <;> rfl
  | .cell t T :: rs, k => by
    unfold resC
    refine tyC_nat fun n agg => ?_
    have e : ∀ v, (resC P fr S rs fun vs => k (v :: vs)) = (resC P fr S rs fun vs => some (v :: vs)).bind k := fun v => by
      rw [resC_nat rs, resC_nat rs fun vs => some (v :: vs)]
      cases resC P fr S rs some <;> rfl
    cases getS fr t with
    | loc d off =>
      dsimp only
      rcases S.bx d with _ | b
      · rfl
      · cases b <;> first | rfl | exact pCell_nat e
    | val p => exact pLoad_nat e
    | _ => rfl
structure KLim {α : Type} (K : Nat → AM.K α) (k : AM.K α) : Prop where
  norm : ∀ fr S, Lim (fun n => (K n).norm fr S) (k.norm fr S)
  exit : ∀ id fr S, Lim (fun n => (K n).exit id fr S) (k.exit id fr S)
  ret : ∀ v H, Lim (fun n => (K n).ret v H) (k.ret v H)
theorem saveS_nat {α γ : Type} {X : γ → Option α} {fr : Fr} : ∀ (ks : List Nat) {k : List Value → Option α} {g : List Value → Option γ}, (∀ v, k v = (g v).bind X) → saveS fr ks k = (saveS fr ks g).bind X
  | [], k, g, h => h []
  | d :: ks, k, g, h => sV_nat fun v => saveS_nat ks fun vs => h (v :: vs)
theorem saveB_nat {α γ : Type} {X : γ → Option α} {S : St} : ∀ (ks : List Nat) {k : List Value → Option α} {g : List Value → Option γ}, (∀ v, k v = (g v).bind X) → saveB S ks k = (saveB S ks g).bind X
  | [], k, g, h => h []
  | d :: ks, k, g, h => by
    unfold saveB boxV
    split
    · exact saveB_nat ks fun vs => h _
    · exact saveB_nat ks fun vs => h _
    · rfl
theorem bindO_eq {α : Type} (x : Option Outc) (k : Ctl → List Value → Hp → Option α) : bindO x k = x.bind fun o => k o.1 o.2.1 o.2.2 := by rcases x with _ | ⟨c, l, H⟩ <;> rfl
theorem bindO_lim {α : Type} {X : Nat → Option Outc} {x : Option Outc} (hx : Lim X x) {K : Nat → Ctl → List Value → Hp → Option α} {k : Ctl → List Value → Hp → Option α} (hk : ∀ c l H, Lim (fun n => K n c l H) (k c l H)) :
    Lim (fun n => bindO (X n) (K n)) (bindO x k) := by
  have e : (fun n => bindO (X n) (K n)) = fun n => (X n).bind fun o => K n o.1 o.2.1 o.2.2 := funext fun n => bindO_eq _ _
  rw [e, bindO_eq]
  exact hx.bind fun o => hk _ _ _

theorem exec_lim (hc : Chain P O f hs h) (rs : List ResultVar) : ∀ (c : Code) {α : Type} (fr : Fr) (S : St) {K : Nat → AM.K α} {k : AM.K α}, KLim K k → Lim (fun n => exec ⟨P, O, hs n, f⟩ rs c α fr S (K n)) (exec ⟨P, O, h, f⟩ rs c α fr S k)
  | .skip, α, fr, S, K, k, hk => hk.norm fr S
  | .region id ops draw, α, fr, S, K, k, hk => by
    unfold exec
    cases draw with
    | false => exact opsC_lim hc hk.norm _ _ _
    | true =>
      dsimp only
      cases inOrder P O f ops.toList (ancs ops.toList) with
      | true => exact drawH_lim hc hk.norm _ _
      | false => exact Lim.const _
  | .seq a b, α, fr, S, K, k, hk => by
    unfold exec
    dsimp only
    rcases O.join f (rid b) with _ | ⟨ks, kb⟩
    · exact exec_lim hc rs a fr S ⟨fun fr S => exec_lim hc rs b fr S hk, hk.exit, hk.ret⟩
    · refine bindO_lim (exec_lim hc rs a fr _ ⟨fun _ _ => Lim.const _, fun _ _ _ => Lim.const _, fun _ _ => Lim.const _⟩) fun c l H => ?_
      cases c with
      | next => exact exec_lim hc rs b _ _ hk
      | exit id => exact hk.exit _ _ _
      | ret => exact hk.ret _ _
  | .cond c x y, α, fr, S, K, k, hk => by
    unfold exec
    dsimp only
    refine Lim.nat (p := sV (ev P.globals.size fr c) fun v => pBool v some) (G := fun n t => br t (exec ⟨P, O, hs n, f⟩ rs x α fr S (K n)) (exec ⟨P, O, hs n, f⟩ rs y α fr S (K n)))
      (g := fun t => br t (exec ⟨P, O, h, f⟩ rs x α fr S k) (exec ⟨P, O, h, f⟩ rs y α fr S k)) (fun n => sV_nat fun v => pBool_nat fun t => rfl) (sV_nat fun v => pBool_nat fun t => rfl) fun t => ?_
    cases t with
    | true => exact exec_lim hc rs x fr S hk
    | false => exact exec_lim hc rs y fr S hk
  | .block id c, α, fr, S, K, k, hk => by
    unfold exec
    refine exec_lim hc rs c fr S ⟨hk.norm, fun j fr S => ?_, hk.ret⟩
    try dsimp only
    unfold onExit
    cases Nat.beq j id with
    | true => exact hk.norm _ _
    | false => exact hk.exit _ _ _
  | .loop c, α, fr, S, K, k, hk => by
    obtain ⟨ks, kb, hq⟩ : ∃ ks kb, O.loop f (rid c) = (ks, kb) := ⟨_, _, rfl⟩
    unfold exec
    simp only [hq]
    refine Lim.nat (fun n => saveS_nat ks (g := some) fun v => rfl) (saveS_nat ks (g := some) fun v => rfl) fun vs => ?_
    refine Lim.nat (fun n => saveB_nat kb (g := some) fun v => rfl) (saveB_nat kb (g := some) fun v => rfl) fun bs => ?_
    refine bindO_lim (Lim.loop (fun l H => exec_lim hc rs c _ _ ⟨fun _ _ => Lim.const _, fun _ _ _ => Lim.const _, fun _ _ => Lim.const _⟩) _ _) fun c' l H => ?_
    cases c' with
    | next => exact Lim.const _
    | exit id => exact hk.exit _ _ _
    | ret => exact hk.ret _ _
  | .exit id, α, fr, S, K, k, hk => hk.exit id fr S
  | .ret, α, fr, S, K, k, hk => by
    unfold exec
    exact Lim.nat (fun n => resC_nat rs _) (resC_nat rs _) fun vs => hk.ret _ _
  | .rangeFunc _ _ _ _, _, _, _, _, _, _ => Lim.const _
  | .scope _, _, _, _, _, _, _ => Lim.const _
  | .label _, _, _, _, _, _, _ => Lim.const _
  | .goto _, _, _, _, _, _, _ => Lim.const _
  | .refuse _, _, _, _, _, _, _ => Lim.const _

theorem callF_lim {ext : FuncId → Option (List Value → Hp → Option (Value × Hp))} (hc : ∀ f, Chain P O f hs h) (g : FuncId) (args : List Value) (H : Hp) : Lim (fun n => callF P O ext (hs n) g args H) (callF P O ext h g args H) := by
  unfold callF
  rcases P.funcs[g]? with _ | fn
  · exact Lim.const _
  · dsimp only
    cases fn.name == "runtime.NumGoroutine" with
    | true => exact Lim.const _
    | false =>
      dsimp only
      rcases fn.body with _ | c
      · exact Lim.const _
      · dsimp only
        rcases ext g with _ | e
        · exact exec_lim (hc g) _ c _ _ ⟨fun _ _ => Lim.const _, fun _ _ _ => Lim.const _, fun _ _ => Lim.const _⟩
        · exact Lim.const _
theorem runN_mono {ext : FuncId → Option (List Value → Hp → Option (Value × Hp))} : ∀ (n : Nat) (g : FuncId) (args : List Value) (H : Hp) (r : Value × Hp), runN P O ext n g args H = some r → runN P O ext (n + 1) g args H = some r
  | 0, g, args, H, r, h => by cases h
  | n + 1, g, args, H, r, h => by
    have hch : ∀ f, Chain P O f (fun i => match i with | 0 => runN P O ext n | _ => runN P O ext (n + 1)) (runN P O ext (n + 1)) := fun f => ⟨fun g a H => ⟨fun i r hr => by
        cases i with
        | zero => exact runN_mono n g a H r hr
        | succ i => exact hr, fun i r hr => by
        cases i with
        | zero => exact runN_mono n g a H r hr
        | succ i => exact hr, fun r hr => ⟨1, hr⟩⟩⟩
    exact (callF_lim (ext := ext) hch g args H).mono 0 r h
theorem run_iff {ext : FuncId → Option (List Value → Hp → Option (Value × Hp))} {g : FuncId} {args : List Value} {H : Hp} {r : Value × Hp} : run P O ext g args H = some r ↔ ∃ n, runN P O ext n g args H = some r := by
  have hle : ∀ {n m : Nat} {r : Value × Hp}, n ≤ m → runN P O ext n g args H = some r → runN P O ext m g args H = some r := by
    intro n m r hm hr
    induction m with
    | zero => have : n = 0 := by omega
              subst this; exact hr
    | succ m ih =>
      rcases Nat.lt_or_ge m n with q | q
      · have : n = m + 1 := by omega
        subst this; exact hr
      · exact runN_mono m g args H r (ih q)
  unfold run
  constructor
  · intro h
    split at h
    · rename_i hex
      obtain ⟨n, hn⟩ := hex.choose_spec
      have h : hex.choose = r := by simpa using h
      exact ⟨n, by rw [hn, h]⟩
    · cases h
  · rintro ⟨n, hn⟩
    have hex : ∃ r n, runN P O ext n g args H = some r := ⟨r, n, hn⟩
    rw [dif_pos hex]
    obtain ⟨m, hm⟩ := hex.choose_spec
    have h1 := hle (Nat.le_max_left n m) hn
    have h2 := hle (Nat.le_max_right n m) hm
    rw [h1] at h2
    exact h2.symm
/-- **A run is its own function's call.** -/
theorem run_eq {ext : FuncId → Option (List Value → Hp → Option (Value × Hp))} (g : FuncId) (args : List Value) (H : Hp) : run P O ext g args H = callF P O ext (run P O ext) g args H := by
  have hch : ∀ f, Chain P O f (runN P O ext) (run P O ext) := fun f => ⟨fun g a H => ⟨fun n r hr => runN_mono n g a H r hr, fun n r hr => run_iff.2 ⟨n, hr⟩, fun r hr => run_iff.1 hr⟩⟩
  have hl := callF_lim (ext := ext) hch g args H
  apply Option.ext
  intro r
  constructor
  · intro h
    obtain ⟨n, hn⟩ := run_iff.1 h
    cases n with
    | zero => cases hn
    | succ n => exact hl.le n r hn
  · intro h
    obtain ⟨n, hn⟩ := hl.sup r h
    exact run_iff.2 ⟨n + 1, hn⟩
/-- A run of a function that is not taken whole. -/
theorem run_fn {ext : FuncId → Option (List Value → Hp → Option (Value × Hp))} {g : FuncId} {fn : Func} (hf : P.funcs[g]? = some fn) (hn : (fn.name == "runtime.NumGoroutine") = false) (hb : fn.body.isSome = true) (hx : ext g = none) (args : List Value) (H : Hp) :
    run P O ext g args H = execF P O (run P O ext) g fn args H := by
  rw [run_eq]
  unfold callF execF
  rw [hf]
  dsimp only
  rw [hn]
  dsimp only
  obtain ⟨c, hc⟩ := Option.isSome_iff_exists.1 hb
  rw [hc]
  dsimp only
  rw [hx]
  rfl
end
end Go.AM
/- The Term seat: the primitives, by rule. -/
set_option linter.unusedVariables false
namespace Go.AM
open Go
section
variable {α : Type} {P : Program}
theorem s_bool (b : Bool) (k : Bool → Option α) : pBool (.bool b) k = k b := rfl
theorem s_br (b : Bool) (x y : Option α) : br b x y = if b = true then x else y := by cases b <;> rfl
theorem s_lss (T : TypeId) (kd : IntKind) (a b : Int) (k : Value → Option α) : pBin P .lss T (.int kd a) (.int kd b) k = k (.bool (decide (a < b))) := by simp [pBin, binV, intOp]
theorem s_leq (T : TypeId) (kd : IntKind) (a b : Int) (k : Value → Option α) : pBin P .leq T (.int kd a) (.int kd b) k = k (.bool (decide (a ≤ b))) := by simp [pBin, binV, intOp]
theorem s_gtr (T : TypeId) (kd : IntKind) (a b : Int) (k : Value → Option α) : pBin P .gtr T (.int kd a) (.int kd b) k = k (.bool (decide (a > b))) := by simp [pBin, binV, intOp]
theorem s_geq (T : TypeId) (kd : IntKind) (a b : Int) (k : Value → Option α) : pBin P .geq T (.int kd a) (.int kd b) k = k (.bool (decide (a ≥ b))) := by simp [pBin, binV, intOp]
theorem s_eql (T : TypeId) (kd : IntKind) (a b : Int) (k : Value → Option α) : pBin P .eql T (.int kd a) (.int kd b) k = k (.bool (decide (a = b))) := by
  have : (a == b) = decide (a = b) := by rw [Bool.eq_iff_iff]; simp
  simp [pBin, binV, intOp, this]
theorem s_neq (T : TypeId) (kd : IntKind) (a b : Int) (k : Value → Option α) : pBin P .neq T (.int kd a) (.int kd b) k = k (.bool (decide (a ≠ b))) := by
  have : (a != b) = decide (a ≠ b) := by rw [Bool.eq_iff_iff]; simp
  simp [pBin, binV, intOp, this]
theorem s_add (T : TypeId) (kd : IntKind) (a b : Int) (k : Value → Option α) : pBin P .add T (.int kd a) (.int kd b) k = k (.int kd (kd.wrap (a + b))) := by simp [pBin, binV, intOp]
theorem s_sub (T : TypeId) (kd : IntKind) (a b : Int) (k : Value → Option α) : pBin P .sub T (.int kd a) (.int kd b) k = k (.int kd (kd.wrap (a - b))) := by simp [pBin, binV, intOp]
theorem s_mul (T : TypeId) (kd : IntKind) (a b : Int) (k : Value → Option α) : pBin P .mul T (.int kd a) (.int kd b) k = k (.int kd (kd.wrap (a * b))) := by simp [pBin, binV, intOp]
theorem s_not (b : Bool) (k : Value → Option α) : pUn .not (.bool b) k = k (.bool !b) := rfl
theorem s_nil (a : Addr) (k : Option α) : pNil (.pointer (some a)) k = k := rfl
theorem s_offs (n i o : Nat) (k : Value → Option α) : pOffs n (.pointer (some ⟨i, o, none⟩)) k = k (.pointer (some ⟨i, o + n, none⟩)) := rfl
theorem s_load {H : Hp} {i : Nat} {cs : List Value} {own : Bool} (h : H.get i = some (.cells cs own)) (o : Nat) (v : Value) (hv : cs[o]? = some v) (k : Value → Option α) : pLoad 1 false H (.pointer (some ⟨i, o, none⟩)) k = k v := by
  simp [pLoad, Hp.rdP, Hp.rd, h, rdCells, hv]
theorem s_cell (cs : List Value) (o : Nat) (v : Value) (hv : cs[o]? = some v) (k : Value → Option α) : pCell 1 false cs o k = k v := by simp [pCell, rdCells, hv]
theorem s_bind (c : Ctl) (l : List Value) (H : Hp) (k : Ctl → List Value → Hp → Option α) : bindO (some (c, l, H)) k = k c l H := rfl
theorem s_bind_ite (p : Prop) [Decidable p] (a b : Option Outc) (k : Ctl → List Value → Hp → Option α) : bindO (if p then a else b) k = if p then bindO a k else bindO b k := by split <;> rfl
theorem s_next (a : Option α) (b : Nat → Option α) (c : Option α) : onCtl .next a b c = a := rfl
theorem s_exit (j : Nat) (a : Option α) (b : Nat → Option α) (c : Option α) : onCtl (.exit j) a b c = b j := rfl
theorem s_ret (a : Option α) (b : Nat → Option α) (c : Option α) : onCtl .ret a b c = c := rfl
theorem s_onExit (j : Nat) (x y : Option α) : onExit j j x y = x := by simp [onExit]
theorem s_call {h : Handler} {g : FuncId} {args : List Value} {H : Hp} {v : Value} {H' : Hp} (e : h g args H = some (v, H')) (k : Value → Hp → Option α) : pCallF h g args H k = k v H' := by simp [pCallF, e]
theorem s_ext (vs : List Value) (i : Nat) (v : Value) (h : vs[i]? = some v) (k : Value → Option α) : pExtract (.tuple vs.toArray) i k = k v := by simp [pExtract, extractV, h]
end
end Go.AM
/- The abstract machine: slices that are owned, and what leaves the rest as it was. -/
set_option linter.unusedVariables false
set_option linter.unusedSimpArgs false
namespace Go.AM
open Go
/-- Nothing else is touched. -/
structure Frm (M : Nat → Prop) (H H' : Hp) : Prop where
  next : H.next ≤ H'.next
  same : ∀ j, j < H.next → ¬ M j → H'.get j = H.get j
theorem Frm.refl (M : Nat → Prop) (H : Hp) : Frm M H H := ⟨Nat.le_refl _, fun _ _ _ => rfl⟩
theorem Frm.trans {M N : Nat → Prop} {H H1 H2 : Hp} (h : Frm M H H1) (k : Frm N H1 H2) (hn : ∀ j, N j → M j ∨ H.next ≤ j) : Frm M H H2 :=
  ⟨Nat.le_trans h.next k.next, fun j hj hm => by
    rw [k.same j (Nat.lt_of_lt_of_le hj h.next) (fun q => by rcases hn j q with a | a; exact hm a; omega), h.same j hj hm]⟩
theorem Frm.mono {M N : Nat → Prop} {H H' : Hp} (h : Frm M H H') (hn : ∀ j, M j → N j ∨ H.next ≤ j) : Frm N H H' := ⟨h.next, fun j hj hm => h.same j hj fun q => by rcases hn j q with a | a; exact hm a; omega⟩
/-- A slice's object. -/
def vid : Value → Option Nat
  | .slice (some a) _ _ => some a.block
  | _ => none
def Id (v : Value) (j : Nat) : Prop := vid v = some j
theorem get_new (H : Hp) (o : AObj) (i : Nat) : (H.new o).get i = if i = H.next then some o else H.get i := rfl
theorem get_set (H : Hp) (j : Nat) (o : Option AObj) (i : Nat) : (H.set j o).get i = if i = j then o else H.get i := rfl
theorem fr_new (H : Hp) (o : AObj) (M : Nat → Prop) : Frm M H (H.new o) := ⟨by show H.next ≤ H.next + 1; omega, fun j hj _ => by rw [get_new, if_neg (by omega)]⟩
theorem fr_set (H : Hp) (i : Nat) (o : Option AObj) (M : Nat → Prop) (hm : M i) : Frm M H (H.set i o) := ⟨Nat.le_refl _, fun j hj hn => by rw [get_set, if_neg (fun e => hn (by rw [e]; exact hm))]⟩

/-- A slice that is owned: so many elements, their cells. -/
def Vec (H : Hp) (sz : Nat) (v : Value) (n : Nat) (cs : List Value) : Prop :=
  (n = 0 ∧ cs = [] ∧ v = .slice none 0 0) ∨ ∃ y c rest, v = .slice (some ⟨y, 0, some sz⟩) n c ∧ n ≤ c ∧ H.get y = some (.cells (cs ++ rest) true) ∧ cs.length = n * sz ∧ rest.length = (c - n) * sz ∧ y < H.next ∧ rest.all one = true
section
variable {H H' : Hp} {sz : Nat} {v : Value} {n : Nat} {cs : List Value}
theorem Vec.len (h : Vec H sz v n cs) {α : Type} (H' : Hp) (k : Value → Option α) : pLen .sl v H' k = k (.int .i64 n) := by
  rcases h with ⟨rfl, _, rfl⟩ | ⟨y, c, rest, rfl, _⟩ <;> rfl
theorem Vec.lenV (h : Vec H sz v n cs) (H' : Hp) : AM.lenV .sl v H' = some (.int .i64 n) := by
  rcases h with ⟨rfl, _, rfl⟩ | ⟨y, c, rest, rfl, _⟩ <;> rfl
theorem Vec.size (h : Vec H sz v n cs) : cs.length = n * sz := by
  rcases h with ⟨rfl, rfl, _⟩ | ⟨y, c, rest, _, _, _, h, _⟩
  · simp
  · exact h
theorem Vec.lt (h : Vec H sz v n cs) {j : Nat} (hj : Id v j) : j < H.next := by
  rcases h with ⟨_, _, rfl⟩ | ⟨y, c, rest, rfl, _, _, _, _, h, _⟩
  · cases hj
  · cases hj; exact h
theorem Vec.own (h : Vec H sz v n cs) {j : Nat} (hj : Id v j) : ∃ cs, H.get j = some (.cells cs true) := by
  rcases h with ⟨_, _, rfl⟩ | ⟨y, c, rest, rfl, _, h, _⟩
  · cases hj
  · cases hj; exact ⟨_, h⟩
theorem Vec.keep' (h : Vec H sz v n cs) (hg : ∀ j, Id v j → H'.get j = H.get j) (hn : H.next ≤ H'.next) : Vec H' sz v n cs := by
  rcases h with e | ⟨y, c, rest, rfl, h1, h2, h3, h4, h5, h6⟩
  · exact .inl e
  · exact .inr ⟨y, c, rest, rfl, h1, by rw [hg y rfl]; exact h2, h3, h4, Nat.lt_of_lt_of_le h5 hn, h6⟩
theorem Vec.keep {M : Nat → Prop} (h : Vec H sz v n cs) (k : Frm M H H') (hm : ∀ j, Id v j → ¬ M j) : Vec H' sz v n cs :=
  h.keep' (fun j hj => k.same j (h.lt hj) (hm j hj)) k.next
theorem Vec.nil (H : Hp) (sz : Nat) : Vec H sz (.slice none 0 0) 0 [] := .inl ⟨rfl, rfl, rfl⟩
/-- An element's address. -/
theorem Vec.ix (h : Vec H sz v n cs) {i : Nat} (hi : i < n) : ∃ y, Id v y ∧ (∃ rest, H.get y = some (.cells (cs ++ rest) true)) ∧ ∀ (α : Type) (kd : IntKind) (k : Value → Option α), pIdx sz v (.int kd (i : Int)) k = k (.pointer (some ⟨y, i * sz, none⟩)) := by
  rcases h with ⟨rfl, _, _⟩ | ⟨y, c, rest, rfl, h1, h2, h3, h4, h5⟩
  · omega
  · refine ⟨y, rfl, ⟨rest, h2⟩, fun α kd k => ?_⟩
    unfold pIdx idxV
    have : sz = sz ∧ (0 : Int) ≤ (i : Int) ∧ (i : Int) < (n : Int) := ⟨rfl, by omega, by omega⟩
    simp only [this, and_self, if_true, Nat.zero_add, Int.toNat_natCast]
theorem ld_cell {y : Nat} {rest : List Value} {own : Bool} (h : H.get y = some (.cells (cs ++ rest) own)) {o : Nat} {x : Value} (hx : cs[o]? = some x) {α : Type} (k : Value → Option α) : pLoad 1 false H (.pointer (some ⟨y, o, none⟩)) k = k x := by
  have hlt := (List.getElem?_eq_some_iff.1 hx).1
  have : (cs ++ rest)[o]? = some x := by rw [List.getElem?_append_left hlt]; exact hx
  simp [pLoad, Hp.rdP, Hp.rd, h, rdCells, this]
theorem ld_agg {y : Nat} {rest : List Value} {own : Bool} (h : H.get y = some (.cells (cs ++ rest) own)) {o m : Nat} (ho : o + m ≤ cs.length) {α : Type} (k : Value → Option α) : pLoad m true H (.pointer (some ⟨y, o, none⟩)) k = k (.agg ((cs.drop o).take m).toArray) := by
  have h1 : o + m ≤ (cs ++ rest).length := by rw [List.length_append]; omega
  have h2 : ((cs ++ rest).drop o).take m = (cs.drop o).take m := by
    rw [List.drop_append_of_le_length (by omega), List.take_append_of_le_length (by rw [List.length_drop]; omega)]
  simp only [pLoad, Hp.rdP, Hp.rd, h, rdCells, h1, if_true, h2]
theorem Vec.ids (h : Vec H sz v n cs) {y : Nat} (hy : Id v y) : ∃ c rest, v = .slice (some ⟨y, 0, some sz⟩) n c ∧ n ≤ c ∧ H.get y = some (.cells (cs ++ rest) true) ∧ cs.length = n * sz ∧ rest.length = (c - n) * sz ∧ y < H.next ∧ rest.all one = true := by
  rcases h with ⟨_, _, rfl⟩ | ⟨y', c, rest, rfl, h⟩
  · cases hy
  · cases hy; exact ⟨c, rest, rfl, h⟩
/-- Some cells are written. -/
theorem Vec.set (h : Vec H sz v n cs) {y o m : Nat} (hy : Id v y) {x : Value} (hm : (cellsL x).length = m) (ho : o + m ≤ cs.length) (h1 : (cellsL x).all one = true) :
    ∃ H', (∀ (α : Type) (k : Hp → Option α), pStore m H (.pointer (some ⟨y, o, none⟩)) x k = k H') ∧ Vec H' sz v n (spl cs o (cellsL x)) ∧ Frm (Id v) H H' ∧ H'.next = H.next := by
  obtain ⟨c, rest, rfl, g1, g2, g3, g4, g5, g6⟩ := h.ids hy
  have hs : spl (cs ++ rest) o (cellsL x) = spl cs o (cellsL x) ++ rest := by
    unfold spl
    rw [List.take_append_of_le_length (by omega), List.drop_append_of_le_length (by omega)]
    simp
  have hw : wrCells m (cs ++ rest) o x = some (spl cs o (cellsL x) ++ rest) := by
    unfold wrCells
    rw [if_pos ⟨hm, by rw [List.length_append]; omega, h1⟩, hs]
  have hl : (spl cs o (cellsL x)).length = cs.length := by
    unfold spl
    simp only [List.length_append, List.length_take, List.length_drop, hm]
    omega
  refine ⟨H.set y (some (.cells (spl cs o (cellsL x) ++ rest) true)), fun α k => ?_, .inr ⟨y, c, rest, rfl, g1, ?_, by rw [hl]; exact g3, g4, g5, g6⟩, fr_set _ _ _ _ rfl, rfl⟩
  · unfold pStore
    have : H.wr (.pointer (some ⟨y, o, none⟩)) m x = some (H.set y (some (.cells (spl cs o (cellsL x) ++ rest) true))) := by
      show (match H.get y with | some (.cells cs true) => (match wrCells m cs o x with | some cs' => some (H.set y (some (.cells cs' true))) | none => none) | _ => none) = _
      rw [g2]; dsimp only; rw [hw]
    rw [this]
  · rw [get_set, if_pos rfl]
/-- The last elements are dropped. -/
theorem Vec.cut (h : Vec H sz v n cs) (hcs : cs.all one = true) {m : Nat} (hm : m ≤ n) : ∃ v', (∀ (α : Type) (kd : IntKind) (k : Value → Option α), pSlice sz v none (some (.int kd (m : Int))) k = k v') ∧ Vec H sz v' m (cs.take (m * sz)) ∧ (∀ j, Id v' j → Id v j) := by
  rcases h with ⟨rfl, rfl, rfl⟩ | ⟨y, c, rest, rfl, h1, h2, h3, h4, h5, h6⟩
  · obtain rfl : m = 0 := by omega
    refine ⟨.slice none 0 0, fun α kd k => ?_, by simpa using Vec.nil H sz, fun j hj => hj⟩
    unfold pSlice sliceV
    simp [optInt]
  · refine ⟨.slice (some ⟨y, 0, some sz⟩) m c, fun α kd k => ?_, .inr ⟨y, c, cs.drop (m * sz) ++ rest, rfl, by omega, ?_, ?_, ?_, h5, ?_⟩, fun j hj => hj⟩
    · have : sliceV sz (.slice (some ⟨y, 0, some sz⟩) n c) none (some (.int kd (m : Int))) = some (.slice (some ⟨y, 0, some sz⟩) m c) := by
        unfold sliceV
        dsimp only [optInt]
        rw [if_pos ⟨rfl, by omega, by omega, by omega⟩]
        simp
      unfold pSlice
      rw [this]
    · rw [← List.append_assoc, List.take_append_drop]; exact h2
    · rw [List.length_take, h3]; exact Nat.min_eq_left (Nat.mul_le_mul_right sz hm)
    · rw [List.length_append, List.length_drop, h3, h4, Nat.sub_mul, Nat.sub_mul]
      have a1 := Nat.mul_le_mul_right sz hm
      have a2 := Nat.mul_le_mul_right sz h1
      rw [Nat.sub_mul] at *
      omega
    · rw [List.all_append, Bool.and_eq_true]
      refine ⟨?_, h6⟩
      rw [List.all_eq_true] at hcs ⊢
      exact fun x hx => hcs x (List.mem_of_mem_drop hx)
/-- A new slice of zeros. -/
theorem repl_len (zs : List Value) : ∀ n, (repl n zs).length = n * zs.length
  | 0 => by simp [repl]
  | n + 1 => by show (zs ++ repl n zs).length = _; rw [List.length_append, repl_len zs n, Nat.succ_mul]; omega
theorem Vec.make (H : Hp) {sz bytes : Nat} {zs : List Value} (hz : zs.length = sz) {n : Nat} (hb : n * bytes ≤ 2 ^ 47) :
    ∃ v, (∀ (α : Type) (k : Value → Hp → Option α), pMakeSlice sz bytes zs (.int .i64 (n : Int)) (.int .i64 (n : Int)) H k = k v (H.new (.cells (repl n zs) true))) ∧ Vec (H.new (.cells (repl n zs) true)) sz v n (repl n zs) ∧ (∀ j, Id v j → j = H.next) := by
  refine ⟨.slice (some ⟨H.next, 0, some sz⟩) n n, fun α k => ?_, .inr ⟨H.next, n, [], rfl, Nat.le_refl _, ?_, by rw [repl_len, hz], by simp, by show H.next < H.next + 1; omega, rfl⟩, fun j hj => by cases hj; rfl⟩
  · have e : ((2 : Int) ^ 47) = ((2 ^ 47 : Nat) : Int) := by rfl
    have hb' : (n : Int) * (bytes : Int) ≤ 2 ^ 47 := by rw [e, ← Int.natCast_mul]; exact Int.ofNat_le.2 hb
    have : makeSliceV sz bytes zs (.int .i64 (n : Int)) (.int .i64 (n : Int)) H = some (.slice (some ⟨H.next, 0, some sz⟩) n n, H.new (.cells (repl n zs) true)) := by
      unfold makeSliceV
      dsimp only
      rw [if_pos ⟨by omega, by omega, hb'⟩]
      rfl
    unfold pMakeSlice
    rw [this]
  · rw [get_new, if_pos rfl, List.append_nil]
/-- One element more. -/
theorem Vec.push (h : Vec H sz v n cs) {bytes : Nat} {zs : List Value} {x : Value} (hs : 0 < sz) (hs2 : sz ≤ 2 ^ 24) (hz : zs.length = sz) (hx : (cellsL x).length = sz) (h1 : (cellsL x).all one = true) (hb : (n + 1) * bytes ≤ 2 ^ 47) :
    ∃ v' H', (∀ (α : Type) (k : Value → Hp → Option α), (pBuildSlice sz zs 1 [(0, x)] H fun t H1 => pAppend sz bytes v t H1 k) = k v' H') ∧ Vec H' sz v' (n + 1) (cs ++ cellsL x) ∧ Frm (Id v) H H' ∧ (∀ j, Id v' j → Id v j ∨ H.next ≤ j) ∧ (∃ j, Id v' j) := by
  have hbuild : buildSliceV sz zs 1 [(0, x)] H = some (.slice (some ⟨H.next, 0, some sz⟩) 1 1, H.new (.cells (cellsL x) true)) := by
    unfold buildSliceV
    rw [if_neg (by omega)]
    have e0 : spl (repl 1 zs) (0 * sz) (cellsL x) = cellsL x := by
      unfold spl
      have : (repl 1 zs).length = sz := by rw [repl_len, hz, Nat.one_mul]
      rw [Nat.zero_mul, List.take_zero, List.nil_append, List.drop_of_length_le (by omega), List.append_nil]
    have : fillL (fun i => some (i * sz, sz)) (repl 1 zs) [(0, x)] = some (cellsL x) := by
      unfold fillL
      dsimp only
      rw [if_pos ⟨hx, by rw [repl_len, hz]; omega, h1⟩, e0]
      rfl
    rw [this]
  have hb' : ∀ (α : Type) (k : Value → Hp → Option α), (pBuildSlice sz zs 1 [(0, x)] H fun t H1 => pAppend sz bytes v t H1 k) = pAppend sz bytes v (.slice (some ⟨H.next, 0, some sz⟩) 1 1) (H.new (.cells (cellsL x) true)) k := fun α k => by
    unfold pBuildSlice; rw [hbuild]
  generalize hH1 : H.new (.cells (cellsL x) true) = H1 at hb'
  have n1 : H1.next = H.next + 1 := by rw [← hH1]; rfl
  have g1 : ∀ j, j < H.next → H1.get j = H.get j := fun j hj => by rw [← hH1, get_new, if_neg (by omega)]
  have gt : H1.get H.next = some (.cells (cellsL x) true) := by rw [← hH1, get_new, if_pos rfl]
  have hsrc : srcCells sz (.slice (some ⟨H.next, 0, some sz⟩) 1 1) H1 = some (1, cellsL x) := by
    unfold srcCells
    dsimp only
    rw [if_pos rfl, gt]
    dsimp only
    rw [if_pos (by omega), List.drop_zero, List.take_of_length_le (by omega)]
  rcases h with ⟨rfl, rfl, rfl⟩ | ⟨y, c, rest, rfl, k1, k2, k3, k4, k5, k6⟩
  · refine ⟨.slice (some ⟨H1.next, 0, some sz⟩) 1 1, H1.new (.cells (cellsL x) true), fun α k => ?_, .inr ⟨H1.next, 1, [], rfl, Nat.le_refl _, ?_, by simpa using hx, by simp, by show H1.next < H1.next + 1; omega, rfl⟩, ⟨by show H.next ≤ H1.next + 1; omega, fun j hj _ => by rw [get_new, if_neg (by omega), g1 j hj]⟩, fun j hj => ?_, ⟨_, rfl⟩⟩
    · rw [hb']
      unfold pAppend appendV
      rw [hsrc]
      dsimp only
      rw [if_neg (by decide), if_pos ⟨by omega, h1⟩]
      rfl
    · rw [get_new, if_pos rfl, List.nil_append, List.append_nil]
    · cases hj; exact .inr (by show H.next ≤ H1.next; omega)
  · have gy : H1.get y = some (.cells (cs ++ rest) true) := by rw [g1 y k5]; exact k2
    have hyn : y ≠ H.next := by omega
    by_cases hc : n + 1 ≤ c
    · -- in place
      have hrl : sz ≤ rest.length := by
        rw [k4]
        have : 1 * sz ≤ (c - n) * sz := Nat.mul_le_mul_right sz (by omega)
        omega
      have hsp : spl (cs ++ rest) (0 + n * sz) (cellsL x) = (cs ++ cellsL x) ++ rest.drop sz := by
        unfold spl
        rw [Nat.zero_add, ← k3, List.take_left' rfl, hx]
        rw [List.drop_append, List.drop_of_length_le (by omega), List.nil_append, Nat.add_sub_cancel_left]
      refine ⟨.slice (some ⟨y, 0, some sz⟩) (n + 1) c, H1.set y (some (.cells ((cs ++ cellsL x) ++ rest.drop sz) true)), fun α k => ?_, .inr ⟨y, c, rest.drop sz, rfl, hc, ?_, ?_, ?_, by show y < H1.next; omega, ?_⟩, ⟨by show H.next ≤ H1.next; omega, fun j hj hm => ?_⟩, fun j hj => ?_, ⟨_, rfl⟩⟩
      · rw [hb']
        unfold pAppend appendV
        rw [hsrc]
        dsimp only
        rw [if_neg (by simp), if_neg (by omega), gy]
        dsimp only
        rw [if_pos hc, if_pos ⟨by rw [List.length_append, k3, k4]; have := Nat.mul_le_mul_right sz hc; rw [Nat.sub_mul]; have := Nat.mul_le_mul_right sz k1; omega, h1⟩, hsp]
      · rw [get_set, if_pos rfl]
      · rw [List.length_append, k3, hx, Nat.succ_mul]
      · rw [List.length_drop, k4]
        have : (c - n) * sz = (c - (n + 1)) * sz + sz := by rw [← Nat.succ_mul]; congr 1; omega
        omega
      · rw [List.all_eq_true] at k6 ⊢
        exact fun z hz => k6 z (List.mem_of_mem_drop hz)
      · rw [get_set, if_neg (fun e => hm (by rw [e]; rfl)), g1 j hj]
      · cases hj; exact .inl rfl
    · -- it moves
      refine ⟨.slice (some ⟨H1.next, 0, some sz⟩) (n + 1) (n + 1), (H1.set y none).new (.cells (cs ++ cellsL x) true), fun α k => ?_, .inr ⟨H1.next, n + 1, [], rfl, Nat.le_refl _, ?_, ?_, by simp, by show H1.next < H1.next + 1; omega, rfl⟩, ⟨by show H.next ≤ H1.next + 1; omega, fun j hj hm => ?_⟩, fun j hj => ?_, ⟨_, rfl⟩⟩
      · rw [hb']
        unfold pAppend appendV
        rw [hsrc]
        dsimp only
        have ht : ((cs ++ rest).drop 0).take (n * sz) = cs := by rw [List.drop_zero, ← k3, List.take_left' rfl]
        rw [if_neg (by simp), if_neg (by omega), gy]
        dsimp only
        rw [if_neg hc, if_pos ⟨by rw [List.length_append, k3]; omega, hb, h1⟩, ht]
      · rw [get_new, if_pos (show H1.next = (H1.set y none).next from rfl), List.append_nil]
      · rw [List.length_append, k3, hx, Nat.succ_mul]
      · rw [get_new, if_neg (by show ¬ j = H1.next; omega), get_set, if_neg (fun e => hm (by rw [e]; rfl)), g1 j hj]
      · cases hj; exact .inr (by show H.next ≤ H1.next; omega)
end
end Go.AM
/- The abstract machine: slices that are read; appending them. -/
set_option linter.unusedVariables false
set_option linter.unusedSimpArgs false
namespace Go.AM
open Go
/-- A slice that may be read. -/
def Rdb (H : Hp) (sz : Nat) (v : Value) (n : Nat) (cs : List Value) : Prop :=
  (n = 0 ∧ cs = [] ∧ v = .slice none 0 0) ∨ ∃ y c rest own, v = .slice (some ⟨y, 0, some sz⟩) n c ∧ n ≤ c ∧ H.get y = some (.cells (cs ++ rest) own) ∧ cs.length = n * sz ∧ y < H.next
section
variable {H H' : Hp} {sz : Nat} {v : Value} {n : Nat} {cs : List Value}
theorem Vec.rd (h : Vec H sz v n cs) : Rdb H sz v n cs := by
  rcases h with e | ⟨y, c, rest, rfl, h1, h2, h3, h4, h5, h6⟩
  · exact .inl e
  · exact .inr ⟨y, c, rest, true, rfl, h1, h2, h3, h5⟩
theorem Rdb.len (h : Rdb H sz v n cs) {α : Type} (H' : Hp) (k : Value → Option α) : pLen .sl v H' k = k (.int .i64 n) := by
  rcases h with ⟨rfl, _, rfl⟩ | ⟨y, c, rest, own, rfl, _⟩ <;> rfl
theorem Rdb.size (h : Rdb H sz v n cs) : cs.length = n * sz := by
  rcases h with ⟨rfl, rfl, _⟩ | ⟨y, c, rest, own, _, _, _, h, _⟩
  · simp
  · exact h
theorem Rdb.lt (h : Rdb H sz v n cs) {j : Nat} (hj : Id v j) : j < H.next := by
  rcases h with ⟨_, _, rfl⟩ | ⟨y, c, rest, own, rfl, _, _, _, h⟩
  · cases hj
  · cases hj; exact h
theorem Rdb.keep' (h : Rdb H sz v n cs) (hg : ∀ j, Id v j → H'.get j = H.get j) (hn : H.next ≤ H'.next) : Rdb H' sz v n cs := by
  rcases h with e | ⟨y, c, rest, own, rfl, h1, h2, h3, h4⟩
  · exact .inl e
  · exact .inr ⟨y, c, rest, own, rfl, h1, by rw [hg y rfl]; exact h2, h3, Nat.lt_of_lt_of_le h4 hn⟩
theorem Rdb.keep {M : Nat → Prop} (h : Rdb H sz v n cs) (k : Frm M H H') (hm : ∀ j, Id v j → ¬ M j) : Rdb H' sz v n cs :=
  h.keep' (fun j hj => k.same j (h.lt hj) (hm j hj)) k.next
theorem Rdb.ix (h : Rdb H sz v n cs) {i : Nat} (hi : i < n) : ∃ y, Id v y ∧ (∃ rest own, H.get y = some (.cells (cs ++ rest) own)) ∧ ∀ (α : Type) (kd : IntKind) (k : Value → Option α), pIdx sz v (.int kd (i : Int)) k = k (.pointer (some ⟨y, i * sz, none⟩)) := by
  rcases h with ⟨rfl, _, _⟩ | ⟨y, c, rest, own, rfl, h1, h2, h3, h4⟩
  · omega
  · refine ⟨y, rfl, ⟨rest, own, h2⟩, fun α kd k => ?_⟩
    unfold pIdx idxV
    have : sz = sz ∧ (0 : Int) ≤ (i : Int) ∧ (i : Int) < (n : Int) := ⟨rfl, by omega, by omega⟩
    simp only [this, and_self, if_true, Nat.zero_add, Int.toNat_natCast]
theorem Rdb.src (h : Rdb H sz v n cs) : srcCells sz v H = some (n, cs) := by
  rcases h with ⟨rfl, rfl, rfl⟩ | ⟨y, c, rest, own, rfl, h1, h2, h3, h4⟩
  · rfl
  · unfold srcCells
    dsimp only
    rw [if_pos rfl, h2]
    dsimp only
    rw [if_pos (by rw [List.length_append]; omega), List.drop_zero, ← h3, List.take_left' rfl]
/-- A slice is appended. -/
theorem Vec.app (h : Vec H sz v n cs) {x : Value} {m : Nat} {new : List Value} (hx : Rdb H sz x m new) {bytes : Nat} (h1 : new.all one = true) (hb : (n + m) * bytes ≤ 2 ^ 47) :
    ∃ v' H', (∀ (α : Type) (k : Value → Hp → Option α), pAppend sz bytes v x H k = k v' H') ∧ Vec H' sz v' (n + m) (cs ++ new) ∧ Frm (Id v) H H' ∧ (∀ j, Id v' j → Id v j ∨ H.next ≤ j) := by
  have hsrc := hx.src
  have hxl := hx.size
  rcases h with ⟨rfl, rfl, rfl⟩ | ⟨y, c, rest, rfl, k1, k2, k3, k4, k5, k6⟩
  · by_cases hm : m = 0
    · subst hm
      refine ⟨.slice none 0 0, H, fun α k => ?_, ?_, Frm.refl _ _, fun j hj => .inl hj⟩
      · have : appendV sz bytes (.slice none 0 0) x H = some (.slice none 0 0, H) := by
          unfold appendV
          rw [hsrc]; rfl
        unfold pAppend
        rw [this]
      · have : new = [] := List.length_eq_zero_iff.1 (by omega)
        subst this
        exact Vec.nil H sz
    · refine ⟨.slice (some ⟨H.next, 0, some sz⟩) m m, H.new (.cells new true), fun α k => ?_, .inr ⟨H.next, m, [], by simp, by omega, ?_, by simp; omega, by simp, by show H.next < H.next + 1; omega, rfl⟩, fr_new _ _ _, fun j hj => ?_⟩
      · have : appendV sz bytes (.slice none 0 0) x H = some (.slice (some ⟨H.next, 0, some sz⟩) m m, H.new (.cells new true)) := by
          unfold appendV
          rw [hsrc]
          dsimp only
          rw [if_neg hm, if_pos ⟨by rw [Nat.zero_add] at hb; exact hb, h1⟩]
          rfl
        unfold pAppend
        rw [this]
      · rw [get_new, if_pos rfl, List.nil_append, List.append_nil]
      · cases hj; exact .inr (Nat.le_refl _)
  · by_cases hm : m = 0
    · subst hm
      have : new = [] := List.length_eq_zero_iff.1 (by omega)
      subst this
      refine ⟨.slice (some ⟨y, 0, some sz⟩) n c, H, fun α k => ?_, .inr ⟨y, c, rest, rfl, k1, by rw [List.append_nil]; exact k2, by rw [List.append_nil]; exact k3, k4, k5, k6⟩, Frm.refl _ _, fun j hj => .inl hj⟩
      have : appendV sz bytes (.slice (some ⟨y, 0, some sz⟩) n c) x H = some (.slice (some ⟨y, 0, some sz⟩) n c, H) := by
        unfold appendV
        rw [hsrc]
        dsimp only
        rw [if_neg (by simp), if_pos ⟨rfl, k1⟩]
      unfold pAppend
      rw [this]
    · by_cases hc : n + m ≤ c
      · have hrl : m * sz ≤ rest.length := by rw [k4]; exact Nat.mul_le_mul_right sz (by omega)
        have hsp : spl (cs ++ rest) (0 + n * sz) new = (cs ++ new) ++ rest.drop (m * sz) := by
          unfold spl
          rw [Nat.zero_add, ← k3, List.take_left' rfl, hxl]
          rw [List.drop_append, List.drop_of_length_le (by omega), List.nil_append, Nat.add_sub_cancel_left]
        have hle : (n + m) * sz ≤ c * sz := Nat.mul_le_mul_right sz hc
        have hcl : (cs ++ rest).length = c * sz := by
          rw [List.length_append, k3, k4, ← Nat.add_mul]; congr 1; omega
        refine ⟨.slice (some ⟨y, 0, some sz⟩) (n + m) c, H.set y (some (.cells ((cs ++ new) ++ rest.drop (m * sz)) true)), fun α k => ?_, .inr ⟨y, c, rest.drop (m * sz), rfl, hc, ?_, ?_, ?_, k5, ?_⟩, fr_set _ _ _ _ rfl, fun j hj => .inl hj⟩
        · have : appendV sz bytes (.slice (some ⟨y, 0, some sz⟩) n c) x H = some (.slice (some ⟨y, 0, some sz⟩) (n + m) c, H.set y (some (.cells ((cs ++ new) ++ rest.drop (m * sz)) true))) := by
            unfold appendV
            rw [hsrc]
            dsimp only
            rw [if_neg (by simp), if_neg (by omega), k2]
            dsimp only
            rw [if_pos hc, if_pos ⟨by rw [hcl]; omega, h1⟩, hsp]
          unfold pAppend
          rw [this]
        · rw [get_set, if_pos rfl]
        · rw [List.length_append, k3, hxl, Nat.add_mul]
        · rw [List.length_drop, k4, ← Nat.sub_mul]; congr 1; omega
        · rw [List.all_eq_true] at k6 ⊢
          exact fun z hz => k6 z (List.mem_of_mem_drop hz)
      · have ht : ((cs ++ rest).drop 0).take (n * sz) = cs := by rw [List.drop_zero, ← k3, List.take_left' rfl]
        refine ⟨.slice (some ⟨H.next, 0, some sz⟩) (n + m) (n + m), (H.set y none).new (.cells (cs ++ new) true), fun α k => ?_, .inr ⟨H.next, n + m, [], rfl, Nat.le_refl _, ?_, ?_, by simp, by show H.next < H.next + 1; omega, rfl⟩, ⟨by show H.next ≤ H.next + 1; omega, fun j hj hm' => ?_⟩, fun j hj => ?_⟩
        · have : appendV sz bytes (.slice (some ⟨y, 0, some sz⟩) n c) x H = some (.slice (some ⟨H.next, 0, some sz⟩) (n + m) (n + m), (H.set y none).new (.cells (cs ++ new) true)) := by
            unfold appendV
            rw [hsrc]
            dsimp only
            rw [if_neg (by simp), if_neg (by omega), k2]
            dsimp only
            rw [if_neg hc, if_pos ⟨by rw [List.length_append, k3]; omega, hb, h1⟩, ht]
          unfold pAppend
          rw [this]
        · rw [get_new, if_pos (show H.next = (H.set y none).next from rfl), List.append_nil]
        · rw [List.length_append, k3, hxl, Nat.add_mul]
        · rw [get_new, if_neg (by show ¬ j = H.next; omega), get_set, if_neg (fun e => hm' (by rw [e]; rfl))]
        · cases hj; exact .inr (Nat.le_refl _)
/-- An empty slice that is not nil. -/
theorem Vec.empty (H : Hp) (sz : Nat) (zs : List Value) : (∀ (α : Type) (k : Value → Hp → Option α), pBuildSlice sz zs 0 [] H k = k (.slice (some ⟨H.next, 0, some sz⟩) 0 0) (H.new (.cells [] true))) ∧ Vec (H.new (.cells [] true)) sz (.slice (some ⟨H.next, 0, some sz⟩) 0 0) 0 [] :=
  ⟨fun α k => by
    have : buildSliceV sz zs 0 [] H = some (.slice (some ⟨H.next, 0, some sz⟩) 0 0, H.new (.cells [] true)) := by
      unfold buildSliceV
      rw [if_neg (by omega)]
      rfl
    unfold pBuildSlice
    rw [this], .inr ⟨H.next, 0, [], rfl, Nat.le_refl _, by rw [get_new, if_pos rfl]; rfl, by simp, by simp, by show H.next < H.next + 1; omega, rfl⟩⟩
end
end Go.AM
/- The abstract machine: several slices of a function's own. -/
set_option linter.unusedVariables false
set_option linter.unusedSimpArgs false
namespace Go.AM
open Go
structure Sl where
  sz : Nat
  v : Value
  n : Nat
  cs : List Value
/-- Slices that were made behind H0, apart from each other; what was there at H0 is as it was. -/
structure Own (H0 H : Hp) (vs : List Sl) : Prop where
  next : H0.next ≤ H.next
  old : ∀ j, j < H0.next → H.get j = H0.get j
  vec : ∀ e ∈ vs, Vec H e.sz e.v e.n e.cs
  new : ∀ e ∈ vs, ∀ j, Id e.v j → H0.next ≤ j
  apart : vs.Pairwise fun a b => ∀ j, Id a.v j → ¬ Id b.v j
section
variable {H0 H : Hp} {sz : Nat} {v : Value} {n : Nat} {cs : List Value} {r : List Sl}
theorem Own.nil (H : Hp) : Own H H [] := ⟨Nat.le_refl _, fun _ _ => rfl, fun e h => (by cases h), fun e h => (by cases h), List.Pairwise.nil⟩
theorem Own.head {a : Sl} (h : Own H0 H (a :: r)) : Vec H a.sz a.v a.n a.cs := h.vec a (List.mem_cons_self ..)
theorem Own.tail {a : Sl} (h : Own H0 H (a :: r)) : Own H0 H r :=
  ⟨h.next, h.old, fun e he => h.vec e (List.mem_cons_of_mem _ he), fun e he => h.new e (List.mem_cons_of_mem _ he), (List.pairwise_cons.1 h.apart).2⟩
theorem Own.swap {a b : Sl} (h : Own H0 H (a :: b :: r)) : Own H0 H (b :: a :: r) := by
  obtain ⟨h1, h2⟩ := List.pairwise_cons.1 h.apart
  obtain ⟨h3, h4⟩ := List.pairwise_cons.1 h2
  refine ⟨h.next, h.old, fun e he => h.vec e ?_, fun e he => h.new e ?_, List.pairwise_cons.2 ⟨fun e he j a b => ?_, List.pairwise_cons.2 ⟨fun e he => h1 e (List.mem_cons_of_mem _ he), h4⟩⟩⟩
  · simp only [List.mem_cons] at he ⊢
    rcases he with e | e | e <;> simp [e]
  · simp only [List.mem_cons] at he ⊢
    rcases he with e | e | e <;> simp [e]
  · rcases List.mem_cons.1 he with rfl | he
    · exact h1 _ (List.mem_cons_self ..) j b a
    · exact h3 e he j a b
theorem Own.third {a b c : Sl} (h : Own H0 H (a :: b :: c :: r)) : Own H0 H (c :: a :: b :: r) := by
  -- c to the front
  obtain ⟨h1, h2⟩ := List.pairwise_cons.1 h.apart
  obtain ⟨h3, h4⟩ := List.pairwise_cons.1 h2
  obtain ⟨h5, h6⟩ := List.pairwise_cons.1 h4
  refine ⟨h.next, h.old, fun e he => h.vec e ?_, fun e he => h.new e ?_, List.pairwise_cons.2 ⟨fun e he j x y => ?_, List.pairwise_cons.2 ⟨fun e he => ?_, List.pairwise_cons.2 ⟨fun e he => h3 e (List.mem_cons_of_mem _ he), h6⟩⟩⟩⟩
  · simp only [List.mem_cons] at he ⊢
    rcases he with e | e | e | e <;> simp [e]
  · simp only [List.mem_cons] at he ⊢
    rcases he with e | e | e | e <;> simp [e]
  · rcases List.mem_cons.1 he with rfl | he
    · exact h1 _ (by simp) j y x
    · rcases List.mem_cons.1 he with rfl | he
      · exact h3 _ (by simp) j y x
      · exact h5 e he j x y
  · rcases List.mem_cons.1 he with rfl | he
    · exact h1 _ (by simp)
    · exact h1 e (by simp [he])
/-- The first one changes, the others stay. -/
theorem Own.upd {a a' : Sl} {H' : Hp} (h : Own H0 H (a :: r)) (hv : Vec H' a'.sz a'.v a'.n a'.cs) (hf : Frm (Id a.v) H H') (hi : ∀ j, Id a'.v j → Id a.v j ∨ H.next ≤ j) : Own H0 H' (a' :: r) := by
  obtain ⟨h1, h2⟩ := List.pairwise_cons.1 h.apart
  have hn := h.next
  refine ⟨Nat.le_trans h.next hf.next, fun j hj => ?_, fun e he => ?_, fun e he j hj => ?_, List.pairwise_cons.2 ⟨fun e he j x y => ?_, h2⟩⟩
  · rw [hf.same j (Nat.lt_of_lt_of_le hj h.next) (fun q => by have := h.new a (by simp) j q; omega), h.old j hj]
  · rcases List.mem_cons.1 he with rfl | he
    · exact hv
    · exact (h.vec e (by simp [he])).keep hf fun j x y => h1 e he j y x
  · rcases List.mem_cons.1 he with rfl | he
    · rcases hi j hj with q | q
      · exact h.new a (by simp) j q
      · omega
    · exact h.new e (by simp [he]) j hj
  · rcases hi j x with q | q
    · exact h1 e he j q y
    · have := (h.vec e (by simp [he])).lt y; omega
/-- One more, that is new. -/
theorem Own.add {a : Sl} {H' : Hp} (h : Own H0 H r) (hv : Vec H' a.sz a.v a.n a.cs) (hf : Frm (fun _ => False) H H') (hi : ∀ j, Id a.v j → H.next ≤ j) : Own H0 H' (a :: r) := by
  have hn := h.next
  refine ⟨Nat.le_trans h.next hf.next, fun j hj => ?_, fun e he => ?_, fun e he j hj => ?_, List.pairwise_cons.2 ⟨fun e he j x y => ?_, h.apart⟩⟩
  · rw [hf.same j (Nat.lt_of_lt_of_le hj h.next) (fun q => q), h.old j hj]
  · rcases List.mem_cons.1 he with rfl | he
    · exact hv
    · exact (h.vec e he).keep hf fun j _ q => q
  · rcases List.mem_cons.1 he with rfl | he
    · have := hi j hj; omega
    · exact h.new e he j hj
  · have := hi j x
    have := (h.vec e he).lt y; omega
/-- A call that leaves all as it was. -/
theorem Own.frm {H' : Hp} (h : Own H0 H r) (hf : Frm (fun _ => False) H H') : Own H0 H' r :=
  ⟨Nat.le_trans h.next hf.next, fun j hj => by rw [hf.same j (Nat.lt_of_lt_of_le hj h.next) (fun q => q), h.old j hj], fun e he => (h.vec e he).keep hf fun j _ q => q, h.new, h.apart⟩
theorem Own.toFrm (h : Own H0 H r) : Frm (fun _ => False) H0 H := ⟨h.next, fun j hj _ => h.old j hj⟩
/-- Nothing yet, and a nil slice. -/
theorem Own.addNil (h : Own H0 H r) (sz : Nat) : Own H0 H (⟨sz, .slice none 0 0, 0, []⟩ :: r) := by
  refine ⟨h.next, h.old, fun e he => ?_, fun e he j hj => ?_, List.pairwise_cons.2 ⟨fun e he j x => (by cases x), h.apart⟩⟩
  · rcases List.mem_cons.1 he with rfl | he
    · exact Vec.nil H sz
    · exact h.vec e he
  · rcases List.mem_cons.1 he with rfl | he
    · cases hj
    · exact h.new e he j hj
/-- Push. -/
theorem Own.push (h : Own H0 H (⟨sz, v, n, cs⟩ :: r)) {bytes : Nat} {zs : List Value} {x : Value} (hs : 0 < sz) (hs2 : sz ≤ 2 ^ 24) (hz : zs.length = sz) (hx : (cellsL x).length = sz) (h1 : (cellsL x).all one = true) (hb : (n + 1) * bytes ≤ 2 ^ 47) :
    ∃ v' H', (∀ (α : Type) (k : Value → Hp → Option α), (pBuildSlice sz zs 1 [(0, x)] H fun t H1 => pAppend sz bytes v t H1 k) = k v' H') ∧ Own H0 H' (⟨sz, v', n + 1, cs ++ cellsL x⟩ :: r) := by
  obtain ⟨v', H', e1, e2, e3, e4, _⟩ := h.head.push (bytes := bytes) (zs := zs) hs hs2 hz hx h1 hb
  exact ⟨v', H', e1, h.upd (a' := ⟨sz, v', n + 1, cs ++ cellsL x⟩) e2 e3 e4⟩
/-- Cut. -/
theorem Own.cut (h : Own H0 H (⟨sz, v, n, cs⟩ :: r)) (hcs : cs.all one = true) {m : Nat} (hm : m ≤ n) : ∃ v', (∀ (α : Type) (kd : IntKind) (k : Value → Option α), pSlice sz v none (some (.int kd (m : Int))) k = k v') ∧ Own H0 H (⟨sz, v', m, cs.take (m * sz)⟩ :: r) := by
  obtain ⟨v', e1, e2, e3⟩ := h.head.cut hcs hm
  exact ⟨v', e1, h.upd (a' := ⟨sz, v', m, cs.take (m * sz)⟩) e2 (Frm.refl _ _) fun j q => .inl (e3 j q)⟩
/-- Store. -/
theorem Own.set (h : Own H0 H (⟨sz, v, n, cs⟩ :: r)) {i : Nat} (hi : i < n) : ∃ y, Id v y ∧ (∀ (α : Type) (kd : IntKind) (k : Value → Option α), pIdx sz v (.int kd (i : Int)) k = k (.pointer (some ⟨y, i * sz, none⟩))) ∧
    (∀ (o : Nat) (x : Value), cs[o]? = some x → ∀ (α : Type) (k : Value → Option α), pLoad 1 false H (.pointer (some ⟨y, o, none⟩)) k = k x) ∧
    (∀ (o m : Nat), o + m ≤ n * sz → ∀ (α : Type) (k : Value → Option α), pLoad m true H (.pointer (some ⟨y, o, none⟩)) k = k (.agg ((cs.drop o).take m).toArray)) ∧
    (∀ (o m : Nat) (x : Value), (cellsL x).length = m → o + m ≤ n * sz → (cellsL x).all one = true → ∃ H', (∀ (α : Type) (k : Hp → Option α), pStore m H (.pointer (some ⟨y, o, none⟩)) x k = k H') ∧ Own H0 H' (⟨sz, v, n, spl cs o (cellsL x)⟩ :: r)) := by
  obtain ⟨y, hy, ⟨rest, hg⟩, hix⟩ := h.head.ix hi
  have hl := h.head.size
  dsimp only at hl hy hg hix
  refine ⟨y, hy, hix, fun o x hx α k => ld_cell hg hx k, fun o m ho α k => (by have h2 : o + m ≤ cs.length := (by rw [hl]; exact ho); exact ld_agg hg h2 k), fun o m x hm ho h1 => ?_⟩
  obtain ⟨H', e1, e2, e3, e4⟩ := h.head.set (o := o) hy hm (by dsimp only; omega) h1
  exact ⟨H', e1, h.upd (a' := ⟨sz, v, n, spl cs o (cellsL x)⟩) e2 e3 fun j q => .inl q⟩
theorem Own.make (h : Own H0 H r) {bytes : Nat} {zs : List Value} (hz : zs.length = sz) {n : Nat} (hb : n * bytes ≤ 2 ^ 47) :
    ∃ v H', (∀ (α : Type) (k : Value → Hp → Option α), pMakeSlice sz bytes zs (.int .i64 (n : Int)) (.int .i64 (n : Int)) H k = k v H') ∧ Own H0 H' (⟨sz, v, n, repl n zs⟩ :: r) := by
  obtain ⟨v, e1, e2, e3⟩ := Vec.make H hz hb
  exact ⟨v, _, e1, h.add (a := ⟨sz, v, n, repl n zs⟩) e2 (fr_new _ _ _) fun j q => by have := e3 j q; omega⟩
/-- Writing one cell of a row of cells of one kind. -/
theorem spl_set {α : Type} (f : α → Value) (l : List α) {i : Nat} (hi : i < l.length) (x : α) : spl (l.map f) (i * 1) [f x] = (l.set i x).map f := by
  unfold spl
  rw [Nat.mul_one, List.map_set, List.set_eq_take_append_cons_drop, if_pos (by simpa using hi)]
  simp
end
end Go.AM
/- Naturals by their digits to a base, plainly. -/
set_option linter.unusedVariables false
namespace Go.AM
/-- The digits of a natural to the base b, the lowest first; none of 0. -/
def digs (b : Nat) : Nat → Nat → List Nat
  | 0, _ => []
  | f + 1, n => if n = 0 then [] else n % b :: digs b f (n / b)
def dg (b n : Nat) : List Nat := digs b n n
theorem digs_fuel {b : Nat} (hb : 2 ≤ b) : ∀ (n f g : Nat), n ≤ f → n ≤ g → digs b f n = digs b g n := by
  intro n
  induction n using Nat.strongRecOn with
  | _ n ih =>
    intro f g hf hg
    cases f with
    | zero =>
      have : n = 0 := by omega
      subst this
      cases g with
      | zero => rfl
      | succ g => simp [digs]
    | succ f =>
      cases g with
      | zero =>
        have : n = 0 := by omega
        subst this
        simp [digs]
      | succ g =>
        unfold digs
        by_cases h : n = 0
        · rw [if_pos h, if_pos h]
        · rw [if_neg h, if_neg h]
          have : n / b < n := Nat.div_lt_self (by omega) (by omega)
          rw [ih (n / b) this f g (by omega) (by omega)]
theorem dg_zero (b : Nat) : dg b 0 = [] := rfl
theorem dg_pos {b : Nat} (hb : 2 ≤ b) {n : Nat} (h : n ≠ 0) : dg b n = n % b :: dg b (n / b) := by
  cases n with
  | zero => exact absurd rfl h
  | succ n =>
    have e : digs b (n + 1) (n + 1) = if n + 1 = 0 then [] else (n + 1) % b :: digs b n ((n + 1) / b) := rfl
    show digs b (n + 1) (n + 1) = (n + 1) % b :: digs b ((n + 1) / b) ((n + 1) / b)
    have : (n + 1) / b < n + 1 := Nat.div_lt_self (by omega) (by omega)
    rw [e, if_neg h, digs_fuel hb ((n + 1) / b) n ((n + 1) / b) (by omega) (Nat.le_refl _)]
theorem dg_nil {b : Nat} (hb : 2 ≤ b) {n : Nat} : dg b n = [] ↔ n = 0 := by
  constructor
  · intro h
    rcases Nat.eq_zero_or_pos n with q | q
    · exact q
    · rw [dg_pos hb (by omega)] at h; cases h
  · rintro rfl; rfl
theorem dg_lt {b : Nat} (hb : 2 ≤ b) : ∀ (n : Nat), ∀ x ∈ dg b n, x < b := by
  intro n
  induction n using Nat.strongRecOn with
  | _ n ih =>
    intro x hx
    by_cases h : n = 0
    · subst h; cases hx
    · rw [dg_pos hb h] at hx
      rcases List.mem_cons.1 hx with rfl | hx
      · exact Nat.mod_lt _ (by omega)
      · exact ih (n / b) (Nat.div_lt_self (by omega) (by omega)) x hx
/-- The value of digits. -/
def vl (b : Nat) : List Nat → Nat
  | [] => 0
  | x :: l => x + b * vl b l
theorem vl_dg {b : Nat} (hb : 2 ≤ b) : ∀ (n : Nat), vl b (dg b n) = n := by
  intro n
  induction n using Nat.strongRecOn with
  | _ n ih =>
    by_cases h : n = 0
    · subst h; rfl
    · rw [dg_pos hb h]
      show n % b + b * vl b (dg b (n / b)) = n
      rw [ih (n / b) (Nat.div_lt_self (by omega) (by omega))]
      exact Nat.mod_add_div n b
theorem vl_app (b : Nat) : ∀ (l m : List Nat), vl b (l ++ m) = vl b l + b ^ l.length * vl b m
  | [], m => by simp [vl]
  | x :: l, m => by
    show x + b * vl b (l ++ m) = x + b * vl b l + b ^ (l.length + 1) * vl b m
    rw [vl_app b l m, Nat.mul_add, Nat.pow_succ]
    rw [show b ^ l.length * b * vl b m = b * (b ^ l.length * vl b m) by rw [Nat.mul_comm (b ^ l.length) b, Nat.mul_assoc]]
    omega
theorem vl_lt {b : Nat} (hb : 2 ≤ b) : ∀ (l : List Nat), (∀ x ∈ l, x < b) → vl b l < b ^ l.length
  | [], _ => by simp [vl]
  | x :: l, h => by
    have h1 := h x (List.mem_cons_self ..)
    have h2 := vl_lt hb l fun y hy => h y (List.mem_cons_of_mem _ hy)
    show x + b * vl b l < b ^ (l.length + 1)
    rw [Nat.pow_succ, Nat.mul_comm (b ^ l.length) b]
    have h3 : b * (vl b l + 1) ≤ b * b ^ l.length := Nat.mul_le_mul_left b h2
    rw [Nat.mul_add, Nat.mul_one] at h3
    omega
/-- Digits below the base, the highest not 0, are those of their value. -/
theorem dg_vl {b : Nat} (hb : 2 ≤ b) : ∀ (l : List Nat), (∀ x ∈ l, x < b) → (∀ x, l.getLast? = some x → x ≠ 0) → dg b (vl b l) = l
  | [], _, _ => rfl
  | x :: l, h, hz => by
    have hx := h x (List.mem_cons_self ..)
    have ih := dg_vl hb l (fun y hy => h y (List.mem_cons_of_mem _ hy)) (fun y hy => by
      cases l with
      | nil => cases hy
      | cons z l => exact hz y (by rw [List.getLast?_cons_cons]; exact hy))
    have hne : vl b (x :: l) ≠ 0 := by
      show x + b * vl b l ≠ 0
      cases l with
      | nil =>
        have := hz x rfl
        simp [vl]; exact this
      | cons z l =>
        intro e
        have e2 : vl b (z :: l) = 0 := by
          have : b * vl b (z :: l) = 0 := by omega
          rcases Nat.mul_eq_zero.1 this with q | q
          · omega
          · exact q
        rw [e2] at ih
        cases ih
    rw [dg_pos hb hne]
    have e1 : vl b (x :: l) % b = x := by
      show (x + b * vl b l) % b = x
      rw [Nat.add_mul_mod_self_left]; exact Nat.mod_eq_of_lt hx
    have e2 : vl b (x :: l) / b = vl b l := by
      show (x + b * vl b l) / b = vl b l
      rw [Nat.add_mul_div_left _ _ (by omega), Nat.div_eq_of_lt hx, Nat.zero_add]
    rw [e1, e2, ih]
theorem dg_len_lt {b : Nat} (hb : 2 ≤ b) {n k : Nat} (h : n < b ^ k) : (dg b n).length ≤ k := by
  induction k generalizing n with
  | zero =>
    have : n = 0 := by simpa using h
    subst this; simp [dg_zero]
  | succ k ih =>
    by_cases h0 : n = 0
    · subst h0; simp [dg_zero]
    · rw [dg_pos hb h0, List.length_cons]
      have : n / b < b ^ k := Nat.div_lt_of_lt_mul (by rw [Nat.mul_comm, ← Nat.pow_succ]; exact h)
      have := ih this
      omega
/-- Held against each other: the lengths, then the highest digit that is unlike. -/
theorem dg_len_mono {b : Nat} (hb : 2 ≤ b) : ∀ (m n : Nat), n ≤ m → (dg b n).length ≤ (dg b m).length := by
  intro m
  induction m using Nat.strongRecOn with
  | _ m ih =>
    intro n h
    by_cases h0 : n = 0
    · subst h0; simp [dg_zero]
    · have hm : m ≠ 0 := by omega
      rw [dg_pos hb h0, dg_pos hb hm, List.length_cons, List.length_cons]
      have := ih (m / b) (Nat.div_lt_self (by omega) (by omega)) (n / b) (Nat.div_le_div_right h)
      omega
end Go.AM
/- The abstract machine: the primitives, by rule. -/
set_option linter.unusedVariables false
set_option linter.unusedSimpArgs false
namespace Go.AM
open Go
section
variable {α : Type} {P : Program}
theorem q_brf (x y : Option α) : br false x y = y := rfl
theorem q_brt (x y : Option α) : br true x y = x := rfl
theorem q_head (v : Value) (l : List Value) : (v :: l).headD undef = v := rfl
theorem q_conv (kd k2 : IntKind) (a : Int) (k : Value → Option α) : pConvInt kd (.int k2 a) k = k (.int kd (kd.wrap a)) := rfl
theorem q_slen (s : ByteArray) (H : Hp) (k : Value → Option α) : pLen .str (.string s) H k = k (.int .i64 s.size) := rfl
theorem q_chk {q : Prop} (h : q) (k : Option α) : chk q k = k := by unfold chk; exact if_pos h
theorem q_ext0 (x y : Value) (k : Value → Option α) : pExtract (.tuple #[x, y]) 0 k = k x := rfl
theorem q_ext1 (x y : Value) (k : Value → Option α) : pExtract (.tuple #[x, y]) 1 k = k y := rfl
theorem q_wrap {k : IntKind} {n : Int} (h1 : k.min ≤ n) (h2 : n ≤ k.max) : k.wrap n = n := by
  cases k <;> simp [IntKind.wrap, IntKind.min, IntKind.max, IntKind.signed, IntKind.bits] at * <;> omega
theorem q_i64 {x : Int} (h1 : -9223372036854775808 ≤ x) (h2 : x ≤ 9223372036854775807) : IntKind.i64.wrap x = x := q_wrap (by have : IntKind.i64.min = -9223372036854775808 := rfl; omega) (by have : IntKind.i64.max = 9223372036854775807 := rfl; omega)
theorem q_u64 {x : Int} (h1 : 0 ≤ x) (h2 : x ≤ 18446744073709551615) : IntKind.u64.wrap x = x := q_wrap (by have : IntKind.u64.min = 0 := rfl; omega) (by have : IntKind.u64.max = 18446744073709551615 := rfl; omega)
theorem q_u8 {x : Int} (h1 : 0 ≤ x) (h2 : x ≤ 255) : IntKind.u8.wrap x = x := q_wrap (by have : IntKind.u8.min = 0 := rfl; omega) (by have : IntKind.u8.max = 255 := rfl; omega)
theorem q_rem (T : TypeId) (kd : IntKind) (a b : Nat) (hb : b ≠ 0) (k : Value → Option α) : pBin P .rem T (.int kd (a : Int)) (.int kd (b : Int)) k = k (.int kd ((a % b : Nat) : Int)) := by
  have hb' : ¬ (b : Int) = 0 := by omega
  have : ((a : Int).tmod (b : Int)) = ((a % b : Nat) : Int) := Int.ofNat_tmod a b |>.symm
  have : binV P .rem T (.int kd (a : Int)) (.int kd (b : Int)) = some (.int kd ((a % b : Nat) : Int)) := by
    show (if kd = kd then intOp .rem kd (a : Int) (b : Int) else none) = _
    rw [if_pos rfl]
    unfold intOp
    dsimp only
    rw [if_neg hb', this]
  unfold pBin; rw [this]
theorem q_quo (T : TypeId) (a b : Nat) (hb : b ≠ 0) (ha : a < 18446744073709551616) (k : Value → Option α) : pBin P .quo T (.int .u64 (a : Int)) (.int .u64 (b : Int)) k = k (.int .u64 ((a / b : Nat) : Int)) := by
  have hb' : ¬ (b : Int) = 0 := by omega
  have h1 : ((a : Int).tdiv (b : Int)) = ((a / b : Nat) : Int) := rfl
  have h2 : a / b ≤ a := Nat.div_le_self a b
  have h3 : IntKind.u64.wrap ((a / b : Nat) : Int) = ((a / b : Nat) : Int) := by
    clear h1
    generalize a / b = q at h2
    exact q_u64 (by omega) (by omega)
  have : binV P .quo T (.int .u64 (a : Int)) (.int .u64 (b : Int)) = some (.int .u64 ((a / b : Nat) : Int)) := by
    show (if IntKind.u64 = IntKind.u64 then intOp .quo .u64 (a : Int) (b : Int) else none) = _
    rw [if_pos rfl]
    unfold intOp
    dsimp only
    rw [if_neg hb', h1, h3]
  unfold pBin; rw [this]
theorem q_add (T : TypeId) (a b : Nat) (h : a + b < 18446744073709551616) (k : Value → Option α) : pBin P .add T (.int .u64 (a : Int)) (.int .u64 (b : Int)) k = k (.int .u64 ((a + b : Nat) : Int)) := by
  rw [s_add, q_u64 (by omega) (by omega)]; rfl
theorem q_mul (T : TypeId) (a b : Nat) (h : a * b < 18446744073709551616) (k : Value → Option α) : pBin P .mul T (.int .u64 (a : Int)) (.int .u64 (b : Int)) k = k (.int .u64 ((a * b : Nat) : Int)) := by
  rw [s_mul, ← Int.natCast_mul, q_u64 (by omega) (by omega)]
theorem q_at (s : ByteArray) (i : Nat) (b : UInt8) (h : s.data.toList[i]? = some b) (k : Value → Option α) : pAtStr (.string s) (.int .i64 (i : Int)) k = k (.int .u8 (b.toNat : Int)) := by
  have hi : i < s.data.toList.length := (List.getElem?_eq_some_iff.1 h).1
  have hb : s[i]? = some b := by
    have h1 : s.data[i]? = some b := by rw [← h]; simp
    obtain ⟨h2, h3⟩ := Array.getElem?_eq_some_iff.1 h1
    have h4 : i < s.size := h2
    rw [getElem?_pos s i h4]
    exact congrArg some h3
  have : atStr s (i : Int) = some (.int .u8 (b.toNat : Int)) := by
    unfold atStr
    rw [if_pos (by omega), Int.toNat_natCast, hb]; rfl
  unfold pAtStr
  dsimp only
  rw [this]
theorem q_seql (T : TypeId) (a b : ByteArray) (k : Value → Option α) : pBin P .eql T (.string a) (.string b) k = k (.bool (a.toList == b.toList)) := rfl
theorem q_beql (T : TypeId) (a b : Bool) (hT : P.underlying T = some .bool) (k : Value → Option α) : pBin P .eql T (.bool a) (.bool b) k = k (.bool (a == b)) := by
  have : eqT P Op.maxDepth T (.bool a) (.bool b) = some (a == b) := by
    unfold Op.maxDepth
    simp only [eqT, hT]
  simp only [pBin, binV, eqOp, this]
end
/-- Numbers without a sign, as cells. -/
def u64s (l : List Nat) : List Value := l.map fun (t : Nat) => Value.int .u64 (t : Int)
theorem u64s_len (l : List Nat) : (u64s l).length = l.length := by simp [u64s]
theorem u64s_one (l : List Nat) : (u64s l).all one = true := by simp [u64s, one]
theorem u64s_app (l m : List Nat) : u64s (l ++ m) = u64s l ++ u64s m := by simp [u64s]
theorem u64s_get {l : List Nat} {i : Nat} {t : Nat} (h : l[i]? = some t) : (u64s l)[i]? = some (.int .u64 (t : Int)) := by simp [u64s, h]
theorem Rdb.u64 {H : Hp} {v : Value} {n : Nat} {l : List Nat} (h : Rdb H 1 v n (u64s l)) {i : Nat} {t : Nat} (ht : l[i]? = some t) :
    ∃ y, (∀ (α : Type) (kd : IntKind) (k : Value → Option α), pIdx 1 v (.int kd (i : Int)) k = k (.pointer (some ⟨y, i * 1, none⟩))) ∧ (∀ (α : Type) (k : Value → Option α), pLoad 1 false H (.pointer (some ⟨y, i * 1, none⟩)) k = k (.int .u64 (t : Int))) := by
  have hs := h.size
  rw [u64s_len] at hs
  obtain ⟨y, hy, ⟨rest, own, hg⟩, hix⟩ := h.ix (i := i) (by have := (List.getElem?_eq_some_iff.1 ht).1; omega)
  exact ⟨y, hix, fun α k => ld_cell hg (by rw [Nat.mul_one]; exact u64s_get ht) k⟩
/-- A suffix of digits. -/
theorem dg_drop {b : Nat} (hb : 2 ≤ b) {l : List Nat} {i a : Nat} (h : l.drop i = dg b a) : (a ≠ 0 → l[i]? = some (a % b) ∧ i < l.length) ∧ (a = 0 → l.length ≤ i) ∧ l.drop (i + 1) = dg b (a / b) := by
  by_cases h0 : a = 0
  · subst h0
    have h1 : l.drop i = [] := h
    have h2 : l.length ≤ i := by simpa using h1
    refine ⟨fun q => absurd rfl q, fun _ => h2, ?_⟩
    rw [Nat.zero_div, List.drop_of_length_le (by omega)]; rfl
  · rw [dg_pos hb h0] at h
    have h1 : l[i]? = some (a % b) := by
      have : (l.drop i)[0]? = some (a % b) := by rw [h]; rfl
      rwa [List.getElem?_drop, Nat.add_zero] at this
    have h2 := (List.getElem?_eq_some_iff.1 h1).1
    refine ⟨fun _ => ⟨h1, h2⟩, fun q => absurd q h0, ?_⟩
    have : l.drop (i + 1) = (l.drop i).drop 1 := by rw [List.drop_drop]
    rw [this, h]; rfl
end Go.AM
/- The abstract machine: words of 64 bits. -/
set_option linter.unusedVariables false
set_option linter.unusedSimpArgs false
set_option linter.unusedSectionVars false
namespace Go.AM
open Go
/-- The value of a word. -/
def wv (b : BitVec 64) : Value := .int .u64 (b.toNat : Int)
section
variable {α : Type} {P : Program}
theorem bv_ofInt (a : BitVec 64) : BitVec.ofInt 64 (a.toNat : Int) = a := by
  rw [BitVec.ofInt_natCast, BitVec.ofNat_toNat, BitVec.setWidth_eq]
theorem bv_wrap (a : BitVec 64) : IntKind.u64.wrap (a.toNat : Int) = (a.toNat : Int) := q_u64 (by omega) (by have := a.isLt; omega)
theorem bv_wrapI (x : Int) : Value.int .u64 (IntKind.u64.wrap x) = wv (BitVec.ofInt 64 x) := by
  unfold wv
  congr 1
  rw [BitVec.toNat_ofInt]
  simp [IntKind.wrap, IntKind.signed, IntKind.bits]
  omega
theorem b_bin {op : BinOp} {T : TypeId} {a b c : BitVec 64} {k : Value → Option α} (h : intOp op .u64 (a.toNat : Int) (b.toNat : Int) = some (wv c)) (hop : op ≠ .shl ∧ op ≠ .shr) : pBin P op T (wv a) (wv b) k = k (wv c) := by
  have : binV P op T (wv a) (wv b) = some (wv c) := by
    rw [← h]
    unfold wv binV
    cases op <;> first | rfl | (exact absurd rfl hop.1) | (exact absurd rfl hop.2)
  unfold pBin; rw [this]
theorem b_binB {op : BinOp} {T : TypeId} {a b : BitVec 64} {c : Bool} {k : Value → Option α} (h : intOp op .u64 (a.toNat : Int) (b.toNat : Int) = some (.bool c)) (hop : op ≠ .shl ∧ op ≠ .shr) : pBin P op T (wv a) (wv b) k = k (.bool c) := by
  have : binV P op T (wv a) (wv b) = some (.bool c) := by
    rw [← h]
    unfold wv binV
    cases op <;> first | rfl | (exact absurd rfl hop.1) | (exact absurd rfl hop.2)
  unfold pBin; rw [this]
variable (T : TypeId) (a b : BitVec 64) (k : Value → Option α)
theorem b_and : pBin P .and T (wv a) (wv b) k = k (wv (a &&& b)) := b_bin (by
  show some (Value.int .u64 (IntKind.u64.wrap ((BitVec.ofInt 64 (a.toNat : Int)) &&& (BitVec.ofInt 64 (b.toNat : Int))).toNat)) = _
  rw [bv_ofInt, bv_ofInt, bv_wrap]; rfl) ⟨by decide, by decide⟩
theorem b_or : pBin P .or T (wv a) (wv b) k = k (wv (a ||| b)) := b_bin (by
  show some (Value.int .u64 (IntKind.u64.wrap ((BitVec.ofInt 64 (a.toNat : Int)) ||| (BitVec.ofInt 64 (b.toNat : Int))).toNat)) = _
  rw [bv_ofInt, bv_ofInt, bv_wrap]; rfl) ⟨by decide, by decide⟩
theorem b_xor : pBin P .xor T (wv a) (wv b) k = k (wv (a ^^^ b)) := b_bin (by
  show some (Value.int .u64 (IntKind.u64.wrap ((BitVec.ofInt 64 (a.toNat : Int)) ^^^ (BitVec.ofInt 64 (b.toNat : Int))).toNat)) = _
  rw [bv_ofInt, bv_ofInt, bv_wrap]; rfl) ⟨by decide, by decide⟩
theorem b_andNot : pBin P .andNot T (wv a) (wv b) k = k (wv (a &&& ~~~b)) := b_bin (by
  show some (Value.int .u64 (IntKind.u64.wrap ((BitVec.ofInt 64 (a.toNat : Int)) &&& ~~~(BitVec.ofInt 64 (b.toNat : Int))).toNat)) = _
  rw [bv_ofInt, bv_ofInt, bv_wrap]; rfl) ⟨by decide, by decide⟩
theorem b_not : pUn .xor (wv a) k = k (wv (~~~a)) := by
  have : unV .xor (wv a) = some (wv (~~~a)) := by
    show some (Value.int .u64 (IntKind.u64.wrap ((BitVec.ofInt 64 (IntKind.u64.max)) ^^^ (BitVec.ofInt 64 (a.toNat : Int))).toNat)) = _
    rw [bv_ofInt, bv_wrap]
    have : BitVec.ofInt 64 IntKind.u64.max = BitVec.allOnes 64 := by decide
    rw [this, BitVec.allOnes_xor]; rfl
  unfold pUn; rw [this]
theorem b_add : pBin P .add T (wv a) (wv b) k = k (wv (a + b)) := b_bin (by
  show some (Value.int .u64 (IntKind.u64.wrap ((a.toNat : Int) + b.toNat))) = _
  rw [bv_wrapI]
  congr 2) ⟨by decide, by decide⟩
theorem b_sub : pBin P .sub T (wv a) (wv b) k = k (wv (a - b)) := b_bin (by
  show some (Value.int .u64 (IntKind.u64.wrap ((a.toNat : Int) - b.toNat))) = _
  rw [bv_wrapI]
  congr 2
  apply BitVec.eq_of_toNat_eq
  rw [BitVec.toNat_ofInt, BitVec.toNat_sub]
  have := a.isLt
  have := b.isLt
  omega) ⟨by decide, by decide⟩
theorem b_mul : pBin P .mul T (wv a) (wv b) k = k (wv (a * b)) := b_bin (by
  show some (Value.int .u64 (IntKind.u64.wrap ((a.toNat : Int) * b.toNat))) = _
  rw [bv_wrapI]
  congr 2) ⟨by decide, by decide⟩
theorem b_eql : pBin P .eql T (wv a) (wv b) k = k (.bool (decide (a = b))) := b_binB (by
  show some (Value.bool ((a.toNat : Int) == b.toNat)) = _
  congr 2
  have e : (a.toNat : Int) = b.toNat ↔ a = b := ⟨fun h => BitVec.eq_of_toNat_eq (by omega), fun h => by rw [h]⟩
  rw [Bool.eq_iff_iff]
  simp [e]) ⟨by decide, by decide⟩
theorem b_neq : pBin P .neq T (wv a) (wv b) k = k (.bool (!decide (a = b))) := b_binB (by
  show some (Value.bool ((a.toNat : Int) != b.toNat)) = _
  congr 2
  have e : (a.toNat : Int) = b.toNat ↔ a = b := ⟨fun h => BitVec.eq_of_toNat_eq (by omega), fun h => by rw [h]⟩
  rw [Bool.eq_iff_iff]
  simp [e]) ⟨by decide, by decide⟩
theorem b_lss : pBin P .lss T (wv a) (wv b) k = k (.bool (decide (a.toNat < b.toNat))) := b_binB (by
  show some (Value.bool (decide ((a.toNat : Int) < b.toNat))) = _
  congr 2
  rw [decide_eq_decide]; omega) ⟨by decide, by decide⟩
theorem b_leq : pBin P .leq T (wv a) (wv b) k = k (.bool (decide (a.toNat ≤ b.toNat))) := b_binB (by
  show some (Value.bool (decide ((a.toNat : Int) ≤ b.toNat))) = _
  congr 2
  rw [decide_eq_decide]; omega) ⟨by decide, by decide⟩
theorem b_gtr : pBin P .gtr T (wv a) (wv b) k = k (.bool (decide (b.toNat < a.toNat))) := b_binB (by
  show some (Value.bool (decide ((a.toNat : Int) > b.toNat))) = _
  congr 2
  rw [decide_eq_decide]; omega) ⟨by decide, by decide⟩
theorem b_geq : pBin P .geq T (wv a) (wv b) k = k (.bool (decide (b.toNat ≤ a.toNat))) := b_binB (by
  show some (Value.bool (decide ((a.toNat : Int) ≥ b.toNat))) = _
  congr 2
  rw [decide_eq_decide]; omega) ⟨by decide, by decide⟩
theorem b_shl (kd : IntKind) (n : Nat) : pBin P .shl T (wv a) (.int kd (n : Int)) k = k (wv (a <<< n)) := by
  have : binV P .shl T (wv a) (.int kd (n : Int)) = some (wv (a <<< n)) := by
    show (if (n : Int) < 0 then none else some (Value.int .u64 (IntKind.u64.wrap ((a.toNat : Int) * 2 ^ (min ((n : Int).toNat) 64))))) = _
    rw [if_neg (by omega), bv_wrapI, Int.toNat_natCast]
    congr 2
    apply BitVec.eq_of_toNat_eq
    rw [BitVec.toNat_ofInt, BitVec.toNat_shiftLeft, Nat.shiftLeft_eq]
    have e : ((a.toNat : Int) * 2 ^ (min n 64)) = ((a.toNat * 2 ^ (min n 64) : Nat) : Int) := by push_cast; rfl
    rw [e]
    have e2 : (((a.toNat * 2 ^ (min n 64) : Nat) : Int) % ((2 ^ 64 : Nat) : Int)).toNat = a.toNat * 2 ^ (min n 64) % 2 ^ 64 := by omega
    rw [e2]
    rcases Nat.lt_or_ge n 64 with h | h
    · rw [Nat.min_eq_left (by omega)]
    · rw [Nat.min_eq_right h]
      have : a.toNat * 2 ^ n = a.toNat * 2 ^ (n - 64) * 2 ^ 64 := by
        rw [Nat.mul_assoc, ← Nat.pow_add]; congr 2; omega
      rw [this, Nat.mul_mod_left, Nat.mul_mod_left]
  unfold pBin; rw [this]
theorem b_shr (kd : IntKind) (n : Nat) : pBin P .shr T (wv a) (.int kd (n : Int)) k = k (wv (a >>> n)) := by
  have : binV P .shr T (wv a) (.int kd (n : Int)) = some (wv (a >>> n)) := by
    show (if (n : Int) < 0 then none else some (Value.int .u64 ((a.toNat : Int).fdiv (2 ^ (min ((n : Int).toNat) 64))))) = _
    rw [if_neg (by omega), Int.toNat_natCast]
    unfold wv
    congr 2
    rw [BitVec.toNat_ushiftRight, Nat.shiftRight_eq_div_pow]
    have e : ((2 : Int) ^ (min n 64)) = ((2 ^ (min n 64) : Nat) : Int) := by push_cast; rfl
    rw [e, ← Int.ofNat_fdiv]
    congr 1
    rcases Nat.lt_or_ge n 64 with h | h
    · rw [Nat.min_eq_left (by omega)]
    · rw [Nat.min_eq_right h, Nat.div_eq_of_lt a.isLt, Nat.div_eq_of_lt (Nat.lt_of_lt_of_le a.isLt (Nat.pow_le_pow_right (by decide) h))]
  unfold pBin; rw [this]
end
end Go.AM
/- The abstract machine: from a run to a row over package variables that are laid. -/
set_option linter.unusedVariables false
namespace Go.AM
open Go Go.ChangeShapes Go.WideShapes Go.ChangeAt Go.RowKit
theorem trodAll_length {HH : Type} {enc : TypeId × Value → HH} {P : Program} {W : World} : ∀ {ts : List TypeId} {vs : List Value} {ds : List (DataW HH)} {ps : List MemPlace}, DataW.TrodAll enc P W 0 (fun _ => true) true ts vs ds ps → ds.length = ts.length := by
  intro ts
  induction ts with
  | nil => intro vs ds ps h; cases vs <;> cases ds <;> first | rfl | exact h.elim
  | cons t ts ih => intro vs ds ps h; cases vs <;> cases ds <;> first | exact h.elim | (obtain ⟨p, q, _, h2, _⟩ := h; simp [ih h2])
theorem returns_true_laid {C : Checked} {os : Os} {f : FuncId} {fn : Func} {s : OpenSpec} {HH : Type} {enc : TypeId × Value → HH} {k : (H : Type) → List (DataW H) → Bool} (hk : s.cond = some k) {F : Stop.Interp} {conds : List PathCond} {laid : List (String × DataW Unit)}
    (own : ownKnob C.prog.godebug = none) (started : os.Started) (noInit : C.prog.inits.idxOf? f = none) (hfn : C.prog.funcs[f]? = some fn)
    (witness : ∃ (w : World) (tape : Tape) (i : Input), w.os = os ∧ (w.forCall tape i).Shaped C.prog ∧ i.vars = [] ∧ Input.okWide C.prog (w.forCall tape i) .any w.heap.size f i ∧
      s.preRow enc C.prog fn conds false laid (w.forCall tape i).memory i.args ∧ ({} : Assume).holds C.prog (lone (Frame.enter C.prog f i.args .normal) [] (w.forCall tape i)))
    (hl : laidOutB C.prog = true) (hp : ∀ t ∈ fn.params.toList, C.prog.readableRec t = true ∧ t < C.prog.types.size) (hv : s.vars = []) {tb : TypeId} (hr : fn.resultTypes = #[tb]) (hb : C.prog.underlying tb = some .bool)
    (hg : C.prog.globals.size = 0 ∨ ∃ x, (((begin C.prog (fun _ _ => 0) default).world.heap[C.prog.globals.size - 1]?).bind Obj.row?) = some x)
    (hsp : ∀ ds : List (DataW HH), ds.length = fn.params.size → (s.at F).fn HH ds = { results := [.lit (.bool true)], args := ds })
    {O : Orc} {ext : Ext1} (hm : C.prog.follows .mixedOrders = true) (he : ExtC C.prog ext)
    (main : ∀ (W : World) (base : Nat) (args : Array Value) (ds : List (DataW HH)) (ps : List MemPlace), C.prog.globals.size ≤ W.heap.size →
      (∀ (j : Nat) t v, fn.params[j]? = some t → args[j]? = some v → Value.okWide C.prog W .any base t v) → DataW.TrodAll enc C.prog W 0 (fun _ => true) true fn.params.toList args.toList ds ps → k HH ds = true → laidMetH C.prog laid W →
      ∃ (H0 H1 : Hp) (β : Bt) (xs : List Value), Rel C.prog W H0 β ∧ (∀ i o, H0.get i = some o → o.own = false) ∧ LRel β xs args.toList ∧ run C.prog O ext f xs H0 = some (.bool true, H1))
    (hx : XtC C.prog O.xt := by intro f e h; cases h) (hxf : O.xt f = none := by rfl) :
    ReturnsInHanded {} C os f .any (s.preRow enc C.prog fn conds false laid) ((s.at F).post enc C.prog fn false true false false) := by
  refine returnsInHanded_of_row own started noInit hfn witness ?_
  intro W base args ds gs before hval hw hc hkk _ hL hsh _
  have hkk := hkk k hk
  obtain ⟨p, q, h1, h2, e, _, _⟩ := id hw
  have hgs : gs = [] := by
    rw [hv] at h2
    cases gs with
    | nil => rfl
    | cons g gs => exact h2.elim
  subst hgs
  rw [List.append_nil] at hkk
  obtain ⟨H0, H1, β, xs, g1, g2, g3, g4⟩ := main W base args ds p (shaped_size hsh hg) hval h1 hkk hL
  refine (below_of_run hm he g1 g2 g3 g4 hx hxf).mono fun e W' ⟨h3, h4⟩ => ?_
  subst h3
  have hlen : ds.length = fn.params.size := by simpa using trodAll_length h1
  exact ⟨_, rfl, post_true (s := s.at F) hl hp hv hr hb hw h4 (by rw [List.append_nil]; exact hsp ds hlen)⟩
end Go.AM
/- The abstract machine: library functions that the model answers at once. -/
set_option linter.unusedVariables false
namespace Go.AM
open Go
def add64 (l : List Value) : Option Value :=
  match l with
  | [.int .u64 (.ofNat x), .int .u64 (.ofNat y), .int .u64 (.ofNat c)] => match Nat.ble c 1 with
    | true => some (.tuple #[.int .u64 (((x + y + c) % 18446744073709551616 : Nat) : Int), .int .u64 (((x + y + c) / 18446744073709551616 : Nat) : Int)])
    | false => none
  | _ => none
theorem LRel.ints3 {β : Bt} {k1 k2 k3 : IntKind} {a b c : Int} {l : List Value} (h : LRel β [.int k1 a, .int k2 b, .int k3 c] l) : l = [.int k1 a, .int k2 b, .int k3 c] := by
  obtain ⟨h1, h2⟩ := h
  match l, h1 with
  | [x, y, z], _ =>
    have e0 := h2 0 _ x rfl rfl
    have e1 := h2 1 _ y rfl rfl
    have e2 := h2 2 _ z rfl rfl
    cases e0; cases e1; cases e2
    rfl
theorem add64_xt {P : Program} {f : FuncId} {fn : Func} (hf : P.funcs[f]? = some fn) (hname : (fn.name == "runtime.NumGoroutine") = false) (hb : fn.body.isNone = true) (hn : Extern.findNext fn = none) (he : Extern.find fn = some add64Entry)
    (args : List Value) (v : Value) (h : add64 args = some v) : XT P f args v := by
  unfold add64 at h
  split at h
  · rename_i x y c
    split at h
    · rename_i hc
      cases h
      have hc : c ≤ 1 := Nat.le_of_ble_eq_true hc
      intro args' β w hl
      have hl : LRel β [.int .u64 (x : Int), .int .u64 (y : Int), .int .u64 (c : Int)] args' := hl
      obtain rfl := hl.ints3
      refine ⟨.tuple #[.int .u64 (((x + y + c) % 18446744073709551616 : Nat) : Int), .int .u64 (((x + y + c) / 18446744073709551616 : Nat) : Int)], ?_, ?_⟩
      · refine .tuple _ _ rfl fun k v v' h1 h2 => ?_
        have := h1.symm.trans h2
        cases this
        match k, h1 with
        | 0, h1 => cases h1; exact .int _ _
        | 1, h1 => cases h1; exact .int _ _
        | k + 2, h1 => cases h1
      · rw [run_callFunc_extern hf hname hb hn he, run_add64 x y c (by omega) (by omega) (by omega) (by omega)]
        simp only [Result.andThen]
        congr 5 <;> omega
    · cases h
  · cases h
end Go.AM
