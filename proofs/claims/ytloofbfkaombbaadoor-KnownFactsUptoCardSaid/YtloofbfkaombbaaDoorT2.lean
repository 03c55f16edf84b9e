/- Part of the proof of KnownFactsUptoCardSaid: see the last file.  -/
import Derived.WalkKit
import Derived.ProofKit
import Derived.JoinedCond
import Derived.OpenShut
import Derived.Deep.DeepHandedRow
import Derived.Laws.Externs
import Derived.KernelRfl
import Derived.Test.YtloofbfkaombbaaDoorProg
import Derived.Laws.MathBits
import Derived.Test.YtloofbfkaombbaaDoorT0
import Derived.Test.YtloofbfkaombbaaDoorT1
set_option linter.unusedSimpArgs false
set_option linter.unusedVariables false
set_option linter.unusedSectionVars false
/- The abstract machine: code is sound, by its shape. -/
set_option linter.unusedVariables false
namespace Go.AM
open Go

theorem exists_least (p : Nat → Prop) : ∀ n, p n → ∃ m, p m ∧ ∀ j, p j → m ≤ j := by
  intro n
  induction n using Nat.strongRecOn with
  | _ n ih =>
    intro hn
    by_cases h : ∃ j, j < n ∧ p j
    · obtain ⟨j, hj, hp⟩ := h; exact ih j hj hp
    · refine ⟨n, hn, fun j hj => ?_⟩
      rcases Nat.lt_or_ge j n with q | q
      · exact absurd ⟨j, q, hj⟩ h
      · exact q
theorem wp_loop_ix {P : Program} {c : Code} {Q : Exit → Act → World → Prop} {a : Act} {w : World} (I : Nat → Act → World → Prop) {n : Nat} (h0 : I n a w)
    (round : ∀ n a w, I n a w → c.wp P (Exit.then (fun a' w' => ∃ m, m < n ∧ I m a' w') Q) a w) : (Code.loop c).wp P Q a w := by
  classical
  have hl : ∀ a w, (∃ n, I n a w) → ∃ m, I m a w ∧ ∀ j, I j a w → m ≤ j := fun a w ⟨n, hn⟩ => exists_least (fun n => I n a w) n hn
  refine wp_loop (fun a w => ∃ n, I n a w) (fun a w => if h : ∃ n, I n a w then (hl a w h).choose else 0) ⟨n, h0⟩ fun a w hI => ?_
  have hs := (hl a w hI).choose_spec
  refine wp_mono (round _ a w hs.1) fun e a' w' he => ?_
  cases e with
  | normal =>
    obtain ⟨m, hm, hI'⟩ := he
    refine ⟨⟨m, hI'⟩, ?_⟩
    have hs' := (hl a' w' ⟨m, hI'⟩).choose_spec
    have h1 : ∃ n, I n a' w' := ⟨m, hI'⟩
    simp only [dif_pos hI, dif_pos h1]
    exact Nat.lt_of_le_of_lt (hs'.2 m hI') hm
  | _ => exact he

section
variable {C : Ctx} {w0 : World} {H0 : Hp} {β0 : Bt} {fn : Func}

theorem ro_rel {w : World} {β : Bt} {b : Nat} {x : Option Bx} {c : Bx} (h : roBx x = some c) (hr : ∀ c', x = some c' → BxRel w β b c') : BxRel w β b c := by
  unfold roBx at h
  split at h
  · rename_i cs ro; cases h; exact hr (.cells cs ro) rfl
  · rename_i s p; cases h; exact hr (.iter s p) rfl
  · exact hr c h
theorem FRel.ro {N : Nat} {w : World} {bx bx' : Nat → Option Bx} {β : Bt} {lam : Nat → Nat} {fr : Fr} {a : Act} (h : FRel N w bx β lam fr a) (hb : ∀ d, bx' d = bx d ∨ bx' d = roBx (bx d)) : FRel N w bx' β lam fr a := by
  have hs : ∀ d, (bx' d).isSome = (bx d).isSome := fun d => by rcases hb d with e | e <;> rw [e]; exact roBx_some
  refine ⟨h.size, fun d s hd => (h.slot d s hd).bx (fun d hd => by rw [hs]; exact hd), fun d c hc => ?_, fun d d' h1 h2 hne => h.apart d d' (by rw [← hs]; exact h1) (by rw [← hs]; exact h2) hne, h.defers⟩
  have hsd : (bx d).isSome = true := by rw [← hs, hc]; rfl
  obtain ⟨c', hc'⟩ := Option.isSome_iff_exists.1 hsd
  obtain ⟨b1, b2, b3, b4⟩ := h.box d c' hc'
  refine ⟨b1, b2, b3, ?_⟩
  rcases hb d with e | e
  · rw [e, hc'] at hc; cases hc; exact b4
  · rw [e] at hc; exact ro_rel hc (fun c2 h2 => by rw [hc'] at h2; cases h2; exact b4)
theorem Good.ro {P : Program} {fr : Fr} {S : St} {a : Act} {w : World} {β : Bt} {lam : Nat → Nat} {bx' : Nat → Option Bx} (h : Good P w0 H0 β0 fr S a w β lam) (hb : ∀ d, bx' d = S.bx d ∨ bx' d = roBx (S.bx d)) :
    Good P w0 H0 β0 fr ⟨bx', S.hp⟩ a w β lam := ⟨h.rel, h.fr.ro hb, h.ext⟩

theorem roB_or (kb : List Nat) (bx : Nat → Option Bx) (d : Nat) : roB kb bx d = bx d ∨ roB kb bx d = roBx (bx d) := by
  unfold roB; split
  · exact .inl rfl
  · exact .inr rfl
theorem fillB_eq (kb : List Nat) (l : List Value) (bx : Nat → Option Bx) (d : Nat) : fillB kb l bx d = roB kb (backB kb l bx) d := by
  unfold fillB roB backB
  cases h : kb.idxOf? d with
  | some j =>
    have : kb.elem d = true := by simpa using List.mem_of_getElem? (idxOf?_get h)
    rw [this]
  | none =>
    have : kb.elem d = false := by
      cases hq : kb.elem d with
      | false => rfl
      | true =>
        have hm : d ∈ kb := by simpa using hq
        have : kb.idxOf? d ≠ none := by simpa [List.idxOf?_eq_none_iff] using hm
        exact absurd h this
    rw [this]
theorem backB_none {kb : List Nat} {l : List Value} {bx : Nat → Option Bx} {d : Nat} (h : kb.elem d = false) : backB kb l bx d = bx d := by
  unfold backB
  split
  · rename_i j hj
    have : kb.elem d = true := by simpa using List.mem_of_getElem? (idxOf?_get hj)
    rw [h] at this; cases this
  · rfl

theorem saveAll_inv {ks kb : List Nat} {c : Ctl} {fr : Fr} {S : St} {o : Outc} (h : saveAll ks kb c fr S = some o) : ∃ vs bs, o = (c, vs ++ bs, S.hp) ∧ vs.length = ks.length ∧
    (∀ (j d : Nat), ks[j]? = some d → ∃ v, vs[j]? = some v ∧ getS fr d = .val v) ∧ bs.length = kb.length ∧ (∀ (j d : Nat), kb[j]? = some d → ∃ v, bs[j]? = some v ∧ boxV (S.bx d) some = some v) := by
  unfold saveAll at h
  obtain ⟨vs, h1, h2, h3⟩ := saveS_inv ks _ h
  obtain ⟨bs, h4, h5, h6⟩ := saveB_inv kb _ h1
  cases h4
  exact ⟨vs, bs, rfl, h2, h3, h5, h6⟩

/-- What holds where code with kept values is left. -/
theorem leave {W ks kb : List Nat} {fr fr' : Fr} {S S' : St} {a a' : Act} {w w' : World} {β β' : Bt} {lam lam' : Nat → Nat} {vs bs : List Value}
    (hG : FRel w0.heap.size w S.bx β lam fr a) (hG' : Good C.P w0 H0 β0 fr' S' a' w' β' lam') (hM : Moved W ⟨roB kb S.bx, S.hp⟩ a β lam S' a' β' lam')
    (hvl : vs.length = ks.length) (hv : ∀ (j d : Nat), ks[j]? = some d → ∃ v, vs[j]? = some v ∧ getS fr' d = .val v)
    (hbl : bs.length = kb.length) (hb : ∀ (j d : Nat), kb[j]? = some d → ∃ v, bs[j]? = some v ∧ boxV (S'.bx d) some = some v) :
    Good C.P w0 H0 β0 (fillS W ks (vs ++ bs) fr 0) ⟨backB kb ((vs ++ bs).drop ks.length) S.bx, S'.hp⟩ a' w' β' lam' ∧
    Moved W S a β lam ⟨backB kb ((vs ++ bs).drop ks.length) S.bx, S'.hp⟩ a' β' lam' := by
  obtain ⟨g1, g2⟩ := join_good hG (bx1 := roB kb S.bx) (fun d => rfl) hG' hM hvl hv hbl hb
  exact ⟨g1, ⟨hM.tmps, hM.size, g2, hM.le⟩⟩

theorem results_ok {P : Program} {N : Nat} {w : World} {S : St} {β : Bt} {lam : Nat → Nat} {fr : Fr} {a : Act} {α : Type} {r : α} (hR : Rel P w S.hp β) (hF : FRel N w S.bx β lam fr a) {k : List Value → Option α} (h : resC P fr S fn.results.toList k = some r) :
    ∃ vs v', k vs = some r ∧ VRel β (resV vs) v' ∧ (results fn a.tmps).run P w = .ok v' w := by
  obtain ⟨vs, vs', h1, h2, h3⟩ := resC_sound hR hF _ _ h
  exact ⟨vs, _, h1, resV_rel h2, by rw [results_eq, h3]; rfl⟩

theorem exec_sound (hh : SimC C.P C.h) (hdraw : DrawS C) (hm : C.P.follows .mixedOrders = true) : ∀ (c : Code) {α : Type} {fr : Fr} {S : St} {k : K α} {r : α} {Q : Exit → Act → World → Prop} {a : Act} {w : World} {β : Bt} {lam : Nat → Nat},
    exec C fn.results.toList c α fr S k = some r → Good C.P w0 H0 β0 fr S a w β lam → Cont C w0 H0 β0 fn (wr c []) S a β lam k r Q → c.wp C.P Q a w
  | .skip, α, fr, S, k, r, Q, a, w, β, lam, h, hG, hC => wp_skip (hC.norm _ _ _ _ _ _ h hG (Moved.refl _ _ _ _ _))
  | .region id ops draw, α, fr, S, k, r, Q, a, w, β, lam, h, hG, hC => by
    simp only [exec] at h
    cases draw with
    | false =>
      have := opsC_sound hh (W := wr (.region id ops false) []) (Q := Q) wr_region hC.norm ops.toList 0 fr S a w β lam rfl h hG (Moved.refl _ _ _ _ _)
      refine wp_region ?_
      rw [List.range_eq_range']
      simpa using this
    | true =>
      dsimp only at h
      split at h
      · rename_i ho
        have hG' : Good C.P w0 H0 β0 fr S a { w with drawn := w.drawn + 1 } β lam := ⟨hG.rel.drew, hG.fr.drew, hG.ext.drew⟩
        have := hdraw (W := wr (.region id ops true) []) (Q := Q) ho wr_region hC.norm fr S a _ β lam h hG' (Moved.refl _ _ _ _ _)
        refine wp_region_any hm ?_
        simpa using this
      · cases h
  | .seq x y, α, fr, S, k, r, Q, a, w, β, lam, h, hG, hC => by
    have hx : ∀ d, d ∉ wr (.seq x y) [] → d ∉ wr x [] := fun d hd hm => hd (by simp only [wr]; rw [wr_acc]; exact .inl hm)
    have hy : ∀ d, d ∉ wr (.seq x y) [] → d ∉ wr y [] := fun d hd hm => hd (by simp only [wr]; rw [wr_acc]; exact .inr hm)
    simp only [exec] at h
    split at h
    · refine wp_seq (exec_sound hh hdraw hm x h hG ⟨fun fr' S' a' w' β' lam' g1 g2 g3 => ?_, fun id fr' S' a' w' β' lam' g1 g2 g3 => ?_, ?_⟩)
      · exact exec_sound hh hdraw hm y g1 g2 (hC.step g3 hx hy)
      · exact hC.exit id fr' S' a' w' β' lam' g1 g2 ⟨fun d hd => g3.tmps d (hx d hd), g3.size, g3.bx, g3.le⟩
      · exact hC.ret
    · rename_i ks kb hj
      unfold bindO at h
      split at h
      · rename_i c l H' hx1
        refine wp_seq (exec_sound hh hdraw hm x hx1 (hG.ro (roB_or kb S.bx)) ⟨fun fr' S' a' w' β' lam' g1 g2 g3 => ?_, fun id fr' S' a' w' β' lam' g1 g2 g3 => ?_, fun v H a' w' β' v' g1 g2 g3 g4 g5 g6 => ?_⟩)
        · obtain ⟨vs, bs, he, h1, h2, h3, h4⟩ := saveAll_inv g1
          cases he
          obtain ⟨q1, q2⟩ := leave hG.fr g2 g3 h1 h2 h3 h4
          exact exec_sound hh hdraw hm y h q1 (hC.step q2 hx hy)
        · obtain ⟨vs, bs, he, h1, h2, h3, h4⟩ := saveAll_inv g1
          cases he
          obtain ⟨q1, q2⟩ := leave hG.fr g2 g3 h1 h2 h3 h4
          exact hC.exit id _ _ a' w' β' lam' h q1 ⟨fun d hd => q2.tmps d (hx d hd), q2.size, q2.bx, q2.le⟩
        · cases g1
          exact hC.ret v _ a' w' β' v' h g2 g3 g4 g5 g6
      · cases h
  | .cond c x y, α, fr, S, k, r, Q, a, w, β, lam, h, hG, hC => by
    have hx : ∀ d, d ∉ wr (.cond c x y) [] → d ∉ wr x [] := fun d hd hm => hd (by simp only [wr]; rw [wr_acc]; exact .inl hm)
    have hy : ∀ d, d ∉ wr (.cond c x y) [] → d ∉ wr y [] := fun d hd hm => hd (by simp only [wr]; rw [wr_acc]; exact .inr hm)
    simp only [exec] at h
    obtain ⟨v, hv, h1⟩ := evV_inv hG.rel hG.fr h
    unfold pBool at h1
    split at h1
    · rename_i t
      have hc : a.eval c = .bool t := by generalize a.eval c = q at hv; cases hv; rfl
      unfold br at h1
      cases t with
      | true => exact wp_cond_true hc (exec_sound hh hdraw hm x h1 hG (hC.step (Moved.refl [] _ _ _ _) (fun d _ hd => by cases hd) hx))
      | false => exact wp_cond_false hc (exec_sound hh hdraw hm y h1 hG (hC.step (Moved.refl [] _ _ _ _) (fun d _ hd => by cases hd) hy))
    · cases h1
  | .block id c, α, fr, S, k, r, Q, a, w, β, lam, h, hG, hC => by
    simp only [exec] at h
    refine wp_block (exec_sound hh hdraw hm c h hG ⟨hC.norm, fun j fr' S' a' w' β' lam' g1 g2 g3 => ?_, hC.ret⟩)
    have g1 : onExit j id (k.norm fr' S') (k.exit j fr' S') = some r := g1
    unfold onExit at g1
    simp only [Exit.inBlock]
    split at g1
    · rename_i e
      rw [if_pos (Nat.eq_of_beq_eq_true e)]
      exact hC.norm _ _ _ _ _ _ g1 g2 g3
    · rename_i e
      rw [if_neg (Nat.ne_of_beq_eq_false e)]
      exact hC.exit j _ _ _ _ _ _ g1 g2 g3
  | .loop c, α, fr, S, k, r, Q, a, w, β, lam, h, hG, hC => by
    unfold exec at h
    split at h
    rename_i ks kb hq
    obtain ⟨vs, h1, hvl, hv⟩ := saveS_inv ks _ h
    obtain ⟨bs, h2, hbl, hb⟩ := saveB_inv kb _ h1
    clear h h1
    generalize hW : wr (.loop c) [] = W at hC
    have hWc : wr c [] = W := by rw [← hW]; rfl
    rw [hWc] at h2
    generalize hstep : (fun (l : List Value) (H : Hp) => exec C fn.results.toList c Outc (fillS W ks l fr 0) ⟨fillB kb (l.drop ks.length) S.bx, H⟩ (Kout ks kb)) = step at h2
    unfold bindO at h2
    split at h2
    · rename_i ctl lo Ho hlo
      unfold loopD at hlo
      split at hlo
      · rename_i hex
        obtain ⟨n, hn⟩ := hex.choose_spec
        have hlo : hex.choose = (ctl, lo, Ho) := by simpa using hlo
        rw [hlo] at hn
        -- the head of a round
        have head : ∀ {vs bs : List Value} {S' : St} {a' : Act} {w' : World} {β' : Bt} {lam' : Nat → Nat},
            Good C.P w0 H0 β0 (fillS W ks (vs ++ bs) fr 0) ⟨backB kb ((vs ++ bs).drop ks.length) S.bx, S'.hp⟩ a' w' β' lam' → Moved W S a β lam ⟨backB kb ((vs ++ bs).drop ks.length) S.bx, S'.hp⟩ a' β' lam' →
            Good C.P w0 H0 β0 (fillS W ks (vs ++ bs) fr 0) ⟨fillB kb ((vs ++ bs).drop ks.length) S.bx, S'.hp⟩ a' w' β' lam' ∧ Moved W ⟨roB kb S.bx, S.hp⟩ a β lam ⟨fillB kb ((vs ++ bs).drop ks.length) S.bx, S'.hp⟩ a' β' lam' := by
          intro vs bs S' a' w' β' lam' g1 g2
          refine ⟨g1.ro (fun d => by rw [fillB_eq]; exact roB_or kb _ d), ⟨g2.tmps, g2.size, fun d => ⟨?_, fun hd => ?_⟩, g2.le⟩⟩
          · show BxLe (roB kb S.bx d) (fillB kb ((vs ++ bs).drop ks.length) S.bx d)
            rw [fillB_eq]
            have hle : BxLe (S.bx d) (backB kb ((vs ++ bs).drop ks.length) S.bx d) := (g2.bx d).1
            cases he : kb.elem d with
            | true => unfold roB; rw [he]; exact hle
            | false => unfold roB; rw [he, backB_none he]; exact BxLe.refl _
          · refine (g2.bx d).2 ?_
            have hd : (roB kb S.bx d).isSome = true := hd
            rcases roB_or kb S.bx d with e | e
            · rw [e] at hd; exact hd
            · rw [e, roBx_some] at hd; exact hd
        have hG1 := hG.ro (roB_or kb S.bx)
        have hb1 : ∀ (j d : Nat), kb[j]? = some d → ∃ v, bs[j]? = some v ∧ boxV ((⟨roB kb S.bx, S.hp⟩ : St).bx d) some = some v := fun j d hd => by
          obtain ⟨v, q1, q2⟩ := hb j d hd
          refine ⟨v, q1, ?_⟩
          have : kb.elem d = true := by simpa using List.mem_of_getElem? hd
          show boxV (roB kb S.bx d) some = some v
          unfold roB; rw [this]; exact q2
        obtain ⟨e1, e2⟩ := leave (W := W) (kb := kb) hG.fr hG1 (Moved.refl _ _ _ _ _) hvl hv hbl hb1
        obtain ⟨e3, e4⟩ := head (S' := ⟨roB kb S.bx, S.hp⟩) e1 e2
        refine wp_loop_ix (fun n a' w' => ∃ vs bs H β' lam', iterL step n (vs ++ bs) H = some (ctl, lo, Ho) ∧ Good C.P w0 H0 β0 (fillS W ks (vs ++ bs) fr 0) ⟨fillB kb ((vs ++ bs).drop ks.length) S.bx, H⟩ a' w' β' lam' ∧
          Moved W ⟨roB kb S.bx, S.hp⟩ a β lam ⟨fillB kb ((vs ++ bs).drop ks.length) S.bx, H⟩ a' β' lam') (n := n) ⟨vs, bs, S.hp, β, lam, hn, e3, e4⟩ ?_
        intro n a1 w1 ⟨vs1, bs1, H1, β1, lam1, hit, f1, f2⟩
        cases n with
        | zero => cases hit
        | succ n =>
          unfold iterL at hit
          have htr : ∀ {fr' S' a' w' β' lam' c' o'}, saveAll ks kb c' fr' S' = some o' → Good C.P w0 H0 β0 fr' S' a' w' β' lam' → Moved (wr c []) ⟨fillB kb ((vs1 ++ bs1).drop ks.length) S.bx, H1⟩ a1 β1 lam1 S' a' β' lam' →
              ∃ vs' bs', o' = (c', vs' ++ bs', S'.hp) ∧ Good C.P w0 H0 β0 (fillS W ks (vs' ++ bs') fr 0) ⟨backB kb ((vs' ++ bs').drop ks.length) S.bx, S'.hp⟩ a' w' β' lam' ∧ Moved W S a β lam ⟨backB kb ((vs' ++ bs').drop ks.length) S.bx, S'.hp⟩ a' β' lam' := by
            intro fr' S' a' w' β' lam' c' o' q1 q2 q3
            obtain ⟨vs', bs', he, k1, k2, k3, k4⟩ := saveAll_inv q1
            obtain ⟨p1, p2⟩ := leave (W := W) hG.fr q2 (f2.trans q3 (fun d hd => hd) (fun d hd => by rw [hWc]; exact hd)) k1 k2 k3 k4
            exact ⟨vs', bs', he, p1, p2⟩
          split at hit
          · rename_i l' H' hs
            rw [← hstep] at hs
            refine exec_sound hh hdraw hm c hs f1 ⟨fun fr' S' a' w' β' lam' g1 g2 g3 => ?_, fun id fr' S' a' w' β' lam' g1 g2 g3 => ?_, fun v H a' w' β' v' g1 g2 g3 g4 g5 g6 => ?_⟩
            · obtain ⟨vs', bs', he, p1, p2⟩ := htr g1 g2 g3
              cases he
              obtain ⟨p3, p4⟩ := head p1 p2
              exact ⟨n, Nat.lt_succ_self n, vs', bs', _, β', lam', hit, p3, p4⟩
            · obtain ⟨vs', bs', he, p1, p2⟩ := htr g1 g2 g3
              cases he
            · cases g1
          · rename_i hne
            have hs := hit
            rw [← hstep] at hs
            refine exec_sound hh hdraw hm c hs f1 ⟨fun fr' S' a' w' β' lam' g1 g2 g3 => ?_, fun id fr' S' a' w' β' lam' g1 g2 g3 => ?_, fun v H a' w' β' v' g1 g2 g3 g4 g5 g6 => ?_⟩
            · obtain ⟨vs', bs', he, p1, p2⟩ := htr g1 g2 g3
              cases he
              exact absurd hit (hne _ _)
            · obtain ⟨vs', bs', he, p1, p2⟩ := htr g1 g2 g3
              cases he
              exact hC.exit id _ _ _ _ _ _ h2 p1 p2
            · cases g1
              exact hC.ret v _ a' w' β' v' h2 g2 g3 g4 g5 g6
      · cases hlo
    · cases h2
  | .exit id, α, fr, S, k, r, Q, a, w, β, lam, h, hG, hC => wp_exit (hC.exit id _ _ _ _ _ _ h hG (Moved.refl _ _ _ _ _))
  | .ret, α, fr, S, k, r, Q, a, w, β, lam, h, hG, hC => by
    simp only [exec] at h
    obtain ⟨vs, v', h1, h2, h3⟩ := results_ok hG.rel hG.fr h
    exact wp_ret (hC.ret _ _ a w β v' h1 hG.fr.defers hG.rel hG.ext h2 h3)
  | .rangeFunc _ _ _ _, _, _, _, _, _, _, _, _, _, _, h, _, _ => by simp [exec] at h
  | .scope _, _, _, _, _, _, _, _, _, _, _, h, _, _ => by simp [exec] at h
  | .label _, _, _, _, _, _, _, _, _, _, _, h, _, _ => by simp [exec] at h
  | .goto _, _, _, _, _, _, _, _, _, _, _, h, _, _ => by simp [exec] at h
  | .refuse _, _, _, _, _, _, _, _, _, _, _, h, _, _ => by simp [exec] at h
end
end Go.AM
/- The abstract machine: functions are sound. -/
set_option linter.unusedVariables false
namespace Go.AM
open Go

abbrev Ext1 := FuncId → Option (List Value → Hp → Option (Value × Hp))
/-- What is said of functions that are taken whole is so. -/
def ExtC (P : Program) (ext : Ext1) : Prop := ∀ f e, ext f = some e → ∀ args H v H', e args H = some (v, H') → ∀ args' w β, LRel β args args' → Rel P w H β →
  Calls P f args'.toArray w fun x w' => ∃ v' β', x = .returned v' ∧ Rel P w' H' β' ∧ Ext w.heap.size w H β w' H' β' ∧ VRel β' v v'
def DrawsS (P : Program) : Prop := ∀ O h f, SimC P h → DrawS ⟨P, O, h, f⟩

theorem callF_sound {P : Program} {O : Orc} {ext : Ext1} {h : Handler} (hm : P.follows .mixedOrders = true) (hd : DrawsS P) (he : ExtC P ext) (hx : XtC P O.xt) (hh : SimC P h) : SimC P (callF P O ext h) := by
  intro f args H v H' hc
  unfold callF at hc
  split at hc
  · cases hc
  · rename_i fn hf
    split at hc
    · cases hc
    · rename_i hname
      split at hc
      · rename_i hb
        split at hc
        · rename_i e hxe
          split at hc
          · rename_i v1 hv1
            cases hc
            exact .inr ⟨rfl, ⟨fn, hf, hb⟩, hx f e hxe _ _ hv1⟩
          · cases hc
        · cases hc
      · rename_i c hb
        refine .inl ⟨⟨fn, hf, hname, by rw [hb]; rfl⟩, fun args' w β hargs hR => ?_⟩
        split at hc
        · rename_i e hext
          exact he f e hext _ _ _ _ hc _ _ _ hargs hR
        · have hl := hargs.1
          refine calls_of_wp hf hb ?_
          have hG : Good P w H β (args.map .val ++ List.replicate (fn.ntmps - args.length) .unk) ⟨fun _ => none, H⟩ { tmps := args'.toArray ++ Array.replicate (fn.ntmps - args'.toArray.size) undef, defers := [] } w β (fun _ => 0) := by
            refine ⟨hR, ⟨?_, fun d s hs => ?_, fun d c hc => (by cases hc), fun d d' hd => (by cases hd), rfl⟩, Ext.refl _ _ _ _⟩
            · simp [hl]
            · by_cases hlt : d < args.length
              · rw [List.getElem?_append_left (by simpa using hlt)] at hs
                simp only [List.getElem?_map] at hs
                cases ha : args[d]? with
                | none => rw [ha] at hs; cases hs
                | some u =>
                  rw [ha] at hs
                  cases hs
                  obtain ⟨u', hu', hr⟩ := hargs.get ha
                  have hlt' : d < args'.length := hl ▸ hlt
                  show VRel β u _
                  rw [Array.getD_eq_getD_getElem?, Array.getElem?_append_left (by simpa using hlt')]
                  simp only [List.getElem?_toArray, hu', Option.getD_some]
                  exact hr
              · rw [List.getElem?_append_right (by simpa using hlt)] at hs
                have := List.mem_of_getElem? hs
                rw [List.mem_replicate] at this
                rw [this.2]
                trivial
          refine exec_sound (C := ⟨P, O, h, f⟩) (w0 := w) (H0 := H) (β0 := β) hh (hd O h f hh) hm c hc hG ⟨fun fr S a w' β' lam g1 g2 g3 => ?_, fun id fr S a w' β' lam g1 g2 g3 => (by cases g1), fun v1 H1 a w' β' v' g1 g2 g3 g4 g5 g6 => ?_⟩
          · obtain ⟨vs, v', h1, h2, h3⟩ := results_ok g2.rel g2.fr g1
            cases h1
            exact ⟨g2.fr.defers, v', h3, v', β', rfl, g2.rel, g2.ext, h2⟩
          · cases g1
            exact ⟨g2, v', g6, v', β', rfl, g3, g4, g5⟩

theorem runN_sound {P : Program} {O : Orc} {ext : Ext1} (hm : P.follows .mixedOrders = true) (hd : DrawsS P) (he : ExtC P ext) (hx : XtC P O.xt) : ∀ n, SimC P (runN P O ext n)
  | 0 => fun f args H v H' h => by cases h
  | n + 1 => callF_sound hm hd he hx (runN_sound hm hd he hx n)

theorem run_some {P : Program} {O : Orc} {ext : Ext1} {f : FuncId} {args : List Value} {H : Hp} {r : Value × Hp} (h : run P O ext f args H = some r) : ∃ n, runN P O ext n f args H = some r := by
  unfold run at h
  split at h
  · rename_i hex
    obtain ⟨n, hn⟩ := hex.choose_spec
    have h : hex.choose = r := by simpa using h
    exact ⟨n, by rw [hn, h]⟩
  · cases h
theorem run_sound {P : Program} {O : Orc} {ext : Ext1} (hm : P.follows .mixedOrders = true) (hd : DrawsS P) (he : ExtC P ext) (hx : XtC P O.xt) : SimC P (run P O ext) := fun f args H v H' h => by
  obtain ⟨n, hn⟩ := run_some h
  exact runN_sound hm hd he hx n f args H v H' hn
/-- A run of a function that is not taken at once has a body. -/
theorem run_body {P : Program} {O : Orc} {ext : Ext1} {f : FuncId} {args : List Value} {H : Hp} {r : Value × Hp} (hx : O.xt f = none) (h : run P O ext f args H = some r) : ¬ ∃ fn, P.funcs[f]? = some fn ∧ fn.body = none := by
  rintro ⟨fn, hf, hb⟩
  obtain ⟨n, hn⟩ := run_some h
  cases n with
  | zero => cases hn
  | succ n =>
    have hn : callF P O ext (runN P O ext n) f args H = some r := hn
    unfold callF at hn
    simp only [hf, hb, hx] at hn
    split at hn <;> cases hn
end Go.AM
/- The abstract machine: regions that draw are sound. -/
set_option linter.unusedVariables false
namespace Go.AM
open Go

section
/-- One operation of a region that draws. -/
def opRD (C : Ctx) (fr : Fr) (S : St) (o : Oper) : Option (Slot × St) := opD C fr S o fun s S' => some (s, S')
theorem opD_nat {α : Type} (C : Ctx) (fr : Fr) (S : St) (o : Oper) (k : Slot → St → Option α) : opD C fr S o k = (opRD C fr S o).bind fun p => k p.1 p.2 := by
  unfold opRD opD
  cases isLA C.O C.f o with
  | true =>
    dsimp only
    cases o.dst <;> rfl
  | false => exact opC_nat _ _ _ _ _
theorem opRD_ord {C : Ctx} {o : Oper} (h : isLA C.O C.f o = false) (fr : Fr) (S : St) : opRD C fr S o = opR C fr S o := by
  unfold opRD opD opR; rw [h]
theorem kindD_ord {P : Program} {O : Orc} {f : FuncId} {o : Oper} (h : isLA O f o = false) : kindD P O f o = kindOf P o.op := by unfold kindD; rw [h]
theorem kindD_LA {P : Program} {O : Orc} {f : FuncId} {o : Oper} (h : isLA O f o = true) : kindD P O f o = .pure := by unfold kindD; rw [h]
theorem opRD_pr {C : Ctx} {fr : Fr} {S S' S2 : St} {o : Oper} {s : Slot} (h : opRD C fr S o = some (s, S')) (hp : kindD C.P C.O C.f o = .pure ∨ (kindD C.P C.O C.f o = .read ∧ S2 = S)) :
    S' = S ∧ opRD C fr S2 o = some (s, S2) := by
  cases hl : isLA C.O C.f o with
  | false =>
    rw [kindD_ord hl] at hp
    rw [opRD_ord hl] at h ⊢
    exact opR_pr h hp
  | true =>
    unfold opRD opD at h ⊢
    rw [hl] at h ⊢
    dsimp only at h ⊢
    split at h
    · cases h; exact ⟨rfl, rfl⟩
    · cases h
theorem opRD_congr {C : Ctx} {fr fr' : Fr} {S : St} {o : Oper} (h : ∀ x ∈ o.op.operands, ev C.P.globals.size fr x = ev C.P.globals.size fr' x) : opRD C fr S o = opRD C fr' S o := by
  cases hl : isLA C.O C.f o with
  | false => rw [opRD_ord hl, opRD_ord hl]; exact opR_congr h
  | true =>
    unfold opRD opD
    rw [hl]
theorem ord_of_read {P : Program} {O : Orc} {f : FuncId} {o : Oper} (h : kindD P O f o = .read) : isLA O f o = false := by
  cases hl : isLA O f o with
  | false => rfl
  | true => rw [kindD_LA hl] at h; cases h
theorem ord_of_eff {P : Program} {O : Orc} {f : FuncId} {o : Oper} (h : kindD P O f o = .eff) : isLA O f o = false := by
  cases hl : isLA O f o with
  | false => rfl
  | true => rw [kindD_LA hl] at h; cases h
theorem read_sameD {C : Ctx} {fr : Fr} {S S2 : St} {o : Oper} {s : Slot} (h : opRD C fr S o = some (s, S)) (hk : kindD C.P C.O C.f o = .read) (hs : sameOn (tagOf C fr o) S S2) : opRD C fr S2 o = some (s, S2) := by
  have hl := ord_of_read hk
  rw [opRD_ord hl] at h ⊢
  rw [kindD_ord hl] at hk
  exact read_same h hk hs
theorem again_okD {α : Type} {C : Ctx} {fr : Fr} {S S2 : St} {o : Oper} {s : Slot} {k : Option α} {r : α} (h : opRD C fr S o = some (s, S)) (hk : kindD C.P C.O C.f o = .read) (ha : again C fr S2 o s k = some r) : k = some r ∧ opRD C fr S2 o = some (s, S2) := by
  have hl := ord_of_read hk
  rw [opRD_ord hl] at h ⊢
  rw [kindD_ord hl] at hk
  exact again_ok h hk ha
theorem eff_tagD {C : Ctx} {fr : Fr} {S S' : St} {o : Oper} {s : Slot} (h : opRD C fr S o = some (s, S')) (hk : kindD C.P C.O C.f o = .eff) : TagR (tagOf C fr o) S S' := by
  have hl := ord_of_eff hk
  rw [opRD_ord hl] at h
  rw [kindD_ord hl] at hk
  exact eff_tag h hk
end

section
variable (C : Ctx) (ops : List Oper) (fr0 : Fr) (S0 : St)

/-- The run in the text's order. -/
def stp : Nat → Fr × St
  | 0 => (fr0, S0)
  | i + 1 => match ops[i]? with
    | none => stp i
    | some o => match guardV ops (stp i).1 o with
      | some true => match opRD C (stp i).1 (stp i).2 o with
        | some (s, S') => (putS (stp i).1 o.dst s, S')
        | none => stp i
      | _ => (putS (stp i).1 o.dst .und, (stp i).2)
def sl (i : Nat) : Slot :=
  match ops[i]? with
  | none => .und
  | some o => match guardV ops (stp C ops fr0 S0 i).1 o with
    | some true => match opRD C (stp C ops fr0 S0 i).1 (stp C ops fr0 S0 i).2 o with
      | some (s, _) => s
      | none => .und
    | _ => .und
def Wd (i : Nat) (o : Oper) : Prop := guardV ops (stp C ops fr0 S0 i).1 o = some true

structure OKi (i : Nat) (o : Oper) (b : Bool) : Prop where
  guard : guardV ops (stp C ops fr0 S0 i).1 o = some b
  yes : b = true → opRD C (stp C ops fr0 S0 i).1 (stp C ops fr0 S0 i).2 o = some (sl C ops fr0 S0 i, (stp C ops fr0 S0 (i + 1)).2)
  no : b = false → sl C ops fr0 S0 i = .und ∧ (stp C ops fr0 S0 (i + 1)).2 = (stp C ops fr0 S0 i).2
  next : (stp C ops fr0 S0 (i + 1)).1 = putS (stp C ops fr0 S0 i).1 o.dst (sl C ops fr0 S0 i)

def Chk (an : List Nat) (j : Nat) (o : Oper) : Prop :=
  (Wd C ops fr0 S0 j o → kindD C.P C.O C.f o = .read → ∀ l o', l < j → ops[l]? = some o' → Wd C ops fr0 S0 l o' → kindD C.P C.O C.f o' = .eff → (an.getD j 0).testBit l = false →
    sameTag (tagOf C (stp C ops fr0 S0 l).1 o') (tagOf C (stp C ops fr0 S0 j).1 o) = true → opRD C (stp C ops fr0 S0 j).1 (stp C ops fr0 S0 l).2 o = some (sl C ops fr0 S0 j, (stp C ops fr0 S0 l).2)) ∧
  (Wd C ops fr0 S0 j o → kindD C.P C.O C.f o = .eff → ∀ l o', l < j → ops[l]? = some o' → Wd C ops fr0 S0 l o' → kindD C.P C.O C.f o' = .read → (an.getD j 0).testBit l = false →
    sameTag (tagOf C (stp C ops fr0 S0 l).1 o') (tagOf C (stp C ops fr0 S0 j).1 o) = true → opRD C (stp C ops fr0 S0 l).1 (stp C ops fr0 S0 (j + 1)).2 o' = some (sl C ops fr0 S0 l, (stp C ops fr0 S0 (j + 1)).2))
end

section
variable {α : Type} {C : Ctx} {ops : List Oper} {fr0 : Fr} {S0 : St} {r : α} {an : List Nat}

theorem chkBack_inv {a i : Nat} {o : Oper} {fr : Fr} {s : Slot} {tag : Option Nat} {k : Option α} {S1 : St} (h0 : opRD C fr S1 o = some (s, S1)) (hk : kindD C.P C.O C.f o = .read) :
    ∀ es : List (Nat × Option Nat × St), chkBack C a i o fr s tag k es = some r → k = some r ∧ ∀ q ∈ es, a.testBit q.1 = false → sameTag q.2.1 tag = true → opRD C fr q.2.2 o = some (s, q.2.2)
  | [], h => ⟨h, fun q hq => by cases hq⟩
  | (j, t, S) :: es, h => by
    unfold chkBack at h
    split at h
    · rename_i hb
      obtain ⟨h1, h2⟩ := chkBack_inv h0 hk es h
      refine ⟨h1, fun q hq hb' ht => ?_⟩
      rcases List.mem_cons.1 hq with rfl | hq
      · dsimp only at hb' ht
        rw [hb', ht] at hb; cases hb
      · exact h2 q hq hb' ht
    · obtain ⟨h3, h4⟩ := again_okD h0 hk h
      obtain ⟨h1, h2⟩ := chkBack_inv h0 hk es h3
      refine ⟨h1, fun q hq hb' ht => ?_⟩
      rcases List.mem_cons.1 hq with rfl | hq
      · exact h4
      · exact h2 q hq hb' ht
theorem chkFore_inv {a : Nat} {tag : Option Nat} {S : St} {k : Option α} : ∀ rs : List Rd, (∀ q ∈ rs, kindD C.P C.O C.f q.o = .read ∧ ∃ S1, opRD C q.fr S1 q.o = some (q.s, S1)) → chkFore C a tag S k rs = some r →
    k = some r ∧ ∀ q ∈ rs, a.testBit q.i = false → sameTag q.tag tag = true → opRD C q.fr S q.o = some (q.s, S)
  | [], _, h => ⟨h, fun q hq => by cases hq⟩
  | p :: rs, hr, h => by
    unfold chkFore at h
    split at h
    · rename_i hb
      obtain ⟨h1, h2⟩ := chkFore_inv rs (fun q hq => hr q (List.mem_cons_of_mem _ hq)) h
      refine ⟨h1, fun q hq hb' ht => ?_⟩
      rcases List.mem_cons.1 hq with rfl | hq
      · rw [hb', ht] at hb; cases hb
      · exact h2 q hq hb' ht
    · obtain ⟨hk, S1, h0⟩ := hr p (List.mem_cons_self ..)
      obtain ⟨h3, h4⟩ := again_okD h0 hk h
      obtain ⟨h1, h2⟩ := chkFore_inv rs (fun q hq => hr q (List.mem_cons_of_mem _ hq)) h3
      refine ⟨h1, fun q hq hb' ht => ?_⟩
      rcases List.mem_cons.1 hq with rfl | hq
      · exact h4
      · exact h2 q hq hb' ht

theorem OKi.of_no {i : Nat} {o : Oper} (ho : ops[i]? = some o) (hg : guardV ops (stp C ops fr0 S0 i).1 o = some false) : OKi C ops fr0 S0 i o false := by
  refine ⟨hg, fun h => (by cases h), fun _ => ⟨?_, ?_⟩, ?_⟩
  · unfold sl; rw [ho]; dsimp only; rw [hg]
  · rw [stp, ho]; dsimp only; rw [hg]
  · have : sl C ops fr0 S0 i = .und := by unfold sl; rw [ho]; dsimp only; rw [hg]
    rw [this, stp, ho]; dsimp only; rw [hg]
theorem OKi.of_yes {i : Nat} {o : Oper} {s : Slot} {S' : St} (ho : ops[i]? = some o) (hg : guardV ops (stp C ops fr0 S0 i).1 o = some true) (hr : opRD C (stp C ops fr0 S0 i).1 (stp C ops fr0 S0 i).2 o = some (s, S')) :
    OKi C ops fr0 S0 i o true ∧ sl C ops fr0 S0 i = s ∧ (stp C ops fr0 S0 (i + 1)).2 = S' := by
  have h1 : sl C ops fr0 S0 i = s := by unfold sl; rw [ho]; dsimp only; rw [hg]; dsimp only; rw [hr]
  have h2 : stp C ops fr0 S0 (i + 1) = (putS (stp C ops fr0 S0 i).1 o.dst s, S') := by rw [stp, ho]; dsimp only; rw [hg]; dsimp only; rw [hr]
  refine ⟨⟨hg, fun _ => (by rw [h1, h2]; exact hr), fun h => (by cases h), by rw [h2, h1]⟩, h1, by rw [h2]⟩

theorem drawC_inv {k : Fr → St → Option α} : ∀ (rest : List Oper) (i : Nat) (es : List (Nat × Option Nat × St)) (rs : List Rd), ops.drop i = rest →
    drawC C ops an k rest i (stp C ops fr0 S0 i).1 (stp C ops fr0 S0 i).2 es rs = some r →
    (∀ l o', l < i → ops[l]? = some o' → Wd C ops fr0 S0 l o' → kindD C.P C.O C.f o' = .eff → (l, tagOf C (stp C ops fr0 S0 l).1 o', (stp C ops fr0 S0 l).2) ∈ es) →
    (∀ l o', l < i → ops[l]? = some o' → Wd C ops fr0 S0 l o' → kindD C.P C.O C.f o' = .read → (⟨l, o', (stp C ops fr0 S0 l).1, sl C ops fr0 S0 l, tagOf C (stp C ops fr0 S0 l).1 o'⟩ : Rd) ∈ rs) →
    (∀ q ∈ rs, kindD C.P C.O C.f q.o = .read ∧ ∃ S1, opRD C q.fr S1 q.o = some (q.s, S1)) →
    k (stp C ops fr0 S0 ops.length).1 (stp C ops fr0 S0 ops.length).2 = some r ∧ ∀ j o, i ≤ j → ops[j]? = some o → (∃ b, OKi C ops fr0 S0 j o b) ∧ Chk C ops fr0 S0 an j o
  | [], i, es, rs, hd, h, he, hr, hq => by
    have hle : ops.length ≤ i := by simpa using hd
    refine ⟨?_, fun j o hij ho => ?_⟩
    · have : ∀ m, ops.length ≤ m → stp C ops fr0 S0 m = stp C ops fr0 S0 ops.length := by
        intro m hm
        induction m with
        | zero => have : ops.length = 0 := by omega
                  rw [this]
        | succ m ih =>
          rcases Nat.lt_or_ge m ops.length with q | q
          · have : m + 1 = ops.length := by omega
            rw [this]
          · rw [stp, List.getElem?_eq_none q]; exact ih q
      rw [this i hle] at h
      exact h
    · have := (List.getElem?_eq_some_iff.1 ho).1
      omega
  | o :: rest, i, es, rs, hd, h, he, hr, hq => by
    have hi : ops[i]? = some o := by
      have : (ops.drop i)[0]? = some o := by rw [hd]; rfl
      rw [List.getElem?_drop] at this; simpa using this
    have hd' : ops.drop (i + 1) = rest := by rw [← List.drop_drop, hd]; rfl
    unfold drawC at h
    obtain ⟨b, hg, h1⟩ := guardC_inv h
    clear h
    cases b with
    | false =>
      dsimp only at h1
      have hok := OKi.of_no (C := C) (fr0 := fr0) (S0 := S0) hi hg
      rw [← (hok.no rfl).1, ← hok.next, ← (hok.no rfl).2] at h1
      have hnw : ¬ Wd C ops fr0 S0 i o := fun hw => by unfold Wd at hw; rw [hg] at hw; cases hw
      obtain ⟨g1, g2⟩ := drawC_inv rest (i + 1) es rs hd' h1
        (fun l o' hl ho' hw hk => by
          rcases Nat.lt_or_ge l i with q | q
          · exact he l o' q ho' hw hk
          · have : l = i := by omega
            subst this; rw [hi] at ho'; cases ho'; exact absurd hw hnw)
        (fun l o' hl ho' hw hk => by
          rcases Nat.lt_or_ge l i with q | q
          · exact hr l o' q ho' hw hk
          · have : l = i := by omega
            subst this; rw [hi] at ho'; cases ho'; exact absurd hw hnw) hq
      refine ⟨g1, fun j o' hij ho' => ?_⟩
      rcases Nat.lt_or_ge i j with q | q
      · exact g2 j o' q ho'
      · have : j = i := by omega
        subst this; rw [hi] at ho'; cases ho'
        exact ⟨⟨false, hok⟩, fun hw => absurd hw hnw, fun hw => absurd hw hnw⟩
    | true =>
      dsimp only at h1
      -- in each kind, the operation is carried out
      have fin : ∀ {es' : List (Nat × Option Nat × St)} {rs' : List Rd} (hok : OKi C ops fr0 S0 i o true), Chk C ops fr0 S0 an i o →
          drawC C ops an k rest (i + 1) (stp C ops fr0 S0 (i + 1)).1 (stp C ops fr0 S0 (i + 1)).2 es' rs' = some r →
          (∀ q ∈ es, q ∈ es') → (kindD C.P C.O C.f o = .eff → (i, tagOf C (stp C ops fr0 S0 i).1 o, (stp C ops fr0 S0 i).2) ∈ es') →
          (∀ q ∈ rs, q ∈ rs') → (kindD C.P C.O C.f o = .read → (⟨i, o, (stp C ops fr0 S0 i).1, sl C ops fr0 S0 i, tagOf C (stp C ops fr0 S0 i).1 o⟩ : Rd) ∈ rs') →
          (∀ q ∈ rs', kindD C.P C.O C.f q.o = .read ∧ ∃ S1, opRD C q.fr S1 q.o = some (q.s, S1)) →
          k (stp C ops fr0 S0 ops.length).1 (stp C ops fr0 S0 ops.length).2 = some r ∧ ∀ j o, i ≤ j → ops[j]? = some o → (∃ b, OKi C ops fr0 S0 j o b) ∧ Chk C ops fr0 S0 an j o := by
        intro es' rs' hok hchk h2 he1 he2 hr1 hr2 hq'
        obtain ⟨g1, g2⟩ := drawC_inv rest (i + 1) es' rs' hd' h2
          (fun l o' hl ho' hw hk => by
            rcases Nat.lt_or_ge l i with q | q
            · exact he1 _ (he l o' q ho' hw hk)
            · have : l = i := by omega
              subst this; rw [hi] at ho'; cases ho'; exact he2 hk)
          (fun l o' hl ho' hw hk => by
            rcases Nat.lt_or_ge l i with q | q
            · exact hr1 _ (hr l o' q ho' hw hk)
            · have : l = i := by omega
              subst this; rw [hi] at ho'; cases ho'; exact hr2 hk) hq'
        refine ⟨g1, fun j o' hij ho' => ?_⟩
        rcases Nat.lt_or_ge i j with q | q
        · exact g2 j o' q ho'
        · have : j = i := by omega
          subst this; rw [hi] at ho'; cases ho'
          exact ⟨⟨true, hok⟩, hchk⟩
      have conv : ∀ {k' : Slot → St → Option α}, opD C (stp C ops fr0 S0 i).1 (stp C ops fr0 S0 i).2 o k' = some r → ∃ hok : OKi C ops fr0 S0 i o true, k' (sl C ops fr0 S0 i) (stp C ops fr0 S0 (i + 1)).2 = some r := by
        intro k' hk'
        rw [opD_nat] at hk'
        cases hR : opRD C (stp C ops fr0 S0 i).1 (stp C ops fr0 S0 i).2 o with
        | none => rw [hR] at hk'; cases hk'
        | some p =>
          obtain ⟨s, S'⟩ := p
          rw [hR] at hk'
          obtain ⟨hok, e1, e2⟩ := OKi.of_yes hi hg hR
          exact ⟨hok, by rw [e1, e2]; exact hk'⟩
      split at h1
      · rename_i hkind
        obtain ⟨hok, h2⟩ := conv h1
        rw [← hok.next] at h2
        exact fin hok ⟨fun _ hk => (by rw [hkind] at hk; cases hk), fun _ hk => (by rw [hkind] at hk; cases hk)⟩ h2 (fun q hq => hq) (fun hk => (by rw [hkind] at hk; cases hk)) (fun q hq => hq) (fun hk => (by rw [hkind] at hk; cases hk)) hq
      · rename_i hkind
        obtain ⟨hok, h2⟩ := conv h1
        have hR := hok.yes rfl
        obtain ⟨e1, e2⟩ := opRD_pr (S2 := (stp C ops fr0 S0 i).2) hR (.inr ⟨hkind, rfl⟩)
        obtain ⟨h3, h4⟩ := chkBack_inv e2 hkind es h2
        rw [← hok.next] at h3
        refine fin hok ⟨fun hw hk l o' hl ho' hw' hk' hb ht => h4 _ (he l o' hl ho' hw' hk') hb ht, fun _ hk => (by rw [hkind] at hk; cases hk)⟩ h3 (fun q hq => hq) (fun hk => (by rw [hkind] at hk; cases hk))
          (fun q hq => List.mem_append_left _ hq) (fun _ => List.mem_append_right _ (List.mem_singleton.2 rfl)) ?_
        intro q hq'
        rcases List.mem_append.1 hq' with hq' | hq'
        · exact hq q hq'
        · cases List.mem_singleton.1 hq'
          exact ⟨hkind, _, e2⟩
      · rename_i hkind
        obtain ⟨hok, h2⟩ := conv h1
        obtain ⟨h3, h4⟩ := chkFore_inv rs hq h2
        rw [← hok.next] at h3
        exact fin hok ⟨fun _ hk => (by rw [hkind] at hk; cases hk), fun hw hk l o' hl ho' hw' hk' hb ht => h4 _ (hr l o' hl ho' hw' hk') hb ht⟩ h3 (fun q hq => List.mem_append_left _ hq) (fun _ => List.mem_append_right _ (List.mem_singleton.2 rfl)) (fun q hq => hq) (fun hk => (by rw [hkind] at hk; cases hk)) hq
end
end Go.AM
/- The abstract machine: regions that draw are sound, II. -/
set_option linter.unusedVariables false
namespace Go.AM
open Go

section
variable {C : Ctx} {ops : List Oper} {fr0 : Fr} {S0 : St} {an : List Nat}

theorem sameTag_comm (a b : Option Nat) : sameTag a b = sameTag b a := by
  cases a <;> cases b <;> first | rfl | skip
  rename_i x y
  show Nat.beq x y = Nat.beq y x
  rw [Bool.eq_iff_iff, Nat.beq_eq, Nat.beq_eq]
  exact ⟨Eq.symm, Eq.symm⟩
theorem putS_get (fr : Fr) (d : Option Nat) (s : Slot) (t : Nat) : (putS fr d s)[t]? = if d = some t then (fr[t]?).map fun _ => s else fr[t]? := by
  cases d with
  | none => rfl
  | some d =>
    simp only [putS, List.getElem?_set, Option.some.injEq]
    by_cases h : d = t
    · subst h
      rw [if_pos rfl, if_pos rfl]
      split
      · rename_i hl; rw [List.getElem?_eq_getElem hl]; rfl
      · rename_i hl; rw [List.getElem?_eq_none (by omega)]; rfl
    · rw [if_neg h, if_neg h]
theorem getS_of {fr fr' : Fr} {t : Nat} (h : fr[t]? = fr'[t]?) : getS fr t = getS fr' t := by
  unfold getS; rw [List.getD_eq_getElem?_getD, List.getD_eq_getElem?_getD, h]

variable (C ops fr0 S0) in
/-- The frame where the operations that are listed have been carried out. -/
def FD (L : Array Bool) : Nat → Fr
  | 0 => fr0
  | i + 1 => match L.getD i false with
    | true => match ops[i]? with
      | some o => putS (FD L i) o.dst (sl C ops fr0 S0 i)
      | none => FD L i
    | false => FD L i

theorem FD_slot {L : Array Bool} (hok : ∀ j o, ops[j]? = some o → ∃ b, OKi C ops fr0 S0 j o b) {t j : Nat} (hj : j ≤ ops.length)
    (h1 : ∀ i o, i < j → ops[i]? = some o → o.dst = some t → L.getD i false = true) (h2 : ∀ i o, j ≤ i → ops[i]? = some o → o.dst = some t → L.getD i false = false) :
    ∀ m, m ≤ ops.length → (FD C ops fr0 S0 L m)[t]? = ((stp C ops fr0 S0 (min m j)).1)[t]?
  | 0, _ => by rw [Nat.zero_min]; rfl
  | m + 1, hm => by
    have ih := FD_slot hok hj h1 h2 m (by omega)
    have hom : ∃ o, ops[m]? = some o := ⟨ops[m], by simp⟩
    obtain ⟨o, ho⟩ := hom
    obtain ⟨b, hb⟩ := hok m o ho
    unfold FD
    rcases Nat.lt_or_ge m j with q | q
    · rw [Nat.min_eq_left q, hb.next, putS_get]
      rw [Nat.min_eq_left (by omega)] at ih
      cases hL : L.getD m false with
      | true =>
        dsimp only
        rw [ho]
        dsimp only
        rw [putS_get, ih]
      | false =>
        dsimp only
        rw [ih]
        split
        · rename_i hd; rw [h1 m o q ho hd] at hL; cases hL
        · rfl
    · rw [Nat.min_eq_right (by omega)]
      rw [Nat.min_eq_right q] at ih
      cases hL : L.getD m false with
      | true =>
        dsimp only
        rw [ho]
        dsimp only
        rw [putS_get, ih]
        split
        · rename_i hd; rw [h2 m o q ho hd] at hL; cases hL
        · rfl
      | false => dsimp only; exact ih

theorem getD_set {L : Array Bool} {j i : Nat} (hj : j < L.size) : (L.setIfInBounds j true).getD i false = if i = j then true else L.getD i false := by
  simp only [Array.getD_eq_getD_getElem?, Array.getElem?_setIfInBounds]
  by_cases h : j = i
  · subst h; rw [if_pos rfl, if_pos rfl, if_pos hj]; rfl
  · rw [if_neg h, if_neg (fun e => h e.symm)]

theorem FD_set {L : Array Bool} {j : Nat} {oj : Oper} (hoj : ops[j]? = some oj) (hjL : j < L.size) (hnj : L.getD j false = false)
    (h2 : ∀ i o, j < i → ops[i]? = some o → L.getD i false = true → ∀ d, oj.dst = some d → o.dst ≠ some d) :
    ∀ m, m ≤ ops.length → FD C ops fr0 S0 (L.setIfInBounds j true) m = if m ≤ j then FD C ops fr0 S0 L m else putS (FD C ops fr0 S0 L m) oj.dst (sl C ops fr0 S0 j)
  | 0, _ => by rw [if_pos (Nat.zero_le _)]; rfl
  | m + 1, hm => by
    have ih := FD_set hoj hjL hnj h2 m (by omega)
    unfold FD
    rw [getD_set hjL]
    obtain ⟨o, ho⟩ : ∃ o, ops[m]? = some o := ⟨ops[m], by simp⟩
    rcases Nat.lt_trichotomy m j with q | q | q
    · rw [if_neg (by omega), if_pos (by omega)]
      rw [if_pos (by omega)] at ih
      rw [ih]
    · subst q
      rw [if_pos rfl, if_neg (by omega), hnj]
      rw [if_pos (Nat.le_refl _)] at ih
      rw [hoj]
      dsimp only
      rw [ih]
    · rw [if_neg (by omega), if_neg (by omega)]
      rw [if_neg (by omega)] at ih
      cases hL : L.getD m false with
      | false => dsimp only; exact ih
      | true =>
        dsimp only
        rw [ho]
        dsimp only
        rw [ih]
        apply List.ext_getElem?
        intro t
        simp only [putS_get]
        have := h2 m o q ho hL
        by_cases e1 : o.dst = some t
        · by_cases e2 : oj.dst = some t
          · exact absurd e1 (this t e2)
          · rw [if_pos e1, if_neg e2, if_neg e2, if_pos e1]
        · rw [if_neg e1, if_neg e1]

variable (C ops fr0 S0) in
def Effw (i : Nat) : Prop := ∃ o, ops[i]? = some o ∧ Wd C ops fr0 S0 i o ∧ kindD C.P C.O C.f o = .eff

theorem T_const (hok : ∀ j o, ops[j]? = some o → ∃ b, OKi C ops fr0 S0 j o b) {m : Nat} : ∀ m', m ≤ m' → m' ≤ ops.length → (∀ i, m ≤ i → i < m' → ¬ Effw C ops fr0 S0 i) → (stp C ops fr0 S0 m').2 = (stp C ops fr0 S0 m).2 := by
  intro m' hm
  induction m' with
  | zero => intro _ _; have : m = 0 := by omega
            rw [this]
  | succ n ih =>
    intro hn h
    rcases Nat.lt_or_ge n m with q | q
    · have : m = n + 1 := by omega
      rw [this]
    · rw [← ih q (by omega) (fun i h1 h2 => h i h1 (by omega))]
      obtain ⟨o, ho⟩ : ∃ o, ops[n]? = some o := ⟨ops[n], by simp⟩
      obtain ⟨b, hb⟩ := hok n o ho
      cases b with
      | false => exact (hb.no rfl).2
      | true =>
        have hk : kindD C.P C.O C.f o ≠ .eff := fun hk => h n q (Nat.lt_succ_self n) ⟨o, ho, hb.guard, hk⟩
        have hR := hb.yes rfl
        refine (opRD_pr (S2 := (stp C ops fr0 S0 n).2) hR ?_).1
        cases hq : kindD C.P C.O C.f o with
        | pure => exact .inl rfl
        | read => exact .inr ⟨rfl, rfl⟩
        | eff => exact absurd hq hk

/-- What a reading yields, wherever it stands. -/
theorem read_any (hok : ∀ j o, ops[j]? = some o → ∃ b, OKi C ops fr0 S0 j o b) (hchk : ∀ j o, ops[j]? = some o → Chk C ops fr0 S0 an j o)
    {j : Nat} {o : Oper} (ho : ops[j]? = some o) (hb : OKi C ops fr0 S0 j o true) (hk : kindD C.P C.O C.f o = .read) :
    (∀ n, ∀ m, m + n = j → (∀ i, m ≤ i → i < j → Effw C ops fr0 S0 i → (an.getD j 0).testBit i = false) → opRD C (stp C ops fr0 S0 j).1 (stp C ops fr0 S0 m).2 o = some (sl C ops fr0 S0 j, (stp C ops fr0 S0 m).2)) ∧
    (∀ m, j ≤ m → m ≤ ops.length → (∀ i, j < i → i < m → Effw C ops fr0 S0 i → (an.getD i 0).testBit j = false) → opRD C (stp C ops fr0 S0 j).1 (stp C ops fr0 S0 m).2 o = some (sl C ops fr0 S0 j, (stp C ops fr0 S0 m).2)) := by
  have h0 : opRD C (stp C ops fr0 S0 j).1 (stp C ops fr0 S0 j).2 o = some (sl C ops fr0 S0 j, (stp C ops fr0 S0 j).2) := (opRD_pr (hb.yes rfl) (.inr ⟨hk, rfl⟩)).2
  have hjl := (List.getElem?_eq_some_iff.1 ho).1
  refine ⟨fun n => ?_, fun m => ?_⟩
  · induction n with
    | zero => intro m hm _; have : m = j := by omega
              rw [this]; exact h0
    | succ n ih =>
      intro m hm hno
      have h1 := ih (m + 1) (by omega) (fun i h1 h2 => hno i (by omega) h2)
      obtain ⟨om, hom⟩ : ∃ om, ops[m]? = some om := ⟨ops[m], by simp⟩
      by_cases hw : Wd C ops fr0 S0 m om ∧ kindD C.P C.O C.f om = .eff
      · have hbit := hno m (Nat.le_refl _) (by omega) ⟨om, hom, hw.1, hw.2⟩
        cases ht : sameTag (tagOf C (stp C ops fr0 S0 m).1 om) (tagOf C (stp C ops fr0 S0 j).1 o) with
        | true => exact (hchk j o ho).1 hb.guard hk m om (by omega) hom hw.1 hw.2 hbit ht
        | false =>
          obtain ⟨b, hbm⟩ := hok m om hom
          have hbt : b = true := by have := hbm.guard; rw [hw.1] at this; cases this; rfl
          subst hbt
          have htag := eff_tagD (hbm.yes rfl) hw.2
          have hst : sameTag (tagOf C (stp C ops fr0 S0 j).1 o) (tagOf C (stp C ops fr0 S0 m).1 om) = false := by rw [sameTag_comm]; exact ht
          have := htag.other hst
          refine read_sameD h1 hk ?_
          unfold sameOn at this ⊢
          split at this
          · exact this.symm
          · exact this.symm
      · have hT : (stp C ops fr0 S0 (m + 1)).2 = (stp C ops fr0 S0 m).2 := T_const hok (m + 1) (by omega) (by omega) (fun i h1 h2 he => by
          have : i = m := by omega
          subst this
          obtain ⟨o', ho', hw1, hw2⟩ := he
          rw [hom] at ho'; cases ho'
          exact hw ⟨hw1, hw2⟩)
        rw [hT] at h1; exact h1
  · induction m with
    | zero => intro hm _ _; have : j = 0 := by omega
              subst this; exact h0
    | succ m ih =>
      intro hm hml hno
      rcases Nat.lt_or_ge m j with q | q
      · have : m + 1 = j := by omega
        rw [this]; exact h0
      · have h1 := ih q (by omega) (fun i h1 h2 => hno i h1 (by omega))
        obtain ⟨om, hom⟩ : ∃ om, ops[m]? = some om := ⟨ops[m], by simp⟩
        by_cases hw : Wd C ops fr0 S0 m om ∧ kindD C.P C.O C.f om = .eff
        · have hjm : j < m := by
            rcases Nat.lt_or_ge j m with q' | q'
            · exact q'
            · have : m = j := by omega
              subst this
              rw [ho] at hom; cases hom
              rw [hk] at hw; cases hw.2
          have hbit := hno m hjm (Nat.lt_succ_self m) ⟨om, hom, hw.1, hw.2⟩
          cases ht : sameTag (tagOf C (stp C ops fr0 S0 j).1 o) (tagOf C (stp C ops fr0 S0 m).1 om) with
          | true => exact (hchk m om hom).2 hw.1 hw.2 j o hjm ho hb.guard hk hbit ht
          | false =>
            obtain ⟨b, hbm⟩ := hok m om hom
            have hbt : b = true := by have := hbm.guard; rw [hw.1] at this; cases this; rfl
            subst hbt
            exact read_sameD h1 hk ((eff_tagD (hbm.yes rfl) hw.2).other ht)
        · have hT : (stp C ops fr0 S0 (m + 1)).2 = (stp C ops fr0 S0 m).2 := T_const hok (m + 1) (by omega) (by omega) (fun i h1 h2 he => by
            have : i = m := by omega
            subst this
            obtain ⟨o', ho', hw1, hw2⟩ := he
            rw [hom] at ho'; cases ho'
            exact hw ⟨hw1, hw2⟩)
          rw [hT]; exact h1
end

/-! ### Boxes that lie there already -/
section
variable {C : Ctx} {ops : List Oper} {α : Type}
theorem LA_inv {o : Oper} (h : isLA C.O C.f o = true) : ∃ T d, o.guard = none ∧ o.op = .alloc T ∧ o.dst = some d ∧ (C.O.loc C.f).elem d = true := by
  unfold isLA at h
  split at h
  · rename_i T d h1 h2 h3; exact ⟨T, d, h1, h2, h3, h⟩
  · cases h
theorem LA_step {o : Oper} (h : isLA C.O C.f o = true) {S : St} {k : Slot → St → Option α} {r : α} (hk : opC C [] S o k = some r) :
    ∃ d c, o.dst = some d ∧ S.bx d = none ∧ k (.loc d 0) (S.setB d (some c)) = some r ∧ ∀ fr S2, S2.bx d = none → opR C fr S2 o = some (.loc d 0, S2.setB d (some c)) := by
  obtain ⟨T, d, h1, h2, h3, h4⟩ := LA_inv h
  unfold opC at hk
  rw [h2] at hk
  dsimp only at hk
  unfold zeroC at hk
  rcases hi : C.P.info? T with _ | i
  · rw [hi] at hk; cases hk
  · rw [hi] at hk
    dsimp only at hk
    rcases hz : i.zero with _ | z
    · rw [hz] at hk; cases hk
    · rw [hz] at hk
      dsimp only at hk
      cases hc : constOk z with
      | false => rw [hc] at hk; cases hk
      | true =>
        rw [hc] at hk
        dsimp only at hk
        cases ha : (cellsL z).all one with
        | false => rw [ha] at hk; cases hk
        | true =>
          rw [ha] at hk
          dsimp only at hk
          unfold newBox at hk
          rw [h3] at hk
          dsimp only at hk
          rw [h4] at hk
          dsimp only at hk
          rcases hb : S.bx d with _ | b
          · rw [hb] at hk
            refine ⟨d, .cells (cellsL z) false, h3, hb, hk, fun fr S2 h5 => ?_⟩
            unfold opR opC
            rw [h2]
            dsimp only
            unfold zeroC
            rw [hi]
            dsimp only
            rw [hz]
            dsimp only
            rw [hc]
            dsimp only
            rw [ha]
            dsimp only
            unfold newBox
            rw [h3]
            dsimp only
            rw [h4]
            dsimp only
            rw [h5]
          · rw [hb] at hk; cases hk
theorem hoist_inv {k : St → Option α} {r : α} : ∀ (l : List Oper) (S : St), hoistC C k l S = some r → ∃ S0, k S0 = some r ∧ S0.hp = S.hp ∧ (∀ d, (∀ o ∈ l, isLA C.O C.f o = true → o.dst ≠ some d) → S0.bx d = S.bx d) ∧
    (∀ o ∈ l, isLA C.O C.f o = true → ∃ d c, o.dst = some d ∧ S.bx d = none ∧ S0.bx d = some c ∧ ∀ fr S2, S2.bx d = none → opR C fr S2 o = some (.loc d 0, S2.setB d (some c))) ∧
    (∀ (i j : Nat) oi oj, l[i]? = some oi → l[j]? = some oj → isLA C.O C.f oi = true → isLA C.O C.f oj = true → oi.dst = oj.dst → i = j)
  | [], S, h => ⟨S, h, rfl, fun _ _ => rfl, fun o ho => absurd ho List.not_mem_nil, fun i j oi oj h1 => absurd h1 (by simp)⟩
  | o :: l, S, h => by
    unfold hoistC at h
    cases hl : isLA C.O C.f o with
    | false =>
      rw [hl] at h
      obtain ⟨S0, h1, h2, h3, h4, h5⟩ := hoist_inv l S h
      refine ⟨S0, h1, h2, fun d hd => h3 d fun o' ho' => hd o' (List.mem_cons_of_mem _ ho'), fun o' ho' hl' => ?_, fun i j oi oj hi hj li lj hd => ?_⟩
      · rcases List.mem_cons.1 ho' with rfl | ho'
        · rw [hl] at hl'; cases hl'
        · exact h4 o' ho' hl'
      · cases i with
        | zero => simp at hi; subst hi; rw [hl] at li; cases li
        | succ i => cases j with
          | zero => simp at hj; subst hj; rw [hl] at lj; cases lj
          | succ j => exact congrArg (· + 1) (h5 i j oi oj (by simpa using hi) (by simpa using hj) li lj hd)
    | true =>
      rw [hl] at h
      obtain ⟨d, c, e1, e2, e3, e4⟩ := LA_step hl h
      obtain ⟨S0, h1, h2, h3, h4, h5⟩ := hoist_inv l _ e3
      have hne : ∀ o' ∈ l, isLA C.O C.f o' = true → o'.dst ≠ some d := fun o' ho' hl' hd => by
        obtain ⟨d', c', q1, q2, _⟩ := h4 o' ho' hl'
        rw [hd] at q1; cases q1
        rw [St.setB_same] at q2; cases q2
      refine ⟨S0, h1, h2, fun d' hd' => ?_, fun o' ho' hl' => ?_, fun i j oi oj hi hj li lj hd => ?_⟩
      · rw [h3 d' fun o' ho' => hd' o' (List.mem_cons_of_mem _ ho')]
        exact St.setB_ne _ _ fun q => hd' o (List.mem_cons_self ..) hl (by rw [e1, q])
      · rcases List.mem_cons.1 ho' with rfl | ho'
        · refine ⟨d, c, e1, e2, ?_, e4⟩
          rw [h3 d hne, St.setB_same]
        · obtain ⟨d', c', q1, q2, q3, q4⟩ := h4 o' ho' hl'
          refine ⟨d', c', q1, ?_, q3, q4⟩
          rw [St.setB_ne _ _ (fun q => hne o' ho' hl' (by rw [q1, q]))] at q2
          exact q2
      · cases i with
        | zero =>
          simp at hi
          subst hi
          cases j with
          | zero => rfl
          | succ j => exact absurd (hd.symm.trans e1) (hne oj (List.mem_of_getElem? (by simpa using hj)) lj)
        | succ i => cases j with
          | zero =>
            simp at hj
            subst hj
            exact absurd (hd.trans e1) (hne oi (List.mem_of_getElem? (by simpa using hi)) li)
          | succ j => exact congrArg (· + 1) (h5 i j oi oj (by simpa using hi) (by simpa using hj) li lj hd)
variable (C ops) in
/-- A box that is laid already, but is not yet carried out. -/
def Due (L : Array Bool) (d : Nat) : Prop := ∃ (j : Nat) (o : Oper), ops[j]? = some o ∧ isLA C.O C.f o = true ∧ o.dst = some d ∧ L.getD j false = false
open Classical in
variable (C ops) in
noncomputable def rst (L : Array Bool) (S : St) : St := ⟨fun d => if Due C ops L d then none else S.bx d, S.hp⟩
open Classical in
theorem rst_due {L : Array Bool} {S : St} {d : Nat} (h : Due C ops L d) : (rst C ops L S).bx d = none := by
  show (if Due C ops L d then none else S.bx d) = none
  rw [if_pos h]
open Classical in
theorem rst_not {L : Array Bool} {S : St} {d : Nat} (h : ¬ Due C ops L d) : (rst C ops L S).bx d = S.bx d := by
  show (if Due C ops L d then none else S.bx d) = _
  rw [if_neg h]
theorem St.ext' {S S' : St} (h1 : ∀ d, S.bx d = S'.bx d) (h2 : S.hp = S'.hp) : S = S' := by
  cases S; cases S'
  simp only [St.mk.injEq]
  exact ⟨funext h1, h2⟩
theorem rst_all {L : Array Bool} {S : St} (h : ∀ i, i < ops.length → L.getD i false = true) : rst C ops L S = S :=
  St.ext' (fun d => rst_not fun ⟨j, o, h1, _, _, h4⟩ => by rw [h j (List.getElem?_eq_some_iff.1 h1).1] at h4; cases h4) rfl
theorem due_set {L : Array Bool} {j : Nat} {oj : Oper} (hoj : ops[j]? = some oj) (hjL : j < L.size) {e : Nat} (hd : isLA C.O C.f oj = false ∨ oj.dst ≠ some e) : Due C ops (L.setIfInBounds j true) e ↔ Due C ops L e := by
  constructor
  · rintro ⟨i, o, h1, h2, h3, h4⟩
    rw [getD_set hjL] at h4
    split at h4
    · cases h4
    · exact ⟨i, o, h1, h2, h3, h4⟩
  · rintro ⟨i, o, h1, h2, h3, h4⟩
    refine ⟨i, o, h1, h2, h3, ?_⟩
    rw [getD_set hjL, if_neg (fun q => by
      subst q
      rw [hoj] at h1; cases h1
      rcases hd with hd | hd
      · rw [hd] at h2; cases h2
      · exact hd h3)]
    exact h4
theorem rst_ord {L : Array Bool} {j : Nat} {oj : Oper} (hoj : ops[j]? = some oj) (hjL : j < L.size) (hl : isLA C.O C.f oj = false) (S : St) : rst C ops (L.setIfInBounds j true) S = rst C ops L S := by
  refine St.ext' (fun d => ?_) rfl
  by_cases h : Due C ops L d
  · rw [rst_due h, rst_due ((due_set hoj hjL (.inl hl)).2 h)]
  · rw [rst_not h, rst_not fun q => h ((due_set hoj hjL (.inl hl)).1 q)]
theorem tag_loc {fr : Fr} {o : Oper} {d : Nat} (h : tagOf C fr o = some d) : (∃ x off, ev C.P.globals.size fr x = .loc d off) ∨ ∀ S r, opR C fr S o = some r → S.bx d = none := by
  unfold tagOf at h
  split at h
  · rename_i T x hop
    split at h
    · rename_i e off he
      cases h; exact .inl ⟨x, off, he⟩
    · cases h
  · rename_i T x y hop
    split at h
    · rename_i e off he
      cases h; exact .inl ⟨x, off, he⟩
    · cases h
  · rename_i T hop
    right
    intro S r hr
    split at h
    · rename_i e hd
      split at h
      · rename_i he
        cases h
        cases hb : S.bx d with
        | none => rfl
        | some b =>
          unfold opR opC at hr
          rw [hop] at hr
          dsimp only at hr
          unfold newBox zeroC at hr
          rw [hd] at hr
          dsimp only at hr
          rw [he, hb] at hr
          dsimp only at hr
          repeat' split at hr
          all_goals cases hr
      · cases h
    · cases h
  · rename_i T x hop
    right
    intro S r hr
    split at h
    · rename_i e hd
      split at h
      · rename_i he
        cases h
        cases hb : S.bx d with
        | none => rfl
        | some b =>
          unfold opR opC at hr
          rw [hop] at hr
          dsimp only at hr
          unfold newBox sV at hr
          rw [hd] at hr
          dsimp only at hr
          rw [he, hb] at hr
          dsimp only at hr
          repeat' split at hr
          all_goals cases hr
      · cases h
    · cases h
  · rename_i T x hop
    right
    intro S r hr
    cases hb : S.bx d with
    | none => rfl
    | some b =>
      unfold opR opC at hr
      rw [hop] at hr
      dsimp only at hr
      unfold sV at hr
      rw [h] at hr
      split at hr
      · split at hr
        · rename_i q; cases q
          rw [hb] at hr; cases hr
        · cases hr
      · cases hr
  · rename_i x b hop
    split at h
    · rename_i e off he
      cases h; exact .inl ⟨x, off, he⟩
    · cases h
  · cases h
theorem LA_guard {o : Oper} (h : isLA C.O C.f o = true) (fr : Fr) : guardV ops fr o = some true := by
  obtain ⟨T, d, h1, _⟩ := LA_inv h
  unfold guardV guardC
  rw [h1]
end

theorem draws_sound {P : Program} (O : Orc) (h : Handler) (f : FuncId) (hh : SimC P h) : DrawS ⟨P, O, h, f⟩ := by
  intro α w0 H0 β0 r ops k Q W S1 a1 β1 l1 hord hW hk fr0 Sb a w β lam hrun hG hM
  generalize hC : (⟨P, O, h, f⟩ : Ctx) = C at *
  have hhC : SimC C.P C.h := by rw [← hC]; exact hh
  clear hC hh
  obtain ⟨S0, hrun, hhp, hoth, hla, huniq⟩ := hoist_inv _ _ hrun
  have hla' : ∀ (j : Nat) o d, ops[j]? = some o → isLA C.O C.f o = true → o.dst = some d → ∃ c, Sb.bx d = none ∧ S0.bx d = some c ∧ ∀ fr S2, S2.bx d = none → opR C fr S2 o = some (.loc d 0, S2.setB d (some c)) := fun j o d h1 h2 h3 => by
    obtain ⟨d', c, q1, q2, q3, q4⟩ := hla o (List.mem_of_getElem? h1) h2
    rw [h3] at q1; cases q1
    exact ⟨c, q2, q3, q4⟩
  obtain ⟨hend, hall⟩ := drawC_inv (C := C) (ops := ops) (fr0 := fr0) (S0 := S0) (an := ancs ops) ops 0 [] [] rfl hrun (fun l o' hl => by omega) (fun l o' hl => by omega) (fun q hq => by cases hq)
  have hok : ∀ j o, ops[j]? = some o → ∃ b, OKi C ops fr0 S0 j o b := fun j o ho => (hall j o (Nat.zero_le _) ho).1
  have hchk : ∀ j o, ops[j]? = some o → Chk C ops fr0 S0 (ancs ops) j o := fun j o ho => (hall j o (Nat.zero_le _) ho).2
  have fin : ∀ (L : Array Bool) (a : Act) (w : World) (β : Bt) (lam : Nat → Nat) (m : Nat), (∀ i, i < ops.length → L.getD i false = true) → m ≤ ops.length → (∀ i, m ≤ i → Effw C ops fr0 S0 i → L.getD i false = false) →
      Good C.P w0 H0 β0 (FD C ops fr0 S0 L ops.length) (rst C ops L (stp C ops fr0 S0 m).2) a w β lam → Moved W S1 a1 β1 l1 (rst C ops L (stp C ops fr0 S0 m).2) a β lam → Q .normal a w := by
    intro L a w β lam m hL hm hm2 hG hM
    rw [rst_all hL] at hG hM
    have hF : ∀ q, q ≤ ops.length → FD C ops fr0 S0 L q = (stp C ops fr0 S0 q).1 := by
      intro q
      induction q with
      | zero => intro _; rfl
      | succ q ih =>
        intro hq
        obtain ⟨o, ho⟩ : ∃ o, ops[q]? = some o := ⟨ops[q], by simp⟩
        obtain ⟨b, hb⟩ := hok q o ho
        unfold FD
        rw [hL q (by omega)]
        dsimp only
        rw [ho]
        dsimp only
        rw [ih (by omega), hb.next]
    have hT : (stp C ops fr0 S0 ops.length).2 = (stp C ops fr0 S0 m).2 := T_const hok _ hm (Nat.le_refl _) (fun i h1 h2 he => by
      have := hm2 i h1 he
      rw [hL i h2] at this; cases this)
    rw [hF _ (Nat.le_refl _)] at hG
    rw [← hT] at hG hM
    exact hk _ _ a w β lam hend hG hM
  have full : ∀ (L : Array Bool), L.size = ops.length → Region.ready .any ops.toArray L = [] → ∀ i, i < ops.length → L.getD i false = true := by
    intro L hs hr i
    induction i using Nat.strongRecOn with
    | _ i ih =>
      intro hi
      cases hL : L.getD i false with
      | true => rfl
      | false =>
        exfalso
        have : i ∈ Region.ready .any ops.toArray L := by
          refine mem_ready.2 ⟨?_, ops[i], by simp [hi], fun e he hb => ?_⟩
          · rw [Array.getD_eq_getD_getElem?] at hL ⊢
            rw [Array.getElem?_eq_getElem (by omega)] at hL ⊢
            exact hL
          · have hlt := inOrder_edges hord (j := i) (o := ops[i]) (by simp) e he hb
            exact ih e.on hlt (by omega)
        rw [hr] at this; cases this
  have main : ∀ (fuel : Nat) (L : Array Bool) (a : Act) (w : World) (β : Bt) (lam : Nat → Nat) (U : List Nat) (m : Nat), L.size = ops.length → U.length = fuel → (∀ i, i < ops.length → L.getD i false = false → i ∈ U) →
      (∀ i o, L.getD i false = true → ops[i]? = some o → ∀ e ∈ o.after, Region.binds .any e = true → L.getD e.on false = true) →
      m ≤ ops.length → (∀ i, i < m → Effw C ops fr0 S0 i → L.getD i false = true) → (∀ i, m ≤ i → Effw C ops fr0 S0 i → L.getD i false = false) →
      (∀ (i : Nat) o d, ops[i]? = some o → isLA C.O C.f o = true → o.dst = some d → L.getD i false = false → (stp C ops fr0 S0 m).2.bx d = S0.bx d) →
      Good C.P w0 H0 β0 (FD C ops fr0 S0 L ops.length) (rst C ops L (stp C ops fr0 S0 m).2) a w β lam → Moved W S1 a1 β1 l1 (rst C ops L (stp C ops fr0 S0 m).2) a β lam →
      wpAny C.P .any ops.toArray Q fuel L a w := by
    intro fuel
    induction fuel with
    | zero =>
      intro L a w β lam U m hs hU hUm hcl hm hm1 hm2 hI hG hM
      have hU0 : U = [] := List.length_eq_zero_iff.1 hU
      subst hU0
      have hL : ∀ i, i < ops.length → L.getD i false = true := fun i hi => by
        cases hq : L.getD i false with
        | true => rfl
        | false => exact absurd (hUm i hi hq) (by simp)
      refine ⟨?_, fin L a w β lam m hL hm hm2 hG hM⟩
      cases hr : Region.ready .any ops.toArray L with
      | nil => rfl
      | cons j js =>
        obtain ⟨h1, o, h2, _⟩ := mem_ready.1 (show j ∈ Region.ready .any ops.toArray L by rw [hr]; exact List.mem_cons_self ..)
        have hj : j < ops.length := by have := (Array.getElem?_eq_some_iff.1 h2).1; simpa using this
        have h3 := hL j hj
        rw [Array.getD_eq_getD_getElem?, Array.getElem?_eq_getElem (by omega)] at h1 h3
        simp only [Option.getD_some] at h1 h3
        rw [h1] at h3; cases h3
    | succ fuel ih =>
      intro L a w β lam U m hs hU hUm hcl hm hm1 hm2 hI hG hM
      refine ⟨fun hr => fin L a w β lam m (full L hs hr) hm hm2 hG hM, fun j hj => ?_⟩
      obtain ⟨hnj, o, ho, he⟩ := mem_ready.1 hj
      have ho : ops[j]? = some o := by simpa using ho
      have hjn := (List.getElem?_eq_some_iff.1 ho).1
      have hjL : j < L.size := by omega
      have hnj' : L.getD j false = false := by
        rw [Array.getD_eq_getD_getElem?, Array.getElem?_eq_getElem hjL] at hnj ⊢
        exact hnj
      have hanc : ∀ l, ((ancs ops).getD j 0).testBit l = true → L.getD l false = true := anc_in (D := fun i => L.getD i false = true) hcl j o ho he
      have hdesc : ∀ i oi, ops[i]? = some oi → L.getD i false = true → ((ancs ops).getD i 0).testBit j = true → False := fun i oi hoi hi hbit => by
        have := anc_in (D := fun i => L.getD i false = true) hcl i oi hoi (hcl i oi hi hoi) j hbit
        have this : L.getD j false = true := this
        rw [hnj'] at this; cases this
      have hslot : ∀ t ∈ touches ops o, getS (FD C ops fr0 S0 L ops.length) t = getS (stp C ops fr0 S0 j).1 t := by
        intro t ht
        have := FD_slot (L := L) (t := t) (j := j) hok (Nat.le_of_lt hjn) (fun i oi hij hoi hd => by
          rcases inOrder_pair hord hij hoi ho with q | q
          · exact hanc i q
          · exact absurd ht ((clash_false q.1).1 t hd).1) (fun i oi hij hoi hd => by
          cases hL : L.getD i false with
          | false => rfl
          | true =>
            rcases Nat.lt_or_ge j i with q | q
            · rcases inOrder_pair hord q ho hoi with q' | q'
              · exact (hdesc i oi hoi hL q').elim
              · exact absurd ht ((clash_false q'.1).2 t hd)
            · have : i = j := by omega
              subst this; rw [hnj'] at hL; cases hL) ops.length (Nat.le_refl _)
        rw [Nat.min_eq_right (Nat.le_of_lt hjn)] at this
        exact getS_of this
      obtain ⟨b, hb⟩ := hok j o ho
      have hwant : Region.wanted o (yielded ops.toArray a.tmps) = b := by
        have hg : guardV ops (FD C ops fr0 S0 L ops.length) o = some b := by rw [guardV_congr hslot]; exact hb.guard
        obtain ⟨b', fr', e1, _, e2⟩ := guard_sound hg hG.fr
        cases e1; exact e2
      have hset : FD C ops fr0 S0 (L.setIfInBounds j true) ops.length = putS (FD C ops fr0 S0 L ops.length) o.dst (sl C ops fr0 S0 j) := by
        rw [FD_set ho hjL hnj' (fun i oi hij hoi hL d hd => by
          rcases inOrder_pair hord hij ho hoi with q | q
          · exact (hdesc i oi hoi hL q).elim
          · exact ((clash_false q.1).1 d hd).2) ops.length (Nat.le_refl _), if_neg (by omega)]
      have hmono : ∀ x, L.getD x false = true → (L.setIfInBounds j true).getD x false = true := fun x hx => by
        rw [getD_set hjL]; split
        · rfl
        · exact hx
      have hjj : (L.setIfInBounds j true).getD j false = true := by rw [getD_set hjL, if_pos rfl]
      have hne : ∀ x, x ≠ j → (L.setIfInBounds j true).getD x false = L.getD x false := fun x hx => by rw [getD_set hjL, if_neg hx]
      have hjU : j ∈ U := hUm j hjn hnj'
      have hWo := hW o (List.mem_of_getElem? ho)
      have hIj : ∀ m', (∀ (i : Nat) o d, ops[i]? = some o → isLA C.O C.f o = true → o.dst = some d → L.getD i false = false → (stp C ops fr0 S0 m').2.bx d = S0.bx d) →
          ∀ (i : Nat) o d, ops[i]? = some o → isLA C.O C.f o = true → o.dst = some d → (L.setIfInBounds j true).getD i false = false → (stp C ops fr0 S0 m').2.bx d = S0.bx d := fun m' h i o' d h1 h2 h3 h4 => by
        rw [getD_set hjL] at h4
        split at h4
        · cases h4
        · exact h i o' d h1 h2 h3 h4
      -- the next stage
      have next : ∀ (a' : Act) (w' : World) (β' : Bt) (lam' : Nat → Nat) (m' : Nat), m' ≤ ops.length → (∀ i, i < m' → Effw C ops fr0 S0 i → (L.setIfInBounds j true).getD i false = true) → (∀ i, m' ≤ i → Effw C ops fr0 S0 i → (L.setIfInBounds j true).getD i false = false) →
          (∀ (i : Nat) o d, ops[i]? = some o → isLA C.O C.f o = true → o.dst = some d → (L.setIfInBounds j true).getD i false = false → (stp C ops fr0 S0 m').2.bx d = S0.bx d) →
          Good C.P w0 H0 β0 (putS (FD C ops fr0 S0 L ops.length) o.dst (sl C ops fr0 S0 j)) (rst C ops (L.setIfInBounds j true) (stp C ops fr0 S0 m').2) a' w' β' lam' → Moved W S1 a1 β1 l1 (rst C ops (L.setIfInBounds j true) (stp C ops fr0 S0 m').2) a' β' lam' → wpAny C.P .any ops.toArray Q fuel (L.setIfInBounds j true) a' w' := by
        intro a' w' β' lam' m' q1 q2 q3 q0 q4 q5
        refine ih (L.setIfInBounds j true) a' w' β' lam' (U.erase j) m' (by simpa using hs) (by rw [List.length_erase_of_mem hjU, hU]; rfl) (fun i hi hLi => ?_) (fun i oi hLi hoi e hem hbd => ?_) q1 q2 q3 q0 (by rw [hset]; exact q4) q5
        · have hij : i ≠ j := fun q => by subst q; rw [hjj] at hLi; cases hLi
          rw [hne i hij] at hLi
          exact (List.mem_erase_of_ne hij).2 (hUm i hi hLi)
        · by_cases hij : i = j
          · subst hij
            rw [ho] at hoi; cases hoi
            exact hmono _ (he e hem hbd)
          · rw [hne i hij] at hLi
            exact hmono _ (hcl i oi hLi hoi e hem hbd)
      unfold wpOp
      simp only [List.getElem?_toArray, ho, hwant]
      cases b with
      | false =>
        simp only [Bool.false_eq_true, if_false]
        have hnoteff : ∀ i, Effw C ops fr0 S0 i → i ≠ j := fun i ⟨oi, hoi, hw, _⟩ q => by
          subst q; rw [ho] at hoi; cases hoi
          have h1 := hb.guard
          unfold Wd at hw
          rw [hw] at h1; cases h1
        have hl : isLA C.O C.f o = false := by
          cases hl : isLA C.O C.f o with
          | false => rfl
          | true =>
            have h1 := hb.guard
            rw [LA_guard hl] at h1; cases h1
        refine next _ w β lam m hm (fun i hi hei => hmono i (hm1 i hi hei)) (fun i hi hei => by rw [hne i (hnoteff i hei)]; exact hm2 i hi hei) (hIj m hI) ?_ ?_
        rotate_left
        · rw [rst_ord ho hjL hl]
          exact hM.put hWo _ (BMv.refl _ _) (Bt.le_refl _)
        rw [rst_ord ho hjL hl]
        refine ⟨hG.rel, ?_, hG.ext⟩
        rw [(hb.no rfl).1]
        exact hG.fr.put (s := .und) rfl _
      | true =>
        simp only [if_true]
        have hcong : ∀ S, opRD C (FD C ops fr0 S0 L ops.length) S o = opRD C (stp C ops fr0 S0 j).1 S o := fun S => opRD_congr (ev_touch hslot)
        refine .inl ?_
        cases hl : isLA C.O C.f o with
        | true =>
          obtain ⟨T, d, _, hop, hd, _⟩ := LA_inv hl
          obtain ⟨c, g1, g2, g3⟩ := hla' j o d ho hl hd
          have hdue : Due C ops L d := ⟨j, o, ho, hl, hd, hnj'⟩
          have hsl : sl C ops fr0 S0 j = .loc d 0 := by
            have := hb.yes rfl
            unfold opRD opD at this
            rw [hl, hd] at this
            exact (congrArg Prod.fst (Option.some.inj this)).symm
          have hnotd : ¬ Due C ops (L.setIfInBounds j true) d := fun ⟨i, o', h1, h2, h3, h4⟩ => by
            have hij := huniq i j o' o h1 ho h2 hl (h3.trans hd.symm)
            subst hij
            rw [hjj] at h4; cases h4
          have hst : rst C ops (L.setIfInBounds j true) (stp C ops fr0 S0 m).2 = (rst C ops L (stp C ops fr0 S0 m).2).setB d (some c) := by
            refine St.ext' (fun e => ?_) rfl
            by_cases he : e = d
            · subst he
              rw [rst_not hnotd, St.setB_same, hI j o e ho hl hd hnj', g2]
            · rw [St.setB_ne _ _ he]
              have hde := due_set (C := C) ho hjL (e := e) (.inr (fun q => he (by rw [hd] at q; cases q; rfl)))
              by_cases hu : Due C ops L e
              · rw [rst_due hu, rst_due (hde.2 hu)]
              · rw [rst_not hu, rst_not fun q => hu (hde.1 q)]
          have hnoteff : ∀ i, Effw C ops fr0 S0 i → i ≠ j := fun i ⟨oi, hoi, hw, hk⟩ q => by
            subst q; rw [ho] at hoi; cases hoi
            rw [kindD_LA hl] at hk; cases hk
          refine op_sound (r := (sl C ops fr0 S0 j, rst C ops (L.setIfInBounds j true) (stp C ops fr0 S0 m).2)) hhC hG.n (by rw [hst, hsl]; exact g3 _ _ (rst_due hdue)) hG.rel hG.fr fun s S' w' v' β' lam' k1 k2 k3 k4 k5 k6 => ?_
          cases k1
          exact next _ w' β' lam' m hm (fun i hi hei => hmono i (hm1 i hi hei)) (fun i hi hei => by rw [hne i (hnoteff i hei)]; exact hm2 i hi hei) (hIj m hI) ⟨k2, k3.put k4 _, hG.ext.trans k5⟩ (hM.put hWo _ k6 k5.le)
        | false =>
        have step : ∀ m', m' ≤ ops.length → (∀ i, i < m' → Effw C ops fr0 S0 i → (L.setIfInBounds j true).getD i false = true) → (∀ i, m' ≤ i → Effw C ops fr0 S0 i → (L.setIfInBounds j true).getD i false = false) →
            (∀ (i : Nat) o d, ops[i]? = some o → isLA C.O C.f o = true → o.dst = some d → L.getD i false = false → (stp C ops fr0 S0 m').2.bx d = S0.bx d) →
            opRD C (FD C ops fr0 S0 L ops.length) (rst C ops L (stp C ops fr0 S0 m).2) o = some (sl C ops fr0 S0 j, rst C ops L (stp C ops fr0 S0 m').2) → o.wp C.P a w (wpAny C.P .any ops.toArray Q fuel (L.setIfInBounds j true)) Q := by
          intro m' q1 q2 q3 q0 q4
          rw [opRD_ord hl] at q4
          refine op_sound (r := (sl C ops fr0 S0 j, rst C ops L (stp C ops fr0 S0 m').2)) hhC hG.n q4 hG.rel hG.fr fun s S' w' v' β' lam' g1 g2 g3 g4 g5 g6 => ?_
          cases g1
          exact next _ w' β' lam' m' q1 q2 q3 (hIj m' q0) (by rw [rst_ord ho hjL hl]; exact ⟨g2, g3.put g4 _, hG.ext.trans g5⟩) (by rw [rst_ord ho hjL hl]; exact hM.put hWo _ g6 g5.le)
        have htagd : ∀ r, opR C (FD C ops fr0 S0 L ops.length) (stp C ops fr0 S0 m).2 o = some r → ∀ d, tagOf C (FD C ops fr0 S0 L ops.length) o = some d → (rst C ops L (stp C ops fr0 S0 m).2).bx d = (stp C ops fr0 S0 m).2.bx d := fun r hr d hd => by
          by_cases hu : Due C ops L d
          · rcases tag_loc hd with ⟨x, off, hx⟩ | h2
            · have h1 := ev_rel hG.rel hG.fr x
              rw [hx] at h1
              have h1 : ((rst C ops L (stp C ops fr0 S0 m).2).bx d).isSome = true := h1.1
              rw [rst_due hu] at h1; cases h1
            · rw [rst_due hu, h2 _ _ hr]
          · exact rst_not hu
        cases hkd : kindD C.P C.O C.f o with
        | pure =>
          have hnoteff : ∀ i, Effw C ops fr0 S0 i → i ≠ j := fun i ⟨oi, hoi, hw, hk⟩ q => by
            subst q; rw [ho] at hoi; cases hoi
            rw [hkd] at hk; cases hk
          exact step m hm (fun i hi hei => hmono i (hm1 i hi hei)) (fun i hi hei => by rw [hne i (hnoteff i hei)]; exact hm2 i hi hei) hI (by rw [hcong]; exact (opRD_pr (S2 := rst C ops L (stp C ops fr0 S0 m).2) (hb.yes rfl) (.inl hkd)).2)
        | read =>
          have hnoteff : ∀ i, Effw C ops fr0 S0 i → i ≠ j := fun i ⟨oi, hoi, hw, hk⟩ q => by
            subst q; rw [ho] at hoi; cases hoi
            rw [hkd] at hk; cases hk
          suffices hsuf : opRD C (stp C ops fr0 S0 j).1 (stp C ops fr0 S0 m).2 o = some (sl C ops fr0 S0 j, (stp C ops fr0 S0 m).2) by
            refine step m hm (fun i hi hei => hmono i (hm1 i hi hei)) (fun i hi hei => by rw [hne i (hnoteff i hei)]; exact hm2 i hi hei) hI ?_
            rw [← hcong] at hsuf
            refine read_sameD hsuf hkd ?_
            rw [opRD_ord hl] at hsuf
            have ht := htagd _ hsuf
            unfold sameOn
            split
            · rfl
            · rename_i d hd; exact ht d hd
          obtain ⟨r1, r2⟩ := read_any hok hchk ho hb hkd
          rcases Nat.le_total m j with q | q
          · refine r1 (j - m) m (by omega) fun i h1 h2 hei => ?_
            cases hbit : ((ancs ops).getD j 0).testBit i with
            | false => rfl
            | true =>
              have h3 := hanc i hbit
              rw [hm2 i h1 hei] at h3; cases h3
          · refine r2 m q hm fun i h1 h2 hei => ?_
            cases hbit : ((ancs ops).getD i 0).testBit j with
            | false => rfl
            | true =>
              have h3 := hm1 i h2 hei
              obtain ⟨oi, hoi, _⟩ := hei
              exact (hdesc i oi hoi h3 hbit).elim
        | eff =>
          have hej : Effw C ops fr0 S0 j := ⟨o, ho, hb.guard, hkd⟩
          have hmj : m ≤ j := by
            rcases Nat.lt_or_ge j m with q | q
            · have := hm1 j q hej
              rw [hnj'] at this; cases this
            · exact q
          have hno : ∀ i, m ≤ i → i < j → ¬ Effw C ops fr0 S0 i := fun i h1 h2 hei => by
            have h3 := hm2 i h1 hei
            obtain ⟨oi, hoi, hw, hk⟩ := hei
            rcases inOrder_pair hord h2 hoi ho with q | q
            · rw [hanc i q] at h3; cases h3
            · exact q.2 ⟨hk, hkd⟩
          have hT := T_const hok j hmj (Nat.le_of_lt hjn) hno
          have hy := hb.yes rfl
          rw [hT, ← hcong, opRD_ord hl] at hy
          have hk' : kindOf C.P o.op = .eff := by rw [← kindD_ord hl]; exact hkd
          have htag := eff_tag hy hk'
          have hbx := htagd _ hy
          refine step (j + 1) hjn (fun i hi hei => ?_) (fun i hi hei => ?_) (fun i o' d h1 h2 h3 h4 => ?_) ?_
          · rcases Nat.lt_or_ge i m with q | q
            · exact hmono i (hm1 i q hei)
            · rcases Nat.lt_or_ge i j with q' | q'
              · exact absurd hei (hno i q q')
              · have : i = j := by omega
                subst this; exact hjj
          · rw [hne i (by omega)]
            exact hm2 i (by omega) hei
          · have hdue : Due C ops L d := ⟨i, o', h1, h2, h3, h4⟩
            have hm0 := hI i o' d h1 h2 h3 h4
            obtain ⟨c, _, hc, _⟩ := hla' i o' d h1 h2 h3
            have hnt : tagOf C (FD C ops fr0 S0 L ops.length) o ≠ some d := fun q => by
              have := hbx d q
              rw [rst_due hdue, hm0, hc] at this; cases this
            rw [← hm0]
            cases ht : tagOf C (FD C ops fr0 S0 L ops.length) o with
            | none => rw [ht] at htag; exact congrFun htag d
            | some e => rw [ht] at htag; exact htag.2 d fun q => hnt (by rw [ht, q])
          · rw [opRD_ord hl]
            refine (eff_bx (bx2 := (rst C ops L (stp C ops fr0 S0 m).2).bx) hy hk' hbx).trans ?_
            congr 2
            refine St.ext' (fun d => ?_) rfl
            have he : tagOf C (FD C ops fr0 S0 L ops.length) o ≠ some d → (stp C ops fr0 S0 (j + 1)).2.bx d = (stp C ops fr0 S0 m).2.bx d := fun q => by
              cases ht : tagOf C (FD C ops fr0 S0 L ops.length) o with
              | none => rw [ht] at htag; exact congrFun htag d
              | some e => rw [ht] at htag; exact htag.2 d fun q' => q (by rw [ht, q'])
            have hd : tagOf C (FD C ops fr0 S0 L ops.length) o = some d → ¬ Due C ops L d := fun q hu => by
              obtain ⟨i, o', h1, h2, h3, h4⟩ := id hu
              obtain ⟨c, _, hc, _⟩ := hla' i o' d h1 h2 h3
              have := hbx d q
              rw [rst_due hu, hI i o' d h1 h2 h3 h4, hc] at this; cases this
            show pickB (tagOf C (FD C ops fr0 S0 L ops.length) o) (stp C ops fr0 S0 (j + 1)).2.bx (rst C ops L (stp C ops fr0 S0 m).2).bx d = _
            have keep : tagOf C (FD C ops fr0 S0 L ops.length) o ≠ some d → (rst C ops L (stp C ops fr0 S0 m).2).bx d = (rst C ops L (stp C ops fr0 S0 (j + 1)).2).bx d := fun q => by
              by_cases hu : Due C ops L d
              · rw [rst_due hu, rst_due hu]
              · rw [rst_not hu, rst_not hu, he q]
            cases ht : tagOf C (FD C ops fr0 S0 L ops.length) o with
            | none => exact keep (by rw [ht]; exact fun q => by cases q)
            | some e =>
              show (if d = e then (stp C ops fr0 S0 (j + 1)).2.bx d else (rst C ops L (stp C ops fr0 S0 m).2).bx d) = _
              by_cases q : d = e
              · subst q
                rw [if_pos rfl, rst_not (hd ht)]
              · rw [if_neg q]
                exact keep (by rw [ht]; exact fun q' => q (by cases q'; rfl))
  have hrep : ∀ i, (Array.replicate ops.length false).getD i false = false := fun i => by
    rw [Array.getD_eq_getD_getElem?, Array.getElem?_replicate]
    split <;> rfl
  have hFD : ∀ m, FD C ops fr0 S0 (Array.replicate ops.length false) m = fr0 := by
    intro m
    induction m with
    | zero => rfl
    | succ m ih => unfold FD; rw [hrep]; exact ih
  have hst0 : rst C ops (Array.replicate ops.length false) S0 = Sb := by
    refine St.ext' (fun d => ?_) hhp
    by_cases hu : Due C ops (Array.replicate ops.length false) d
    · rw [rst_due hu]
      obtain ⟨i, o', h1, h2, h3, h4⟩ := hu
      exact (hla' i o' d h1 h2 h3).choose_spec.1.symm
    · rw [rst_not hu]
      refine hoth d fun o ho hl hd => ?_
      obtain ⟨i, hi⟩ := List.mem_iff_getElem?.1 ho
      exact hu ⟨i, o, hi, hl, hd, hrep i⟩
  refine main ops.length _ a w β lam (List.range ops.length) 0 (by simp) (by simp) (fun i hi _ => List.mem_range.2 hi) ?_ (Nat.zero_le _) (fun i hi => by omega) (fun i _ _ => hrep i) (fun i o d _ _ _ _ => rfl) ?_ ?_
  · intro i o hi
    rw [hrep] at hi; cases hi
  · rw [hFD]
    show Good C.P w0 H0 β0 fr0 (rst C ops _ S0) a w β lam
    rw [hst0]; exact hG
  · show Moved W S1 a1 β1 l1 (rst C ops _ S0) a β lam
    rw [hst0]; exact hM
end Go.AM
/- The abstract machine: it is sound. -/
set_option linter.unusedVariables false
namespace Go.AM
open Go
theorem sound {P : Program} {O : Orc} {ext : Ext1} (hm : P.follows .mixedOrders = true) (he : ExtC P ext) (hx : XtC P O.xt) : SimC P (run P O ext) := run_sound hm (fun O h f hh => draws_sound O h f hh) he hx
theorem sound1 {P : Program} {O : Orc} {ext : Ext1} (hm : P.follows .mixedOrders = true) (he : ExtC P ext) (hx : XtC P O.xt) {f : FuncId} (hf : O.xt f = none) {args : List Value} {H : Hp} {v : Value} {H' : Hp} (h : run P O ext f args H = some (v, H')) :
    Enters P f ∧ ∀ args' w β, LRel β args args' → Rel P w H β → Calls P f args'.toArray w fun e w' => ∃ v' β', e = .returned v' ∧ Rel P w' H' β' ∧ Ext w.heap.size w H β w' H' β' ∧ VRel β' v v' := by
  rcases sound (O := O) hm he hx f args H v H' h with h1 | ⟨_, h2, _⟩
  · exact h1
  · exact absurd h2 (run_body hf h)
#print axioms sound
end Go.AM
/- The abstract machine: from a run to a row. -/
set_option linter.unusedVariables false
namespace Go.AM
open Go Go.ChangeShapes Go.WideShapes Go.ChangeAt Go.RowKit

/-- A run that ends in 'true' over a heap that owns nothing. -/
theorem below_of_run {P : Program} {O : Orc} {ext : Ext1} (hm : P.follows .mixedOrders = true) (he : ExtC P ext) {f : FuncId} {W : World} {args : Array Value} {H H' : Hp} {β : Bt} {xs : List Value}
    (hR : Rel P W H β) (hno : ∀ i o, H.get i = some o → o.own = false) (ha : LRel β xs args.toList) (hrun : run P O ext f xs H = some (.bool true, H')) (hx : XtC P O.xt := by intro f e h; cases h) (hxf : O.xt f = none := by rfl) :
    Calls P f args W fun e W' => e = .returned (.bool true) ∧ Below W.heap.size W W' := by
  have h := (sound1 (O := O) hm he hx hxf hrun).2 args.toList W β ha hR
  rw [show args.toList.toArray = args from by simp] at h
  refine h.mono fun e W' ⟨v', β', h1, h2, h3, h4⟩ => ?_
  cases h4
  exact ⟨h1, h3.os, h3.tape, h3.output, h3.size, fun k hk => h3.frame k hk fun ⟨i, o, x, g1, g2, _, _⟩ => by rw [hno i o g1] at g2; cases g2⟩

theorem trodAll_below {HH : Type} {enc : TypeId × Value → HH} {P : Program} (hl : laidOutB P = true) {W W' : World} (hb : Below W.heap.size W W') :
    ∀ {ts : List TypeId} {vs : List Value} {ds : List (DataW HH)} {ps : List MemPlace}, (∀ t ∈ ts, P.readableRec t = true ∧ t < P.types.size) → DataW.TrodAll enc P W 0 (fun _ => true) true ts vs ds ps →
      (∀ x ∈ ps, x.block < W.heap.size) → DataW.TrodAll enc P W' 0 (fun b => decide (b < W.heap.size)) true ts vs ds ps
  | [], [], [], ps, _, h, _ => h
  | t :: ts, v :: vs, d :: ds, ps, ht, h, hlt => by
    obtain ⟨p, q, h1, h2, e⟩ := h
    have h0 := ht t (List.mem_cons_self ..)
    exact ⟨p, q, Below.trod hl h0.1 h0.2 h1 hb (fun x hx => hlt x (by rw [e]; simp [hx])), trodAll_below hl hb (fun t h => ht t (List.mem_cons_of_mem _ h)) h2 (fun x hx => hlt x (by rw [e]; simp [hx])), e⟩
  | [], _ :: _, _, _, _, h, _ => h.elim
  | [], [], _ :: _, _, _, h, _ => h.elim
  | _ :: _, [], _, _, _, h, _ => h.elim
  | _ :: _, _ :: _, [], _, _, h, _ => h.elim

theorem post_true {HH : Type} {enc : TypeId × Value → HH} {P : Program} {f : Func} {s : ChangeSpec} (hl : laidOutB P = true) (hp : ∀ t ∈ f.params.toList, P.readableRec t = true ∧ t < P.types.size) (hv : s.vars = [])
    {tb : TypeId} (hr : f.resultTypes = #[tb]) (hb : P.underlying tb = some .bool) {W W' : World} {args : Array Value} {ds gs : List (DataW HH)} {before : List MemPlace}
    (hW : DataW.Whole enc P f.params.toList s.vars false W args.toList ds gs before) (hB : Below W.heap.size W W') (hfn : s.fn HH (ds ++ gs) = { results := [.lit (.bool true)], args := ds }) :
    s.post enc P f false true false false W args (.bool true) W' := by
  have hlt := hW.lt
  obtain ⟨p, q, h1, h2, e, h3, h4⟩ := id hW
  rw [hv] at h2
  have hq : gs = [] ∧ q = [] := by
    cases gs with
    | nil => exact ⟨rfl, h2⟩
    | cons g gs => exact h2.elim
  refine ⟨ds, gs, before, [], p, [], hW, ?_, ?_, ?_, ?_, fun h => by cases h⟩
  · rw [hfn, hr]
    exact trodAll_cons_mk (shut_bool hb _) trodAll_mk0
  · rw [hfn]
    exact trodAll_below hl hB hp h1 (fun x hx => hlt x (by rw [e]; simp [hx]))
  · rw [hfn, hv]; rfl
  · exact hB.frame _

/-- The package variables have their blocks. -/
theorem shaped_size {P : Program} {W : World} (h : W.ShapedOpen P) (hg : P.globals.size = 0 ∨ ∃ x, (((begin P (fun _ _ => 0) default).world.heap[P.globals.size - 1]?).bind Obj.row?) = some x) : P.globals.size ≤ W.heap.size := by
  rcases hg with hg | ⟨⟨z, t⟩, hx⟩
  · omega
  · rcases Nat.eq_zero_or_pos P.globals.size with h0 | h0
    · omega
    · obtain ⟨cs, hc, _⟩ := h.1 (P.globals.size - 1) z t (by omega) hx
      have := (Array.getElem?_eq_some_iff.1 hc).1
      omega

/-- **From a run to a row**, for a row without package variables and with a condition. -/
theorem returns_true {C : Checked} {os : Os} {f : FuncId} {fn : Func} {s : OpenSpec} {HH : Type} {enc : TypeId × Value → HH} {k : (H : Type) → List (DataW H) → Bool} (hk : s.cond = some k) {F : Stop.Interp} {conds : List PathCond}
    (own : ownKnob C.prog.godebug = none) (started : os.Started) (noInit : C.prog.inits.idxOf? f = none) (hfn : C.prog.funcs[f]? = some fn)
    (witness : ∃ (w : World) (tape : Tape) (i : Input), w.os = os ∧ (w.forCall tape i).Shaped C.prog ∧ i.vars = [] ∧ Input.okWide C.prog (w.forCall tape i) .any w.heap.size f i ∧
      s.pre6 enc C.prog fn conds false (w.forCall tape i).memory i.args ∧ ({} : Assume).holds C.prog (lone (Frame.enter C.prog f i.args .normal) [] (w.forCall tape i)))
    (hl : laidOutB C.prog = true) (hp : ∀ t ∈ fn.params.toList, C.prog.readableRec t = true ∧ t < C.prog.types.size) (hv : s.vars = []) {tb : TypeId} (hr : fn.resultTypes = #[tb]) (hb : C.prog.underlying tb = some .bool)
    (hg : C.prog.globals.size = 0 ∨ ∃ x, (((begin C.prog (fun _ _ => 0) default).world.heap[C.prog.globals.size - 1]?).bind Obj.row?) = some x)
    (hsp : ∀ ds : List (DataW HH), ds.length = fn.params.size → (s.at F).fn HH ds = { results := [.lit (.bool true)], args := ds })
    {O : Orc} {ext : Ext1} (hm : C.prog.follows .mixedOrders = true) (he : ExtC C.prog ext)
    (main : ∀ (W : World) (base : Nat) (args : Array Value) (ds : List (DataW HH)) (ps : List MemPlace), C.prog.globals.size ≤ W.heap.size →
      (∀ (j : Nat) t v, fn.params[j]? = some t → args[j]? = some v → Value.okWide C.prog W .any base t v) → DataW.TrodAll enc C.prog W 0 (fun _ => true) true fn.params.toList args.toList ds ps → k HH ds = true →
      ∃ (H0 H1 : Hp) (β : Bt) (xs : List Value), Rel C.prog W H0 β ∧ (∀ i o, H0.get i = some o → o.own = false) ∧ LRel β xs args.toList ∧ run C.prog O ext f xs H0 = some (.bool true, H1))
    (hx : XtC C.prog O.xt := by intro f e h; cases h) (hxf : O.xt f = none := by rfl) :
    ReturnsInHanded {} C os f .any (s.pre6 enc C.prog fn conds false) ((s.at F).post enc C.prog fn false true false false) := by
  refine returnsInHanded_of_calls own started noInit witness ?_
  intro w tape i _ hsh _ hok hpre _
  obtain ⟨_, _, _, fn', hfn', _, _, _, _, hval⟩ := hok
  have e : fn' = fn := Option.some.inj (hfn'.symm.trans hfn)
  subst e
  obtain ⟨ds, gs, before, hw, hc, hkk⟩ := (OpenSpec.pre_some hk conds false _ _).1 hpre.1
  have hw' := DataW.Whole.of_heap (w' := w.forCall tape i) (by rfl) hw
  obtain ⟨p, q, h1, h2, e, _, _⟩ := id hw'
  have hgs : gs = [] := by
    rw [hv] at h2
    cases gs with
    | nil => rfl
    | cons g gs => exact h2.elim
  subst hgs
  rw [List.append_nil] at hkk
  obtain ⟨H0, H1, β, xs, g1, g2, g3, g4⟩ := main (w.forCall tape i) _ i.args ds p (shaped_size hsh hg) hval h1 hkk
  refine (below_of_run hm he g1 g2 g3 g4 hx hxf).mono fun e W' ⟨h3, h4⟩ => ?_
  subst h3
  have hlen : ds.length = fn'.params.size := by
    have : ∀ {ts : List TypeId} {vs : List Value} {ds : List (DataW HH)} {ps : List MemPlace}, DataW.TrodAll enc C.prog (w.forCall tape i) 0 (fun _ => true) true ts vs ds ps → ds.length = ts.length := by
      intro ts
      induction ts with
      | nil => intro vs ds ps h; cases vs <;> cases ds <;> first | rfl | exact h.elim
      | cons t ts ih => intro vs ds ps h; cases vs <;> cases ds <;> first | exact h.elim | (obtain ⟨p, q, _, h2, _⟩ := h; simp [ih h2])
    simpa using this h1
  exact ChangeSpec.post_blind (post_true (s := s.at F) hl hp hv hr hb hw' h4 (by rw [List.append_nil]; exact hsp ds hlen))
end Go.AM
/- The abstract machine: from a run to a row over package variables that are laid. -/
set_option linter.unusedVariables false
namespace Go.AM
open Go Go.ChangeShapes Go.WideShapes Go.ChangeAt Go.RowKit
theorem trodAll_length {HH : Type} {enc : TypeId × Value → HH} {P : Program} {W : World} : ∀ {ts : List TypeId} {vs : List Value} {ds : List (DataW HH)} {ps : List MemPlace}, DataW.TrodAll enc P W 0 (fun _ => true) true ts vs ds ps → ds.length = ts.length := by
  intro ts
  induction ts with
  | nil => intro vs ds ps h; cases vs <;> cases ds <;> first | rfl | exact h.elim
  | cons t ts ih => intro vs ds ps h; cases vs <;> cases ds <;> first | exact h.elim | (obtain ⟨p, q, _, h2, _⟩ := h; simp [ih h2])
theorem returns_true_laid {C : Checked} {os : Os} {f : FuncId} {fn : Func} {s : OpenSpec} {HH : Type} {enc : TypeId × Value → HH} {k : (H : Type) → List (DataW H) → Bool} (hk : s.cond = some k) {F : Stop.Interp} {conds : List PathCond} {laid : List (String × DataW Unit)}
    (own : ownKnob C.prog.godebug = none) (started : os.Started) (noInit : C.prog.inits.idxOf? f = none) (hfn : C.prog.funcs[f]? = some fn)
    (witness : ∃ (w : World) (tape : Tape) (i : Input), w.os = os ∧ (w.forCall tape i).Shaped C.prog ∧ i.vars = [] ∧ Input.okWide C.prog (w.forCall tape i) .any w.heap.size f i ∧
      s.preRow enc C.prog fn conds false laid (w.forCall tape i).memory i.args ∧ ({} : Assume).holds C.prog (lone (Frame.enter C.prog f i.args .normal) [] (w.forCall tape i)))
    (hl : laidOutB C.prog = true) (hp : ∀ t ∈ fn.params.toList, C.prog.readableRec t = true ∧ t < C.prog.types.size) (hv : s.vars = []) {tb : TypeId} (hr : fn.resultTypes = #[tb]) (hb : C.prog.underlying tb = some .bool)
    (hg : C.prog.globals.size = 0 ∨ ∃ x, (((begin C.prog (fun _ _ => 0) default).world.heap[C.prog.globals.size - 1]?).bind Obj.row?) = some x)
    (hsp : ∀ ds : List (DataW HH), ds.length = fn.params.size → (s.at F).fn HH ds = { results := [.lit (.bool true)], args := ds })
    {O : Orc} {ext : Ext1} (hm : C.prog.follows .mixedOrders = true) (he : ExtC C.prog ext)
    (main : ∀ (W : World) (base : Nat) (args : Array Value) (ds : List (DataW HH)) (ps : List MemPlace), C.prog.globals.size ≤ W.heap.size →
      (∀ (j : Nat) t v, fn.params[j]? = some t → args[j]? = some v → Value.okWide C.prog W .any base t v) → DataW.TrodAll enc C.prog W 0 (fun _ => true) true fn.params.toList args.toList ds ps → k HH ds = true → laidMetH C.prog laid W →
      ∃ (H0 H1 : Hp) (β : Bt) (xs : List Value), Rel C.prog W H0 β ∧ (∀ i o, H0.get i = some o → o.own = false) ∧ LRel β xs args.toList ∧ run C.prog O ext f xs H0 = some (.bool true, H1))
    (hx : XtC C.prog O.xt := by intro f e h; cases h) (hxf : O.xt f = none := by rfl) :
    ReturnsInHanded {} C os f .any (s.preRow enc C.prog fn conds false laid) ((s.at F).post enc C.prog fn false true false false) := by
  refine returnsInHanded_of_row own started noInit hfn witness ?_
  intro W base args ds gs before hval hw hc hkk _ hL hsh _
  have hkk := hkk k hk
  obtain ⟨p, q, h1, h2, e, _, _⟩ := id hw
  have hgs : gs = [] := by
    rw [hv] at h2
    cases gs with
    | nil => rfl
    | cons g gs => exact h2.elim
  subst hgs
  rw [List.append_nil] at hkk
  obtain ⟨H0, H1, β, xs, g1, g2, g3, g4⟩ := main W base args ds p (shaped_size hsh hg) hval h1 hkk hL
  refine (below_of_run hm he g1 g2 g3 g4 hx hxf).mono fun e W' ⟨h3, h4⟩ => ?_
  subst h3
  have hlen : ds.length = fn.params.size := by simpa using trodAll_length h1
  exact ⟨_, rfl, post_true (s := s.at F) hl hp hv hr hb hw h4 (by rw [List.append_nil]; exact hsp ds hlen)⟩
end Go.AM
/- The abstract machine: library functions that the model answers at once. -/
set_option linter.unusedVariables false
namespace Go.AM
open Go
def add64 (l : List Value) : Option Value :=
  match l with
  | [.int .u64 (.ofNat x), .int .u64 (.ofNat y), .int .u64 (.ofNat c)] => match Nat.ble c 1 with
    | true => some (.tuple #[.int .u64 (((x + y + c) % 18446744073709551616 : Nat) : Int), .int .u64 (((x + y + c) / 18446744073709551616 : Nat) : Int)])
    | false => none
  | _ => none
theorem LRel.ints3 {β : Bt} {k1 k2 k3 : IntKind} {a b c : Int} {l : List Value} (h : LRel β [.int k1 a, .int k2 b, .int k3 c] l) : l = [.int k1 a, .int k2 b, .int k3 c] := by
  obtain ⟨h1, h2⟩ := h
  match l, h1 with
  | [x, y, z], _ =>
    have e0 := h2 0 _ x rfl rfl
    have e1 := h2 1 _ y rfl rfl
    have e2 := h2 2 _ z rfl rfl
    cases e0; cases e1; cases e2
    rfl
theorem add64_xt {P : Program} {f : FuncId} {fn : Func} (hf : P.funcs[f]? = some fn) (hname : (fn.name == "runtime.NumGoroutine") = false) (hb : fn.body.isNone = true) (hn : Extern.findNext fn = none) (he : Extern.find fn = some add64Entry)
    (args : List Value) (v : Value) (h : add64 args = some v) : XT P f args v := by
  unfold add64 at h
  split at h
  · rename_i x y c
    split at h
    · rename_i hc
      cases h
      have hc : c ≤ 1 := Nat.le_of_ble_eq_true hc
      intro args' β w hl
      have hl : LRel β [.int .u64 (x : Int), .int .u64 (y : Int), .int .u64 (c : Int)] args' := hl
      obtain rfl := hl.ints3
      refine ⟨.tuple #[.int .u64 (((x + y + c) % 18446744073709551616 : Nat) : Int), .int .u64 (((x + y + c) / 18446744073709551616 : Nat) : Int)], ?_, ?_⟩
      · refine .tuple _ _ rfl fun k v v' h1 h2 => ?_
        have := h1.symm.trans h2
        cases this
        match k, h1 with
        | 0, h1 => cases h1; exact .int _ _
        | 1, h1 => cases h1; exact .int _ _
        | k + 2, h1 => cases h1
      · rw [run_callFunc_extern hf hname hb hn he, run_add64 x y c (by omega) (by omega) (by omega) (by omega)]
        simp only [Result.andThen]
        congr 5 <;> omega
    · cases h
  · cases h
end Go.AM
namespace Go.AM.N14
open Go Go.AM
set_option linter.unusedVariables false
set_option maxRecDepth 100000
def orc : Orc := { mkOrc [(3, [2, 5, 7]), (4, [4, 5, 6, 9, 11, 13, 15, 17, 19, 21, 22, 23, 24, 25, 26, 27, 29, 31]), (5, [4, 5, 9, 11]), (6, [1, 3, 5, 7, 9]), (7, [1, 2, 4]), (8, [1]), (9, [2]), (10, [2]), (12, [2, 3, 4, 6, 7]), (14, [2, 3, 4, 6, 7]), (15, [2]), (16, [2]), (17, [4]), (18, [4]), (19, [1]), (20, [1, 2, 4]), (21, [1, 2, 6, 9]), (22, [2, 3, 4, 6, 7, 9]), (23, [2, 3, 4, 6, 7]), (24, [4, 5, 6, 7, 8, 10, 14, 17, 19]), (25, [2]), (27, [2]), (29, [2, 3, 4, 5, 7, 9]), (30, [2, 3, 4]), (31, [2]), (32, [4]), (33, [1, 2, 8]), (34, [1]), (35, [1]), (36, [2, 3, 4, 5, 7, 9]), (37, [2, 3, 4, 5]), (39, [2, 3, 7, 8]), (40, [2, 3, 7]), (41, [4, 5, 6, 7, 8, 12]), (44, [2]), (45, [2]), (46, [3]), (51, [3]), (55, [6]), (56, [4, 5, 6, 7]), (57, [2, 3, 4, 6]), (58, [2, 3, 4, 7]), (59, [2, 3, 4, 6]), (60, [2, 3, 4, 5]), (61, [4, 5, 6, 8, 11]), (62, [3, 4, 5, 6, 9, 14]), (66, [1]), (67, [3]), (68, [3]), (69, [15]), (71, [4]), (73, [5, 6]), (76, [1]), (78, [2, 6, 7]), (79, [4, 6, 9]), (83, [14]), (85, [4]), (86, [6]), (87, [5, 6])]
  [(3, [(11, some ([], []))]), (4, [(29, some ([33], [])), (25, some ([], [])), (22, some ([], [])), (18, some ([], [])), (13, some ([], [])), (8, some ([], []))]), (5, [(17, some ([], [])), (13, some ([], [])), (9, some ([], [])), (5, some ([], []))]), (8, [(3, some ([], []))]), (19, [(3, some ([], []))]), (24, [(6, some ([12], [])), (3, some ([], [8]))]), (29, [(3, some ([], [4, 5]))]), (33, [(5, some ([], [2]))]), (36, [(3, some ([], [4, 5]))]), (41, [(17, some ([112], [])), (15, some ([83], [])), (12, some ([60], [])), (9, some ([38], [])), (6, some ([19], []))]), (44, [(13, some ([81], []))]), (51, [(26, some ([], [])), (21, some ([], [])), (5, some ([], [])), (3, some ([], []))]), (64, [(6, some ([4], []))]), (67, [(8, some ([27], []))]), (68, [(12, some ([60], [])), (4, some ([13], []))]), (69, [(7, some ([5], [])), (3, some ([], []))]), (73, [(10, some ([72], [])), (13, some ([10, 11], []))]), (80, [(4, some ([0, 2], []))]), (92, [(5, some ([], [])), (3, some ([], []))]), (96, [(3, some ([], []))]), (99, [(3, some ([], []))]), (100, [(5, some ([], [])), (3, some ([], []))])]
  [(3, [(19, [10, 11, 12, 13, 14], [])]), (21, [(8, [7], [6])]), (24, [(16, [15, 61], [8, 10, 14]), (7, [12, 46], [])]), (33, [(8, [56], [8])]), (34, [(2, [4], [])]), (35, [(2, [3], [])]), (39, [(5, [20], [7])]), (40, [(4, [20], [7])]), (44, [(10, [8], [])]), (51, [(6, [35], [])]), (61, [(4, [9, 17], [8])]), (69, [(4, [], [15])]), (73, [(21, [21, 99], []), (15, [20, 88], []), (4, [10, 11, 12, 13, 31], [])]), (83, [(16, [8, 10], []), (11, [8, 10, 36], []), (2, [18], [])])] with xt := look none [(89, some add64)] }
noncomputable def m3 (R : Handler) (x0 x1 : Value) (H0 : Hp) : Option (Value × Hp) :=
 pCallF R 6 [] H0 fun r1 H2 =>
 pUn .not r1 fun v3 =>
 pBool v3 fun b4 => br b4
 (some ((.bool false), H2))
 (pCell 5 true (cellsL x0) 0 fun v5 =>
 pCallF R 7 [v5] H2 fun r6 H7 =>
 pExtract r6 0 fun v8 =>
 pExtract r6 1 fun v9 =>
 pSplice 5 [.int .i64 0, .int .u64 0, .int .u64 0, .int .u64 0, .int .u64 0] 0 v8 fun c10 =>
 pCell 5 true (cellsL x0) 0 fun v11 =>
 pCallF R 8 [v11] H7 fun r12 H13 =>
 pUn .not r12 fun v14 =>
 pBool v14 fun b15 => br b15
 (pUn .not v9 fun v16 =>
 pBool v16 fun b17 => br b17
 (pCell 5 true c10 0 fun v18 =>
 pBuild Go.Proofs.Tryd.prog 24 [] fun v19 =>
 pBin Go.Proofs.Tryd.prog .eql 24 v18 v19 fun v20 =>
 some (v20, H13))
 (some ((.bool false), H13)))
 (pUn .not v9 fun v21 =>
 pBool v21 fun b22 => br b22
 (pCell 5 true c10 0 fun v23 =>
 pBuild Go.Proofs.Tryd.prog 24 [] fun v24 =>
 pBin Go.Proofs.Tryd.prog .eql 24 v23 v24 fun v25 =>
 pBool v25 fun b26 => br b26
 (pCell 5 true (cellsL x0) 0 fun v27 =>
 pCallF R 9 [v27, x1] H13 fun r28 H29 =>
 pUn .not r28 fun v30 =>
 pBool v30 fun b31 => br b31
 (pCell 5 true (cellsL x0) 0 fun v32 =>
 pCell 1 false (cellsL x0) 3 fun v33 =>
 pCallF R 9 [v32, v33] H29 fun r34 H35 =>
 pUn .not r34 fun v36 =>
 pBool v36 fun b37 => br b37
 (pCell 5 true (cellsL x0) 0 fun v38 =>
 pCell 1 false (cellsL x0) 4 fun v39 =>
 pCallF R 9 [v38, v39] H35 fun r40 H41 =>
 pUn .not r40 fun v42 =>
 some (v42, H41))
 (some ((.bool false), H35)))
 (some ((.bool false), H29)))
 (some ((.bool false), H13)))
 (pCell 5 true c10 0 fun v43 =>
 pCallF R 7 [v43] H13 fun r44 H45 =>
 pExtract r44 0 fun v46 =>
 pExtract r44 1 fun v47 =>
 pSplice 5 [.int .i64 0, .int .u64 0, .int .u64 0, .int .u64 0, .int .u64 0] 0 v46 fun c48 =>
 bindO (
 pUn .not v47 fun v49 =>
 pBool v49 fun b50 => br b50
 (some (.ret, [(.bool false)], H45))
 (pCell 5 true c10 0 fun v51 =>
 pCell 5 true c48 0 fun v52 =>
 pBin Go.Proofs.Tryd.prog .neq 24 v51 v52 fun v53 =>
 pBool v53 fun b54 => br b54
 (some (.ret, [(.bool false)], H45))
 (pCell 1 false c10 0 fun v55 =>
 pCell 1 false (cellsL x0) 0 fun v56 =>
 pBin Go.Proofs.Tryd.prog .neq 3 v55 v56 fun v57 =>
 pBool v57 fun b58 => br b58
 (some (.ret, [(.bool false)], H45))
 (pCell 5 true (cellsL x0) 0 fun v59 =>
 pCell 1 false c10 3 fun v60 =>
 pCallF R 9 [v59, v60] H45 fun r61 H62 =>
 pUn .not r61 fun v63 =>
 pBool v63 fun b64 => br b64
 (some (.ret, [(.bool false)], H62))
 (pCell 5 true (cellsL x0) 0 fun v65 =>
 pCell 1 false c10 4 fun v66 =>
 pCallF R 9 [v65, v66] H62 fun r67 H68 =>
 pUn .not r67 fun v69 =>
 pBool v69 fun b70 => br b70
 (some (.ret, [(.bool false)], H68))
 (pCell 5 true (cellsL x0) 0 fun v71 =>
 pCallF R 9 [v71, x1] H68 fun r72 H73 =>
 pCell 5 true c10 0 fun v74 =>
 pCallF R 10 [v74, x1] H73 fun r75 H76 =>
 pBin Go.Proofs.Tryd.prog .neq 4 r72 r75 fun v77 =>
 pBool v77 fun b78 => br b78
 (some (.ret, [(.bool false)], H76))
 (some (.next, [], H76)))))))) fun q79 l80 H81 => onCtl q79
 (pCell 1 false (cellsL x0) 0 fun v83 =>
 pBin Go.Proofs.Tryd.prog .gtr 3 v83 (.int .i64 8) fun v84 =>
 pBool v84 fun b85 => br b85
 (some ((.bool true), H81))
 (pCell 1 false (cellsL x0) 0 fun v86 =>
 pCallF R 11 [v86] H81 fun r87 H88 =>
 bindO (loopD (fun l89 H90 =>
 pBin Go.Proofs.Tryd.prog .leq 22 (l89.getD 4 undef) r87 fun v91 =>
 pBool v91 fun b92 => br b92
 (pCell 5 true (cellsL x0) 0 fun v93 =>
 pCallF R 9 [v93, (l89.getD 4 undef)] H90 fun r94 H95 =>
 pUn .not r94 fun v96 =>
 pBool v96 fun b97 => br b97
 (pBin Go.Proofs.Tryd.prog .add 22 (l89.getD 4 undef) (.int .u64 1) fun v98 =>
 some (.next, [(l89.getD 0 undef), (l89.getD 1 undef), (l89.getD 2 undef), (l89.getD 3 undef), v98], H95))
 (pBin Go.Proofs.Tryd.prog .and 22 (l89.getD 0 undef) (l89.getD 4 undef) fun v99 =>
 pBin Go.Proofs.Tryd.prog .or 22 (l89.getD 1 undef) (l89.getD 4 undef) fun v100 =>
 pBin Go.Proofs.Tryd.prog .lss 22 (l89.getD 4 undef) (l89.getD 2 undef) fun v101 =>
 pBool v101 fun b102 => br b102
 (pBin Go.Proofs.Tryd.prog .add 22 (l89.getD 4 undef) (.int .u64 1) fun v103 =>
 some (.next, [v99, v100, (l89.getD 4 undef), (l89.getD 4 undef), v103], H95))
 (pBin Go.Proofs.Tryd.prog .add 22 (l89.getD 4 undef) (.int .u64 1) fun v104 =>
 some (.next, [v99, v100, (l89.getD 2 undef), (l89.getD 4 undef), v104], H95))))
 (some (.exit 0, [(l89.getD 0 undef), (l89.getD 1 undef), (l89.getD 2 undef), (l89.getD 3 undef), (l89.getD 4 undef)], H90))) [r87, (.int .u64 0), r87, (.int .u64 0), (.int .u64 0)] H88) fun q105 l106 H107 => onCtl q105 none
 (fun i108 => onExit i108 0 (
 pCell 5 true c10 0 fun v109 =>
 pCell 1 false (cellsL x0) 0 fun v110 =>
 pBin Go.Proofs.Tryd.prog .andNot 22 r87 (l106.getD 1 undef) fun v111 =>
 pBuild Go.Proofs.Tryd.prog 24 [(0, v110), (1, (l106.getD 0 undef)), (2, v111), (3, (l106.getD 2 undef)), (4, (l106.getD 3 undef))] fun v112 =>
 pBin Go.Proofs.Tryd.prog .eql 24 v109 v112 fun v113 =>
 some (v113, H107)) (
 none))
 (some ((l106.headD undef), H107))))
 (fun i82 => none)
 (some ((l80.headD undef), H81)))))
theorem e3 (R : Handler) (x0 x1 : Value) (H0 : Hp) : execF Go.Proofs.Tryd.prog orc R 3 Go.Proofs.Tryd.f3 [x0, x1] H0 = m3 R x0 x1 H0 := by kernel_rfl
noncomputable def m4 (R : Handler) (x0 x1 x2 x3 : Value) (H0 : Hp) : Option (Value × Hp) :=
 pCallF R 6 [] H0 fun r1 H2 =>
 pUn .not r1 fun v3 =>
 pBool v3 fun b4 => br b4
 (some ((.bool false), H2))
 (pCell 5 true (cellsL x0) 0 fun v5 =>
 pCallF R 7 [v5] H2 fun r6 H7 =>
 pExtract r6 0 fun v8 =>
 pExtract r6 1 fun v9 =>
 pSplice 5 [.int .i64 0, .int .u64 0, .int .u64 0, .int .u64 0, .int .u64 0] 0 v8 fun c10 =>
 pCell 5 true (cellsL x1) 0 fun v11 =>
 pCallF R 7 [v11] H7 fun r12 H13 =>
 pExtract r12 0 fun v14 =>
 pExtract r12 1 fun v15 =>
 pSplice 5 [.int .i64 0, .int .u64 0, .int .u64 0, .int .u64 0, .int .u64 0] 0 v14 fun c16 =>
 pCell 5 true (cellsL x2) 0 fun v17 =>
 pCallF R 7 [v17] H13 fun r18 H19 =>
 pExtract r18 0 fun v20 =>
 pExtract r18 1 fun v21 =>
 pSplice 5 [.int .i64 0, .int .u64 0, .int .u64 0, .int .u64 0, .int .u64 0] 0 v20 fun c22 =>
 bindO (
 pUn .not v9 fun v23 =>
 pBool v23 fun b24 => br b24
 (some (.ret, [(.bool true)], H19))
 (pUn .not v15 fun v25 =>
 pBool v25 fun b26 => br b26
 (some (.ret, [(.bool true)], H19))
 (pUn .not v21 fun v27 =>
 pBool v27 fun b28 => br b28
 (some (.ret, [(.bool true)], H19))
 (pCell 1 false c10 0 fun v29 =>
 pCell 1 false c16 0 fun v30 =>
 pBin Go.Proofs.Tryd.prog .neq 3 v29 v30 fun v31 =>
 pBool v31 fun b32 => br b32
 (some (.ret, [(.bool true)], H19))
 (pCell 1 false c16 0 fun v33 =>
 pCell 1 false c22 0 fun v34 =>
 pBin Go.Proofs.Tryd.prog .neq 3 v33 v34 fun v35 =>
 pBool v35 fun b36 => br b36
 (some (.ret, [(.bool true)], H19))
 (some (.next, [], H19))))))) fun q37 l38 H39 => onCtl q37
 (pCell 5 true c10 0 fun v41 =>
 pCell 5 true c16 0 fun v42 =>
 pCallF R 12 [v41, v42] H39 fun r43 H44 =>
 pExtract r43 0 fun v45 =>
 pExtract r43 1 fun v46 =>
 pSplice 5 [.int .i64 0, .int .u64 0, .int .u64 0, .int .u64 0, .int .u64 0] 0 v45 fun c47 =>
 pCell 5 true c16 0 fun v48 =>
 pCell 5 true c10 0 fun v49 =>
 pCallF R 12 [v48, v49] H44 fun r50 H51 =>
 pExtract r50 0 fun v52 =>
 pExtract r50 1 fun v53 =>
 pSplice 5 [.int .i64 0, .int .u64 0, .int .u64 0, .int .u64 0, .int .u64 0] 0 v52 fun c54 =>
 pCell 5 true c10 0 fun v55 =>
 pCell 5 true c10 0 fun v56 =>
 pCallF R 12 [v55, v56] H51 fun r57 H58 =>
 pExtract r57 0 fun v59 =>
 pExtract r57 1 fun v60 =>
 pSplice 5 [.int .i64 0, .int .u64 0, .int .u64 0, .int .u64 0, .int .u64 0] 0 v59 fun c61 =>
 bindO (
 pCallF R 13 [v46] H58 fun r62 H63 =>
 pCallF R 13 [v53] H63 fun r64 H65 =>
 pBin Go.Proofs.Tryd.prog .add 3 r62 r64 fun v66 =>
 pCallF R 13 [v60] H65 fun r67 H68 =>
 pBin Go.Proofs.Tryd.prog .add 3 v66 r67 fun v69 =>
 pBin Go.Proofs.Tryd.prog .neq 3 v69 (.int .i64 0) fun v70 =>
 pBool v70 fun b71 => br b71
 (some (.ret, [(.bool false)], H68))
 (pCell 5 true c47 0 fun v72 =>
 pCell 5 true c54 0 fun v73 =>
 pBin Go.Proofs.Tryd.prog .neq 24 v72 v73 fun v74 =>
 pBool v74 fun b75 => br b75
 (some (.ret, [(.bool false)], H68))
 (pCell 5 true c61 0 fun v76 =>
 pCell 5 true c10 0 fun v77 =>
 pBin Go.Proofs.Tryd.prog .neq 24 v76 v77 fun v78 =>
 pBool v78 fun b79 => br b79
 (some (.ret, [(.bool false)], H68))
 (pCell 5 true c10 0 fun v80 =>
 pCallF R 10 [v80, x3] H68 fun r81 H82 =>
 pBool r81 fun b83 => br b83
 (pCell 5 true c47 0 fun v84 =>
 pCallF R 10 [v84, x3] H82 fun r85 H86 =>
 pUn .not r85 fun v87 =>
 pBool v87 fun b88 => br b88
 (some (.ret, [(.bool false)], H86))
 (some (.next, [], H86)))
 (pCell 5 true c16 0 fun v89 =>
 pCallF R 10 [v89, x3] H82 fun r90 H91 =>
 pBool r90 fun b92 => br b92
 (pCell 5 true c47 0 fun v93 =>
 pCallF R 10 [v93, x3] H91 fun r94 H95 =>
 pUn .not r94 fun v96 =>
 pBool v96 fun b97 => br b97
 (some (.ret, [(.bool false)], H95))
 (some (.next, [], H95)))
 (some (.next, [], H91))))))) fun q98 l99 H100 => onCtl q98
 (pCell 5 true c47 0 fun v102 =>
 pCell 5 true c22 0 fun v103 =>
 pCallF R 12 [v102, v103] H100 fun r104 H105 =>
 pExtract r104 0 fun v106 =>
 pExtract r104 1 fun v107 =>
 pSplice 5 [.int .i64 0, .int .u64 0, .int .u64 0, .int .u64 0, .int .u64 0] 0 v106 fun c108 =>
 pCell 5 true c16 0 fun v109 =>
 pCell 5 true c22 0 fun v110 =>
 pCallF R 12 [v109, v110] H105 fun r111 H112 =>
 pExtract r111 0 fun v113 =>
 pExtract r111 1 fun v114 =>
 pSplice 5 [.int .i64 0, .int .u64 0, .int .u64 0, .int .u64 0, .int .u64 0] 0 v113 fun c115 =>
 pCell 5 true c10 0 fun v116 =>
 pCell 5 true c115 0 fun v117 =>
 pCallF R 12 [v116, v117] H112 fun r118 H119 =>
 pExtract r118 0 fun v120 =>
 pExtract r118 1 fun v121 =>
 pSplice 5 [.int .i64 0, .int .u64 0, .int .u64 0, .int .u64 0, .int .u64 0] 0 v120 fun c122 =>
 bindO (
 pCallF R 13 [v107] H119 fun r123 H124 =>
 pCallF R 13 [v114] H124 fun r125 H126 =>
 pBin Go.Proofs.Tryd.prog .add 3 r123 r125 fun v127 =>
 pCallF R 13 [v121] H126 fun r128 H129 =>
 pBin Go.Proofs.Tryd.prog .add 3 v127 r128 fun v130 =>
 pBin Go.Proofs.Tryd.prog .neq 3 v130 (.int .i64 0) fun v131 =>
 pBool v131 fun b132 => br b132
 (some (.ret, [(.bool false)], H129))
 (pCell 5 true c108 0 fun v133 =>
 pCell 5 true c122 0 fun v134 =>
 pBin Go.Proofs.Tryd.prog .neq 24 v133 v134 fun v135 =>
 pBool v135 fun b136 => br b136
 (some (.ret, [(.bool false)], H129))
 (some (.next, [], H129)))) fun q137 l138 H139 => onCtl q137
 (pCell 5 true c10 0 fun v141 =>
 pCell 5 true c16 0 fun v142 =>
 pCallF R 14 [v141, v142] H139 fun r143 H144 =>
 pExtract r143 0 fun v145 =>
 pExtract r143 1 fun v146 =>
 pSplice 5 [.int .i64 0, .int .u64 0, .int .u64 0, .int .u64 0, .int .u64 0] 0 v145 fun c147 =>
 pCell 5 true c16 0 fun v148 =>
 pCell 5 true c10 0 fun v149 =>
 pCallF R 14 [v148, v149] H144 fun r150 H151 =>
 pExtract r150 0 fun v152 =>
 pExtract r150 1 fun v153 =>
 pSplice 5 [.int .i64 0, .int .u64 0, .int .u64 0, .int .u64 0, .int .u64 0] 0 v152 fun c154 =>
 bindO (
 pBin Go.Proofs.Tryd.prog .neq 31 v146 v153 fun v155 =>
 pBool v155 fun b156 => br b156
 (some (.ret, [(.bool false)], H151))
 (pCell 5 true c147 0 fun v157 =>
 pCell 5 true c154 0 fun v158 =>
 pBin Go.Proofs.Tryd.prog .neq 24 v157 v158 fun v159 =>
 pBool v159 fun b160 => br b160
 (some (.ret, [(.bool false)], H151))
 (pCell 5 true c147 0 fun v161 =>
 pCallF R 10 [v161, x3] H151 fun r162 H163 =>
 pCell 5 true c10 0 fun v164 =>
 pCallF R 10 [v164, x3] H163 fun r165 H166 =>
 pBool r165 fun b167 => br b167
 (pCell 5 true c16 0 fun v168 =>
 pCallF R 10 [v168, x3] H166 fun r169 H170 =>
 pBin Go.Proofs.Tryd.prog .neq 4 r162 r169 fun v171 =>
 pBool v171 fun b172 => br b172
 (pCallF R 13 [v146] H170 fun r173 H174 =>
 pBin Go.Proofs.Tryd.prog .eql 3 r173 (.int .i64 0) fun v175 =>
 pBool v175 fun b176 => br b176
 (some (.ret, [(.bool false)], H174))
 (pCallF R 13 [v146] H174 fun r177 H178 =>
 pBin Go.Proofs.Tryd.prog .neq 3 r177 (.int .i64 0) fun v179 =>
 pBool v179 fun b180 => br b180
 (pCell 5 true c10 0 fun v181 =>
 pCallF R 10 [v181, x3] H178 fun r182 H183 =>
 pBool r182 fun b184 => br b184
 (pCell 5 true c16 0 fun v185 =>
 pCallF R 10 [v185, x3] H183 fun r186 H187 =>
 pBool r186 fun b188 => br b188
 (some (.ret, [(.bool false)], H187))
 (some (.next, [], H187)))
 (some (.next, [], H183)))
 (some (.next, [], H178))))
 (pCallF R 13 [v146] H170 fun r189 H190 =>
 pBin Go.Proofs.Tryd.prog .neq 3 r189 (.int .i64 0) fun v191 =>
 pBool v191 fun b192 => br b192
 (pCell 5 true c10 0 fun v193 =>
 pCallF R 10 [v193, x3] H190 fun r194 H195 =>
 pBool r194 fun b196 => br b196
 (pCell 5 true c16 0 fun v197 =>
 pCallF R 10 [v197, x3] H195 fun r198 H199 =>
 pBool r198 fun b200 => br b200
 (some (.ret, [(.bool false)], H199))
 (some (.next, [], H199)))
 (some (.next, [], H195)))
 (some (.next, [], H190))))
 (pBin Go.Proofs.Tryd.prog .neq 4 r162 (.bool false) fun v201 =>
 pBool v201 fun b202 => br b202
 (pCallF R 13 [v146] H166 fun r203 H204 =>
 pBin Go.Proofs.Tryd.prog .eql 3 r203 (.int .i64 0) fun v205 =>
 pBool v205 fun b206 => br b206
 (some (.ret, [(.bool false)], H204))
 (pCallF R 13 [v146] H204 fun r207 H208 =>
 pBin Go.Proofs.Tryd.prog .neq 3 r207 (.int .i64 0) fun v209 =>
 pBool v209 fun b210 => br b210
 (pCell 5 true c10 0 fun v211 =>
 pCallF R 10 [v211, x3] H208 fun r212 H213 =>
 pBool r212 fun b214 => br b214
 (pCell 5 true c16 0 fun v215 =>
 pCallF R 10 [v215, x3] H213 fun r216 H217 =>
 pBool r216 fun b218 => br b218
 (some (.ret, [(.bool false)], H217))
 (some (.next, [], H217)))
 (some (.next, [], H213)))
 (some (.next, [], H208))))
 (pCallF R 13 [v146] H166 fun r219 H220 =>
 pBin Go.Proofs.Tryd.prog .neq 3 r219 (.int .i64 0) fun v221 =>
 pBool v221 fun b222 => br b222
 (pCell 5 true c10 0 fun v223 =>
 pCallF R 10 [v223, x3] H220 fun r224 H225 =>
 pBool r224 fun b226 => br b226
 (pCell 5 true c16 0 fun v227 =>
 pCallF R 10 [v227, x3] H225 fun r228 H229 =>
 pBool r228 fun b230 => br b230
 (some (.ret, [(.bool false)], H229))
 (some (.next, [], H229)))
 (some (.next, [], H225)))
 (some (.next, [], H220))))))) fun q231 l232 H233 => onCtl q231
 (pCell 5 true c10 0 fun v235 =>
 pCell 5 true c10 0 fun v236 =>
 pCallF R 14 [v235, v236] H233 fun r237 H238 =>
 pExtract r237 0 fun v239 =>
 pExtract r237 1 fun v240 =>
 pSplice 5 [.int .i64 0, .int .u64 0, .int .u64 0, .int .u64 0, .int .u64 0] 0 v239 fun c241 =>
 bindO (
 pCallF R 13 [v240] H238 fun r242 H243 =>
 pBin Go.Proofs.Tryd.prog .neq 3 r242 (.int .i64 0) fun v244 =>
 pBool v244 fun b245 => br b245
 (some (.ret, [(.bool false)], H243))
 (pCell 5 true c241 0 fun v246 =>
 pCell 5 true c10 0 fun v247 =>
 pBin Go.Proofs.Tryd.prog .neq 24 v246 v247 fun v248 =>
 pBool v248 fun b249 => br b249
 (some (.ret, [(.bool false)], H243))
 (some (.next, [], H243)))) fun q250 l251 H252 => onCtl q250
 (pCell 5 true c16 0 fun v254 =>
 pCell 5 true c22 0 fun v255 =>
 pCallF R 14 [v254, v255] H252 fun r256 H257 =>
 pExtract r256 0 fun v258 =>
 pExtract r256 1 fun v259 =>
 pSplice 5 [.int .i64 0, .int .u64 0, .int .u64 0, .int .u64 0, .int .u64 0] 0 v258 fun c260 =>
 pCell 5 true c147 0 fun v261 =>
 pCell 5 true c22 0 fun v262 =>
 pCallF R 14 [v261, v262] H257 fun r263 H264 =>
 pExtract r263 0 fun v265 =>
 pExtract r263 1 fun v266 =>
 pSplice 5 [.int .i64 0, .int .u64 0, .int .u64 0, .int .u64 0, .int .u64 0] 0 v265 fun c267 =>
 pCell 5 true c10 0 fun v268 =>
 pCell 5 true c260 0 fun v269 =>
 pCallF R 14 [v268, v269] H264 fun r270 H271 =>
 pExtract r270 0 fun v272 =>
 pExtract r270 1 fun v273 =>
 pSplice 5 [.int .i64 0, .int .u64 0, .int .u64 0, .int .u64 0, .int .u64 0] 0 v272 fun c274 =>
 bindO (
 pCallF R 13 [v146] H271 fun r275 H276 =>
 pBin Go.Proofs.Tryd.prog .eql 3 r275 (.int .i64 0) fun v277 =>
 pBool v277 fun b278 => br b278
 (pCallF R 13 [v266] H276 fun r279 H280 =>
 pBin Go.Proofs.Tryd.prog .eql 3 r279 (.int .i64 0) fun v281 =>
 some (.next, [v281], H280))
 (some (.next, [(.bool false)], H276))) fun q282 l283 H284 => onCtl q282
 (pCallF R 13 [v259] H284 fun r286 H287 =>
 pBin Go.Proofs.Tryd.prog .eql 3 r286 (.int .i64 0) fun v288 =>
 pBool v288 fun b289 => br b289
 (pCallF R 13 [v273] H287 fun r290 H291 =>
 pBin Go.Proofs.Tryd.prog .eql 3 r290 (.int .i64 0) fun v292 =>
 pBin Go.Proofs.Tryd.prog .eql 4 (l283.getD 0 undef) v292 fun v293 =>
 pBool v293 fun b294 => br b294
 (pUn .not (l283.getD 0 undef) fun v295 =>
 pBool v295 fun b296 => br b296
 (some ((.bool true), H291))
 (pCell 5 true c267 0 fun v297 =>
 pCell 5 true c274 0 fun v298 =>
 pBin Go.Proofs.Tryd.prog .eql 24 v297 v298 fun v299 =>
 some (v299, H291)))
 (some ((.bool false), H291)))
 (pBin Go.Proofs.Tryd.prog .eql 4 (l283.getD 0 undef) (.bool false) fun v300 =>
 pBool v300 fun b301 => br b301
 (pUn .not (l283.getD 0 undef) fun v302 =>
 pBool v302 fun b303 => br b303
 (some ((.bool true), H287))
 (pCell 5 true c267 0 fun v304 =>
 pCell 5 true c274 0 fun v305 =>
 pBin Go.Proofs.Tryd.prog .eql 24 v304 v305 fun v306 =>
 some (v306, H287)))
 (some ((.bool false), H287))))
 (fun i285 => none)
 (some ((l283.headD undef), H284)))
 (fun i253 => none)
 (some ((l251.headD undef), H252)))
 (fun i234 => none)
 (some ((l232.headD undef), H233)))
 (fun i140 => none)
 (some ((l138.headD undef), H139)))
 (fun i101 => none)
 (some ((l99.headD undef), H100)))
 (fun i40 => none)
 (some ((l38.headD undef), H39)))
theorem e4 (R : Handler) (x0 x1 x2 x3 : Value) (H0 : Hp) : execF Go.Proofs.Tryd.prog orc R 4 Go.Proofs.Tryd.f4 [x0, x1, x2, x3] H0 = m4 R x0 x1 x2 x3 H0 := by kernel_rfl
noncomputable def m5 (R : Handler) (x0 x1 x2 x3 : Value) (H0 : Hp) : Option (Value × Hp) :=
 pCallF R 15 [x2] H0 fun r1 H2 =>
 pExtract r1 0 fun v3 =>
 pExtract r1 1 fun v4 =>
 pSplice 5 [.int .i64 0, .int .u64 0, .int .u64 0, .int .u64 0, .int .u64 0] 0 v3 fun c5 =>
 pCallF R 16 [x2] H2 fun r6 H7 =>
 pExtract r6 0 fun v8 =>
 pExtract r6 1 fun v9 =>
 pSplice 5 [.int .i64 0, .int .u64 0, .int .u64 0, .int .u64 0, .int .u64 0] 0 v8 fun c10 =>
 bindO (
 pCell 5 true c5 0 fun v11 =>
 pCell 5 true c10 0 fun v12 =>
 pBin Go.Proofs.Tryd.prog .neq 24 v11 v12 fun v13 =>
 pBool v13 fun b14 => br b14
 (some (.ret, [(.bool false)], H7))
 (pCallF R 13 [v4] H7 fun r15 H16 =>
 pBin Go.Proofs.Tryd.prog .neq 3 r15 v9 fun v17 =>
 pBool v17 fun b18 => br b18
 (some (.ret, [(.bool false)], H16))
 (pCallF R 6 [] H16 fun r19 H20 =>
 pUn .not r19 fun v21 =>
 pBool v21 fun b22 => br b22
 (some (.ret, [(.bool false)], H20))
 (some (.next, [], H20))))) fun q23 l24 H25 => onCtl q23
 (pCallF R 17 [x2, x3] H25 fun r27 H28 =>
 pExtract r27 0 fun v29 =>
 pExtract r27 1 fun v30 =>
 pSplice 5 c5 0 v29 fun c31 =>
 pCallF R 18 [x2, x3] H28 fun r32 H33 =>
 pExtract r32 0 fun v34 =>
 pExtract r32 1 fun v35 =>
 pSplice 5 c10 0 v34 fun c36 =>
 bindO (
 pCell 5 true c31 0 fun v37 =>
 pCell 5 true c36 0 fun v38 =>
 pBin Go.Proofs.Tryd.prog .neq 24 v37 v38 fun v39 =>
 pBool v39 fun b40 => br b40
 (some (.ret, [(.bool false)], H33))
 (pCallF R 13 [v30] H33 fun r41 H42 =>
 pBin Go.Proofs.Tryd.prog .neq 3 r41 v35 fun v43 =>
 pBool v43 fun b44 => br b44
 (some (.ret, [(.bool false)], H42))
 (pCell 5 true (cellsL x0) 0 fun v45 =>
 pCallF R 19 [v45] H42 fun r46 H47 =>
 pCell 5 true (cellsL x0) 0 fun v48 =>
 pCallF R 8 [v48] H47 fun r49 H50 =>
 pBin Go.Proofs.Tryd.prog .neq 4 r46 r49 fun v51 =>
 pBool v51 fun b52 => br b52
 (some (.ret, [(.bool false)], H50))
 (pCell 5 true (cellsL x0) 0 fun v53 =>
 pCallF R 10 [v53, x3] H50 fun r54 H55 =>
 pCell 5 true (cellsL x0) 0 fun v56 =>
 pCallF R 9 [v56, x3] H55 fun r57 H58 =>
 pBin Go.Proofs.Tryd.prog .neq 4 r54 r57 fun v59 =>
 pBool v59 fun b60 => br b60
 (some (.ret, [(.bool false)], H58))
 (some (.next, [], H58)))))) fun q61 l62 H63 => onCtl q61
 (pCell 5 true (cellsL x0) 0 fun v65 =>
 pCallF R 20 [v65] H63 fun r66 H67 =>
 pExtract r66 0 fun v68 =>
 pExtract r66 1 fun v69 =>
 pSplice 5 c31 0 v68 fun c70 =>
 pCell 5 true (cellsL x0) 0 fun v71 =>
 pCallF R 21 [v71] H67 fun r72 H73 =>
 pExtract r72 0 fun v74 =>
 pExtract r72 1 fun v75 =>
 pSplice 5 c36 0 v74 fun c76 =>
 bindO (
 pCell 5 true c70 0 fun v77 =>
 pCell 5 true c76 0 fun v78 =>
 pBin Go.Proofs.Tryd.prog .neq 24 v77 v78 fun v79 =>
 pBool v79 fun b80 => br b80
 (some (.ret, [(.bool false)], H73))
 (pCallF R 13 [v69] H73 fun r81 H82 =>
 pBin Go.Proofs.Tryd.prog .neq 3 r81 v75 fun v83 =>
 pBool v83 fun b84 => br b84
 (some (.ret, [(.bool false)], H82))
 (some (.next, [], H82)))) fun q85 l86 H87 => onCtl q85
 (pCell 5 true (cellsL x0) 0 fun v89 =>
 pCell 5 true (cellsL x1) 0 fun v90 =>
 pCallF R 14 [v89, v90] H87 fun r91 H92 =>
 pExtract r91 0 fun v93 =>
 pExtract r91 1 fun v94 =>
 pSplice 5 c70 0 v93 fun c95 =>
 pCell 5 true (cellsL x0) 0 fun v96 =>
 pCell 5 true (cellsL x1) 0 fun v97 =>
 pCallF R 22 [v96, v97] H92 fun r98 H99 =>
 pExtract r98 0 fun v100 =>
 pExtract r98 1 fun v101 =>
 pSplice 5 c76 0 v100 fun c102 =>
 bindO (
 pCell 5 true c95 0 fun v103 =>
 pCell 5 true c102 0 fun v104 =>
 pBin Go.Proofs.Tryd.prog .neq 24 v103 v104 fun v105 =>
 pBool v105 fun b106 => br b106
 (some (.ret, [(.bool false)], H99))
 (pCallF R 13 [v94] H99 fun r107 H108 =>
 pBin Go.Proofs.Tryd.prog .neq 3 r107 v101 fun v109 =>
 pBool v109 fun b110 => br b110
 (some (.ret, [(.bool false)], H108))
 (some (.next, [], H108)))) fun q111 l112 H113 => onCtl q111
 (pCell 5 true (cellsL x0) 0 fun v115 =>
 pCell 5 true (cellsL x1) 0 fun v116 =>
 pCallF R 12 [v115, v116] H113 fun r117 H118 =>
 pExtract r117 0 fun v119 =>
 pExtract r117 1 fun v120 =>
 pSplice 5 c95 0 v119 fun c121 =>
 pCell 5 true (cellsL x0) 0 fun v122 =>
 pCell 5 true (cellsL x1) 0 fun v123 =>
 pCallF R 23 [v122, v123] H118 fun r124 H125 =>
 pExtract r124 0 fun v126 =>
 pExtract r124 1 fun v127 =>
 pSplice 5 c102 0 v126 fun c128 =>
 pCell 5 true c121 0 fun v129 =>
 pCell 5 true c128 0 fun v130 =>
 pBin Go.Proofs.Tryd.prog .eql 24 v129 v130 fun v131 =>
 pBool v131 fun b132 => br b132
 (pCallF R 13 [v120] H125 fun r133 H134 =>
 pBin Go.Proofs.Tryd.prog .eql 3 r133 v127 fun v135 =>
 some (v135, H134))
 (some ((.bool false), H125)))
 (fun i114 => none)
 (some ((l112.headD undef), H113)))
 (fun i88 => none)
 (some ((l86.headD undef), H87)))
 (fun i64 => none)
 (some ((l62.headD undef), H63)))
 (fun i26 => none)
 (some ((l24.headD undef), H25))
theorem e5 (R : Handler) (x0 x1 x2 x3 : Value) (H0 : Hp) : execF Go.Proofs.Tryd.prog orc R 5 Go.Proofs.Tryd.f5 [x0, x1, x2, x3] H0 = m5 R x0 x1 x2 x3 H0 := by kernel_rfl
noncomputable def m7 (R : Handler) (x0 : Value) (H0 : Hp) : Option (Value × Hp) :=
 pCell 5 true (cellsL x0) 0 fun v1 =>
 pCallF R 20 [v1] H0 fun r2 H3 =>
 pExtract r2 0 fun v4 =>
 pExtract r2 1 fun v5 =>
 pSplice 5 [.int .i64 0, .int .u64 0, .int .u64 0, .int .u64 0, .int .u64 0] 0 v4 fun c6 =>
 pCell 5 true c6 0 fun v7 =>
 pCallF R 13 [v5] H3 fun r8 H9 =>
 pBin Go.Proofs.Tryd.prog .eql 3 r8 (.int .i64 0) fun v10 =>
 pSplice 5 [.int .i64 0, .int .u64 0, .int .u64 0, .int .u64 0, .int .u64 0] 0 v7 fun c11 =>
 pCell 5 true c11 0 fun v12 =>
 some ((.tuple #[v12, v10]), H9)
theorem e7 (R : Handler) (x0 : Value) (H0 : Hp) : execF Go.Proofs.Tryd.prog orc R 7 Go.Proofs.Tryd.f7 [x0] H0 = m7 R x0 H0 := by kernel_rfl
noncomputable def m8 (R : Handler) (x0 : Value) (H0 : Hp) : Option (Value × Hp) :=
 bindO (
 pCell 1 false (cellsL x0) 0 fun v1 =>
 pBin Go.Proofs.Tryd.prog .lss 3 v1 (.int .i64 0) fun v2 =>
 pBool v2 fun b3 => br b3
 (some (.ret, [(.bool false)], H0))
 (pCell 1 false (cellsL x0) 0 fun v4 =>
 pBin Go.Proofs.Tryd.prog .gtr 3 v4 (.int .i64 64) fun v5 =>
 pBool v5 fun b6 => br b6
 (some (.ret, [(.bool false)], H0))
 (some (.next, [], H0)))) fun q7 l8 H9 => onCtl q7
 (pCell 1 false (cellsL x0) 0 fun v11 =>
 pCallF R 11 [v11] H9 fun r12 H13 =>
 pCell 1 false (cellsL x0) 1 fun v14 =>
 pBin Go.Proofs.Tryd.prog .leq 22 v14 r12 fun v15 =>
 pBool v15 fun b16 => br b16
 (pCell 1 false (cellsL x0) 2 fun v17 =>
 pBin Go.Proofs.Tryd.prog .leq 22 v17 r12 fun v18 =>
 pBool v18 fun b19 => br b19
 (pCell 1 false (cellsL x0) 3 fun v20 =>
 pBin Go.Proofs.Tryd.prog .leq 22 v20 r12 fun v21 =>
 pBool v21 fun b22 => br b22
 (pCell 1 false (cellsL x0) 4 fun v23 =>
 pBin Go.Proofs.Tryd.prog .leq 22 v23 r12 fun v24 =>
 some (v24, H13))
 (some ((.bool false), H13)))
 (some ((.bool false), H13)))
 (some ((.bool false), H13)))
 (fun i10 => none)
 (some ((l8.headD undef), H9))
theorem e8 (R : Handler) (x0 : Value) (H0 : Hp) : execF Go.Proofs.Tryd.prog orc R 8 Go.Proofs.Tryd.f8 [x0] H0 = m8 R x0 H0 := by kernel_rfl
noncomputable def m9 (R : Handler) (x0 x1 : Value) (H0 : Hp) : Option (Value × Hp) :=
 pCell 5 true (cellsL x0) 0 fun v1 =>
 pCallF R 8 [v1] H0 fun r2 H3 =>
 pBool r2 fun b4 => br b4
 (pCell 1 false (cellsL x0) 0 fun v5 =>
 pCallF R 11 [v5] H3 fun r6 H7 =>
 pBin Go.Proofs.Tryd.prog .leq 22 x1 r6 fun v8 =>
 pBool v8 fun b9 => br b9
 (pCell 5 true (cellsL x0) 0 fun v10 =>
 pCallF R 25 [v10, x1] H7 fun r11 H12 =>
 pBool r11 fun b13 => br b13
 (pCell 1 false (cellsL x0) 3 fun v14 =>
 pBin Go.Proofs.Tryd.prog .geq 22 x1 v14 fun v15 =>
 pBool v15 fun b16 => br b16
 (pCell 1 false (cellsL x0) 4 fun v17 =>
 pBin Go.Proofs.Tryd.prog .leq 22 x1 v17 fun v18 =>
 some (v18, H12))
 (some ((.bool false), H12)))
 (some ((.bool false), H12)))
 (some ((.bool false), H7)))
 (some ((.bool false), H3))
theorem e9 (R : Handler) (x0 x1 : Value) (H0 : Hp) : execF Go.Proofs.Tryd.prog orc R 9 Go.Proofs.Tryd.f9 [x0, x1] H0 = m9 R x0 x1 H0 := by kernel_rfl
noncomputable def m10 (R : Handler) (x0 x1 : Value) (H0 : Hp) : Option (Value × Hp) :=
 pCell 5 true (cellsL x0) 0 fun v1 =>
 pCallF R 19 [v1] H0 fun r2 H3 =>
 pBool r2 fun b4 => br b4
 (pCell 1 false (cellsL x0) 0 fun v5 =>
 pCallF R 26 [v5] H3 fun r6 H7 =>
 pBin Go.Proofs.Tryd.prog .leq 22 x1 r6 fun v8 =>
 pBool v8 fun b9 => br b9
 (pCell 5 true (cellsL x0) 0 fun v10 =>
 pCallF R 27 [v10, x1] H7 fun r11 H12 =>
 pBool r11 fun b13 => br b13
 (pCell 1 false (cellsL x0) 3 fun v14 =>
 pBin Go.Proofs.Tryd.prog .geq 22 x1 v14 fun v15 =>
 pBool v15 fun b16 => br b16
 (pCell 1 false (cellsL x0) 4 fun v17 =>
 pBin Go.Proofs.Tryd.prog .leq 22 x1 v17 fun v18 =>
 some (v18, H12))
 (some ((.bool false), H12)))
 (some ((.bool false), H12)))
 (some ((.bool false), H7)))
 (some ((.bool false), H3))
theorem e10 (R : Handler) (x0 x1 : Value) (H0 : Hp) : execF Go.Proofs.Tryd.prog orc R 10 Go.Proofs.Tryd.f10 [x0, x1] H0 = m10 R x0 x1 H0 := by kernel_rfl
noncomputable def m11 (R : Handler) (x0 : Value) (H0 : Hp) : Option (Value × Hp) :=
 pCallF R 28 [x0] H0 fun r1 H2 =>
 pBin Go.Proofs.Tryd.prog .geq 3 r1 (.int .i64 64) fun v3 =>
 pBool v3 fun b4 => br b4
 (some ((.int .u64 18446744073709551615), H2))
 (pConvInt .u64 r1 fun v5 =>
 pBin Go.Proofs.Tryd.prog .shl 22 (.int .u64 1) v5 fun v6 =>
 pBin Go.Proofs.Tryd.prog .sub 22 v6 (.int .u64 1) fun v7 =>
 some (v7, H2))
theorem e11 (R : Handler) (x0 : Value) (H0 : Hp) : execF Go.Proofs.Tryd.prog orc R 11 Go.Proofs.Tryd.f11 [x0] H0 = m11 R x0 H0 := by kernel_rfl
noncomputable def m12 (R : Handler) (x0 x1 : Value) (H0 : Hp) : Option (Value × Hp) :=
 pCell 5 true (cellsL x0) 0 fun v1 =>
 pCell 5 true (cellsL x1) 0 fun v2 =>
 pCallF R 29 [v1, v2] H0 fun r3 H4 =>
 pExtract r3 0 fun v5 =>
 pExtract r3 1 fun v6 =>
 pExtract r3 2 fun v7 =>
 pSplice 5 [.int .i64 0, .int .u64 0, .int .u64 0, .int .u64 0, .int .u64 0] 0 v5 fun c8 =>
 pSplice 5 [.int .i64 0, .int .u64 0, .int .u64 0, .int .u64 0, .int .u64 0] 0 v6 fun c9 =>
 pBin Go.Proofs.Tryd.prog .neq 31 v7 (.int .i64 0) fun v10 =>
 pBool v10 fun b11 => br b11
 (pBuild Go.Proofs.Tryd.prog 24 [] fun v12 =>
 pSplice 5 [.int .i64 0, .int .u64 0, .int .u64 0, .int .u64 0, .int .u64 0] 0 v12 fun c13 =>
 pCell 5 true c13 0 fun v14 =>
 some ((.tuple #[v14, v7]), H4))
 (pCell 5 true c8 0 fun v15 =>
 pCell 5 true c9 0 fun v16 =>
 pCallF R 30 [v15, v16] H4 fun r17 H18 =>
 pSplice 5 [.int .i64 0, .int .u64 0, .int .u64 0, .int .u64 0, .int .u64 0] 0 r17 fun c19 =>
 pCell 5 true c19 0 fun v20 =>
 some ((.tuple #[v20, (.int .i64 0)]), H18))
theorem e12 (R : Handler) (x0 x1 : Value) (H0 : Hp) : execF Go.Proofs.Tryd.prog orc R 12 Go.Proofs.Tryd.f12 [x0, x1] H0 = m12 R x0 x1 H0 := by kernel_rfl
noncomputable def m13 (R : Handler) (x0 : Value) (H0 : Hp) : Option (Value × Hp) :=
 some (x0, H0)
theorem e13 (R : Handler) (x0 : Value) (H0 : Hp) : execF Go.Proofs.Tryd.prog orc R 13 Go.Proofs.Tryd.f13 [x0] H0 = m13 R x0 H0 := by kernel_rfl
noncomputable def m14 (R : Handler) (x0 x1 : Value) (H0 : Hp) : Option (Value × Hp) :=
 pCell 5 true (cellsL x0) 0 fun v1 =>
 pCell 5 true (cellsL x1) 0 fun v2 =>
 pCallF R 29 [v1, v2] H0 fun r3 H4 =>
 pExtract r3 0 fun v5 =>
 pExtract r3 1 fun v6 =>
 pExtract r3 2 fun v7 =>
 pSplice 5 [.int .i64 0, .int .u64 0, .int .u64 0, .int .u64 0, .int .u64 0] 0 v5 fun c8 =>
 pSplice 5 [.int .i64 0, .int .u64 0, .int .u64 0, .int .u64 0, .int .u64 0] 0 v6 fun c9 =>
 pBin Go.Proofs.Tryd.prog .neq 31 v7 (.int .i64 0) fun v10 =>
 pBool v10 fun b11 => br b11
 (pBuild Go.Proofs.Tryd.prog 24 [] fun v12 =>
 pSplice 5 [.int .i64 0, .int .u64 0, .int .u64 0, .int .u64 0, .int .u64 0] 0 v12 fun c13 =>
 pCell 5 true c13 0 fun v14 =>
 some ((.tuple #[v14, v7]), H4))
 (pCell 1 false c8 0 fun v15 =>
 pCell 1 false c8 1 fun v16 =>
 pCell 1 false c9 1 fun v17 =>
 pBin Go.Proofs.Tryd.prog .or 22 v16 v17 fun v18 =>
 pCell 1 false c8 2 fun v19 =>
 pCell 1 false c9 2 fun v20 =>
 pBin Go.Proofs.Tryd.prog .or 22 v19 v20 fun v21 =>
 pCell 1 false c8 3 fun v22 =>
 pCell 1 false c9 3 fun v23 =>
 pMM true [v22, v23] fun v24 =>
 pCell 1 false c8 4 fun v25 =>
 pCell 1 false c9 4 fun v26 =>
 pMM false [v25, v26] fun v27 =>
 pBuild Go.Proofs.Tryd.prog 24 [(0, v15), (1, v18), (2, v21), (3, v24), (4, v27)] fun v28 =>
 pCallF R 20 [v28] H4 fun r29 H30 =>
 pExtract r29 0 fun v31 =>
 pExtract r29 1 fun v32 =>
 pSplice 5 [.int .i64 0, .int .u64 0, .int .u64 0, .int .u64 0, .int .u64 0] 0 v31 fun c33 =>
 pCell 5 true c33 0 fun v34 =>
 some ((.tuple #[v34, v32]), H30))
theorem e14 (R : Handler) (x0 x1 : Value) (H0 : Hp) : execF Go.Proofs.Tryd.prog orc R 14 Go.Proofs.Tryd.f14 [x0, x1] H0 = m14 R x0 x1 H0 := by kernel_rfl
noncomputable def m15 (R : Handler) (x0 : Value) (H0 : Hp) : Option (Value × Hp) :=
 pBin Go.Proofs.Tryd.prog .lss 3 x0 (.int .i64 0) fun v1 =>
 pBool v1 fun b2 => br b2
 (pBuild Go.Proofs.Tryd.prog 24 [] fun v3 =>
 pSplice 5 [.int .i64 0, .int .u64 0, .int .u64 0, .int .u64 0, .int .u64 0] 0 v3 fun c4 =>
 pCell 5 true c4 0 fun v5 =>
 some ((.tuple #[v5, (.int .i64 5)]), H0))
 (pBin Go.Proofs.Tryd.prog .gtr 3 x0 (.int .i64 64) fun v6 =>
 pBool v6 fun b7 => br b7
 (pBuild Go.Proofs.Tryd.prog 24 [] fun v8 =>
 pSplice 5 [.int .i64 0, .int .u64 0, .int .u64 0, .int .u64 0, .int .u64 0] 0 v8 fun c9 =>
 pCell 5 true c9 0 fun v10 =>
 some ((.tuple #[v10, (.int .i64 5)]), H0))
 (pCallF R 31 [x0] H0 fun r11 H12 =>
 pSplice 5 [.int .i64 0, .int .u64 0, .int .u64 0, .int .u64 0, .int .u64 0] 0 r11 fun c13 =>
 pCell 5 true c13 0 fun v14 =>
 some ((.tuple #[v14, (.int .i64 0)]), H12)))
theorem e15 (R : Handler) (x0 : Value) (H0 : Hp) : execF Go.Proofs.Tryd.prog orc R 15 Go.Proofs.Tryd.f15 [x0] H0 = m15 R x0 H0 := by kernel_rfl
noncomputable def m16 (R : Handler) (x0 : Value) (H0 : Hp) : Option (Value × Hp) :=
 pBin Go.Proofs.Tryd.prog .lss 3 x0 (.int .i64 0) fun v1 =>
 pBool v1 fun b2 => br b2
 (pBuild Go.Proofs.Tryd.prog 24 [] fun v3 =>
 pSplice 5 [.int .i64 0, .int .u64 0, .int .u64 0, .int .u64 0, .int .u64 0] 0 v3 fun c4 =>
 pCell 5 true c4 0 fun v5 =>
 some ((.tuple #[v5, (.int .i64 5)]), H0))
 (pBin Go.Proofs.Tryd.prog .gtr 3 x0 (.int .i64 64) fun v6 =>
 pBool v6 fun b7 => br b7
 (pBuild Go.Proofs.Tryd.prog 24 [] fun v8 =>
 pSplice 5 [.int .i64 0, .int .u64 0, .int .u64 0, .int .u64 0, .int .u64 0] 0 v8 fun c9 =>
 pCell 5 true c9 0 fun v10 =>
 some ((.tuple #[v10, (.int .i64 5)]), H0))
 (pCallF R 11 [x0] H0 fun r11 H12 =>
 pBuild Go.Proofs.Tryd.prog 24 [(0, x0), (4, r11)] fun v13 =>
 pSplice 5 [.int .i64 0, .int .u64 0, .int .u64 0, .int .u64 0, .int .u64 0] 0 v13 fun c14 =>
 pCell 5 true c14 0 fun v15 =>
 some ((.tuple #[v15, (.int .i64 0)]), H12)))
theorem e16 (R : Handler) (x0 : Value) (H0 : Hp) : execF Go.Proofs.Tryd.prog orc R 16 Go.Proofs.Tryd.f16 [x0] H0 = m16 R x0 H0 := by kernel_rfl
noncomputable def m17 (R : Handler) (x0 x1 : Value) (H0 : Hp) : Option (Value × Hp) :=
 pBin Go.Proofs.Tryd.prog .lss 3 x0 (.int .i64 0) fun v1 =>
 pBool v1 fun b2 => br b2
 (pBuild Go.Proofs.Tryd.prog 24 [] fun v3 =>
 pSplice 5 [.int .i64 0, .int .u64 0, .int .u64 0, .int .u64 0, .int .u64 0] 0 v3 fun c4 =>
 pCell 5 true c4 0 fun v5 =>
 some ((.tuple #[v5, (.int .i64 5)]), H0))
 (pBin Go.Proofs.Tryd.prog .gtr 3 x0 (.int .i64 64) fun v6 =>
 pBool v6 fun b7 => br b7
 (pBuild Go.Proofs.Tryd.prog 24 [] fun v8 =>
 pSplice 5 [.int .i64 0, .int .u64 0, .int .u64 0, .int .u64 0, .int .u64 0] 0 v8 fun c9 =>
 pCell 5 true c9 0 fun v10 =>
 some ((.tuple #[v10, (.int .i64 5)]), H0))
 (pCallF R 26 [x0] H0 fun r11 H12 =>
 pBin Go.Proofs.Tryd.prog .gtr 22 x1 r11 fun v13 =>
 pBool v13 fun b14 => br b14
 (pBuild Go.Proofs.Tryd.prog 24 [] fun v15 =>
 pSplice 5 [.int .i64 0, .int .u64 0, .int .u64 0, .int .u64 0, .int .u64 0] 0 v15 fun c16 =>
 pCell 5 true c16 0 fun v17 =>
 some ((.tuple #[v17, (.int .i64 5)]), H12))
 (pCallF R 32 [x0, x1] H12 fun r18 H19 =>
 pSplice 5 [.int .i64 0, .int .u64 0, .int .u64 0, .int .u64 0, .int .u64 0] 0 r18 fun c20 =>
 pCell 5 true c20 0 fun v21 =>
 some ((.tuple #[v21, (.int .i64 0)]), H19))))
theorem e17 (R : Handler) (x0 x1 : Value) (H0 : Hp) : execF Go.Proofs.Tryd.prog orc R 17 Go.Proofs.Tryd.f17 [x0, x1] H0 = m17 R x0 x1 H0 := by kernel_rfl
noncomputable def m18 (R : Handler) (x0 x1 : Value) (H0 : Hp) : Option (Value × Hp) :=
 pBin Go.Proofs.Tryd.prog .lss 3 x0 (.int .i64 0) fun v1 =>
 pBool v1 fun b2 => br b2
 (pBuild Go.Proofs.Tryd.prog 24 [] fun v3 =>
 pSplice 5 [.int .i64 0, .int .u64 0, .int .u64 0, .int .u64 0, .int .u64 0] 0 v3 fun c4 =>
 pCell 5 true c4 0 fun v5 =>
 some ((.tuple #[v5, (.int .i64 5)]), H0))
 (pBin Go.Proofs.Tryd.prog .gtr 3 x0 (.int .i64 64) fun v6 =>
 pBool v6 fun b7 => br b7
 (pBuild Go.Proofs.Tryd.prog 24 [] fun v8 =>
 pSplice 5 [.int .i64 0, .int .u64 0, .int .u64 0, .int .u64 0, .int .u64 0] 0 v8 fun c9 =>
 pCell 5 true c9 0 fun v10 =>
 some ((.tuple #[v10, (.int .i64 5)]), H0))
 (pCallF R 11 [x0] H0 fun r11 H12 =>
 pBin Go.Proofs.Tryd.prog .gtr 22 x1 r11 fun v13 =>
 pBool v13 fun b14 => br b14
 (pBuild Go.Proofs.Tryd.prog 24 [] fun v15 =>
 pSplice 5 [.int .i64 0, .int .u64 0, .int .u64 0, .int .u64 0, .int .u64 0] 0 v15 fun c16 =>
 pCell 5 true c16 0 fun v17 =>
 some ((.tuple #[v17, (.int .i64 5)]), H12))
 (pCallF R 11 [x0] H12 fun r18 H19 =>
 pBin Go.Proofs.Tryd.prog .andNot 22 r18 x1 fun v20 =>
 pBuild Go.Proofs.Tryd.prog 24 [(0, x0), (1, x1), (2, v20), (3, x1), (4, x1)] fun v21 =>
 pSplice 5 [.int .i64 0, .int .u64 0, .int .u64 0, .int .u64 0, .int .u64 0] 0 v21 fun c22 =>
 pCell 5 true c22 0 fun v23 =>
 some ((.tuple #[v23, (.int .i64 0)]), H19))))
theorem e18 (R : Handler) (x0 x1 : Value) (H0 : Hp) : execF Go.Proofs.Tryd.prog orc R 18 Go.Proofs.Tryd.f18 [x0, x1] H0 = m18 R x0 x1 H0 := by kernel_rfl
noncomputable def m19 (R : Handler) (x0 : Value) (H0 : Hp) : Option (Value × Hp) :=
 bindO (
 pCell 1 false (cellsL x0) 0 fun v1 =>
 pBin Go.Proofs.Tryd.prog .lss 3 v1 (.int .i64 0) fun v2 =>
 pBool v2 fun b3 => br b3
 (some (.ret, [(.bool false)], H0))
 (pCell 1 false (cellsL x0) 0 fun v4 =>
 pBin Go.Proofs.Tryd.prog .gtr 3 v4 (.int .i64 64) fun v5 =>
 pBool v5 fun b6 => br b6
 (some (.ret, [(.bool false)], H0))
 (some (.next, [], H0)))) fun q7 l8 H9 => onCtl q7
 (pCell 1 false (cellsL x0) 0 fun v11 =>
 pCallF R 26 [v11] H9 fun r12 H13 =>
 pCell 1 false (cellsL x0) 1 fun v14 =>
 pBin Go.Proofs.Tryd.prog .leq 22 v14 r12 fun v15 =>
 pBool v15 fun b16 => br b16
 (pCell 1 false (cellsL x0) 2 fun v17 =>
 pBin Go.Proofs.Tryd.prog .leq 22 v17 r12 fun v18 =>
 pBool v18 fun b19 => br b19
 (pCell 1 false (cellsL x0) 3 fun v20 =>
 pBin Go.Proofs.Tryd.prog .leq 22 v20 r12 fun v21 =>
 pBool v21 fun b22 => br b22
 (pCell 1 false (cellsL x0) 4 fun v23 =>
 pBin Go.Proofs.Tryd.prog .leq 22 v23 r12 fun v24 =>
 some (v24, H13))
 (some ((.bool false), H13)))
 (some ((.bool false), H13)))
 (some ((.bool false), H13)))
 (fun i10 => none)
 (some ((l8.headD undef), H9))
theorem e19 (R : Handler) (x0 : Value) (H0 : Hp) : execF Go.Proofs.Tryd.prog orc R 19 Go.Proofs.Tryd.f19 [x0] H0 = m19 R x0 H0 := by kernel_rfl
noncomputable def m20 (R : Handler) (x0 : Value) (H0 : Hp) : Option (Value × Hp) :=
 pCell 5 true (cellsL x0) 0 fun v1 =>
 pCallF R 19 [v1] H0 fun r2 H3 =>
 pUn .not r2 fun v4 =>
 pBool v4 fun b5 => br b5
 (pBuild Go.Proofs.Tryd.prog 24 [] fun v6 =>
 pSplice 5 [.int .i64 0, .int .u64 0, .int .u64 0, .int .u64 0, .int .u64 0] 0 v6 fun c7 =>
 pCell 5 true c7 0 fun v8 =>
 some ((.tuple #[v8, (.int .i64 5)]), H3))
 (pCell 5 true (cellsL x0) 0 fun v9 =>
 pCallF R 33 [v9] H3 fun r10 H11 =>
 pExtract r10 0 fun v12 =>
 pExtract r10 1 fun v13 =>
 pSplice 5 [.int .i64 0, .int .u64 0, .int .u64 0, .int .u64 0, .int .u64 0] 0 v12 fun c14 =>
 pUn .not v13 fun v15 =>
 pBool v15 fun b16 => br b16
 (pBuild Go.Proofs.Tryd.prog 24 [] fun v17 =>
 pSplice 5 [.int .i64 0, .int .u64 0, .int .u64 0, .int .u64 0, .int .u64 0] 0 v17 fun c18 =>
 pCell 5 true c18 0 fun v19 =>
 some ((.tuple #[v19, (.int .i64 1)]), H11))
 (pCell 5 true c14 0 fun v20 =>
 pSplice 5 [.int .i64 0, .int .u64 0, .int .u64 0, .int .u64 0, .int .u64 0] 0 v20 fun c21 =>
 pCell 5 true c21 0 fun v22 =>
 some ((.tuple #[v22, (.int .i64 0)]), H11)))
theorem e20 (R : Handler) (x0 : Value) (H0 : Hp) : execF Go.Proofs.Tryd.prog orc R 20 Go.Proofs.Tryd.f20 [x0] H0 = m20 R x0 H0 := by kernel_rfl
noncomputable def m21 (R : Handler) (x0 : Value) (H0 : Hp) : Option (Value × Hp) :=
 pCell 5 true (cellsL x0) 0 fun v1 =>
 pCallF R 8 [v1] H0 fun r2 H3 =>
 pUn .not r2 fun v4 =>
 pBool v4 fun b5 => br b5
 (pBuild Go.Proofs.Tryd.prog 24 [] fun v6 =>
 pSplice 5 [.int .i64 0, .int .u64 0, .int .u64 0, .int .u64 0, .int .u64 0] 0 v6 fun c7 =>
 pCell 5 true c7 0 fun v8 =>
 some ((.tuple #[v8, (.int .i64 5)]), H3))
 (pCell 5 true (cellsL x0) 0 fun v9 =>
 pCallF R 34 [v9] H3 fun r10 H11 =>
 pExtract r10 0 fun v12 =>
 pExtract r10 1 fun v13 =>
 pUn .not v13 fun v14 =>
 pBool v14 fun b15 => br b15
 (pBuild Go.Proofs.Tryd.prog 24 [] fun v16 =>
 pSplice 5 [.int .i64 0, .int .u64 0, .int .u64 0, .int .u64 0, .int .u64 0] 0 v16 fun c17 =>
 pCell 5 true c17 0 fun v18 =>
 some ((.tuple #[v18, (.int .i64 1)]), H11))
 (pCell 1 false (cellsL x0) 0 fun v19 =>
 pCell 5 true (cellsL x0) 0 fun v20 =>
 pCallF R 35 [v20] H11 fun r21 H22 =>
 pBuild Go.Proofs.Tryd.prog 24 [(0, v19), (3, v12), (4, r21)] fun v23 =>
 pSplice 5 [.int .i64 0, .int .u64 0, .int .u64 0, .int .u64 0, .int .u64 0] 0 v23 fun c24 =>
 bindO (loopD (fun l25 H26 =>
 pCell 1 false (cellsL x0) 0 fun v27 =>
 pCallF R 28 [v27] H26 fun r28 H29 =>
 pBin Go.Proofs.Tryd.prog .lss 3 (l25.getD 0 undef) r28 fun v30 =>
 pBool v30 fun b31 => br b31
 (pConvInt .u64 (l25.getD 0 undef) fun v32 =>
 pBin Go.Proofs.Tryd.prog .shl 22 (.int .u64 1) v32 fun v33 =>
 pCell 5 true (cellsL x0) 0 fun v34 =>
 pSplice 5 [.int .i64 0, .int .u64 0, .int .u64 0, .int .u64 0, .int .u64 0] 0 v34 fun c35 =>
 pCell 1 false (cellsL x0) 2 fun v36 =>
 pBin Go.Proofs.Tryd.prog .or 22 v36 v33 fun v37 =>
 pSplice 1 c35 2 v37 fun c38 =>
 pCell 5 true c38 0 fun v39 =>
 pCallF R 34 [v39] H29 fun r40 H41 =>
 pExtract r40 0 fun v42 =>
 pExtract r40 1 fun v43 =>
 pCell 5 true (cellsL x0) 0 fun v44 =>
 pSplice 5 c38 0 v44 fun c45 =>
 pCell 1 false (cellsL x0) 1 fun v46 =>
 pBin Go.Proofs.Tryd.prog .or 22 v46 v33 fun v47 =>
 pSplice 1 c45 1 v47 fun c48 =>
 pCell 5 true c48 0 fun v49 =>
 pCallF R 34 [v49] H41 fun r50 H51 =>
 pExtract r50 0 fun v52 =>
 pExtract r50 1 fun v53 =>
 pUn .not v43 fun v54 =>
 pBool v54 fun b55 => br b55
 (pCell 1 false (cellsL ((l25.drop 1).getD 0 undef)) 1 fun v56 =>
 pBin Go.Proofs.Tryd.prog .or 22 v56 v33 fun v57 =>
 pSplice 1 (cellsL ((l25.drop 1).getD 0 undef)) 1 v57 fun c58 =>
 pUn .not v53 fun v59 =>
 pBool v59 fun b60 => br b60
 (pCell 1 false c58 2 fun v61 =>
 pBin Go.Proofs.Tryd.prog .or 22 v61 v33 fun v62 =>
 pSplice 1 c58 2 v62 fun c63 =>
 pBin Go.Proofs.Tryd.prog .add 3 (l25.getD 0 undef) (.int .i64 1) fun v64 =>
 some (.next, [v64, (.agg c63.toArray)], H51))
 (pBin Go.Proofs.Tryd.prog .add 3 (l25.getD 0 undef) (.int .i64 1) fun v65 =>
 some (.next, [v65, (.agg c58.toArray)], H51)))
 (pUn .not v53 fun v66 =>
 pBool v66 fun b67 => br b67
 (pCell 1 false (cellsL ((l25.drop 1).getD 0 undef)) 2 fun v68 =>
 pBin Go.Proofs.Tryd.prog .or 22 v68 v33 fun v69 =>
 pSplice 1 (cellsL ((l25.drop 1).getD 0 undef)) 2 v69 fun c70 =>
 pBin Go.Proofs.Tryd.prog .add 3 (l25.getD 0 undef) (.int .i64 1) fun v71 =>
 some (.next, [v71, (.agg c70.toArray)], H51))
 (pBin Go.Proofs.Tryd.prog .add 3 (l25.getD 0 undef) (.int .i64 1) fun v72 =>
 some (.next, [v72, (.agg (cellsL ((l25.drop 1).getD 0 undef)).toArray)], H51))))
 (some (.exit 0, [(l25.getD 0 undef), (.agg (cellsL ((l25.drop 1).getD 0 undef)).toArray)], H29))) [(.int .i64 0), (.agg c24.toArray)] H22) fun q73 l74 H75 => onCtl q73 none
 (fun i76 => onExit i76 0 (
 pCell 5 true (cellsL ((l74.drop 1).getD 0 undef)) 0 fun v77 =>
 pSplice 5 [.int .i64 0, .int .u64 0, .int .u64 0, .int .u64 0, .int .u64 0] 0 v77 fun c78 =>
 pCell 5 true c78 0 fun v79 =>
 some ((.tuple #[v79, (.int .i64 0)]), H75)) (
 none))
 (some ((l74.headD undef), H75))))
theorem e21 (R : Handler) (x0 : Value) (H0 : Hp) : execF Go.Proofs.Tryd.prog orc R 21 Go.Proofs.Tryd.f21 [x0] H0 = m21 R x0 H0 := by kernel_rfl
noncomputable def m22 (R : Handler) (x0 x1 : Value) (H0 : Hp) : Option (Value × Hp) :=
 pCell 5 true (cellsL x0) 0 fun v1 =>
 pCell 5 true (cellsL x1) 0 fun v2 =>
 pCallF R 36 [v1, v2] H0 fun r3 H4 =>
 pExtract r3 0 fun v5 =>
 pExtract r3 1 fun v6 =>
 pExtract r3 2 fun v7 =>
 pSplice 5 [.int .i64 0, .int .u64 0, .int .u64 0, .int .u64 0, .int .u64 0] 0 v5 fun c8 =>
 pSplice 5 [.int .i64 0, .int .u64 0, .int .u64 0, .int .u64 0, .int .u64 0] 0 v6 fun c9 =>
 pBin Go.Proofs.Tryd.prog .neq 3 v7 (.int .i64 0) fun v10 =>
 pBool v10 fun b11 => br b11
 (pBuild Go.Proofs.Tryd.prog 24 [] fun v12 =>
 pSplice 5 [.int .i64 0, .int .u64 0, .int .u64 0, .int .u64 0, .int .u64 0] 0 v12 fun c13 =>
 pCell 5 true c13 0 fun v14 =>
 some ((.tuple #[v14, v7]), H4))
 (pCell 1 false c8 0 fun v15 =>
 pCell 1 false c8 1 fun v16 =>
 pCell 1 false c9 1 fun v17 =>
 pBin Go.Proofs.Tryd.prog .or 22 v16 v17 fun v18 =>
 pCell 1 false c8 2 fun v19 =>
 pCell 1 false c9 2 fun v20 =>
 pBin Go.Proofs.Tryd.prog .or 22 v19 v20 fun v21 =>
 pCell 1 false c8 3 fun v22 =>
 pCell 1 false c8 4 fun v23 =>
 pBuild Go.Proofs.Tryd.prog 24 [(0, v15), (1, v18), (2, v21), (3, v22), (4, v23)] fun v24 =>
 pSplice 5 [.int .i64 0, .int .u64 0, .int .u64 0, .int .u64 0, .int .u64 0] 0 v24 fun c25 =>
 pCell 1 false c9 3 fun v26 =>
 pCell 1 false c25 3 fun v27 =>
 pBin Go.Proofs.Tryd.prog .gtr 22 v26 v27 fun v28 =>
 pBool v28 fun b29 => br b29
 (pCell 1 false c9 3 fun v30 =>
 pSplice 1 c25 3 v30 fun c31 =>
 pCell 1 false c9 4 fun v32 =>
 pCell 1 false c31 4 fun v33 =>
 pBin Go.Proofs.Tryd.prog .lss 22 v32 v33 fun v34 =>
 pBool v34 fun b35 => br b35
 (pCell 1 false c9 4 fun v36 =>
 pSplice 1 c31 4 v36 fun c37 =>
 pCell 5 true c37 0 fun v38 =>
 pCallF R 21 [v38] H4 fun r39 H40 =>
 pExtract r39 0 fun v41 =>
 pExtract r39 1 fun v42 =>
 pSplice 5 [.int .i64 0, .int .u64 0, .int .u64 0, .int .u64 0, .int .u64 0] 0 v41 fun c43 =>
 pCell 5 true c43 0 fun v44 =>
 some ((.tuple #[v44, v42]), H40))
 (pCell 5 true c31 0 fun v45 =>
 pCallF R 21 [v45] H4 fun r46 H47 =>
 pExtract r46 0 fun v48 =>
 pExtract r46 1 fun v49 =>
 pSplice 5 [.int .i64 0, .int .u64 0, .int .u64 0, .int .u64 0, .int .u64 0] 0 v48 fun c50 =>
 pCell 5 true c50 0 fun v51 =>
 some ((.tuple #[v51, v49]), H47)))
 (pCell 1 false c9 4 fun v52 =>
 pCell 1 false c25 4 fun v53 =>
 pBin Go.Proofs.Tryd.prog .lss 22 v52 v53 fun v54 =>
 pBool v54 fun b55 => br b55
 (pCell 1 false c9 4 fun v56 =>
 pSplice 1 c25 4 v56 fun c57 =>
 pCell 5 true c57 0 fun v58 =>
 pCallF R 21 [v58] H4 fun r59 H60 =>
 pExtract r59 0 fun v61 =>
 pExtract r59 1 fun v62 =>
 pSplice 5 [.int .i64 0, .int .u64 0, .int .u64 0, .int .u64 0, .int .u64 0] 0 v61 fun c63 =>
 pCell 5 true c63 0 fun v64 =>
 some ((.tuple #[v64, v62]), H60))
 (pCell 5 true c25 0 fun v65 =>
 pCallF R 21 [v65] H4 fun r66 H67 =>
 pExtract r66 0 fun v68 =>
 pExtract r66 1 fun v69 =>
 pSplice 5 [.int .i64 0, .int .u64 0, .int .u64 0, .int .u64 0, .int .u64 0] 0 v68 fun c70 =>
 pCell 5 true c70 0 fun v71 =>
 some ((.tuple #[v71, v69]), H67))))
theorem e22 (R : Handler) (x0 x1 : Value) (H0 : Hp) : execF Go.Proofs.Tryd.prog orc R 22 Go.Proofs.Tryd.f22 [x0, x1] H0 = m22 R x0 x1 H0 := by kernel_rfl
noncomputable def m23 (R : Handler) (x0 x1 : Value) (H0 : Hp) : Option (Value × Hp) :=
 pCell 5 true (cellsL x0) 0 fun v1 =>
 pCell 5 true (cellsL x1) 0 fun v2 =>
 pCallF R 36 [v1, v2] H0 fun r3 H4 =>
 pExtract r3 0 fun v5 =>
 pExtract r3 1 fun v6 =>
 pExtract r3 2 fun v7 =>
 pSplice 5 [.int .i64 0, .int .u64 0, .int .u64 0, .int .u64 0, .int .u64 0] 0 v5 fun c8 =>
 pSplice 5 [.int .i64 0, .int .u64 0, .int .u64 0, .int .u64 0, .int .u64 0] 0 v6 fun c9 =>
 pBin Go.Proofs.Tryd.prog .neq 3 v7 (.int .i64 0) fun v10 =>
 pBool v10 fun b11 => br b11
 (pBuild Go.Proofs.Tryd.prog 24 [] fun v12 =>
 pSplice 5 [.int .i64 0, .int .u64 0, .int .u64 0, .int .u64 0, .int .u64 0] 0 v12 fun c13 =>
 pCell 5 true c13 0 fun v14 =>
 some ((.tuple #[v14, v7]), H4))
 (pCell 5 true c8 0 fun v15 =>
 pCell 5 true c9 0 fun v16 =>
 pCallF R 37 [v15, v16] H4 fun r17 H18 =>
 pCallF R 21 [r17] H18 fun r19 H20 =>
 pExtract r19 0 fun v21 =>
 pExtract r19 1 fun v22 =>
 pSplice 5 [.int .i64 0, .int .u64 0, .int .u64 0, .int .u64 0, .int .u64 0] 0 v21 fun c23 =>
 pCell 5 true c23 0 fun v24 =>
 some ((.tuple #[v24, v22]), H20))
theorem e23 (R : Handler) (x0 x1 : Value) (H0 : Hp) : execF Go.Proofs.Tryd.prog orc R 23 Go.Proofs.Tryd.f23 [x0, x1] H0 = m23 R x0 x1 H0 := by kernel_rfl
noncomputable def m25 (R : Handler) (x0 x1 : Value) (H0 : Hp) : Option (Value × Hp) :=
 pCell 1 false (cellsL x0) 1 fun v1 =>
 pBin Go.Proofs.Tryd.prog .and 22 x1 v1 fun v2 =>
 pCell 1 false (cellsL x0) 1 fun v3 =>
 pBin Go.Proofs.Tryd.prog .eql 22 v2 v3 fun v4 =>
 pBool v4 fun b5 => br b5
 (pCell 1 false (cellsL x0) 2 fun v6 =>
 pBin Go.Proofs.Tryd.prog .and 22 x1 v6 fun v7 =>
 pBin Go.Proofs.Tryd.prog .eql 22 v7 (.int .u64 0) fun v8 =>
 some (v8, H0))
 (some ((.bool false), H0))
theorem e25 (R : Handler) (x0 x1 : Value) (H0 : Hp) : execF Go.Proofs.Tryd.prog orc R 25 Go.Proofs.Tryd.f25 [x0, x1] H0 = m25 R x0 x1 H0 := by kernel_rfl
noncomputable def m26 (R : Handler) (x0 : Value) (H0 : Hp) : Option (Value × Hp) :=
 pCallF R 43 [x0] H0 fun r1 H2 =>
 pCallF R 42 [r1, (.int .u64 18446744073709551615)] H2 fun r3 H4 =>
 some (r3, H4)
theorem e26 (R : Handler) (x0 : Value) (H0 : Hp) : execF Go.Proofs.Tryd.prog orc R 26 Go.Proofs.Tryd.f26 [x0] H0 = m26 R x0 H0 := by kernel_rfl
noncomputable def m27 (R : Handler) (x0 x1 : Value) (H0 : Hp) : Option (Value × Hp) :=
 pCell 1 false (cellsL x0) 1 fun v1 =>
 pBin Go.Proofs.Tryd.prog .and 22 x1 v1 fun v2 =>
 pCell 1 false (cellsL x0) 1 fun v3 =>
 pBin Go.Proofs.Tryd.prog .eql 22 v2 v3 fun v4 =>
 pBool v4 fun b5 => br b5
 (pCell 1 false (cellsL x0) 2 fun v6 =>
 pBin Go.Proofs.Tryd.prog .and 22 x1 v6 fun v7 =>
 pBin Go.Proofs.Tryd.prog .eql 22 v7 (.int .u64 0) fun v8 =>
 some (v8, H0))
 (some ((.bool false), H0))
theorem e27 (R : Handler) (x0 x1 : Value) (H0 : Hp) : execF Go.Proofs.Tryd.prog orc R 27 Go.Proofs.Tryd.f27 [x0, x1] H0 = m27 R x0 x1 H0 := by kernel_rfl
noncomputable def m28 (R : Handler) (x0 : Value) (H0 : Hp) : Option (Value × Hp) :=
 pBin Go.Proofs.Tryd.prog .eql 3 x0 (.int .i64 0) fun v1 =>
 pBool v1 fun b2 => br b2
 (some ((.int .i64 1), H0))
 (some (x0, H0))
theorem e28 (R : Handler) (x0 : Value) (H0 : Hp) : execF Go.Proofs.Tryd.prog orc R 28 Go.Proofs.Tryd.f28 [x0] H0 = m28 R x0 H0 := by kernel_rfl
noncomputable def m29 (R : Handler) (x0 x1 : Value) (H0 : Hp) : Option (Value × Hp) :=
 bindO (
 pCell 5 true (cellsL x0) 0 fun v1 =>
 pCallF R 19 [v1] H0 fun r2 H3 =>
 pUn .not r2 fun v4 =>
 pBool v4 fun b5 => br b5
 (pCell 5 true (cellsL x0) 0 fun v6 =>
 pCell 5 true (cellsL x1) 0 fun v7 =>
 pSplice 5 [.int .i64 0, .int .u64 0, .int .u64 0, .int .u64 0, .int .u64 0] 0 v6 fun c8 =>
 pSplice 5 [.int .i64 0, .int .u64 0, .int .u64 0, .int .u64 0, .int .u64 0] 0 v7 fun c9 =>
 pCell 5 true c8 0 fun v10 =>
 pCell 5 true c9 0 fun v11 =>
 some (.ret, [(.tuple #[v10, v11, (.int .i64 5)])], H3))
 (pCell 5 true (cellsL x1) 0 fun v12 =>
 pCallF R 19 [v12] H3 fun r13 H14 =>
 pUn .not r13 fun v15 =>
 pBool v15 fun b16 => br b16
 (pCell 5 true (cellsL x0) 0 fun v17 =>
 pCell 5 true (cellsL x1) 0 fun v18 =>
 pSplice 5 [.int .i64 0, .int .u64 0, .int .u64 0, .int .u64 0, .int .u64 0] 0 v17 fun c19 =>
 pSplice 5 [.int .i64 0, .int .u64 0, .int .u64 0, .int .u64 0, .int .u64 0] 0 v18 fun c20 =>
 pCell 5 true c19 0 fun v21 =>
 pCell 5 true c20 0 fun v22 =>
 some (.ret, [(.tuple #[v21, v22, (.int .i64 5)])], H14))
 (pCell 1 false (cellsL x0) 0 fun v23 =>
 pCell 1 false (cellsL x1) 0 fun v24 =>
 pBin Go.Proofs.Tryd.prog .neq 3 v23 v24 fun v25 =>
 pBool v25 fun b26 => br b26
 (pCell 5 true (cellsL x0) 0 fun v27 =>
 pCell 5 true (cellsL x1) 0 fun v28 =>
 pSplice 5 [.int .i64 0, .int .u64 0, .int .u64 0, .int .u64 0, .int .u64 0] 0 v27 fun c29 =>
 pSplice 5 [.int .i64 0, .int .u64 0, .int .u64 0, .int .u64 0, .int .u64 0] 0 v28 fun c30 =>
 pCell 5 true c29 0 fun v31 =>
 pCell 5 true c30 0 fun v32 =>
 some (.ret, [(.tuple #[v31, v32, (.int .i64 5)])], H14))
 (some (.next, [(.agg [.int .i64 0, .int .u64 0, .int .u64 0, .int .u64 0, .int .u64 0].toArray), (.agg [.int .i64 0, .int .u64 0, .int .u64 0, .int .u64 0, .int .u64 0].toArray)], H14))))) fun q33 l34 H35 => onCtl q33
 (pCell 5 true (cellsL x0) 0 fun v37 =>
 pCallF R 33 [v37] H35 fun r38 H39 =>
 pExtract r38 0 fun v40 =>
 pExtract r38 1 fun v41 =>
 pSplice 5 [.int .i64 0, .int .u64 0, .int .u64 0, .int .u64 0, .int .u64 0] 0 v40 fun c42 =>
 pCell 5 true (cellsL x1) 0 fun v43 =>
 pCallF R 33 [v43] H39 fun r44 H45 =>
 pExtract r44 0 fun v46 =>
 pExtract r44 1 fun v47 =>
 pSplice 5 [.int .i64 0, .int .u64 0, .int .u64 0, .int .u64 0, .int .u64 0] 0 v46 fun c48 =>
 pUn .not v41 fun v49 =>
 pBool v49 fun b50 => br b50
 (pCell 5 true (cellsL x0) 0 fun v51 =>
 pCell 5 true (cellsL x1) 0 fun v52 =>
 pSplice 5 (cellsL ((l34.drop 0).getD 0 undef)) 0 v51 fun c53 =>
 pSplice 5 (cellsL ((l34.drop 0).getD 1 undef)) 0 v52 fun c54 =>
 pCell 5 true c53 0 fun v55 =>
 pCell 5 true c54 0 fun v56 =>
 some ((.tuple #[v55, v56, (.int .i64 1)]), H45))
 (pUn .not v47 fun v57 =>
 pBool v57 fun b58 => br b58
 (pCell 5 true (cellsL x0) 0 fun v59 =>
 pCell 5 true (cellsL x1) 0 fun v60 =>
 pSplice 5 (cellsL ((l34.drop 0).getD 0 undef)) 0 v59 fun c61 =>
 pSplice 5 (cellsL ((l34.drop 0).getD 1 undef)) 0 v60 fun c62 =>
 pCell 5 true c61 0 fun v63 =>
 pCell 5 true c62 0 fun v64 =>
 some ((.tuple #[v63, v64, (.int .i64 1)]), H45))
 (pCell 5 true c42 0 fun v65 =>
 pCell 5 true c48 0 fun v66 =>
 pSplice 5 (cellsL ((l34.drop 0).getD 0 undef)) 0 v65 fun c67 =>
 pSplice 5 (cellsL ((l34.drop 0).getD 1 undef)) 0 v66 fun c68 =>
 pCell 5 true c67 0 fun v69 =>
 pCell 5 true c68 0 fun v70 =>
 some ((.tuple #[v69, v70, (.int .i64 0)]), H45))))
 (fun i36 => none)
 (some ((l34.headD undef), H35))
theorem e29 (R : Handler) (x0 x1 : Value) (H0 : Hp) : execF Go.Proofs.Tryd.prog orc R 29 Go.Proofs.Tryd.f29 [x0, x1] H0 = m29 R x0 x1 H0 := by kernel_rfl
noncomputable def m30 (R : Handler) (x0 x1 : Value) (H0 : Hp) : Option (Value × Hp) :=
 pCell 1 false (cellsL x0) 0 fun v1 =>
 pCell 1 false (cellsL x0) 1 fun v2 =>
 pCell 1 false (cellsL x1) 1 fun v3 =>
 pBin Go.Proofs.Tryd.prog .and 22 v2 v3 fun v4 =>
 pCell 1 false (cellsL x0) 2 fun v5 =>
 pCell 1 false (cellsL x1) 2 fun v6 =>
 pBin Go.Proofs.Tryd.prog .and 22 v5 v6 fun v7 =>
 pCell 1 false (cellsL x0) 3 fun v8 =>
 pCell 1 false (cellsL x1) 3 fun v9 =>
 pMM false [v8, v9] fun v10 =>
 pCell 1 false (cellsL x0) 4 fun v11 =>
 pCell 1 false (cellsL x1) 4 fun v12 =>
 pMM true [v11, v12] fun v13 =>
 pBuild Go.Proofs.Tryd.prog 24 [(0, v1), (1, v4), (2, v7), (3, v10), (4, v13)] fun v14 =>
 pSplice 5 [.int .i64 0, .int .u64 0, .int .u64 0, .int .u64 0, .int .u64 0] 0 v14 fun c15 =>
 pCell 5 true c15 0 fun v16 =>
 some (v16, H0)
theorem e30 (R : Handler) (x0 x1 : Value) (H0 : Hp) : execF Go.Proofs.Tryd.prog orc R 30 Go.Proofs.Tryd.f30 [x0, x1] H0 = m30 R x0 x1 H0 := by kernel_rfl
noncomputable def m31 (R : Handler) (x0 : Value) (H0 : Hp) : Option (Value × Hp) :=
 pCallF R 26 [x0] H0 fun r1 H2 =>
 pBuild Go.Proofs.Tryd.prog 24 [(0, x0), (4, r1)] fun v3 =>
 pSplice 5 [.int .i64 0, .int .u64 0, .int .u64 0, .int .u64 0, .int .u64 0] 0 v3 fun c4 =>
 pCell 5 true c4 0 fun v5 =>
 some (v5, H2)
theorem e31 (R : Handler) (x0 : Value) (H0 : Hp) : execF Go.Proofs.Tryd.prog orc R 31 Go.Proofs.Tryd.f31 [x0] H0 = m31 R x0 H0 := by kernel_rfl
noncomputable def m32 (R : Handler) (x0 x1 : Value) (H0 : Hp) : Option (Value × Hp) :=
 pCallF R 26 [x0] H0 fun r1 H2 =>
 pBin Go.Proofs.Tryd.prog .andNot 22 r1 x1 fun v3 =>
 pBuild Go.Proofs.Tryd.prog 24 [(0, x0), (1, x1), (2, v3), (3, x1), (4, x1)] fun v4 =>
 pSplice 5 [.int .i64 0, .int .u64 0, .int .u64 0, .int .u64 0, .int .u64 0] 0 v4 fun c5 =>
 pCell 5 true c5 0 fun v6 =>
 some (v6, H2)
theorem e32 (R : Handler) (x0 x1 : Value) (H0 : Hp) : execF Go.Proofs.Tryd.prog orc R 32 Go.Proofs.Tryd.f32 [x0, x1] H0 = m32 R x0 x1 H0 := by kernel_rfl
noncomputable def m33 (R : Handler) (x0 : Value) (H0 : Hp) : Option (Value × Hp) :=
 pCell 5 true (cellsL x0) 0 fun v1 =>
 pCell 1 false (cellsL x0) 3 fun v2 =>
 pCallF R 44 [v1, v2] H0 fun r3 H4 =>
 pExtract r3 0 fun v5 =>
 pExtract r3 1 fun v6 =>
 pCell 5 true (cellsL x0) 0 fun v7 =>
 pCell 1 false (cellsL x0) 4 fun v8 =>
 pCallF R 45 [v7, v8] H4 fun r9 H10 =>
 pExtract r9 0 fun v11 =>
 pExtract r9 1 fun v12 =>
 bindO (
 pUn .not v6 fun v13 =>
 pBool v13 fun b14 => br b14
 (pBuild Go.Proofs.Tryd.prog 24 [] fun v15 =>
 pSplice 5 [.int .i64 0, .int .u64 0, .int .u64 0, .int .u64 0, .int .u64 0] 0 v15 fun c16 =>
 pCell 5 true c16 0 fun v17 =>
 some (.ret, [(.tuple #[v17, (.bool false)])], H10))
 (pUn .not v12 fun v18 =>
 pBool v18 fun b19 => br b19
 (pBuild Go.Proofs.Tryd.prog 24 [] fun v20 =>
 pSplice 5 [.int .i64 0, .int .u64 0, .int .u64 0, .int .u64 0, .int .u64 0] 0 v20 fun c21 =>
 pCell 5 true c21 0 fun v22 =>
 some (.ret, [(.tuple #[v22, (.bool false)])], H10))
 (pBin Go.Proofs.Tryd.prog .gtr 22 v5 v11 fun v23 =>
 pBool v23 fun b24 => br b24
 (pBuild Go.Proofs.Tryd.prog 24 [] fun v25 =>
 pSplice 5 [.int .i64 0, .int .u64 0, .int .u64 0, .int .u64 0, .int .u64 0] 0 v25 fun c26 =>
 pCell 5 true c26 0 fun v27 =>
 some (.ret, [(.tuple #[v27, (.bool false)])], H10))
 (pCell 1 false (cellsL x0) 3 fun v28 =>
 pCell 1 false (cellsL x0) 4 fun v29 =>
 pBin Go.Proofs.Tryd.prog .gtr 22 v28 v29 fun v30 =>
 pBool v30 fun b31 => br b31
 (pBuild Go.Proofs.Tryd.prog 24 [] fun v32 =>
 pSplice 5 [.int .i64 0, .int .u64 0, .int .u64 0, .int .u64 0, .int .u64 0] 0 v32 fun c33 =>
 pCell 5 true c33 0 fun v34 =>
 some (.ret, [(.tuple #[v34, (.bool false)])], H10))
 (some (.next, [(.agg [.int .i64 0, .int .u64 0, .int .u64 0, .int .u64 0, .int .u64 0].toArray)], H10)))))) fun q35 l36 H37 => onCtl q35
 (pCell 1 false (cellsL x0) 0 fun v39 =>
 pBuild Go.Proofs.Tryd.prog 24 [(0, v39), (3, v5), (4, v11)] fun v40 =>
 pSplice 5 [.int .i64 0, .int .u64 0, .int .u64 0, .int .u64 0, .int .u64 0] 0 v40 fun c41 =>
 pCell 1 false (cellsL x0) 0 fun v42 =>
 pCallF R 26 [v42] H37 fun r43 H44 =>
 pCell 1 false (cellsL x0) 0 fun v45 =>
 pCallF R 43 [v45] H44 fun r46 H47 =>
 bindO (loopD (fun l48 H49 =>
 pBin Go.Proofs.Tryd.prog .lss 3 (l48.getD 0 undef) r46 fun v50 =>
 pBool v50 fun b51 => br b51
 (pConvInt .u64 (l48.getD 0 undef) fun v52 =>
 pBin Go.Proofs.Tryd.prog .shl 22 (.int .u64 1) v52 fun v53 =>
 pCell 1 false (cellsL x0) 1 fun v54 =>
 pBin Go.Proofs.Tryd.prog .and 22 v54 v53 fun v55 =>
 pBin Go.Proofs.Tryd.prog .neq 22 v55 (.int .u64 0) fun v56 =>
 pBool v56 fun b57 => br b57
 (pCell 1 false (cellsL ((l48.drop 1).getD 0 undef)) 1 fun v58 =>
 pBin Go.Proofs.Tryd.prog .or 22 v58 v53 fun v59 =>
 pSplice 1 (cellsL ((l48.drop 1).getD 0 undef)) 1 v59 fun c60 =>
 pBin Go.Proofs.Tryd.prog .add 3 (l48.getD 0 undef) (.int .i64 1) fun v61 =>
 some (.next, [v61, (.agg c60.toArray)], H49))
 (pCell 1 false (cellsL x0) 2 fun v62 =>
 pBin Go.Proofs.Tryd.prog .and 22 v62 v53 fun v63 =>
 pBin Go.Proofs.Tryd.prog .neq 22 v63 (.int .u64 0) fun v64 =>
 pBool v64 fun b65 => br b65
 (pCell 1 false (cellsL ((l48.drop 1).getD 0 undef)) 2 fun v66 =>
 pBin Go.Proofs.Tryd.prog .or 22 v66 v53 fun v67 =>
 pSplice 1 (cellsL ((l48.drop 1).getD 0 undef)) 2 v67 fun c68 =>
 pBin Go.Proofs.Tryd.prog .add 3 (l48.getD 0 undef) (.int .i64 1) fun v69 =>
 some (.next, [v69, (.agg c68.toArray)], H49))
 (pCell 1 false (cellsL x0) 0 fun v70 =>
 pCell 1 false (cellsL x0) 1 fun v71 =>
 pBin Go.Proofs.Tryd.prog .or 22 v71 v53 fun v72 =>
 pCell 1 false (cellsL x0) 2 fun v73 =>
 pBuild Go.Proofs.Tryd.prog 24 [(0, v70), (1, v72), (2, v73)] fun v74 =>
 pCallF R 46 [v74, v5, v11] H49 fun r75 H76 =>
 pUn .not r75 fun v77 =>
 pBool v77 fun b78 => br b78
 (pCell 1 false (cellsL ((l48.drop 1).getD 0 undef)) 2 fun v79 =>
 pBin Go.Proofs.Tryd.prog .or 22 v79 v53 fun v80 =>
 pSplice 1 (cellsL ((l48.drop 1).getD 0 undef)) 2 v80 fun c81 =>
 pBin Go.Proofs.Tryd.prog .add 3 (l48.getD 0 undef) (.int .i64 1) fun v82 =>
 some (.next, [v82, (.agg c81.toArray)], H76))
 (pCell 1 false (cellsL x0) 0 fun v83 =>
 pCell 1 false (cellsL x0) 1 fun v84 =>
 pCell 1 false (cellsL x0) 2 fun v85 =>
 pBin Go.Proofs.Tryd.prog .or 22 v85 v53 fun v86 =>
 pBuild Go.Proofs.Tryd.prog 24 [(0, v83), (1, v84), (2, v86)] fun v87 =>
 pCallF R 46 [v87, v5, v11] H76 fun r88 H89 =>
 pUn .not r88 fun v90 =>
 pBool v90 fun b91 => br b91
 (pCell 1 false (cellsL ((l48.drop 1).getD 0 undef)) 1 fun v92 =>
 pBin Go.Proofs.Tryd.prog .or 22 v92 v53 fun v93 =>
 pSplice 1 (cellsL ((l48.drop 1).getD 0 undef)) 1 v93 fun c94 =>
 pBin Go.Proofs.Tryd.prog .add 3 (l48.getD 0 undef) (.int .i64 1) fun v95 =>
 some (.next, [v95, (.agg c94.toArray)], H89))
 (pBin Go.Proofs.Tryd.prog .add 3 (l48.getD 0 undef) (.int .i64 1) fun v96 =>
 some (.next, [v96, (.agg (cellsL ((l48.drop 1).getD 0 undef)).toArray)], H89))))))
 (some (.exit 0, [(l48.getD 0 undef), (.agg (cellsL ((l48.drop 1).getD 0 undef)).toArray)], H49))) [(.int .i64 0), (.agg c41.toArray)] H47) fun q97 l98 H99 => onCtl q97 none
 (fun i100 => onExit i100 0 (
 pCell 1 false (cellsL ((l98.drop 1).getD 0 undef)) 1 fun v101 =>
 pBin Go.Proofs.Tryd.prog .and 22 v101 r43 fun v102 =>
 pSplice 1 (cellsL ((l98.drop 1).getD 0 undef)) 1 v102 fun c103 =>
 pCell 5 true c103 0 fun v104 =>
 pSplice 5 (cellsL ((l36.drop 0).getD 0 undef)) 0 v104 fun c105 =>
 pCell 5 true c105 0 fun v106 =>
 some ((.tuple #[v106, (.bool true)]), H99)) (
 none))
 (some ((l98.headD undef), H99)))
 (fun i38 => none)
 (some ((l36.headD undef), H37))
theorem e33 (R : Handler) (x0 : Value) (H0 : Hp) : execF Go.Proofs.Tryd.prog orc R 33 Go.Proofs.Tryd.f33 [x0] H0 = m33 R x0 H0 := by kernel_rfl
noncomputable def m34 (R : Handler) (x0 : Value) (H0 : Hp) : Option (Value × Hp) :=
 bindO (loopD (fun l1 H2 =>
 pCell 1 false (cellsL x0) 0 fun v3 =>
 pCallF R 28 [v3] H2 fun r4 H5 =>
 pBin Go.Proofs.Tryd.prog .lss 3 (l1.getD 0 undef) r4 fun v6 =>
 pBool v6 fun b7 => br b7
 (pCell 1 false (cellsL x0) 3 fun v8 =>
 pBin Go.Proofs.Tryd.prog .geq 3 (l1.getD 0 undef) (.int .i64 0) fun v9 =>
 pBool v9 fun b10 => br b10
 (pCallF R 47 [v8, (l1.getD 0 undef)] H5 fun r11 H12 =>
 pBool r11 fun b13 => br b13
 (pBin Go.Proofs.Tryd.prog .add 3 (l1.getD 0 undef) (.int .i64 1) fun v14 =>
 some (.next, [v14], H12))
 (pBin Go.Proofs.Tryd.prog .add 3 (l1.getD 0 undef) (.int .i64 1) fun v15 =>
 pCallF R 48 [v15] H12 fun r16 H17 =>
 pBin Go.Proofs.Tryd.prog .andNot 22 v8 r16 fun v18 =>
 pConvInt .u64 (l1.getD 0 undef) fun v19 =>
 pBin Go.Proofs.Tryd.prog .shl 22 (.int .u64 1) v19 fun v20 =>
 pBin Go.Proofs.Tryd.prog .or 22 v18 v20 fun v21 =>
 pCell 1 false (cellsL x0) 1 fun v22 =>
 pCallF R 48 [(l1.getD 0 undef)] H17 fun r23 H24 =>
 pBin Go.Proofs.Tryd.prog .and 22 v22 r23 fun v25 =>
 pBin Go.Proofs.Tryd.prog .or 22 v21 v25 fun v26 =>
 pCell 5 true (cellsL x0) 0 fun v27 =>
 pCallF R 25 [v27, v26] H24 fun r28 H29 =>
 pBool r28 fun b30 => br b30
 (pCell 1 false (cellsL x0) 4 fun v31 =>
 pBin Go.Proofs.Tryd.prog .leq 22 v26 v31 fun v32 =>
 some (.ret, [(.tuple #[v26, v32])], H29))
 (pBin Go.Proofs.Tryd.prog .add 3 (l1.getD 0 undef) (.int .i64 1) fun v33 =>
 some (.next, [v33], H29))))
 (pCell 5 true (cellsL x0) 0 fun v34 =>
 pCallF R 25 [v34, v8] H5 fun r35 H36 =>
 pBool r35 fun b37 => br b37
 (pCell 1 false (cellsL x0) 4 fun v38 =>
 pBin Go.Proofs.Tryd.prog .leq 22 v8 v38 fun v39 =>
 some (.ret, [(.tuple #[v8, v39])], H36))
 (pBin Go.Proofs.Tryd.prog .add 3 (l1.getD 0 undef) (.int .i64 1) fun v40 =>
 some (.next, [v40], H36))))
 (some (.exit 0, [(l1.getD 0 undef)], H5))) [(.int .i64 (-1))] H0) fun q41 l42 H43 => onCtl q41 none
 (fun i44 => onExit i44 0 (
 some ((.tuple #[(.int .u64 0), (.bool false)]), H43)) (
 none))
 (some ((l42.headD undef), H43))
theorem e34 (R : Handler) (x0 : Value) (H0 : Hp) : execF Go.Proofs.Tryd.prog orc R 34 Go.Proofs.Tryd.f34 [x0] H0 = m34 R x0 H0 := by kernel_rfl
noncomputable def m35 (R : Handler) (x0 : Value) (H0 : Hp) : Option (Value × Hp) :=
 bindO (loopD (fun l1 H2 =>
 pCell 1 false (cellsL x0) 0 fun v3 =>
 pCallF R 28 [v3] H2 fun r4 H5 =>
 pBin Go.Proofs.Tryd.prog .lss 3 (l1.getD 0 undef) r4 fun v6 =>
 pBool v6 fun b7 => br b7
 (pCell 1 false (cellsL x0) 4 fun v8 =>
 pBin Go.Proofs.Tryd.prog .geq 3 (l1.getD 0 undef) (.int .i64 0) fun v9 =>
 pBool v9 fun b10 => br b10
 (pCallF R 47 [v8, (l1.getD 0 undef)] H5 fun r11 H12 =>
 pUn .not r11 fun v13 =>
 pBool v13 fun b14 => br b14
 (pBin Go.Proofs.Tryd.prog .add 3 (l1.getD 0 undef) (.int .i64 1) fun v15 =>
 some (.next, [v15], H12))
 (pBin Go.Proofs.Tryd.prog .add 3 (l1.getD 0 undef) (.int .i64 1) fun v16 =>
 pCallF R 48 [v16] H12 fun r17 H18 =>
 pBin Go.Proofs.Tryd.prog .andNot 22 v8 r17 fun v19 =>
 pCallF R 48 [(l1.getD 0 undef)] H18 fun r20 H21 =>
 pCell 1 false (cellsL x0) 2 fun v22 =>
 pBin Go.Proofs.Tryd.prog .andNot 22 r20 v22 fun v23 =>
 pBin Go.Proofs.Tryd.prog .or 22 v19 v23 fun v24 =>
 pCell 5 true (cellsL x0) 0 fun v25 =>
 pCallF R 25 [v25, v24] H21 fun r26 H27 =>
 pBool r26 fun b28 => br b28
 (some (.ret, [v24], H27))
 (pBin Go.Proofs.Tryd.prog .add 3 (l1.getD 0 undef) (.int .i64 1) fun v29 =>
 some (.next, [v29], H27))))
 (pCell 5 true (cellsL x0) 0 fun v30 =>
 pCallF R 25 [v30, v8] H5 fun r31 H32 =>
 pBool r31 fun b33 => br b33
 (some (.ret, [v8], H32))
 (pBin Go.Proofs.Tryd.prog .add 3 (l1.getD 0 undef) (.int .i64 1) fun v34 =>
 some (.next, [v34], H32))))
 (some (.exit 0, [(l1.getD 0 undef)], H5))) [(.int .i64 (-1))] H0) fun q35 l36 H37 => onCtl q35 none
 (fun i38 => onExit i38 0 (
 some ((.int .u64 0), H37)) (
 none))
 (some ((l36.headD undef), H37))
theorem e35 (R : Handler) (x0 : Value) (H0 : Hp) : execF Go.Proofs.Tryd.prog orc R 35 Go.Proofs.Tryd.f35 [x0] H0 = m35 R x0 H0 := by kernel_rfl
noncomputable def m36 (R : Handler) (x0 x1 : Value) (H0 : Hp) : Option (Value × Hp) :=
 bindO (
 pCell 5 true (cellsL x0) 0 fun v1 =>
 pCallF R 8 [v1] H0 fun r2 H3 =>
 pUn .not r2 fun v4 =>
 pBool v4 fun b5 => br b5
 (pCell 5 true (cellsL x0) 0 fun v6 =>
 pCell 5 true (cellsL x1) 0 fun v7 =>
 pSplice 5 [.int .i64 0, .int .u64 0, .int .u64 0, .int .u64 0, .int .u64 0] 0 v6 fun c8 =>
 pSplice 5 [.int .i64 0, .int .u64 0, .int .u64 0, .int .u64 0, .int .u64 0] 0 v7 fun c9 =>
 pCell 5 true c8 0 fun v10 =>
 pCell 5 true c9 0 fun v11 =>
 some (.ret, [(.tuple #[v10, v11, (.int .i64 5)])], H3))
 (pCell 5 true (cellsL x1) 0 fun v12 =>
 pCallF R 8 [v12] H3 fun r13 H14 =>
 pUn .not r13 fun v15 =>
 pBool v15 fun b16 => br b16
 (pCell 5 true (cellsL x0) 0 fun v17 =>
 pCell 5 true (cellsL x1) 0 fun v18 =>
 pSplice 5 [.int .i64 0, .int .u64 0, .int .u64 0, .int .u64 0, .int .u64 0] 0 v17 fun c19 =>
 pSplice 5 [.int .i64 0, .int .u64 0, .int .u64 0, .int .u64 0, .int .u64 0] 0 v18 fun c20 =>
 pCell 5 true c19 0 fun v21 =>
 pCell 5 true c20 0 fun v22 =>
 some (.ret, [(.tuple #[v21, v22, (.int .i64 5)])], H14))
 (pCell 1 false (cellsL x0) 0 fun v23 =>
 pCell 1 false (cellsL x1) 0 fun v24 =>
 pBin Go.Proofs.Tryd.prog .neq 3 v23 v24 fun v25 =>
 pBool v25 fun b26 => br b26
 (pCell 5 true (cellsL x0) 0 fun v27 =>
 pCell 5 true (cellsL x1) 0 fun v28 =>
 pSplice 5 [.int .i64 0, .int .u64 0, .int .u64 0, .int .u64 0, .int .u64 0] 0 v27 fun c29 =>
 pSplice 5 [.int .i64 0, .int .u64 0, .int .u64 0, .int .u64 0, .int .u64 0] 0 v28 fun c30 =>
 pCell 5 true c29 0 fun v31 =>
 pCell 5 true c30 0 fun v32 =>
 some (.ret, [(.tuple #[v31, v32, (.int .i64 5)])], H14))
 (some (.next, [(.agg [.int .i64 0, .int .u64 0, .int .u64 0, .int .u64 0, .int .u64 0].toArray), (.agg [.int .i64 0, .int .u64 0, .int .u64 0, .int .u64 0, .int .u64 0].toArray)], H14))))) fun q33 l34 H35 => onCtl q33
 (pCell 5 true (cellsL x0) 0 fun v37 =>
 pCallF R 21 [v37] H35 fun r38 H39 =>
 pExtract r38 0 fun v40 =>
 pExtract r38 1 fun v41 =>
 pSplice 5 [.int .i64 0, .int .u64 0, .int .u64 0, .int .u64 0, .int .u64 0] 0 v40 fun c42 =>
 pBin Go.Proofs.Tryd.prog .neq 3 v41 (.int .i64 0) fun v43 =>
 pBool v43 fun b44 => br b44
 (pCell 5 true (cellsL x0) 0 fun v45 =>
 pCell 5 true (cellsL x1) 0 fun v46 =>
 pSplice 5 (cellsL ((l34.drop 0).getD 0 undef)) 0 v45 fun c47 =>
 pSplice 5 (cellsL ((l34.drop 0).getD 1 undef)) 0 v46 fun c48 =>
 pCell 5 true c47 0 fun v49 =>
 pCell 5 true c48 0 fun v50 =>
 some ((.tuple #[v49, v50, v41]), H39))
 (pCell 5 true (cellsL x1) 0 fun v51 =>
 pCallF R 21 [v51] H39 fun r52 H53 =>
 pExtract r52 0 fun v54 =>
 pExtract r52 1 fun v55 =>
 pSplice 5 [.int .i64 0, .int .u64 0, .int .u64 0, .int .u64 0, .int .u64 0] 0 v54 fun c56 =>
 pCell 5 true c42 0 fun v57 =>
 pCell 5 true c56 0 fun v58 =>
 pSplice 5 (cellsL ((l34.drop 0).getD 0 undef)) 0 v57 fun c59 =>
 pSplice 5 (cellsL ((l34.drop 0).getD 1 undef)) 0 v58 fun c60 =>
 pCell 5 true c59 0 fun v61 =>
 pCell 5 true c60 0 fun v62 =>
 some ((.tuple #[v61, v62, v55]), H53)))
 (fun i36 => none)
 (some ((l34.headD undef), H35))
theorem e36 (R : Handler) (x0 x1 : Value) (H0 : Hp) : execF Go.Proofs.Tryd.prog orc R 36 Go.Proofs.Tryd.f36 [x0, x1] H0 = m36 R x0 x1 H0 := by kernel_rfl
noncomputable def m37 (R : Handler) (x0 x1 : Value) (H0 : Hp) : Option (Value × Hp) :=
 pCell 1 false (cellsL x0) 0 fun v1 =>
 pCell 1 false (cellsL x0) 1 fun v2 =>
 pCell 1 false (cellsL x1) 1 fun v3 =>
 pBin Go.Proofs.Tryd.prog .and 22 v2 v3 fun v4 =>
 pCell 1 false (cellsL x0) 2 fun v5 =>
 pCell 1 false (cellsL x1) 2 fun v6 =>
 pBin Go.Proofs.Tryd.prog .and 22 v5 v6 fun v7 =>
 pCell 1 false (cellsL x0) 3 fun v8 =>
 pCell 1 false (cellsL x0) 4 fun v9 =>
 pBuild Go.Proofs.Tryd.prog 24 [(0, v1), (1, v4), (2, v7), (3, v8), (4, v9)] fun v10 =>
 pSplice 5 [.int .i64 0, .int .u64 0, .int .u64 0, .int .u64 0, .int .u64 0] 0 v10 fun c11 =>
 pCell 1 false (cellsL x1) 3 fun v12 =>
 pCell 1 false c11 3 fun v13 =>
 pBin Go.Proofs.Tryd.prog .lss 22 v12 v13 fun v14 =>
 pBool v14 fun b15 => br b15
 (pCell 1 false (cellsL x1) 3 fun v16 =>
 pSplice 1 c11 3 v16 fun c17 =>
 pCell 1 false (cellsL x1) 4 fun v18 =>
 pCell 1 false c17 4 fun v19 =>
 pBin Go.Proofs.Tryd.prog .gtr 22 v18 v19 fun v20 =>
 pBool v20 fun b21 => br b21
 (pCell 1 false (cellsL x1) 4 fun v22 =>
 pSplice 1 c17 4 v22 fun c23 =>
 pCell 5 true c23 0 fun v24 =>
 pSplice 5 [.int .i64 0, .int .u64 0, .int .u64 0, .int .u64 0, .int .u64 0] 0 v24 fun c25 =>
 pCell 5 true c25 0 fun v26 =>
 some (v26, H0))
 (pCell 5 true c17 0 fun v27 =>
 pSplice 5 [.int .i64 0, .int .u64 0, .int .u64 0, .int .u64 0, .int .u64 0] 0 v27 fun c28 =>
 pCell 5 true c28 0 fun v29 =>
 some (v29, H0)))
 (pCell 1 false (cellsL x1) 4 fun v30 =>
 pCell 1 false c11 4 fun v31 =>
 pBin Go.Proofs.Tryd.prog .gtr 22 v30 v31 fun v32 =>
 pBool v32 fun b33 => br b33
 (pCell 1 false (cellsL x1) 4 fun v34 =>
 pSplice 1 c11 4 v34 fun c35 =>
 pCell 5 true c35 0 fun v36 =>
 pSplice 5 [.int .i64 0, .int .u64 0, .int .u64 0, .int .u64 0, .int .u64 0] 0 v36 fun c37 =>
 pCell 5 true c37 0 fun v38 =>
 some (v38, H0))
 (pCell 5 true c11 0 fun v39 =>
 pSplice 5 [.int .i64 0, .int .u64 0, .int .u64 0, .int .u64 0, .int .u64 0] 0 v39 fun c40 =>
 pCell 5 true c40 0 fun v41 =>
 some (v41, H0)))
theorem e37 (R : Handler) (x0 x1 : Value) (H0 : Hp) : execF Go.Proofs.Tryd.prog orc R 37 Go.Proofs.Tryd.f37 [x0, x1] H0 = m37 R x0 x1 H0 := by kernel_rfl
noncomputable def m42 (R : Handler) (x0 x1 : Value) (H0 : Hp) : Option (Value × Hp) :=
 pBin Go.Proofs.Tryd.prog .lss 3 x0 (.int .i64 1) fun v1 =>
 pBool v1 fun b2 => br b2
 (some ((.int .u64 0), H0))
 (pBin Go.Proofs.Tryd.prog .geq 3 x0 (.int .i64 64) fun v3 =>
 pBool v3 fun b4 => br b4
 (some (x1, H0))
 (pConvInt .u64 x0 fun v5 =>
 pBin Go.Proofs.Tryd.prog .shl 22 (.int .u64 1) v5 fun v6 =>
 pBin Go.Proofs.Tryd.prog .sub 22 v6 (.int .u64 1) fun v7 =>
 pBin Go.Proofs.Tryd.prog .and 22 x1 v7 fun v8 =>
 some (v8, H0)))
theorem e42 (R : Handler) (x0 x1 : Value) (H0 : Hp) : execF Go.Proofs.Tryd.prog orc R 42 Go.Proofs.Tryd.f42 [x0, x1] H0 = m42 R x0 x1 H0 := by kernel_rfl
noncomputable def m43 (R : Handler) (x0 : Value) (H0 : Hp) : Option (Value × Hp) :=
 pMM true [x0, (.int .i64 1)] fun v1 =>
 some (v1, H0)
theorem e43 (R : Handler) (x0 : Value) (H0 : Hp) : execF Go.Proofs.Tryd.prog orc R 43 Go.Proofs.Tryd.f43 [x0] H0 = m43 R x0 H0 := by kernel_rfl
noncomputable def m44 (R : Handler) (x0 x1 : Value) (H0 : Hp) : Option (Value × Hp) :=
 pCell 1 false (cellsL x0) 1 fun v1 =>
 pCell 1 false (cellsL x0) 2 fun v2 =>
 pBin Go.Proofs.Tryd.prog .and 22 v1 v2 fun v3 =>
 pBin Go.Proofs.Tryd.prog .neq 22 v3 (.int .u64 0) fun v4 =>
 pBool v4 fun b5 => br b5
 (some ((.tuple #[(.int .u64 0), (.bool false)]), H0))
 (pCell 5 true (cellsL x0) 0 fun v6 =>
 pCallF R 27 [v6, x1] H0 fun r7 H8 =>
 pBool r7 fun b9 => br b9
 (some ((.tuple #[x1, (.bool true)]), H8))
 (pCell 1 false (cellsL x0) 2 fun v10 =>
 pBin Go.Proofs.Tryd.prog .and 22 x1 v10 fun v11 =>
 pUn .xor x1 fun v12 =>
 pCell 1 false (cellsL x0) 1 fun v13 =>
 pBin Go.Proofs.Tryd.prog .and 22 v12 v13 fun v14 =>
 pBin Go.Proofs.Tryd.prog .or 22 v11 v14 fun v15 =>
 pCallF R 63 [v15] H8 fun r16 H17 =>
 pBin Go.Proofs.Tryd.prog .sub 3 (.int .i64 63) r16 fun v18 =>
 pCell 1 false (cellsL x0) 1 fun v19 =>
 pConvInt .u64 v18 fun v20 =>
 pBin Go.Proofs.Tryd.prog .shr 22 v19 v20 fun v21 =>
 pBin Go.Proofs.Tryd.prog .and 22 v21 (.int .u64 1) fun v22 =>
 pBin Go.Proofs.Tryd.prog .eql 22 v22 (.int .u64 1) fun v23 =>
 pBool v23 fun b24 => br b24
 (pConvInt .u64 v18 fun v25 =>
 pBin Go.Proofs.Tryd.prog .shr 22 x1 v25 fun v26 =>
 pConvInt .u64 v18 fun v27 =>
 pBin Go.Proofs.Tryd.prog .shl 22 v26 v27 fun v28 =>
 pConvInt .u64 v18 fun v29 =>
 pBin Go.Proofs.Tryd.prog .shl 22 (.int .u64 1) v29 fun v30 =>
 pBin Go.Proofs.Tryd.prog .or 22 v28 v30 fun v31 =>
 pCell 1 false (cellsL x0) 1 fun v32 =>
 pConvInt .u64 v18 fun v33 =>
 pBin Go.Proofs.Tryd.prog .shl 22 (.int .u64 1) v33 fun v34 =>
 pBin Go.Proofs.Tryd.prog .sub 22 v34 (.int .u64 1) fun v35 =>
 pBin Go.Proofs.Tryd.prog .and 22 v32 v35 fun v36 =>
 pBin Go.Proofs.Tryd.prog .or 22 v31 v36 fun v37 =>
 some ((.tuple #[v37, (.bool true)]), H17))
 (pBin Go.Proofs.Tryd.prog .add 3 v18 (.int .i64 1) fun v38 =>
 bindO (loopD (fun l39 H40 =>
 pCell 1 false (cellsL x0) 0 fun v41 =>
 pCallF R 43 [v41] H40 fun r42 H43 =>
 pBin Go.Proofs.Tryd.prog .lss 3 (l39.getD 0 undef) r42 fun v44 =>
 pBool v44 fun b45 => br b45
 (bindO (
 pConvInt .u64 (l39.getD 0 undef) fun v46 =>
 pBin Go.Proofs.Tryd.prog .shr 22 x1 v46 fun v47 =>
 pBin Go.Proofs.Tryd.prog .and 22 v47 (.int .u64 1) fun v48 =>
 pBin Go.Proofs.Tryd.prog .eql 22 v48 (.int .u64 0) fun v49 =>
 pBool v49 fun b50 => br b50
 (pCell 1 false (cellsL x0) 2 fun v51 =>
 pConvInt .u64 (l39.getD 0 undef) fun v52 =>
 pBin Go.Proofs.Tryd.prog .shr 22 v51 v52 fun v53 =>
 pBin Go.Proofs.Tryd.prog .and 22 v53 (.int .u64 1) fun v54 =>
 pBin Go.Proofs.Tryd.prog .eql 22 v54 (.int .u64 0) fun v55 =>
 some (.next, [v55], H43))
 (some (.next, [(.bool false)], H43))) fun q56 l57 H58 => onCtl q56
 (pBool (l57.getD 0 undef) fun b60 => br b60
 (pConvInt .u64 (l39.getD 0 undef) fun v61 =>
 pBin Go.Proofs.Tryd.prog .shr 22 x1 v61 fun v62 =>
 pConvInt .u64 (l39.getD 0 undef) fun v63 =>
 pBin Go.Proofs.Tryd.prog .shl 22 v62 v63 fun v64 =>
 pConvInt .u64 (l39.getD 0 undef) fun v65 =>
 pBin Go.Proofs.Tryd.prog .shl 22 (.int .u64 1) v65 fun v66 =>
 pBin Go.Proofs.Tryd.prog .or 22 v64 v66 fun v67 =>
 pCell 1 false (cellsL x0) 1 fun v68 =>
 pConvInt .u64 (l39.getD 0 undef) fun v69 =>
 pBin Go.Proofs.Tryd.prog .shl 22 (.int .u64 1) v69 fun v70 =>
 pBin Go.Proofs.Tryd.prog .sub 22 v70 (.int .u64 1) fun v71 =>
 pBin Go.Proofs.Tryd.prog .and 22 v68 v71 fun v72 =>
 pBin Go.Proofs.Tryd.prog .or 22 v67 v72 fun v73 =>
 some (.ret, [(.tuple #[v73, (.bool true)])], H58))
 (pBin Go.Proofs.Tryd.prog .add 3 (l39.getD 0 undef) (.int .i64 1) fun v74 =>
 some (.next, [v74], H58)))
 (fun i59 => onExit i59 1 (
 pBin Go.Proofs.Tryd.prog .add 3 (l39.getD 0 undef) (.int .i64 1) fun v75 =>
 some (.next, [v75], H58)) (
 some (.exit i59, [(l39.getD 0 undef)], H58)))
 (some (.ret, [(l57.headD undef)], H58)))
 (some (.exit 0, [(l39.getD 0 undef)], H43))) [v38] H17) fun q76 l77 H78 => onCtl q76 none
 (fun i79 => onExit i79 0 (
 some ((.tuple #[(.int .u64 0), (.bool false)]), H78)) (
 none))
 (some ((l77.headD undef), H78)))))
theorem e44 (R : Handler) (x0 x1 : Value) (H0 : Hp) : execF Go.Proofs.Tryd.prog orc R 44 Go.Proofs.Tryd.f44 [x0, x1] H0 = m44 R x0 x1 H0 := by kernel_rfl
noncomputable def m45 (R : Handler) (x0 x1 : Value) (H0 : Hp) : Option (Value × Hp) :=
 pCell 1 false (cellsL x0) 0 fun v1 =>
 pCallF R 26 [v1] H0 fun r2 H3 =>
 pCell 1 false (cellsL x0) 0 fun v4 =>
 pCell 1 false (cellsL x0) 2 fun v5 =>
 pCell 1 false (cellsL x0) 1 fun v6 =>
 pBuild Go.Proofs.Tryd.prog 24 [(0, v4), (1, v5), (2, v6)] fun v7 =>
 pBin Go.Proofs.Tryd.prog .andNot 22 r2 x1 fun v8 =>
 pCallF R 44 [v7, v8] H3 fun r9 H10 =>
 pExtract r9 0 fun v11 =>
 pExtract r9 1 fun v12 =>
 pBin Go.Proofs.Tryd.prog .andNot 22 r2 v11 fun v13 =>
 some ((.tuple #[v13, v12]), H10)
theorem e45 (R : Handler) (x0 x1 : Value) (H0 : Hp) : execF Go.Proofs.Tryd.prog orc R 45 Go.Proofs.Tryd.f45 [x0, x1] H0 = m45 R x0 x1 H0 := by kernel_rfl
noncomputable def m46 (R : Handler) (x0 x1 x2 : Value) (H0 : Hp) : Option (Value × Hp) :=
 pCell 5 true (cellsL x0) 0 fun v1 =>
 pCallF R 44 [v1, x1] H0 fun r2 H3 =>
 pExtract r2 0 fun v4 =>
 pExtract r2 1 fun v5 =>
 pBool v5 fun b6 => br b6
 (pBin Go.Proofs.Tryd.prog .leq 22 v4 x2 fun v7 =>
 some (v7, H3))
 (some ((.bool false), H3))
theorem e46 (R : Handler) (x0 x1 x2 : Value) (H0 : Hp) : execF Go.Proofs.Tryd.prog orc R 46 Go.Proofs.Tryd.f46 [x0, x1, x2] H0 = m46 R x0 x1 x2 H0 := by kernel_rfl
noncomputable def m47 (R : Handler) (x0 x1 : Value) (H0 : Hp) : Option (Value × Hp) :=
 pConvInt .u64 x1 fun v1 =>
 pBin Go.Proofs.Tryd.prog .shr 22 x0 v1 fun v2 =>
 pBin Go.Proofs.Tryd.prog .and 22 v2 (.int .u64 1) fun v3 =>
 pBin Go.Proofs.Tryd.prog .eql 22 v3 (.int .u64 1) fun v4 =>
 some (v4, H0)
theorem e47 (R : Handler) (x0 x1 : Value) (H0 : Hp) : execF Go.Proofs.Tryd.prog orc R 47 Go.Proofs.Tryd.f47 [x0, x1] H0 = m47 R x0 x1 H0 := by kernel_rfl
noncomputable def m48 (R : Handler) (x0 : Value) (H0 : Hp) : Option (Value × Hp) :=
 pBin Go.Proofs.Tryd.prog .geq 3 x0 (.int .i64 64) fun v1 =>
 pBool v1 fun b2 => br b2
 (some ((.int .u64 18446744073709551615), H0))
 (pConvInt .u64 x0 fun v3 =>
 pBin Go.Proofs.Tryd.prog .shl 22 (.int .u64 1) v3 fun v4 =>
 pBin Go.Proofs.Tryd.prog .sub 22 v4 (.int .u64 1) fun v5 =>
 some (v5, H0))
theorem e48 (R : Handler) (x0 : Value) (H0 : Hp) : execF Go.Proofs.Tryd.prog orc R 48 Go.Proofs.Tryd.f48 [x0] H0 = m48 R x0 H0 := by kernel_rfl
noncomputable def m63 (R : Handler) (x0 : Value) (H0 : Hp) : Option (Value × Hp) :=
 pCallF R 80 [x0] H0 fun r1 H2 =>
 pBin Go.Proofs.Tryd.prog .sub 3 (.int .i64 64) r1 fun v3 =>
 some (v3, H2)
theorem e63 (R : Handler) (x0 : Value) (H0 : Hp) : execF Go.Proofs.Tryd.prog orc R 63 Go.Proofs.Tryd.f63 [x0] H0 = m63 R x0 H0 := by kernel_rfl
noncomputable def m80 (R : Handler) (x0 : Value) (H0 : Hp) : Option (Value × Hp) :=
 bindO (
 pBin Go.Proofs.Tryd.prog .geq 22 x0 (.int .u64 4294967296) fun v1 =>
 pBool v1 fun b2 => br b2
 (pBin Go.Proofs.Tryd.prog .shr 22 x0 (.int .u64 32) fun v3 =>
 some (.next, [v3, (.int .i64 32)], H0))
 (some (.next, [x0, (.int .i64 0)], H0))) fun q4 l5 H6 => onCtl q4
 (pBin Go.Proofs.Tryd.prog .geq 22 (l5.getD 0 undef) (.int .u64 65536) fun v8 =>
 pBool v8 fun b9 => br b9
 (pBin Go.Proofs.Tryd.prog .shr 22 (l5.getD 0 undef) (.int .u64 16) fun v10 =>
 pBin Go.Proofs.Tryd.prog .add 3 (l5.getD 1 undef) (.int .i64 16) fun v11 =>
 pBin Go.Proofs.Tryd.prog .geq 22 v10 (.int .u64 256) fun v12 =>
 pBool v12 fun b13 => br b13
 (pBin Go.Proofs.Tryd.prog .shr 22 v10 (.int .u64 8) fun v14 =>
 pBin Go.Proofs.Tryd.prog .add 3 v11 (.int .i64 8) fun v15 =>
 pConvInt .u8 v14 fun v16 =>
 pAtStr (.string ⟨#[0, 1, 2, 2, 3, 3, 3, 3, 4, 4, 4, 4, 4, 4, 4, 4, 5, 5, 5, 5, 5, 5, 5, 5, 5, 5, 5, 5, 5, 5, 5, 5, 6, 6, 6, 6, 6, 6, 6, 6, 6, 6, 6, 6, 6, 6, 6, 6, 6, 6, 6, 6, 6, 6, 6, 6, 6, 6, 6, 6, 6, 6, 6, 6, 7, 7, 7, 7, 7, 7, 7, 7, 7, 7, 7, 7, 7, 7, 7, 7, 7, 7, 7, 7, 7, 7, 7, 7, 7, 7, 7, 7, 7, 7, 7, 7, 7, 7, 7, 7, 7, 7, 7, 7, 7, 7, 7, 7, 7, 7, 7, 7, 7, 7, 7, 7, 7, 7, 7, 7, 7, 7, 7, 7, 7, 7, 7, 7, 8, 8, 8, 8, 8, 8, 8, 8, 8, 8, 8, 8, 8, 8, 8, 8, 8, 8, 8, 8, 8, 8, 8, 8, 8, 8, 8, 8, 8, 8, 8, 8, 8, 8, 8, 8, 8, 8, 8, 8, 8, 8, 8, 8, 8, 8, 8, 8, 8, 8, 8, 8, 8, 8, 8, 8, 8, 8, 8, 8, 8, 8, 8, 8, 8, 8, 8, 8, 8, 8, 8, 8, 8, 8, 8, 8, 8, 8, 8, 8, 8, 8, 8, 8, 8, 8, 8, 8, 8, 8, 8, 8, 8, 8, 8, 8, 8, 8, 8, 8, 8, 8, 8, 8, 8, 8, 8, 8, 8, 8, 8, 8, 8, 8, 8, 8, 8, 8, 8, 8, 8, 8, 8, 8, 8, 8, 8, 8]⟩) v16 fun v17 =>
 pConvInt .i64 v17 fun v18 =>
 pBin Go.Proofs.Tryd.prog .add 3 v15 v18 fun v19 =>
 some (v19, H6))
 (pConvInt .u8 v10 fun v20 =>
 pAtStr (.string ⟨#[0, 1, 2, 2, 3, 3, 3, 3, 4, 4, 4, 4, 4, 4, 4, 4, 5, 5, 5, 5, 5, 5, 5, 5, 5, 5, 5, 5, 5, 5, 5, 5, 6, 6, 6, 6, 6, 6, 6, 6, 6, 6, 6, 6, 6, 6, 6, 6, 6, 6, 6, 6, 6, 6, 6, 6, 6, 6, 6, 6, 6, 6, 6, 6, 7, 7, 7, 7, 7, 7, 7, 7, 7, 7, 7, 7, 7, 7, 7, 7, 7, 7, 7, 7, 7, 7, 7, 7, 7, 7, 7, 7, 7, 7, 7, 7, 7, 7, 7, 7, 7, 7, 7, 7, 7, 7, 7, 7, 7, 7, 7, 7, 7, 7, 7, 7, 7, 7, 7, 7, 7, 7, 7, 7, 7, 7, 7, 7, 8, 8, 8, 8, 8, 8, 8, 8, 8, 8, 8, 8, 8, 8, 8, 8, 8, 8, 8, 8, 8, 8, 8, 8, 8, 8, 8, 8, 8, 8, 8, 8, 8, 8, 8, 8, 8, 8, 8, 8, 8, 8, 8, 8, 8, 8, 8, 8, 8, 8, 8, 8, 8, 8, 8, 8, 8, 8, 8, 8, 8, 8, 8, 8, 8, 8, 8, 8, 8, 8, 8, 8, 8, 8, 8, 8, 8, 8, 8, 8, 8, 8, 8, 8, 8, 8, 8, 8, 8, 8, 8, 8, 8, 8, 8, 8, 8, 8, 8, 8, 8, 8, 8, 8, 8, 8, 8, 8, 8, 8, 8, 8, 8, 8, 8, 8, 8, 8, 8, 8, 8, 8, 8, 8, 8, 8, 8, 8]⟩) v20 fun v21 =>
 pConvInt .i64 v21 fun v22 =>
 pBin Go.Proofs.Tryd.prog .add 3 v11 v22 fun v23 =>
 some (v23, H6)))
 (pBin Go.Proofs.Tryd.prog .geq 22 (l5.getD 0 undef) (.int .u64 256) fun v24 =>
 pBool v24 fun b25 => br b25
 (pBin Go.Proofs.Tryd.prog .shr 22 (l5.getD 0 undef) (.int .u64 8) fun v26 =>
 pBin Go.Proofs.Tryd.prog .add 3 (l5.getD 1 undef) (.int .i64 8) fun v27 =>
 pConvInt .u8 v26 fun v28 =>
 pAtStr (.string ⟨#[0, 1, 2, 2, 3, 3, 3, 3, 4, 4, 4, 4, 4, 4, 4, 4, 5, 5, 5, 5, 5, 5, 5, 5, 5, 5, 5, 5, 5, 5, 5, 5, 6, 6, 6, 6, 6, 6, 6, 6, 6, 6, 6, 6, 6, 6, 6, 6, 6, 6, 6, 6, 6, 6, 6, 6, 6, 6, 6, 6, 6, 6, 6, 6, 7, 7, 7, 7, 7, 7, 7, 7, 7, 7, 7, 7, 7, 7, 7, 7, 7, 7, 7, 7, 7, 7, 7, 7, 7, 7, 7, 7, 7, 7, 7, 7, 7, 7, 7, 7, 7, 7, 7, 7, 7, 7, 7, 7, 7, 7, 7, 7, 7, 7, 7, 7, 7, 7, 7, 7, 7, 7, 7, 7, 7, 7, 7, 7, 8, 8, 8, 8, 8, 8, 8, 8, 8, 8, 8, 8, 8, 8, 8, 8, 8, 8, 8, 8, 8, 8, 8, 8, 8, 8, 8, 8, 8, 8, 8, 8, 8, 8, 8, 8, 8, 8, 8, 8, 8, 8, 8, 8, 8, 8, 8, 8, 8, 8, 8, 8, 8, 8, 8, 8, 8, 8, 8, 8, 8, 8, 8, 8, 8, 8, 8, 8, 8, 8, 8, 8, 8, 8, 8, 8, 8, 8, 8, 8, 8, 8, 8, 8, 8, 8, 8, 8, 8, 8, 8, 8, 8, 8, 8, 8, 8, 8, 8, 8, 8, 8, 8, 8, 8, 8, 8, 8, 8, 8, 8, 8, 8, 8, 8, 8, 8, 8, 8, 8, 8, 8, 8, 8, 8, 8, 8, 8]⟩) v28 fun v29 =>
 pConvInt .i64 v29 fun v30 =>
 pBin Go.Proofs.Tryd.prog .add 3 v27 v30 fun v31 =>
 some (v31, H6))
 (pConvInt .u8 (l5.getD 0 undef) fun v32 =>
 pAtStr (.string ⟨#[0, 1, 2, 2, 3, 3, 3, 3, 4, 4, 4, 4, 4, 4, 4, 4, 5, 5, 5, 5, 5, 5, 5, 5, 5, 5, 5, 5, 5, 5, 5, 5, 6, 6, 6, 6, 6, 6, 6, 6, 6, 6, 6, 6, 6, 6, 6, 6, 6, 6, 6, 6, 6, 6, 6, 6, 6, 6, 6, 6, 6, 6, 6, 6, 7, 7, 7, 7, 7, 7, 7, 7, 7, 7, 7, 7, 7, 7, 7, 7, 7, 7, 7, 7, 7, 7, 7, 7, 7, 7, 7, 7, 7, 7, 7, 7, 7, 7, 7, 7, 7, 7, 7, 7, 7, 7, 7, 7, 7, 7, 7, 7, 7, 7, 7, 7, 7, 7, 7, 7, 7, 7, 7, 7, 7, 7, 7, 7, 8, 8, 8, 8, 8, 8, 8, 8, 8, 8, 8, 8, 8, 8, 8, 8, 8, 8, 8, 8, 8, 8, 8, 8, 8, 8, 8, 8, 8, 8, 8, 8, 8, 8, 8, 8, 8, 8, 8, 8, 8, 8, 8, 8, 8, 8, 8, 8, 8, 8, 8, 8, 8, 8, 8, 8, 8, 8, 8, 8, 8, 8, 8, 8, 8, 8, 8, 8, 8, 8, 8, 8, 8, 8, 8, 8, 8, 8, 8, 8, 8, 8, 8, 8, 8, 8, 8, 8, 8, 8, 8, 8, 8, 8, 8, 8, 8, 8, 8, 8, 8, 8, 8, 8, 8, 8, 8, 8, 8, 8, 8, 8, 8, 8, 8, 8, 8, 8, 8, 8, 8, 8, 8, 8, 8, 8, 8, 8]⟩) v32 fun v33 =>
 pConvInt .i64 v33 fun v34 =>
 pBin Go.Proofs.Tryd.prog .add 3 (l5.getD 1 undef) v34 fun v35 =>
 some (v35, H6))))
 (fun i7 => none)
 (some ((l5.headD undef), H6))
theorem e80 (R : Handler) (x0 : Value) (H0 : Hp) : execF Go.Proofs.Tryd.prog orc R 80 Go.Proofs.Tryd.f80 [x0] H0 = m80 R x0 H0 := by kernel_rfl
theorem r3 (E : FuncId → Option (List Value → Hp → Option (Value × Hp))) (h : E 3 = none) (x0 x1 : Value) (H0 : Hp) : run Go.Proofs.Tryd.prog orc E 3 [x0, x1] H0 = m3 (run Go.Proofs.Tryd.prog orc E) x0 x1 H0 := (run_fn Go.Proofs.Tryd.func3 (by kernel_rfl) (by kernel_rfl) h _ _).trans (e3 _ x0 x1 H0)
theorem r4 (E : FuncId → Option (List Value → Hp → Option (Value × Hp))) (h : E 4 = none) (x0 x1 x2 x3 : Value) (H0 : Hp) : run Go.Proofs.Tryd.prog orc E 4 [x0, x1, x2, x3] H0 = m4 (run Go.Proofs.Tryd.prog orc E) x0 x1 x2 x3 H0 := (run_fn Go.Proofs.Tryd.func4 (by kernel_rfl) (by kernel_rfl) h _ _).trans (e4 _ x0 x1 x2 x3 H0)
theorem r5 (E : FuncId → Option (List Value → Hp → Option (Value × Hp))) (h : E 5 = none) (x0 x1 x2 x3 : Value) (H0 : Hp) : run Go.Proofs.Tryd.prog orc E 5 [x0, x1, x2, x3] H0 = m5 (run Go.Proofs.Tryd.prog orc E) x0 x1 x2 x3 H0 := (run_fn Go.Proofs.Tryd.func5 (by kernel_rfl) (by kernel_rfl) h _ _).trans (e5 _ x0 x1 x2 x3 H0)
theorem r7 (E : FuncId → Option (List Value → Hp → Option (Value × Hp))) (h : E 7 = none) (x0 : Value) (H0 : Hp) : run Go.Proofs.Tryd.prog orc E 7 [x0] H0 = m7 (run Go.Proofs.Tryd.prog orc E) x0 H0 := (run_fn Go.Proofs.Tryd.func7 (by kernel_rfl) (by kernel_rfl) h _ _).trans (e7 _ x0 H0)
theorem r8 (E : FuncId → Option (List Value → Hp → Option (Value × Hp))) (h : E 8 = none) (x0 : Value) (H0 : Hp) : run Go.Proofs.Tryd.prog orc E 8 [x0] H0 = m8 (run Go.Proofs.Tryd.prog orc E) x0 H0 := (run_fn Go.Proofs.Tryd.func8 (by kernel_rfl) (by kernel_rfl) h _ _).trans (e8 _ x0 H0)
theorem r9 (E : FuncId → Option (List Value → Hp → Option (Value × Hp))) (h : E 9 = none) (x0 x1 : Value) (H0 : Hp) : run Go.Proofs.Tryd.prog orc E 9 [x0, x1] H0 = m9 (run Go.Proofs.Tryd.prog orc E) x0 x1 H0 := (run_fn Go.Proofs.Tryd.func9 (by kernel_rfl) (by kernel_rfl) h _ _).trans (e9 _ x0 x1 H0)
theorem r10 (E : FuncId → Option (List Value → Hp → Option (Value × Hp))) (h : E 10 = none) (x0 x1 : Value) (H0 : Hp) : run Go.Proofs.Tryd.prog orc E 10 [x0, x1] H0 = m10 (run Go.Proofs.Tryd.prog orc E) x0 x1 H0 := (run_fn Go.Proofs.Tryd.func10 (by kernel_rfl) (by kernel_rfl) h _ _).trans (e10 _ x0 x1 H0)
theorem r11 (E : FuncId → Option (List Value → Hp → Option (Value × Hp))) (h : E 11 = none) (x0 : Value) (H0 : Hp) : run Go.Proofs.Tryd.prog orc E 11 [x0] H0 = m11 (run Go.Proofs.Tryd.prog orc E) x0 H0 := (run_fn Go.Proofs.Tryd.func11 (by kernel_rfl) (by kernel_rfl) h _ _).trans (e11 _ x0 H0)
theorem r12 (E : FuncId → Option (List Value → Hp → Option (Value × Hp))) (h : E 12 = none) (x0 x1 : Value) (H0 : Hp) : run Go.Proofs.Tryd.prog orc E 12 [x0, x1] H0 = m12 (run Go.Proofs.Tryd.prog orc E) x0 x1 H0 := (run_fn Go.Proofs.Tryd.func12 (by kernel_rfl) (by kernel_rfl) h _ _).trans (e12 _ x0 x1 H0)
theorem r13 (E : FuncId → Option (List Value → Hp → Option (Value × Hp))) (h : E 13 = none) (x0 : Value) (H0 : Hp) : run Go.Proofs.Tryd.prog orc E 13 [x0] H0 = m13 (run Go.Proofs.Tryd.prog orc E) x0 H0 := (run_fn Go.Proofs.Tryd.func13 (by kernel_rfl) (by kernel_rfl) h _ _).trans (e13 _ x0 H0)
theorem r14 (E : FuncId → Option (List Value → Hp → Option (Value × Hp))) (h : E 14 = none) (x0 x1 : Value) (H0 : Hp) : run Go.Proofs.Tryd.prog orc E 14 [x0, x1] H0 = m14 (run Go.Proofs.Tryd.prog orc E) x0 x1 H0 := (run_fn Go.Proofs.Tryd.func14 (by kernel_rfl) (by kernel_rfl) h _ _).trans (e14 _ x0 x1 H0)
theorem r15 (E : FuncId → Option (List Value → Hp → Option (Value × Hp))) (h : E 15 = none) (x0 : Value) (H0 : Hp) : run Go.Proofs.Tryd.prog orc E 15 [x0] H0 = m15 (run Go.Proofs.Tryd.prog orc E) x0 H0 := (run_fn Go.Proofs.Tryd.func15 (by kernel_rfl) (by kernel_rfl) h _ _).trans (e15 _ x0 H0)
theorem r16 (E : FuncId → Option (List Value → Hp → Option (Value × Hp))) (h : E 16 = none) (x0 : Value) (H0 : Hp) : run Go.Proofs.Tryd.prog orc E 16 [x0] H0 = m16 (run Go.Proofs.Tryd.prog orc E) x0 H0 := (run_fn Go.Proofs.Tryd.func16 (by kernel_rfl) (by kernel_rfl) h _ _).trans (e16 _ x0 H0)
theorem r17 (E : FuncId → Option (List Value → Hp → Option (Value × Hp))) (h : E 17 = none) (x0 x1 : Value) (H0 : Hp) : run Go.Proofs.Tryd.prog orc E 17 [x0, x1] H0 = m17 (run Go.Proofs.Tryd.prog orc E) x0 x1 H0 := (run_fn Go.Proofs.Tryd.func17 (by kernel_rfl) (by kernel_rfl) h _ _).trans (e17 _ x0 x1 H0)
theorem r18 (E : FuncId → Option (List Value → Hp → Option (Value × Hp))) (h : E 18 = none) (x0 x1 : Value) (H0 : Hp) : run Go.Proofs.Tryd.prog orc E 18 [x0, x1] H0 = m18 (run Go.Proofs.Tryd.prog orc E) x0 x1 H0 := (run_fn Go.Proofs.Tryd.func18 (by kernel_rfl) (by kernel_rfl) h _ _).trans (e18 _ x0 x1 H0)
theorem r19 (E : FuncId → Option (List Value → Hp → Option (Value × Hp))) (h : E 19 = none) (x0 : Value) (H0 : Hp) : run Go.Proofs.Tryd.prog orc E 19 [x0] H0 = m19 (run Go.Proofs.Tryd.prog orc E) x0 H0 := (run_fn Go.Proofs.Tryd.func19 (by kernel_rfl) (by kernel_rfl) h _ _).trans (e19 _ x0 H0)
theorem r20 (E : FuncId → Option (List Value → Hp → Option (Value × Hp))) (h : E 20 = none) (x0 : Value) (H0 : Hp) : run Go.Proofs.Tryd.prog orc E 20 [x0] H0 = m20 (run Go.Proofs.Tryd.prog orc E) x0 H0 := (run_fn Go.Proofs.Tryd.func20 (by kernel_rfl) (by kernel_rfl) h _ _).trans (e20 _ x0 H0)
theorem r21 (E : FuncId → Option (List Value → Hp → Option (Value × Hp))) (h : E 21 = none) (x0 : Value) (H0 : Hp) : run Go.Proofs.Tryd.prog orc E 21 [x0] H0 = m21 (run Go.Proofs.Tryd.prog orc E) x0 H0 := (run_fn Go.Proofs.Tryd.func21 (by kernel_rfl) (by kernel_rfl) h _ _).trans (e21 _ x0 H0)
theorem r22 (E : FuncId → Option (List Value → Hp → Option (Value × Hp))) (h : E 22 = none) (x0 x1 : Value) (H0 : Hp) : run Go.Proofs.Tryd.prog orc E 22 [x0, x1] H0 = m22 (run Go.Proofs.Tryd.prog orc E) x0 x1 H0 := (run_fn Go.Proofs.Tryd.func22 (by kernel_rfl) (by kernel_rfl) h _ _).trans (e22 _ x0 x1 H0)
theorem r23 (E : FuncId → Option (List Value → Hp → Option (Value × Hp))) (h : E 23 = none) (x0 x1 : Value) (H0 : Hp) : run Go.Proofs.Tryd.prog orc E 23 [x0, x1] H0 = m23 (run Go.Proofs.Tryd.prog orc E) x0 x1 H0 := (run_fn Go.Proofs.Tryd.func23 (by kernel_rfl) (by kernel_rfl) h _ _).trans (e23 _ x0 x1 H0)
theorem r25 (E : FuncId → Option (List Value → Hp → Option (Value × Hp))) (h : E 25 = none) (x0 x1 : Value) (H0 : Hp) : run Go.Proofs.Tryd.prog orc E 25 [x0, x1] H0 = m25 (run Go.Proofs.Tryd.prog orc E) x0 x1 H0 := (run_fn Go.Proofs.Tryd.func25 (by kernel_rfl) (by kernel_rfl) h _ _).trans (e25 _ x0 x1 H0)
theorem r26 (E : FuncId → Option (List Value → Hp → Option (Value × Hp))) (h : E 26 = none) (x0 : Value) (H0 : Hp) : run Go.Proofs.Tryd.prog orc E 26 [x0] H0 = m26 (run Go.Proofs.Tryd.prog orc E) x0 H0 := (run_fn Go.Proofs.Tryd.func26 (by kernel_rfl) (by kernel_rfl) h _ _).trans (e26 _ x0 H0)
theorem r27 (E : FuncId → Option (List Value → Hp → Option (Value × Hp))) (h : E 27 = none) (x0 x1 : Value) (H0 : Hp) : run Go.Proofs.Tryd.prog orc E 27 [x0, x1] H0 = m27 (run Go.Proofs.Tryd.prog orc E) x0 x1 H0 := (run_fn Go.Proofs.Tryd.func27 (by kernel_rfl) (by kernel_rfl) h _ _).trans (e27 _ x0 x1 H0)
theorem r28 (E : FuncId → Option (List Value → Hp → Option (Value × Hp))) (h : E 28 = none) (x0 : Value) (H0 : Hp) : run Go.Proofs.Tryd.prog orc E 28 [x0] H0 = m28 (run Go.Proofs.Tryd.prog orc E) x0 H0 := (run_fn Go.Proofs.Tryd.func28 (by kernel_rfl) (by kernel_rfl) h _ _).trans (e28 _ x0 H0)
theorem r29 (E : FuncId → Option (List Value → Hp → Option (Value × Hp))) (h : E 29 = none) (x0 x1 : Value) (H0 : Hp) : run Go.Proofs.Tryd.prog orc E 29 [x0, x1] H0 = m29 (run Go.Proofs.Tryd.prog orc E) x0 x1 H0 := (run_fn Go.Proofs.Tryd.func29 (by kernel_rfl) (by kernel_rfl) h _ _).trans (e29 _ x0 x1 H0)
theorem r30 (E : FuncId → Option (List Value → Hp → Option (Value × Hp))) (h : E 30 = none) (x0 x1 : Value) (H0 : Hp) : run Go.Proofs.Tryd.prog orc E 30 [x0, x1] H0 = m30 (run Go.Proofs.Tryd.prog orc E) x0 x1 H0 := (run_fn Go.Proofs.Tryd.func30 (by kernel_rfl) (by kernel_rfl) h _ _).trans (e30 _ x0 x1 H0)
theorem r31 (E : FuncId → Option (List Value → Hp → Option (Value × Hp))) (h : E 31 = none) (x0 : Value) (H0 : Hp) : run Go.Proofs.Tryd.prog orc E 31 [x0] H0 = m31 (run Go.Proofs.Tryd.prog orc E) x0 H0 := (run_fn Go.Proofs.Tryd.func31 (by kernel_rfl) (by kernel_rfl) h _ _).trans (e31 _ x0 H0)
theorem r32 (E : FuncId → Option (List Value → Hp → Option (Value × Hp))) (h : E 32 = none) (x0 x1 : Value) (H0 : Hp) : run Go.Proofs.Tryd.prog orc E 32 [x0, x1] H0 = m32 (run Go.Proofs.Tryd.prog orc E) x0 x1 H0 := (run_fn Go.Proofs.Tryd.func32 (by kernel_rfl) (by kernel_rfl) h _ _).trans (e32 _ x0 x1 H0)
theorem r33 (E : FuncId → Option (List Value → Hp → Option (Value × Hp))) (h : E 33 = none) (x0 : Value) (H0 : Hp) : run Go.Proofs.Tryd.prog orc E 33 [x0] H0 = m33 (run Go.Proofs.Tryd.prog orc E) x0 H0 := (run_fn Go.Proofs.Tryd.func33 (by kernel_rfl) (by kernel_rfl) h _ _).trans (e33 _ x0 H0)
theorem r34 (E : FuncId → Option (List Value → Hp → Option (Value × Hp))) (h : E 34 = none) (x0 : Value) (H0 : Hp) : run Go.Proofs.Tryd.prog orc E 34 [x0] H0 = m34 (run Go.Proofs.Tryd.prog orc E) x0 H0 := (run_fn Go.Proofs.Tryd.func34 (by kernel_rfl) (by kernel_rfl) h _ _).trans (e34 _ x0 H0)
theorem r35 (E : FuncId → Option (List Value → Hp → Option (Value × Hp))) (h : E 35 = none) (x0 : Value) (H0 : Hp) : run Go.Proofs.Tryd.prog orc E 35 [x0] H0 = m35 (run Go.Proofs.Tryd.prog orc E) x0 H0 := (run_fn Go.Proofs.Tryd.func35 (by kernel_rfl) (by kernel_rfl) h _ _).trans (e35 _ x0 H0)
theorem r36 (E : FuncId → Option (List Value → Hp → Option (Value × Hp))) (h : E 36 = none) (x0 x1 : Value) (H0 : Hp) : run Go.Proofs.Tryd.prog orc E 36 [x0, x1] H0 = m36 (run Go.Proofs.Tryd.prog orc E) x0 x1 H0 := (run_fn Go.Proofs.Tryd.func36 (by kernel_rfl) (by kernel_rfl) h _ _).trans (e36 _ x0 x1 H0)
theorem r37 (E : FuncId → Option (List Value → Hp → Option (Value × Hp))) (h : E 37 = none) (x0 x1 : Value) (H0 : Hp) : run Go.Proofs.Tryd.prog orc E 37 [x0, x1] H0 = m37 (run Go.Proofs.Tryd.prog orc E) x0 x1 H0 := (run_fn Go.Proofs.Tryd.func37 (by kernel_rfl) (by kernel_rfl) h _ _).trans (e37 _ x0 x1 H0)
theorem r42 (E : FuncId → Option (List Value → Hp → Option (Value × Hp))) (h : E 42 = none) (x0 x1 : Value) (H0 : Hp) : run Go.Proofs.Tryd.prog orc E 42 [x0, x1] H0 = m42 (run Go.Proofs.Tryd.prog orc E) x0 x1 H0 := (run_fn Go.Proofs.Tryd.func42 (by kernel_rfl) (by kernel_rfl) h _ _).trans (e42 _ x0 x1 H0)
theorem r43 (E : FuncId → Option (List Value → Hp → Option (Value × Hp))) (h : E 43 = none) (x0 : Value) (H0 : Hp) : run Go.Proofs.Tryd.prog orc E 43 [x0] H0 = m43 (run Go.Proofs.Tryd.prog orc E) x0 H0 := (run_fn Go.Proofs.Tryd.func43 (by kernel_rfl) (by kernel_rfl) h _ _).trans (e43 _ x0 H0)
theorem r44 (E : FuncId → Option (List Value → Hp → Option (Value × Hp))) (h : E 44 = none) (x0 x1 : Value) (H0 : Hp) : run Go.Proofs.Tryd.prog orc E 44 [x0, x1] H0 = m44 (run Go.Proofs.Tryd.prog orc E) x0 x1 H0 := (run_fn Go.Proofs.Tryd.func44 (by kernel_rfl) (by kernel_rfl) h _ _).trans (e44 _ x0 x1 H0)
theorem r45 (E : FuncId → Option (List Value → Hp → Option (Value × Hp))) (h : E 45 = none) (x0 x1 : Value) (H0 : Hp) : run Go.Proofs.Tryd.prog orc E 45 [x0, x1] H0 = m45 (run Go.Proofs.Tryd.prog orc E) x0 x1 H0 := (run_fn Go.Proofs.Tryd.func45 (by kernel_rfl) (by kernel_rfl) h _ _).trans (e45 _ x0 x1 H0)
theorem r46 (E : FuncId → Option (List Value → Hp → Option (Value × Hp))) (h : E 46 = none) (x0 x1 x2 : Value) (H0 : Hp) : run Go.Proofs.Tryd.prog orc E 46 [x0, x1, x2] H0 = m46 (run Go.Proofs.Tryd.prog orc E) x0 x1 x2 H0 := (run_fn Go.Proofs.Tryd.func46 (by kernel_rfl) (by kernel_rfl) h _ _).trans (e46 _ x0 x1 x2 H0)
theorem r47 (E : FuncId → Option (List Value → Hp → Option (Value × Hp))) (h : E 47 = none) (x0 x1 : Value) (H0 : Hp) : run Go.Proofs.Tryd.prog orc E 47 [x0, x1] H0 = m47 (run Go.Proofs.Tryd.prog orc E) x0 x1 H0 := (run_fn Go.Proofs.Tryd.func47 (by kernel_rfl) (by kernel_rfl) h _ _).trans (e47 _ x0 x1 H0)
theorem r48 (E : FuncId → Option (List Value → Hp → Option (Value × Hp))) (h : E 48 = none) (x0 : Value) (H0 : Hp) : run Go.Proofs.Tryd.prog orc E 48 [x0] H0 = m48 (run Go.Proofs.Tryd.prog orc E) x0 H0 := (run_fn Go.Proofs.Tryd.func48 (by kernel_rfl) (by kernel_rfl) h _ _).trans (e48 _ x0 H0)
theorem r63 (E : FuncId → Option (List Value → Hp → Option (Value × Hp))) (h : E 63 = none) (x0 : Value) (H0 : Hp) : run Go.Proofs.Tryd.prog orc E 63 [x0] H0 = m63 (run Go.Proofs.Tryd.prog orc E) x0 H0 := (run_fn Go.Proofs.Tryd.func63 (by kernel_rfl) (by kernel_rfl) h _ _).trans (e63 _ x0 H0)
theorem r80 (E : FuncId → Option (List Value → Hp → Option (Value × Hp))) (h : E 80 = none) (x0 : Value) (H0 : Hp) : run Go.Proofs.Tryd.prog orc E 80 [x0] H0 = m80 (run Go.Proofs.Tryd.prog orc E) x0 H0 := (run_fn Go.Proofs.Tryd.func80 (by kernel_rfl) (by kernel_rfl) h _ _).trans (e80 _ x0 H0)
end Go.AM.N14
set_option linter.unusedVariables false
namespace Go.AM.N14
open Go Go.AM
set_option maxRecDepth 100000
noncomputable def s3_1 (R : Handler) (x0 : Value) (r87 : Value) (l89 : List Value) (H90 : Hp) : Option Outc :=
 pBin Go.Proofs.Tryd.prog .leq 22 (l89.getD 4 undef) r87 fun v91 =>
 pBool v91 fun b92 => br b92
 (pCell 5 true (cellsL x0) 0 fun v93 =>
 pCallF R 9 [v93, (l89.getD 4 undef)] H90 fun r94 H95 =>
 pUn .not r94 fun v96 =>
 pBool v96 fun b97 => br b97
 (pBin Go.Proofs.Tryd.prog .add 22 (l89.getD 4 undef) (.int .u64 1) fun v98 =>
 some (.next, [(l89.getD 0 undef), (l89.getD 1 undef), (l89.getD 2 undef), (l89.getD 3 undef), v98], H95))
 (pBin Go.Proofs.Tryd.prog .and 22 (l89.getD 0 undef) (l89.getD 4 undef) fun v99 =>
 pBin Go.Proofs.Tryd.prog .or 22 (l89.getD 1 undef) (l89.getD 4 undef) fun v100 =>
 pBin Go.Proofs.Tryd.prog .lss 22 (l89.getD 4 undef) (l89.getD 2 undef) fun v101 =>
 pBool v101 fun b102 => br b102
 (pBin Go.Proofs.Tryd.prog .add 22 (l89.getD 4 undef) (.int .u64 1) fun v103 =>
 some (.next, [v99, v100, (l89.getD 4 undef), (l89.getD 4 undef), v103], H95))
 (pBin Go.Proofs.Tryd.prog .add 22 (l89.getD 4 undef) (.int .u64 1) fun v104 =>
 some (.next, [v99, v100, (l89.getD 2 undef), (l89.getD 4 undef), v104], H95))))
 (some (.exit 0, [(l89.getD 0 undef), (l89.getD 1 undef), (l89.getD 2 undef), (l89.getD 3 undef), (l89.getD 4 undef)], H90))
theorem k3 (R : Handler) (x0 x1 : Value) (H0 : Hp) : m3 R x0 x1 H0 =
 pCallF R 6 [] H0 fun r1 H2 =>
 pUn .not r1 fun v3 =>
 pBool v3 fun b4 => br b4
 (some ((.bool false), H2))
 (pCell 5 true (cellsL x0) 0 fun v5 =>
 pCallF R 7 [v5] H2 fun r6 H7 =>
 pExtract r6 0 fun v8 =>
 pExtract r6 1 fun v9 =>
 pSplice 5 [.int .i64 0, .int .u64 0, .int .u64 0, .int .u64 0, .int .u64 0] 0 v8 fun c10 =>
 pCell 5 true (cellsL x0) 0 fun v11 =>
 pCallF R 8 [v11] H7 fun r12 H13 =>
 pUn .not r12 fun v14 =>
 pBool v14 fun b15 => br b15
 (pUn .not v9 fun v16 =>
 pBool v16 fun b17 => br b17
 (pCell 5 true c10 0 fun v18 =>
 pBuild Go.Proofs.Tryd.prog 24 [] fun v19 =>
 pBin Go.Proofs.Tryd.prog .eql 24 v18 v19 fun v20 =>
 some (v20, H13))
 (some ((.bool false), H13)))
 (pUn .not v9 fun v21 =>
 pBool v21 fun b22 => br b22
 (pCell 5 true c10 0 fun v23 =>
 pBuild Go.Proofs.Tryd.prog 24 [] fun v24 =>
 pBin Go.Proofs.Tryd.prog .eql 24 v23 v24 fun v25 =>
 pBool v25 fun b26 => br b26
 (pCell 5 true (cellsL x0) 0 fun v27 =>
 pCallF R 9 [v27, x1] H13 fun r28 H29 =>
 pUn .not r28 fun v30 =>
 pBool v30 fun b31 => br b31
 (pCell 5 true (cellsL x0) 0 fun v32 =>
 pCell 1 false (cellsL x0) 3 fun v33 =>
 pCallF R 9 [v32, v33] H29 fun r34 H35 =>
 pUn .not r34 fun v36 =>
 pBool v36 fun b37 => br b37
 (pCell 5 true (cellsL x0) 0 fun v38 =>
 pCell 1 false (cellsL x0) 4 fun v39 =>
 pCallF R 9 [v38, v39] H35 fun r40 H41 =>
 pUn .not r40 fun v42 =>
 some (v42, H41))
 (some ((.bool false), H35)))
 (some ((.bool false), H29)))
 (some ((.bool false), H13)))
 (pCell 5 true c10 0 fun v43 =>
 pCallF R 7 [v43] H13 fun r44 H45 =>
 pExtract r44 0 fun v46 =>
 pExtract r44 1 fun v47 =>
 pSplice 5 [.int .i64 0, .int .u64 0, .int .u64 0, .int .u64 0, .int .u64 0] 0 v46 fun c48 =>
 bindO (
 pUn .not v47 fun v49 =>
 pBool v49 fun b50 => br b50
 (some (.ret, [(.bool false)], H45))
 (pCell 5 true c10 0 fun v51 =>
 pCell 5 true c48 0 fun v52 =>
 pBin Go.Proofs.Tryd.prog .neq 24 v51 v52 fun v53 =>
 pBool v53 fun b54 => br b54
 (some (.ret, [(.bool false)], H45))
 (pCell 1 false c10 0 fun v55 =>
 pCell 1 false (cellsL x0) 0 fun v56 =>
 pBin Go.Proofs.Tryd.prog .neq 3 v55 v56 fun v57 =>
 pBool v57 fun b58 => br b58
 (some (.ret, [(.bool false)], H45))
 (pCell 5 true (cellsL x0) 0 fun v59 =>
 pCell 1 false c10 3 fun v60 =>
 pCallF R 9 [v59, v60] H45 fun r61 H62 =>
 pUn .not r61 fun v63 =>
 pBool v63 fun b64 => br b64
 (some (.ret, [(.bool false)], H62))
 (pCell 5 true (cellsL x0) 0 fun v65 =>
 pCell 1 false c10 4 fun v66 =>
 pCallF R 9 [v65, v66] H62 fun r67 H68 =>
 pUn .not r67 fun v69 =>
 pBool v69 fun b70 => br b70
 (some (.ret, [(.bool false)], H68))
 (pCell 5 true (cellsL x0) 0 fun v71 =>
 pCallF R 9 [v71, x1] H68 fun r72 H73 =>
 pCell 5 true c10 0 fun v74 =>
 pCallF R 10 [v74, x1] H73 fun r75 H76 =>
 pBin Go.Proofs.Tryd.prog .neq 4 r72 r75 fun v77 =>
 pBool v77 fun b78 => br b78
 (some (.ret, [(.bool false)], H76))
 (some (.next, [], H76)))))))) fun q79 l80 H81 => onCtl q79
 (pCell 1 false (cellsL x0) 0 fun v83 =>
 pBin Go.Proofs.Tryd.prog .gtr 3 v83 (.int .i64 8) fun v84 =>
 pBool v84 fun b85 => br b85
 (some ((.bool true), H81))
 (pCell 1 false (cellsL x0) 0 fun v86 =>
 pCallF R 11 [v86] H81 fun r87 H88 =>
 bindO (loopD (s3_1 R x0 r87) [r87, (.int .u64 0), r87, (.int .u64 0), (.int .u64 0)] H88) fun q105 l106 H107 => onCtl q105 none
 (fun i108 => onExit i108 0 (
 pCell 5 true c10 0 fun v109 =>
 pCell 1 false (cellsL x0) 0 fun v110 =>
 pBin Go.Proofs.Tryd.prog .andNot 22 r87 (l106.getD 1 undef) fun v111 =>
 pBuild Go.Proofs.Tryd.prog 24 [(0, v110), (1, (l106.getD 0 undef)), (2, v111), (3, (l106.getD 2 undef)), (4, (l106.getD 3 undef))] fun v112 =>
 pBin Go.Proofs.Tryd.prog .eql 24 v109 v112 fun v113 =>
 some (v113, H107)) (
 none))
 (some ((l106.headD undef), H107))))
 (fun i82 => none)
 (some ((l80.headD undef), H81))))) := rfl
noncomputable def s21_1 (R : Handler) (x0 : Value) (l25 : List Value) (H26 : Hp) : Option Outc :=
 pCell 1 false (cellsL x0) 0 fun v27 =>
 pCallF R 28 [v27] H26 fun r28 H29 =>
 pBin Go.Proofs.Tryd.prog .lss 3 (l25.getD 0 undef) r28 fun v30 =>
 pBool v30 fun b31 => br b31
 (pConvInt .u64 (l25.getD 0 undef) fun v32 =>
 pBin Go.Proofs.Tryd.prog .shl 22 (.int .u64 1) v32 fun v33 =>
 pCell 5 true (cellsL x0) 0 fun v34 =>
 pSplice 5 [.int .i64 0, .int .u64 0, .int .u64 0, .int .u64 0, .int .u64 0] 0 v34 fun c35 =>
 pCell 1 false (cellsL x0) 2 fun v36 =>
 pBin Go.Proofs.Tryd.prog .or 22 v36 v33 fun v37 =>
 pSplice 1 c35 2 v37 fun c38 =>
 pCell 5 true c38 0 fun v39 =>
 pCallF R 34 [v39] H29 fun r40 H41 =>
 pExtract r40 0 fun v42 =>
 pExtract r40 1 fun v43 =>
 pCell 5 true (cellsL x0) 0 fun v44 =>
 pSplice 5 c38 0 v44 fun c45 =>
 pCell 1 false (cellsL x0) 1 fun v46 =>
 pBin Go.Proofs.Tryd.prog .or 22 v46 v33 fun v47 =>
 pSplice 1 c45 1 v47 fun c48 =>
 pCell 5 true c48 0 fun v49 =>
 pCallF R 34 [v49] H41 fun r50 H51 =>
 pExtract r50 0 fun v52 =>
 pExtract r50 1 fun v53 =>
 pUn .not v43 fun v54 =>
 pBool v54 fun b55 => br b55
 (pCell 1 false (cellsL ((l25.drop 1).getD 0 undef)) 1 fun v56 =>
 pBin Go.Proofs.Tryd.prog .or 22 v56 v33 fun v57 =>
 pSplice 1 (cellsL ((l25.drop 1).getD 0 undef)) 1 v57 fun c58 =>
 pUn .not v53 fun v59 =>
 pBool v59 fun b60 => br b60
 (pCell 1 false c58 2 fun v61 =>
 pBin Go.Proofs.Tryd.prog .or 22 v61 v33 fun v62 =>
 pSplice 1 c58 2 v62 fun c63 =>
 pBin Go.Proofs.Tryd.prog .add 3 (l25.getD 0 undef) (.int .i64 1) fun v64 =>
 some (.next, [v64, (.agg c63.toArray)], H51))
 (pBin Go.Proofs.Tryd.prog .add 3 (l25.getD 0 undef) (.int .i64 1) fun v65 =>
 some (.next, [v65, (.agg c58.toArray)], H51)))
 (pUn .not v53 fun v66 =>
 pBool v66 fun b67 => br b67
 (pCell 1 false (cellsL ((l25.drop 1).getD 0 undef)) 2 fun v68 =>
 pBin Go.Proofs.Tryd.prog .or 22 v68 v33 fun v69 =>
 pSplice 1 (cellsL ((l25.drop 1).getD 0 undef)) 2 v69 fun c70 =>
 pBin Go.Proofs.Tryd.prog .add 3 (l25.getD 0 undef) (.int .i64 1) fun v71 =>
 some (.next, [v71, (.agg c70.toArray)], H51))
 (pBin Go.Proofs.Tryd.prog .add 3 (l25.getD 0 undef) (.int .i64 1) fun v72 =>
 some (.next, [v72, (.agg (cellsL ((l25.drop 1).getD 0 undef)).toArray)], H51))))
 (some (.exit 0, [(l25.getD 0 undef), (.agg (cellsL ((l25.drop 1).getD 0 undef)).toArray)], H29))
theorem k21 (R : Handler) (x0 : Value) (H0 : Hp) : m21 R x0 H0 =
 pCell 5 true (cellsL x0) 0 fun v1 =>
 pCallF R 8 [v1] H0 fun r2 H3 =>
 pUn .not r2 fun v4 =>
 pBool v4 fun b5 => br b5
 (pBuild Go.Proofs.Tryd.prog 24 [] fun v6 =>
 pSplice 5 [.int .i64 0, .int .u64 0, .int .u64 0, .int .u64 0, .int .u64 0] 0 v6 fun c7 =>
 pCell 5 true c7 0 fun v8 =>
 some ((.tuple #[v8, (.int .i64 5)]), H3))
 (pCell 5 true (cellsL x0) 0 fun v9 =>
 pCallF R 34 [v9] H3 fun r10 H11 =>
 pExtract r10 0 fun v12 =>
 pExtract r10 1 fun v13 =>
 pUn .not v13 fun v14 =>
 pBool v14 fun b15 => br b15
 (pBuild Go.Proofs.Tryd.prog 24 [] fun v16 =>
 pSplice 5 [.int .i64 0, .int .u64 0, .int .u64 0, .int .u64 0, .int .u64 0] 0 v16 fun c17 =>
 pCell 5 true c17 0 fun v18 =>
 some ((.tuple #[v18, (.int .i64 1)]), H11))
 (pCell 1 false (cellsL x0) 0 fun v19 =>
 pCell 5 true (cellsL x0) 0 fun v20 =>
 pCallF R 35 [v20] H11 fun r21 H22 =>
 pBuild Go.Proofs.Tryd.prog 24 [(0, v19), (3, v12), (4, r21)] fun v23 =>
 pSplice 5 [.int .i64 0, .int .u64 0, .int .u64 0, .int .u64 0, .int .u64 0] 0 v23 fun c24 =>
 bindO (loopD (s21_1 R x0) [(.int .i64 0), (.agg c24.toArray)] H22) fun q73 l74 H75 => onCtl q73 none
 (fun i76 => onExit i76 0 (
 pCell 5 true (cellsL ((l74.drop 1).getD 0 undef)) 0 fun v77 =>
 pSplice 5 [.int .i64 0, .int .u64 0, .int .u64 0, .int .u64 0, .int .u64 0] 0 v77 fun c78 =>
 pCell 5 true c78 0 fun v79 =>
 some ((.tuple #[v79, (.int .i64 0)]), H75)) (
 none))
 (some ((l74.headD undef), H75)))) := rfl
noncomputable def s33_1 (R : Handler) (x0 : Value) (v5 : Value) (v11 : Value) (r46 : Value) (l48 : List Value) (H49 : Hp) : Option Outc :=
 pBin Go.Proofs.Tryd.prog .lss 3 (l48.getD 0 undef) r46 fun v50 =>
 pBool v50 fun b51 => br b51
 (pConvInt .u64 (l48.getD 0 undef) fun v52 =>
 pBin Go.Proofs.Tryd.prog .shl 22 (.int .u64 1) v52 fun v53 =>
 pCell 1 false (cellsL x0) 1 fun v54 =>
 pBin Go.Proofs.Tryd.prog .and 22 v54 v53 fun v55 =>
 pBin Go.Proofs.Tryd.prog .neq 22 v55 (.int .u64 0) fun v56 =>
 pBool v56 fun b57 => br b57
 (pCell 1 false (cellsL ((l48.drop 1).getD 0 undef)) 1 fun v58 =>
 pBin Go.Proofs.Tryd.prog .or 22 v58 v53 fun v59 =>
 pSplice 1 (cellsL ((l48.drop 1).getD 0 undef)) 1 v59 fun c60 =>
 pBin Go.Proofs.Tryd.prog .add 3 (l48.getD 0 undef) (.int .i64 1) fun v61 =>
 some (.next, [v61, (.agg c60.toArray)], H49))
 (pCell 1 false (cellsL x0) 2 fun v62 =>
 pBin Go.Proofs.Tryd.prog .and 22 v62 v53 fun v63 =>
 pBin Go.Proofs.Tryd.prog .neq 22 v63 (.int .u64 0) fun v64 =>
 pBool v64 fun b65 => br b65
 (pCell 1 false (cellsL ((l48.drop 1).getD 0 undef)) 2 fun v66 =>
 pBin Go.Proofs.Tryd.prog .or 22 v66 v53 fun v67 =>
 pSplice 1 (cellsL ((l48.drop 1).getD 0 undef)) 2 v67 fun c68 =>
 pBin Go.Proofs.Tryd.prog .add 3 (l48.getD 0 undef) (.int .i64 1) fun v69 =>
 some (.next, [v69, (.agg c68.toArray)], H49))
 (pCell 1 false (cellsL x0) 0 fun v70 =>
 pCell 1 false (cellsL x0) 1 fun v71 =>
 pBin Go.Proofs.Tryd.prog .or 22 v71 v53 fun v72 =>
 pCell 1 false (cellsL x0) 2 fun v73 =>
 pBuild Go.Proofs.Tryd.prog 24 [(0, v70), (1, v72), (2, v73)] fun v74 =>
 pCallF R 46 [v74, v5, v11] H49 fun r75 H76 =>
 pUn .not r75 fun v77 =>
 pBool v77 fun b78 => br b78
 (pCell 1 false (cellsL ((l48.drop 1).getD 0 undef)) 2 fun v79 =>
 pBin Go.Proofs.Tryd.prog .or 22 v79 v53 fun v80 =>
 pSplice 1 (cellsL ((l48.drop 1).getD 0 undef)) 2 v80 fun c81 =>
 pBin Go.Proofs.Tryd.prog .add 3 (l48.getD 0 undef) (.int .i64 1) fun v82 =>
 some (.next, [v82, (.agg c81.toArray)], H76))
 (pCell 1 false (cellsL x0) 0 fun v83 =>
 pCell 1 false (cellsL x0) 1 fun v84 =>
 pCell 1 false (cellsL x0) 2 fun v85 =>
 pBin Go.Proofs.Tryd.prog .or 22 v85 v53 fun v86 =>
 pBuild Go.Proofs.Tryd.prog 24 [(0, v83), (1, v84), (2, v86)] fun v87 =>
 pCallF R 46 [v87, v5, v11] H76 fun r88 H89 =>
 pUn .not r88 fun v90 =>
 pBool v90 fun b91 => br b91
 (pCell 1 false (cellsL ((l48.drop 1).getD 0 undef)) 1 fun v92 =>
 pBin Go.Proofs.Tryd.prog .or 22 v92 v53 fun v93 =>
 pSplice 1 (cellsL ((l48.drop 1).getD 0 undef)) 1 v93 fun c94 =>
 pBin Go.Proofs.Tryd.prog .add 3 (l48.getD 0 undef) (.int .i64 1) fun v95 =>
 some (.next, [v95, (.agg c94.toArray)], H89))
 (pBin Go.Proofs.Tryd.prog .add 3 (l48.getD 0 undef) (.int .i64 1) fun v96 =>
 some (.next, [v96, (.agg (cellsL ((l48.drop 1).getD 0 undef)).toArray)], H89))))))
 (some (.exit 0, [(l48.getD 0 undef), (.agg (cellsL ((l48.drop 1).getD 0 undef)).toArray)], H49))
theorem k33 (R : Handler) (x0 : Value) (H0 : Hp) : m33 R x0 H0 =
 pCell 5 true (cellsL x0) 0 fun v1 =>
 pCell 1 false (cellsL x0) 3 fun v2 =>
 pCallF R 44 [v1, v2] H0 fun r3 H4 =>
 pExtract r3 0 fun v5 =>
 pExtract r3 1 fun v6 =>
 pCell 5 true (cellsL x0) 0 fun v7 =>
 pCell 1 false (cellsL x0) 4 fun v8 =>
 pCallF R 45 [v7, v8] H4 fun r9 H10 =>
 pExtract r9 0 fun v11 =>
 pExtract r9 1 fun v12 =>
 bindO (
 pUn .not v6 fun v13 =>
 pBool v13 fun b14 => br b14
 (pBuild Go.Proofs.Tryd.prog 24 [] fun v15 =>
 pSplice 5 [.int .i64 0, .int .u64 0, .int .u64 0, .int .u64 0, .int .u64 0] 0 v15 fun c16 =>
 pCell 5 true c16 0 fun v17 =>
 some (.ret, [(.tuple #[v17, (.bool false)])], H10))
 (pUn .not v12 fun v18 =>
 pBool v18 fun b19 => br b19
 (pBuild Go.Proofs.Tryd.prog 24 [] fun v20 =>
 pSplice 5 [.int .i64 0, .int .u64 0, .int .u64 0, .int .u64 0, .int .u64 0] 0 v20 fun c21 =>
 pCell 5 true c21 0 fun v22 =>
 some (.ret, [(.tuple #[v22, (.bool false)])], H10))
 (pBin Go.Proofs.Tryd.prog .gtr 22 v5 v11 fun v23 =>
 pBool v23 fun b24 => br b24
 (pBuild Go.Proofs.Tryd.prog 24 [] fun v25 =>
 pSplice 5 [.int .i64 0, .int .u64 0, .int .u64 0, .int .u64 0, .int .u64 0] 0 v25 fun c26 =>
 pCell 5 true c26 0 fun v27 =>
 some (.ret, [(.tuple #[v27, (.bool false)])], H10))
 (pCell 1 false (cellsL x0) 3 fun v28 =>
 pCell 1 false (cellsL x0) 4 fun v29 =>
 pBin Go.Proofs.Tryd.prog .gtr 22 v28 v29 fun v30 =>
 pBool v30 fun b31 => br b31
 (pBuild Go.Proofs.Tryd.prog 24 [] fun v32 =>
 pSplice 5 [.int .i64 0, .int .u64 0, .int .u64 0, .int .u64 0, .int .u64 0] 0 v32 fun c33 =>
 pCell 5 true c33 0 fun v34 =>
 some (.ret, [(.tuple #[v34, (.bool false)])], H10))
 (some (.next, [(.agg [.int .i64 0, .int .u64 0, .int .u64 0, .int .u64 0, .int .u64 0].toArray)], H10)))))) fun q35 l36 H37 => onCtl q35
 (pCell 1 false (cellsL x0) 0 fun v39 =>
 pBuild Go.Proofs.Tryd.prog 24 [(0, v39), (3, v5), (4, v11)] fun v40 =>
 pSplice 5 [.int .i64 0, .int .u64 0, .int .u64 0, .int .u64 0, .int .u64 0] 0 v40 fun c41 =>
 pCell 1 false (cellsL x0) 0 fun v42 =>
 pCallF R 26 [v42] H37 fun r43 H44 =>
 pCell 1 false (cellsL x0) 0 fun v45 =>
 pCallF R 43 [v45] H44 fun r46 H47 =>
 bindO (loopD (s33_1 R x0 v5 v11 r46) [(.int .i64 0), (.agg c41.toArray)] H47) fun q97 l98 H99 => onCtl q97 none
 (fun i100 => onExit i100 0 (
 pCell 1 false (cellsL ((l98.drop 1).getD 0 undef)) 1 fun v101 =>
 pBin Go.Proofs.Tryd.prog .and 22 v101 r43 fun v102 =>
 pSplice 1 (cellsL ((l98.drop 1).getD 0 undef)) 1 v102 fun c103 =>
 pCell 5 true c103 0 fun v104 =>
 pSplice 5 (cellsL ((l36.drop 0).getD 0 undef)) 0 v104 fun c105 =>
 pCell 5 true c105 0 fun v106 =>
 some ((.tuple #[v106, (.bool true)]), H99)) (
 none))
 (some ((l98.headD undef), H99)))
 (fun i38 => none)
 (some ((l36.headD undef), H37)) := rfl
noncomputable def s34_1 (R : Handler) (x0 : Value) (l1 : List Value) (H2 : Hp) : Option Outc :=
 pCell 1 false (cellsL x0) 0 fun v3 =>
 pCallF R 28 [v3] H2 fun r4 H5 =>
 pBin Go.Proofs.Tryd.prog .lss 3 (l1.getD 0 undef) r4 fun v6 =>
 pBool v6 fun b7 => br b7
 (pCell 1 false (cellsL x0) 3 fun v8 =>
 pBin Go.Proofs.Tryd.prog .geq 3 (l1.getD 0 undef) (.int .i64 0) fun v9 =>
 pBool v9 fun b10 => br b10
 (pCallF R 47 [v8, (l1.getD 0 undef)] H5 fun r11 H12 =>
 pBool r11 fun b13 => br b13
 (pBin Go.Proofs.Tryd.prog .add 3 (l1.getD 0 undef) (.int .i64 1) fun v14 =>
 some (.next, [v14], H12))
 (pBin Go.Proofs.Tryd.prog .add 3 (l1.getD 0 undef) (.int .i64 1) fun v15 =>
 pCallF R 48 [v15] H12 fun r16 H17 =>
 pBin Go.Proofs.Tryd.prog .andNot 22 v8 r16 fun v18 =>
 pConvInt .u64 (l1.getD 0 undef) fun v19 =>
 pBin Go.Proofs.Tryd.prog .shl 22 (.int .u64 1) v19 fun v20 =>
 pBin Go.Proofs.Tryd.prog .or 22 v18 v20 fun v21 =>
 pCell 1 false (cellsL x0) 1 fun v22 =>
 pCallF R 48 [(l1.getD 0 undef)] H17 fun r23 H24 =>
 pBin Go.Proofs.Tryd.prog .and 22 v22 r23 fun v25 =>
 pBin Go.Proofs.Tryd.prog .or 22 v21 v25 fun v26 =>
 pCell 5 true (cellsL x0) 0 fun v27 =>
 pCallF R 25 [v27, v26] H24 fun r28 H29 =>
 pBool r28 fun b30 => br b30
 (pCell 1 false (cellsL x0) 4 fun v31 =>
 pBin Go.Proofs.Tryd.prog .leq 22 v26 v31 fun v32 =>
 some (.ret, [(.tuple #[v26, v32])], H29))
 (pBin Go.Proofs.Tryd.prog .add 3 (l1.getD 0 undef) (.int .i64 1) fun v33 =>
 some (.next, [v33], H29))))
 (pCell 5 true (cellsL x0) 0 fun v34 =>
 pCallF R 25 [v34, v8] H5 fun r35 H36 =>
 pBool r35 fun b37 => br b37
 (pCell 1 false (cellsL x0) 4 fun v38 =>
 pBin Go.Proofs.Tryd.prog .leq 22 v8 v38 fun v39 =>
 some (.ret, [(.tuple #[v8, v39])], H36))
 (pBin Go.Proofs.Tryd.prog .add 3 (l1.getD 0 undef) (.int .i64 1) fun v40 =>
 some (.next, [v40], H36))))
 (some (.exit 0, [(l1.getD 0 undef)], H5))
theorem k34 (R : Handler) (x0 : Value) (H0 : Hp) : m34 R x0 H0 =
 bindO (loopD (s34_1 R x0) [(.int .i64 (-1))] H0) fun q41 l42 H43 => onCtl q41 none
 (fun i44 => onExit i44 0 (
 some ((.tuple #[(.int .u64 0), (.bool false)]), H43)) (
 none))
 (some ((l42.headD undef), H43)) := rfl
noncomputable def s35_1 (R : Handler) (x0 : Value) (l1 : List Value) (H2 : Hp) : Option Outc :=
 pCell 1 false (cellsL x0) 0 fun v3 =>
 pCallF R 28 [v3] H2 fun r4 H5 =>
 pBin Go.Proofs.Tryd.prog .lss 3 (l1.getD 0 undef) r4 fun v6 =>
 pBool v6 fun b7 => br b7
 (pCell 1 false (cellsL x0) 4 fun v8 =>
 pBin Go.Proofs.Tryd.prog .geq 3 (l1.getD 0 undef) (.int .i64 0) fun v9 =>
 pBool v9 fun b10 => br b10
 (pCallF R 47 [v8, (l1.getD 0 undef)] H5 fun r11 H12 =>
 pUn .not r11 fun v13 =>
 pBool v13 fun b14 => br b14
 (pBin Go.Proofs.Tryd.prog .add 3 (l1.getD 0 undef) (.int .i64 1) fun v15 =>
 some (.next, [v15], H12))
 (pBin Go.Proofs.Tryd.prog .add 3 (l1.getD 0 undef) (.int .i64 1) fun v16 =>
 pCallF R 48 [v16] H12 fun r17 H18 =>
 pBin Go.Proofs.Tryd.prog .andNot 22 v8 r17 fun v19 =>
 pCallF R 48 [(l1.getD 0 undef)] H18 fun r20 H21 =>
 pCell 1 false (cellsL x0) 2 fun v22 =>
 pBin Go.Proofs.Tryd.prog .andNot 22 r20 v22 fun v23 =>
 pBin Go.Proofs.Tryd.prog .or 22 v19 v23 fun v24 =>
 pCell 5 true (cellsL x0) 0 fun v25 =>
 pCallF R 25 [v25, v24] H21 fun r26 H27 =>
 pBool r26 fun b28 => br b28
 (some (.ret, [v24], H27))
 (pBin Go.Proofs.Tryd.prog .add 3 (l1.getD 0 undef) (.int .i64 1) fun v29 =>
 some (.next, [v29], H27))))
 (pCell 5 true (cellsL x0) 0 fun v30 =>
 pCallF R 25 [v30, v8] H5 fun r31 H32 =>
 pBool r31 fun b33 => br b33
 (some (.ret, [v8], H32))
 (pBin Go.Proofs.Tryd.prog .add 3 (l1.getD 0 undef) (.int .i64 1) fun v34 =>
 some (.next, [v34], H32))))
 (some (.exit 0, [(l1.getD 0 undef)], H5))
theorem k35 (R : Handler) (x0 : Value) (H0 : Hp) : m35 R x0 H0 =
 bindO (loopD (s35_1 R x0) [(.int .i64 (-1))] H0) fun q35 l36 H37 => onCtl q35 none
 (fun i38 => onExit i38 0 (
 some ((.int .u64 0), H37)) (
 none))
 (some ((l36.headD undef), H37)) := rfl
noncomputable def s44_1 (R : Handler) (x0 : Value) (x1 : Value) (l39 : List Value) (H40 : Hp) : Option Outc :=
 pCell 1 false (cellsL x0) 0 fun v41 =>
 pCallF R 43 [v41] H40 fun r42 H43 =>
 pBin Go.Proofs.Tryd.prog .lss 3 (l39.getD 0 undef) r42 fun v44 =>
 pBool v44 fun b45 => br b45
 (bindO (
 pConvInt .u64 (l39.getD 0 undef) fun v46 =>
 pBin Go.Proofs.Tryd.prog .shr 22 x1 v46 fun v47 =>
 pBin Go.Proofs.Tryd.prog .and 22 v47 (.int .u64 1) fun v48 =>
 pBin Go.Proofs.Tryd.prog .eql 22 v48 (.int .u64 0) fun v49 =>
 pBool v49 fun b50 => br b50
 (pCell 1 false (cellsL x0) 2 fun v51 =>
 pConvInt .u64 (l39.getD 0 undef) fun v52 =>
 pBin Go.Proofs.Tryd.prog .shr 22 v51 v52 fun v53 =>
 pBin Go.Proofs.Tryd.prog .and 22 v53 (.int .u64 1) fun v54 =>
 pBin Go.Proofs.Tryd.prog .eql 22 v54 (.int .u64 0) fun v55 =>
 some (.next, [v55], H43))
 (some (.next, [(.bool false)], H43))) fun q56 l57 H58 => onCtl q56
 (pBool (l57.getD 0 undef) fun b60 => br b60
 (pConvInt .u64 (l39.getD 0 undef) fun v61 =>
 pBin Go.Proofs.Tryd.prog .shr 22 x1 v61 fun v62 =>
 pConvInt .u64 (l39.getD 0 undef) fun v63 =>
 pBin Go.Proofs.Tryd.prog .shl 22 v62 v63 fun v64 =>
 pConvInt .u64 (l39.getD 0 undef) fun v65 =>
 pBin Go.Proofs.Tryd.prog .shl 22 (.int .u64 1) v65 fun v66 =>
 pBin Go.Proofs.Tryd.prog .or 22 v64 v66 fun v67 =>
 pCell 1 false (cellsL x0) 1 fun v68 =>
 pConvInt .u64 (l39.getD 0 undef) fun v69 =>
 pBin Go.Proofs.Tryd.prog .shl 22 (.int .u64 1) v69 fun v70 =>
 pBin Go.Proofs.Tryd.prog .sub 22 v70 (.int .u64 1) fun v71 =>
 pBin Go.Proofs.Tryd.prog .and 22 v68 v71 fun v72 =>
 pBin Go.Proofs.Tryd.prog .or 22 v67 v72 fun v73 =>
 some (.ret, [(.tuple #[v73, (.bool true)])], H58))
 (pBin Go.Proofs.Tryd.prog .add 3 (l39.getD 0 undef) (.int .i64 1) fun v74 =>
 some (.next, [v74], H58)))
 (fun i59 => onExit i59 1 (
 pBin Go.Proofs.Tryd.prog .add 3 (l39.getD 0 undef) (.int .i64 1) fun v75 =>
 some (.next, [v75], H58)) (
 some (.exit i59, [(l39.getD 0 undef)], H58)))
 (some (.ret, [(l57.headD undef)], H58)))
 (some (.exit 0, [(l39.getD 0 undef)], H43))
theorem k44 (R : Handler) (x0 x1 : Value) (H0 : Hp) : m44 R x0 x1 H0 =
 pCell 1 false (cellsL x0) 1 fun v1 =>
 pCell 1 false (cellsL x0) 2 fun v2 =>
 pBin Go.Proofs.Tryd.prog .and 22 v1 v2 fun v3 =>
 pBin Go.Proofs.Tryd.prog .neq 22 v3 (.int .u64 0) fun v4 =>
 pBool v4 fun b5 => br b5
 (some ((.tuple #[(.int .u64 0), (.bool false)]), H0))
 (pCell 5 true (cellsL x0) 0 fun v6 =>
 pCallF R 27 [v6, x1] H0 fun r7 H8 =>
 pBool r7 fun b9 => br b9
 (some ((.tuple #[x1, (.bool true)]), H8))
 (pCell 1 false (cellsL x0) 2 fun v10 =>
 pBin Go.Proofs.Tryd.prog .and 22 x1 v10 fun v11 =>
 pUn .xor x1 fun v12 =>
 pCell 1 false (cellsL x0) 1 fun v13 =>
 pBin Go.Proofs.Tryd.prog .and 22 v12 v13 fun v14 =>
 pBin Go.Proofs.Tryd.prog .or 22 v11 v14 fun v15 =>
 pCallF R 63 [v15] H8 fun r16 H17 =>
 pBin Go.Proofs.Tryd.prog .sub 3 (.int .i64 63) r16 fun v18 =>
 pCell 1 false (cellsL x0) 1 fun v19 =>
 pConvInt .u64 v18 fun v20 =>
 pBin Go.Proofs.Tryd.prog .shr 22 v19 v20 fun v21 =>
 pBin Go.Proofs.Tryd.prog .and 22 v21 (.int .u64 1) fun v22 =>
 pBin Go.Proofs.Tryd.prog .eql 22 v22 (.int .u64 1) fun v23 =>
 pBool v23 fun b24 => br b24
 (pConvInt .u64 v18 fun v25 =>
 pBin Go.Proofs.Tryd.prog .shr 22 x1 v25 fun v26 =>
 pConvInt .u64 v18 fun v27 =>
 pBin Go.Proofs.Tryd.prog .shl 22 v26 v27 fun v28 =>
 pConvInt .u64 v18 fun v29 =>
 pBin Go.Proofs.Tryd.prog .shl 22 (.int .u64 1) v29 fun v30 =>
 pBin Go.Proofs.Tryd.prog .or 22 v28 v30 fun v31 =>
 pCell 1 false (cellsL x0) 1 fun v32 =>
 pConvInt .u64 v18 fun v33 =>
 pBin Go.Proofs.Tryd.prog .shl 22 (.int .u64 1) v33 fun v34 =>
 pBin Go.Proofs.Tryd.prog .sub 22 v34 (.int .u64 1) fun v35 =>
 pBin Go.Proofs.Tryd.prog .and 22 v32 v35 fun v36 =>
 pBin Go.Proofs.Tryd.prog .or 22 v31 v36 fun v37 =>
 some ((.tuple #[v37, (.bool true)]), H17))
 (pBin Go.Proofs.Tryd.prog .add 3 v18 (.int .i64 1) fun v38 =>
 bindO (loopD (s44_1 R x0 x1) [v38] H17) fun q76 l77 H78 => onCtl q76 none
 (fun i79 => onExit i79 0 (
 some ((.tuple #[(.int .u64 0), (.bool false)]), H78)) (
 none))
 (some ((l77.headD undef), H78))))) := rfl
end Go.AM.N14
/- Facts as the program keeps them: widths, masks, fits. -/
set_option linter.unusedVariables false
set_option linter.unusedSimpArgs false
namespace Go.AM.N14
open Go Go.AM
abbrev E14 : FuncId → Option (List Value → Hp → Option (Value × Hp)) := fun _ => none
noncomputable abbrev R : Handler := run Go.Proofs.Tryd.prog orc E14
/-- A fact. -/
structure Fct where
  w : Int
  one : W64
  zero : W64
  least : W64
  top : W64
def Fct.val (f : Fct) : Value := .agg #[.int .i64 f.w, wv f.one, wv f.zero, wv f.least, wv f.top]
abbrev V0 : List Value := [.int .i64 0, .int .u64 0, .int .u64 0, .int .u64 0, .int .u64 0]
section
variable {α : Type}
theorem f_w (f : Fct) (k : Value → Option α) : pCell 1 false (cellsL f.val) 0 k = k (.int .i64 f.w) := rfl
theorem f_one (f : Fct) (k : Value → Option α) : pCell 1 false (cellsL f.val) 1 k = k (wv f.one) := rfl
theorem f_zero (f : Fct) (k : Value → Option α) : pCell 1 false (cellsL f.val) 2 k = k (wv f.zero) := rfl
theorem f_least (f : Fct) (k : Value → Option α) : pCell 1 false (cellsL f.val) 3 k = k (wv f.least) := rfl
theorem f_top (f : Fct) (k : Value → Option α) : pCell 1 false (cellsL f.val) 4 k = k (wv f.top) := rfl
theorem f_all (f : Fct) (k : Value → Option α) : pCell 5 true (cellsL f.val) 0 k = k f.val := rfl
theorem b_5 (w : Int) (b c d e : W64) (k : Value → Option α) : pBuild Go.Proofs.Tryd.prog 24 [(0, .int .i64 w), (1, wv b), (2, wv c), (3, wv d), (4, wv e)] k = k (Fct.val ⟨w, b, c, d, e⟩) := by kernel_rfl
theorem b_w3 (w : Int) (b c : W64) (k : Value → Option α) : pBuild Go.Proofs.Tryd.prog 24 [(0, .int .i64 w), (1, wv b), (2, wv c)] k = k (Fct.val ⟨w, b, c, 0#64, 0#64⟩) := by kernel_rfl
theorem b_wt (w : Int) (b : W64) (k : Value → Option α) : pBuild Go.Proofs.Tryd.prog 24 [(0, .int .i64 w), (4, wv b)] k = k (Fct.val ⟨w, 0#64, 0#64, 0#64, b⟩) := by kernel_rfl
theorem b_wlt (w : Int) (b c : W64) (k : Value → Option α) : pBuild Go.Proofs.Tryd.prog 24 [(0, .int .i64 w), (3, wv b), (4, wv c)] k = k (Fct.val ⟨w, 0#64, 0#64, b, c⟩) := by kernel_rfl
theorem v_mk (w : Int) (a b c d : W64) : Value.agg #[.int .i64 w, wv a, wv b, wv c, wv d] = Fct.val ⟨w, a, b, c, d⟩ := rfl
theorem u_0 : Value.int .u64 0 = wv 0#64 := rfl
theorem u_1 : Value.int .u64 1 = wv 1#64 := rfl
theorem u_all : Value.int .u64 18446744073709551615 = wv (msk 64) := rfl
theorem cells_val (f : Fct) : [Value.int .i64 f.w, wv f.one, wv f.zero, wv f.least, wv f.top] = cellsL f.val := rfl
theorem sp_all (f : Fct) (l : List Value) (hl : l.length = 5) (k : List Value → Option α) : pSplice 5 l 0 f.val k = k (cellsL f.val) := by
  match l, hl with
  | [a, b, c, d, e], _ => rfl
theorem sp_one (f : Fct) (x : W64) (k : List Value → Option α) : pSplice 1 (cellsL f.val) 1 (wv x) k = k (cellsL { f with one := x }.val) := rfl
theorem sp_zero (f : Fct) (x : W64) (k : List Value → Option α) : pSplice 1 (cellsL f.val) 2 (wv x) k = k (cellsL { f with zero := x }.val) := rfl
theorem sp_least (f : Fct) (x : W64) (k : List Value → Option α) : pSplice 1 (cellsL f.val) 3 (wv x) k = k (cellsL { f with least := x }.val) := rfl
theorem sp_top (f : Fct) (x : W64) (k : List Value → Option α) : pSplice 1 (cellsL f.val) 4 (wv x) k = k (cellsL { f with top := x }.val) := rfl
theorem cu64 (n : Nat) (h : n < 18446744073709551616) (k : Value → Option α) : pConvInt .u64 (.int .i64 (n : Int)) k = k (.int .u64 (n : Int)) := by
  rw [q_conv, q_u64 (by omega) (by omega)]
end
/-- How many bits a width has. -/
def wd (w : Int) : Nat := (max w 1).toNat
theorem wd_le {w : Int} (h : w ≤ 64) : wd w ≤ 64 := by unfold wd; omega
theorem wd_pos (w : Int) : 1 ≤ wd w := by unfold wd; omega
theorem wd_max (w : Int) : (max w 1 : Int) = (wd w : Int) := by unfold wd; omega
theorem c43 (w : Int) (H : Hp) : R 43 [.int .i64 w] H = some (.int .i64 (wd w), H) := by
  refine (r43 E14 rfl _ H).trans ?_
  show some (Value.int .i64 (if (1 : Int) > w then 1 else w), H) = _
  rw [← wd_max]
  congr 3
  split <;> omega
theorem c42 (n : Nat) (hn : n ≤ 64) (x : W64) (H : Hp) : R 42 [.int .i64 (n : Int), wv x] H = some (wv (x &&& msk n), H) := by
  refine (r42 E14 rfl _ _ H).trans ?_
  unfold m42
  simp only [s_lss, s_geq, s_bool, s_br, decide_eq_true_eq, cu64 n (by omega), u_1, b_shl, b_sub, b_and]
  by_cases h0 : n = 0
  · subst h0
    rw [if_pos (by omega)]
    have : x &&& msk 0 = 0#64 := bit_eq fun j => by rw [BitVec.getLsbD_and, bit_msk]; simp
    rw [this]; rfl
  · rw [if_neg (by omega)]
    by_cases h1 : n = 64
    · subst h1
      rw [if_pos (by decide), msk_all, BitVec.and_allOnes]
    · rw [if_neg (by omega), msk_sub n (by omega)]
theorem c26 {w : Int} (hw : w ≤ 64) (H : Hp) : R 26 [.int .i64 w] H = some (wv (msk (wd w)), H) := by
  refine (r26 E14 rfl _ H).trans ?_
  unfold m26
  rw [s_call (c43 w H), u_all, s_call (c42 (wd w) (wd_le hw) (msk 64) H)]
  have : msk 64 &&& msk (wd w) = msk (wd w) := by rw [msk_all, BitVec.allOnes_and]
  rw [this]
theorem c28 {w : Int} (hw : 0 ≤ w) (H : Hp) : R 28 [.int .i64 w] H = some (.int .i64 (wd w), H) := by
  refine (r28 E14 rfl _ H).trans ?_
  unfold m28
  simp only [s_eql, s_bool, s_br, decide_eq_true_eq]
  by_cases h : w = 0
  · subst h; rw [if_pos rfl]; rfl
  · rw [if_neg h, ← wd_max]
    congr 3; omega
theorem low_of (n : Nat) (hn : n ≤ 64) (H : Hp) : (pBin Go.Proofs.Tryd.prog .geq 3 (.int .i64 (n : Int)) (.int .i64 64) fun v3 => pBool v3 fun b4 => br b4 (some ((.int .u64 18446744073709551615), H))
    (pConvInt .u64 (.int .i64 (n : Int)) fun v5 => pBin Go.Proofs.Tryd.prog .shl 22 (.int .u64 1) v5 fun v6 => pBin Go.Proofs.Tryd.prog .sub 22 v6 (.int .u64 1) fun v7 => some (v7, H))) = some (wv (msk n), H) := by
  simp only [s_geq, s_bool, s_br, decide_eq_true_eq, cu64 n (by omega), u_1, b_shl, b_sub]
  by_cases h : n = 64
  · subst h; rw [if_pos (by decide)]; rfl
  · rw [if_neg (by omega), msk_sub n (by omega)]
theorem c11 {w : Int} (h0 : 0 ≤ w) (hw : w ≤ 64) (H : Hp) : R 11 [.int .i64 w] H = some (wv (msk (wd w)), H) := by
  refine (r11 E14 rfl _ H).trans ?_
  unfold m11
  rw [s_call (c28 h0 H)]
  exact low_of (wd w) (wd_le hw) H
theorem c48 (n : Nat) (hn : n ≤ 64) (H : Hp) : R 48 [.int .i64 (n : Int)] H = some (wv (msk n), H) := (r48 E14 rfl _ H).trans (low_of n hn H)
theorem c47 (x : W64) (n : Nat) (hn : n < 64) (H : Hp) : R 47 [wv x, .int .i64 (n : Int)] H = some (.bool (x.getLsbD n), H) := by
  refine (r47 E14 rfl _ _ H).trans ?_
  unfold m47
  simp only [cu64 n (by omega), u_1, b_shr, b_and, b_eql]
  congr 3
  have e : ((x >>> n &&& 1#64) = 1#64) ↔ x.getLsbD n = true := by
    constructor
    · intro h
      have := congrArg (fun b => BitVec.getLsbD b 0) h
      simp only [BitVec.getLsbD_and, BitVec.getLsbD_ushiftRight] at this
      simpa using this
    · intro h
      refine bit_eq fun j => ?_
      rw [BitVec.getLsbD_and, BitVec.getLsbD_ushiftRight]
      have e1 : (1#64).getLsbD j = decide (j = 0) := by have := bit_one 0 j (by decide); rwa [BitVec.shiftLeft_zero] at this
      rw [e1]
      by_cases hj : j = 0
      · subst hj; simp [h]
      · simp [hj]
  rw [Bool.eq_iff_iff, decide_eq_true_eq, e]
instance (o z x : W64) : Decidable (Fit o z x) := decidable_of_iff _ fit_iff
theorem c27 (f : Fct) (x : W64) (H : Hp) : R 27 [f.val, wv x] H = some (.bool (decide (Fit f.one f.zero x)), H) := by
  refine (r27 E14 rfl _ _ H).trans ?_
  unfold m27
  simp only [f_one, f_zero, u_0, b_and, b_eql, s_bool, s_br, decide_eq_true_eq]
  by_cases h : x &&& f.one = f.one
  · rw [if_pos h]
    congr 3
    rw [decide_eq_decide, ← fit_iff]
    exact ⟨fun q => ⟨h, q⟩, fun q => q.2⟩
  · rw [if_neg h]
    have : ¬ Fit f.one f.zero x := fun q => h (fit_iff.2 q).1
    rw [decide_eq_false this]
theorem c25 (f : Fct) (x : W64) (H : Hp) : R 25 [f.val, wv x] H = some (.bool (decide (Fit f.one f.zero x)), H) := by
  refine (r25 E14 rfl _ _ H).trans ?_
  exact (r27 E14 rfl _ _ H).symm.trans (c27 f x H)
end Go.AM.N14
/- How long a word is: Len64. May, Has. -/
set_option linter.unusedVariables false
set_option linter.unusedSimpArgs false
namespace Go.AM.N14
open Go Go.AM
section
variable {α : Type}
theorem at8 (s : ByteArray) (i : Nat) (hs : i < s.size) (k : Value → Option α) : pAtStr (.string s) (.int .u8 (i : Int)) k = k (.int .u8 ((s[i]'hs).toNat : Int)) := by
  refine (q_at s i (s[i]'hs) ?_ k)
  rw [Array.getElem?_toList]
  exact Array.getElem?_eq_getElem (xs := s.data) hs
set_option maxRecDepth 100000 in
theorem at_len8 (i : Nat) (h : i < 256) (k : Value → Option α) : pAtStr (.string ⟨#[0, 1, 2, 2, 3, 3, 3, 3, 4, 4, 4, 4, 4, 4, 4, 4, 5, 5, 5, 5, 5, 5, 5, 5, 5, 5, 5, 5, 5, 5, 5, 5, 6, 6, 6, 6, 6, 6, 6, 6, 6, 6, 6, 6, 6, 6, 6, 6, 6, 6, 6, 6, 6, 6, 6, 6, 6, 6, 6, 6, 6, 6, 6, 6, 7, 7, 7, 7, 7, 7, 7, 7, 7, 7, 7, 7, 7, 7, 7, 7, 7, 7, 7, 7, 7, 7, 7, 7, 7, 7, 7, 7, 7, 7, 7, 7, 7, 7, 7, 7, 7, 7, 7, 7, 7, 7, 7, 7, 7, 7, 7, 7, 7, 7, 7, 7, 7, 7, 7, 7, 7, 7, 7, 7, 7, 7, 7, 7, 8, 8, 8, 8, 8, 8, 8, 8, 8, 8, 8, 8, 8, 8, 8, 8, 8, 8, 8, 8, 8, 8, 8, 8, 8, 8, 8, 8, 8, 8, 8, 8, 8, 8, 8, 8, 8, 8, 8, 8, 8, 8, 8, 8, 8, 8, 8, 8, 8, 8, 8, 8, 8, 8, 8, 8, 8, 8, 8, 8, 8, 8, 8, 8, 8, 8, 8, 8, 8, 8, 8, 8, 8, 8, 8, 8, 8, 8, 8, 8, 8, 8, 8, 8, 8, 8, 8, 8, 8, 8, 8, 8, 8, 8, 8, 8, 8, 8, 8, 8, 8, 8, 8, 8, 8, 8, 8, 8, 8, 8, 8, 8, 8, 8, 8, 8, 8, 8, 8, 8, 8, 8, 8, 8, 8, 8, 8, 8]⟩) (.int .u8 (i : Int)) k = k (.int .u8 ((bitLen i : Nat) : Int)) := by
  have hs : i < (⟨#[0, 1, 2, 2, 3, 3, 3, 3, 4, 4, 4, 4, 4, 4, 4, 4, 5, 5, 5, 5, 5, 5, 5, 5, 5, 5, 5, 5, 5, 5, 5, 5, 6, 6, 6, 6, 6, 6, 6, 6, 6, 6, 6, 6, 6, 6, 6, 6, 6, 6, 6, 6, 6, 6, 6, 6, 6, 6, 6, 6, 6, 6, 6, 6, 7, 7, 7, 7, 7, 7, 7, 7, 7, 7, 7, 7, 7, 7, 7, 7, 7, 7, 7, 7, 7, 7, 7, 7, 7, 7, 7, 7, 7, 7, 7, 7, 7, 7, 7, 7, 7, 7, 7, 7, 7, 7, 7, 7, 7, 7, 7, 7, 7, 7, 7, 7, 7, 7, 7, 7, 7, 7, 7, 7, 7, 7, 7, 7, 8, 8, 8, 8, 8, 8, 8, 8, 8, 8, 8, 8, 8, 8, 8, 8, 8, 8, 8, 8, 8, 8, 8, 8, 8, 8, 8, 8, 8, 8, 8, 8, 8, 8, 8, 8, 8, 8, 8, 8, 8, 8, 8, 8, 8, 8, 8, 8, 8, 8, 8, 8, 8, 8, 8, 8, 8, 8, 8, 8, 8, 8, 8, 8, 8, 8, 8, 8, 8, 8, 8, 8, 8, 8, 8, 8, 8, 8, 8, 8, 8, 8, 8, 8, 8, 8, 8, 8, 8, 8, 8, 8, 8, 8, 8, 8, 8, 8, 8, 8, 8, 8, 8, 8, 8, 8, 8, 8, 8, 8, 8, 8, 8, 8, 8, 8, 8, 8, 8, 8, 8, 8, 8, 8, 8, 8, 8, 8]⟩ : ByteArray).size := h
  rw [at8 _ i hs k, len8tab_get i hs]
end
theorem conv8 (y : W64) (h : y.toNat < 256) {α : Type} (k : Value → Option α) : pConvInt .u8 (wv y) k = k (.int .u8 (y.toNat : Int)) := by
  unfold wv
  rw [q_conv, q_u8 (by omega) (by omega)]
theorem shr_nat (x : W64) (n : Nat) : (x >>> n).toNat = x.toNat / 2 ^ n := by rw [BitVec.toNat_ushiftRight, Nat.shiftRight_eq_div_pow]
theorem c80 (x : W64) (H : Hp) : R 80 [wv x] H = some (.int .i64 ((bitLen x.toNat : Nat) : Int), H) := by
  refine (r80 E14 rfl _ H).trans ?_
  unfold m80
  have n1 : Value.int .u64 4294967296 = wv 4294967296#64 := rfl
  have n2 : Value.int .u64 65536 = wv 65536#64 := rfl
  have n3 : Value.int .u64 256 = wv 256#64 := rfl
  have n4 : ∀ n : Nat, Value.int .u64 (n : Int) = .int .u64 (n : Int) := fun _ => rfl
  have s32 : ∀ (a : W64) {α : Type} (k : Value → Option α), pBin Go.Proofs.Tryd.prog .shr 22 (wv a) (.int .u64 32) k = k (wv (a >>> 32)) := fun a _ k => b_shr 22 a k .u64 32
  have s16 : ∀ (a : W64) {α : Type} (k : Value → Option α), pBin Go.Proofs.Tryd.prog .shr 22 (wv a) (.int .u64 16) k = k (wv (a >>> 16)) := fun a _ k => b_shr 22 a k .u64 16
  have s8 : ∀ (a : W64) {α : Type} (k : Value → Option α), pBin Go.Proofs.Tryd.prog .shr 22 (wv a) (.int .u64 8) k = k (wv (a >>> 8)) := fun a _ k => b_shr 22 a k .u64 8
  have tail : ∀ (y : W64) (n : Nat), n ≤ 64 → y.toNat < 2 ^ 16 → ∀ G : Option (Value × Hp), G = some (.int .i64 ((n + bitLen y.toNat : Nat) : Int), H) →
    (pBin Go.Proofs.Tryd.prog .geq 22 (wv y) (.int .u64 256) fun v24 => pBool v24 fun b25 => br b25
      (pBin Go.Proofs.Tryd.prog .shr 22 (wv y) (.int .u64 8) fun v26 => pBin Go.Proofs.Tryd.prog .add 3 (.int .i64 (n : Int)) (.int .i64 8) fun v27 => pConvInt .u8 v26 fun v28 =>
        pAtStr (.string ⟨#[0, 1, 2, 2, 3, 3, 3, 3, 4, 4, 4, 4, 4, 4, 4, 4, 5, 5, 5, 5, 5, 5, 5, 5, 5, 5, 5, 5, 5, 5, 5, 5, 6, 6, 6, 6, 6, 6, 6, 6, 6, 6, 6, 6, 6, 6, 6, 6, 6, 6, 6, 6, 6, 6, 6, 6, 6, 6, 6, 6, 6, 6, 6, 6, 7, 7, 7, 7, 7, 7, 7, 7, 7, 7, 7, 7, 7, 7, 7, 7, 7, 7, 7, 7, 7, 7, 7, 7, 7, 7, 7, 7, 7, 7, 7, 7, 7, 7, 7, 7, 7, 7, 7, 7, 7, 7, 7, 7, 7, 7, 7, 7, 7, 7, 7, 7, 7, 7, 7, 7, 7, 7, 7, 7, 7, 7, 7, 7, 8, 8, 8, 8, 8, 8, 8, 8, 8, 8, 8, 8, 8, 8, 8, 8, 8, 8, 8, 8, 8, 8, 8, 8, 8, 8, 8, 8, 8, 8, 8, 8, 8, 8, 8, 8, 8, 8, 8, 8, 8, 8, 8, 8, 8, 8, 8, 8, 8, 8, 8, 8, 8, 8, 8, 8, 8, 8, 8, 8, 8, 8, 8, 8, 8, 8, 8, 8, 8, 8, 8, 8, 8, 8, 8, 8, 8, 8, 8, 8, 8, 8, 8, 8, 8, 8, 8, 8, 8, 8, 8, 8, 8, 8, 8, 8, 8, 8, 8, 8, 8, 8, 8, 8, 8, 8, 8, 8, 8, 8, 8, 8, 8, 8, 8, 8, 8, 8, 8, 8, 8, 8, 8, 8, 8, 8, 8, 8]⟩) v28 fun v29 => pConvInt .i64 v29 fun v30 => pBin Go.Proofs.Tryd.prog .add 3 v27 v30 fun v31 => some (v31, H))
      (pConvInt .u8 (wv y) fun v32 => pAtStr (.string ⟨#[0, 1, 2, 2, 3, 3, 3, 3, 4, 4, 4, 4, 4, 4, 4, 4, 5, 5, 5, 5, 5, 5, 5, 5, 5, 5, 5, 5, 5, 5, 5, 5, 6, 6, 6, 6, 6, 6, 6, 6, 6, 6, 6, 6, 6, 6, 6, 6, 6, 6, 6, 6, 6, 6, 6, 6, 6, 6, 6, 6, 6, 6, 6, 6, 7, 7, 7, 7, 7, 7, 7, 7, 7, 7, 7, 7, 7, 7, 7, 7, 7, 7, 7, 7, 7, 7, 7, 7, 7, 7, 7, 7, 7, 7, 7, 7, 7, 7, 7, 7, 7, 7, 7, 7, 7, 7, 7, 7, 7, 7, 7, 7, 7, 7, 7, 7, 7, 7, 7, 7, 7, 7, 7, 7, 7, 7, 7, 7, 8, 8, 8, 8, 8, 8, 8, 8, 8, 8, 8, 8, 8, 8, 8, 8, 8, 8, 8, 8, 8, 8, 8, 8, 8, 8, 8, 8, 8, 8, 8, 8, 8, 8, 8, 8, 8, 8, 8, 8, 8, 8, 8, 8, 8, 8, 8, 8, 8, 8, 8, 8, 8, 8, 8, 8, 8, 8, 8, 8, 8, 8, 8, 8, 8, 8, 8, 8, 8, 8, 8, 8, 8, 8, 8, 8, 8, 8, 8, 8, 8, 8, 8, 8, 8, 8, 8, 8, 8, 8, 8, 8, 8, 8, 8, 8, 8, 8, 8, 8, 8, 8, 8, 8, 8, 8, 8, 8, 8, 8, 8, 8, 8, 8, 8, 8, 8, 8, 8, 8, 8, 8, 8, 8, 8, 8, 8, 8]⟩) v32 fun v33 => pConvInt .i64 v33 fun v34 => pBin Go.Proofs.Tryd.prog .add 3 (.int .i64 (n : Int)) v34 fun v35 => some (v35, H))) = G := by
    intro y n hn hy G hG
    rw [hG, n3, b_geq, s_bool, s_br, show (256#64).toNat = 256 from rfl]
    by_cases h : 256 ≤ y.toNat
    · rw [if_pos (decide_eq_true h), s8]
      have e := shr_nat y 8
      have hlt : (y >>> 8).toNat < 256 := by omega
      have hb := bitLen_le8 _ hlt
      have hne : y.toNat / 2 ^ 8 ≠ 0 := by omega
      have hl := bitLen_shift y.toNat 8 hne
      rw [← e] at hl
      rw [s_add, conv8 _ hlt, at_len8 _ hlt, q_conv, s_add, q_i64 (x := (n : Int) + 8) (by omega) (by omega), q_i64 (x := ((bitLen (y >>> 8).toNat : Nat) : Int)) (by omega) (by omega), q_i64 (by omega) (by omega), hl]
      congr 3; omega
    · rw [if_neg (by simpa using h)]
      have hlt : y.toNat < 256 := by omega
      have hb := bitLen_le8 _ hlt
      rw [conv8 _ hlt, at_len8 _ hlt, q_conv, s_add, q_i64 (x := ((bitLen y.toNat : Nat) : Int)) (by omega) (by omega), q_i64 (by omega) (by omega)]
      congr 3
  have mid : ∀ (y : W64) (n : Nat), n ≤ 32 → y.toNat < 2 ^ 32 → ∀ G : Option (Value × Hp), G = some (.int .i64 ((n + bitLen y.toNat : Nat) : Int), H) → (onCtl (α := Value × Hp) .next
 (pBin Go.Proofs.Tryd.prog .geq 22 (wv y) (.int .u64 65536) fun v8 =>
 pBool v8 fun b9 => br b9
 (pBin Go.Proofs.Tryd.prog .shr 22 (wv y) (.int .u64 16) fun v10 =>
 pBin Go.Proofs.Tryd.prog .add 3 (.int .i64 (n : Int)) (.int .i64 16) fun v11 =>
 pBin Go.Proofs.Tryd.prog .geq 22 v10 (.int .u64 256) fun v12 =>
 pBool v12 fun b13 => br b13
 (pBin Go.Proofs.Tryd.prog .shr 22 v10 (.int .u64 8) fun v14 =>
 pBin Go.Proofs.Tryd.prog .add 3 v11 (.int .i64 8) fun v15 =>
 pConvInt .u8 v14 fun v16 =>
 pAtStr (.string ⟨#[0, 1, 2, 2, 3, 3, 3, 3, 4, 4, 4, 4, 4, 4, 4, 4, 5, 5, 5, 5, 5, 5, 5, 5, 5, 5, 5, 5, 5, 5, 5, 5, 6, 6, 6, 6, 6, 6, 6, 6, 6, 6, 6, 6, 6, 6, 6, 6, 6, 6, 6, 6, 6, 6, 6, 6, 6, 6, 6, 6, 6, 6, 6, 6, 7, 7, 7, 7, 7, 7, 7, 7, 7, 7, 7, 7, 7, 7, 7, 7, 7, 7, 7, 7, 7, 7, 7, 7, 7, 7, 7, 7, 7, 7, 7, 7, 7, 7, 7, 7, 7, 7, 7, 7, 7, 7, 7, 7, 7, 7, 7, 7, 7, 7, 7, 7, 7, 7, 7, 7, 7, 7, 7, 7, 7, 7, 7, 7, 8, 8, 8, 8, 8, 8, 8, 8, 8, 8, 8, 8, 8, 8, 8, 8, 8, 8, 8, 8, 8, 8, 8, 8, 8, 8, 8, 8, 8, 8, 8, 8, 8, 8, 8, 8, 8, 8, 8, 8, 8, 8, 8, 8, 8, 8, 8, 8, 8, 8, 8, 8, 8, 8, 8, 8, 8, 8, 8, 8, 8, 8, 8, 8, 8, 8, 8, 8, 8, 8, 8, 8, 8, 8, 8, 8, 8, 8, 8, 8, 8, 8, 8, 8, 8, 8, 8, 8, 8, 8, 8, 8, 8, 8, 8, 8, 8, 8, 8, 8, 8, 8, 8, 8, 8, 8, 8, 8, 8, 8, 8, 8, 8, 8, 8, 8, 8, 8, 8, 8, 8, 8, 8, 8, 8, 8, 8, 8]⟩) v16 fun v17 =>
 pConvInt .i64 v17 fun v18 =>
 pBin Go.Proofs.Tryd.prog .add 3 v15 v18 fun v19 =>
 some (v19, H))
 (pConvInt .u8 v10 fun v20 =>
 pAtStr (.string ⟨#[0, 1, 2, 2, 3, 3, 3, 3, 4, 4, 4, 4, 4, 4, 4, 4, 5, 5, 5, 5, 5, 5, 5, 5, 5, 5, 5, 5, 5, 5, 5, 5, 6, 6, 6, 6, 6, 6, 6, 6, 6, 6, 6, 6, 6, 6, 6, 6, 6, 6, 6, 6, 6, 6, 6, 6, 6, 6, 6, 6, 6, 6, 6, 6, 7, 7, 7, 7, 7, 7, 7, 7, 7, 7, 7, 7, 7, 7, 7, 7, 7, 7, 7, 7, 7, 7, 7, 7, 7, 7, 7, 7, 7, 7, 7, 7, 7, 7, 7, 7, 7, 7, 7, 7, 7, 7, 7, 7, 7, 7, 7, 7, 7, 7, 7, 7, 7, 7, 7, 7, 7, 7, 7, 7, 7, 7, 7, 7, 8, 8, 8, 8, 8, 8, 8, 8, 8, 8, 8, 8, 8, 8, 8, 8, 8, 8, 8, 8, 8, 8, 8, 8, 8, 8, 8, 8, 8, 8, 8, 8, 8, 8, 8, 8, 8, 8, 8, 8, 8, 8, 8, 8, 8, 8, 8, 8, 8, 8, 8, 8, 8, 8, 8, 8, 8, 8, 8, 8, 8, 8, 8, 8, 8, 8, 8, 8, 8, 8, 8, 8, 8, 8, 8, 8, 8, 8, 8, 8, 8, 8, 8, 8, 8, 8, 8, 8, 8, 8, 8, 8, 8, 8, 8, 8, 8, 8, 8, 8, 8, 8, 8, 8, 8, 8, 8, 8, 8, 8, 8, 8, 8, 8, 8, 8, 8, 8, 8, 8, 8, 8, 8, 8, 8, 8, 8, 8]⟩) v20 fun v21 =>
 pConvInt .i64 v21 fun v22 =>
 pBin Go.Proofs.Tryd.prog .add 3 v11 v22 fun v23 =>
 some (v23, H)))
 (pBin Go.Proofs.Tryd.prog .geq 22 (wv y) (.int .u64 256) fun v24 =>
 pBool v24 fun b25 => br b25
 (pBin Go.Proofs.Tryd.prog .shr 22 (wv y) (.int .u64 8) fun v26 =>
 pBin Go.Proofs.Tryd.prog .add 3 (.int .i64 (n : Int)) (.int .i64 8) fun v27 =>
 pConvInt .u8 v26 fun v28 =>
 pAtStr (.string ⟨#[0, 1, 2, 2, 3, 3, 3, 3, 4, 4, 4, 4, 4, 4, 4, 4, 5, 5, 5, 5, 5, 5, 5, 5, 5, 5, 5, 5, 5, 5, 5, 5, 6, 6, 6, 6, 6, 6, 6, 6, 6, 6, 6, 6, 6, 6, 6, 6, 6, 6, 6, 6, 6, 6, 6, 6, 6, 6, 6, 6, 6, 6, 6, 6, 7, 7, 7, 7, 7, 7, 7, 7, 7, 7, 7, 7, 7, 7, 7, 7, 7, 7, 7, 7, 7, 7, 7, 7, 7, 7, 7, 7, 7, 7, 7, 7, 7, 7, 7, 7, 7, 7, 7, 7, 7, 7, 7, 7, 7, 7, 7, 7, 7, 7, 7, 7, 7, 7, 7, 7, 7, 7, 7, 7, 7, 7, 7, 7, 8, 8, 8, 8, 8, 8, 8, 8, 8, 8, 8, 8, 8, 8, 8, 8, 8, 8, 8, 8, 8, 8, 8, 8, 8, 8, 8, 8, 8, 8, 8, 8, 8, 8, 8, 8, 8, 8, 8, 8, 8, 8, 8, 8, 8, 8, 8, 8, 8, 8, 8, 8, 8, 8, 8, 8, 8, 8, 8, 8, 8, 8, 8, 8, 8, 8, 8, 8, 8, 8, 8, 8, 8, 8, 8, 8, 8, 8, 8, 8, 8, 8, 8, 8, 8, 8, 8, 8, 8, 8, 8, 8, 8, 8, 8, 8, 8, 8, 8, 8, 8, 8, 8, 8, 8, 8, 8, 8, 8, 8, 8, 8, 8, 8, 8, 8, 8, 8, 8, 8, 8, 8, 8, 8, 8, 8, 8, 8]⟩) v28 fun v29 =>
 pConvInt .i64 v29 fun v30 =>
 pBin Go.Proofs.Tryd.prog .add 3 v27 v30 fun v31 =>
 some (v31, H))
 (pConvInt .u8 (wv y) fun v32 =>
 pAtStr (.string ⟨#[0, 1, 2, 2, 3, 3, 3, 3, 4, 4, 4, 4, 4, 4, 4, 4, 5, 5, 5, 5, 5, 5, 5, 5, 5, 5, 5, 5, 5, 5, 5, 5, 6, 6, 6, 6, 6, 6, 6, 6, 6, 6, 6, 6, 6, 6, 6, 6, 6, 6, 6, 6, 6, 6, 6, 6, 6, 6, 6, 6, 6, 6, 6, 6, 7, 7, 7, 7, 7, 7, 7, 7, 7, 7, 7, 7, 7, 7, 7, 7, 7, 7, 7, 7, 7, 7, 7, 7, 7, 7, 7, 7, 7, 7, 7, 7, 7, 7, 7, 7, 7, 7, 7, 7, 7, 7, 7, 7, 7, 7, 7, 7, 7, 7, 7, 7, 7, 7, 7, 7, 7, 7, 7, 7, 7, 7, 7, 7, 8, 8, 8, 8, 8, 8, 8, 8, 8, 8, 8, 8, 8, 8, 8, 8, 8, 8, 8, 8, 8, 8, 8, 8, 8, 8, 8, 8, 8, 8, 8, 8, 8, 8, 8, 8, 8, 8, 8, 8, 8, 8, 8, 8, 8, 8, 8, 8, 8, 8, 8, 8, 8, 8, 8, 8, 8, 8, 8, 8, 8, 8, 8, 8, 8, 8, 8, 8, 8, 8, 8, 8, 8, 8, 8, 8, 8, 8, 8, 8, 8, 8, 8, 8, 8, 8, 8, 8, 8, 8, 8, 8, 8, 8, 8, 8, 8, 8, 8, 8, 8, 8, 8, 8, 8, 8, 8, 8, 8, 8, 8, 8, 8, 8, 8, 8, 8, 8, 8, 8, 8, 8, 8, 8, 8, 8, 8, 8]⟩) v32 fun v33 =>
 pConvInt .i64 v33 fun v34 =>
 pBin Go.Proofs.Tryd.prog .add 3 (.int .i64 (n : Int)) v34 fun v35 =>
 some (v35, H)))) (fun i7 => none) none) = G := by
    intro y n hn hy G hG
    rw [s_next, n2, b_geq, s_bool, s_br, show (65536#64).toNat = 65536 from rfl]
    by_cases h : 65536 ≤ y.toNat
    · rw [if_pos (decide_eq_true h), s16, s_add, q_i64 (by omega) (by omega)]
      have e := shr_nat y 16
      have hne : y.toNat / 2 ^ 16 ≠ 0 := by omega
      have hl := bitLen_shift y.toNat 16 hne
      rw [← e] at hl
      have e2 : ((n : Int) + 16) = ((n + 16 : Nat) : Int) := by omega
      rw [e2]
      refine tail (y >>> 16) (n + 16) (by omega) (by omega) G ?_
      rw [hG, hl]
      congr 3; omega
    · rw [if_neg (by simpa using h)]
      exact tail y n (by omega) (by omega) G hG
  rw [n1, b_geq, s_bool, s_br, show (4294967296#64).toNat = 4294967296 from rfl]
  by_cases h : 4294967296 ≤ x.toNat
  · rw [if_pos (decide_eq_true h), s32]
    have e := shr_nat x 32
    have hx := x.isLt
    have hne : x.toNat / 2 ^ 32 ≠ 0 := by omega
    have hl := bitLen_shift x.toNat 32 hne
    rw [← e] at hl
    refine mid (x >>> 32) 32 (by omega) (by omega) _ ?_
    rw [hl]
  · rw [if_neg (by simpa using h)]
    refine mid x 0 (by omega) (by omega) _ ?_
    rw [Nat.zero_add]
theorem bitLen_64 (x : W64) : bitLen x.toNat ≤ 64 := by
  unfold bitLen
  split
  · omega
  · rename_i h
    have := (Nat.log2_lt h).2 x.isLt
    omega
theorem c63 (x : W64) (H : Hp) : R 63 [wv x] H = some (.int .i64 ((64 - bitLen x.toNat : Nat) : Int), H) := by
  refine (r63 E14 rfl _ H).trans ?_
  unfold m63
  have := bitLen_64 x
  rw [s_call (c80 x H), s_sub, q_i64 (by omega) (by omega)]
  congr 3; omega
/-- The highest bit of a word that is not 0. -/
theorem top_bit {x : W64} (h : x ≠ 0#64) : ∃ i, i < 64 ∧ bitLen x.toNat = i + 1 ∧ x.getLsbD i = true ∧ ∀ j, i < j → x.getLsbD j = false := by
  have h0 : x.toNat ≠ 0 := fun e => h (BitVec.eq_of_toNat_eq e)
  refine ⟨x.toNat.log2, (Nat.log2_lt h0).2 x.isLt, by unfold bitLen; rw [if_neg h0], ?_, fun j hj => ?_⟩
  · rw [← BitVec.testBit_toNat]; exact Nat.testBit_log2 h0
  · rw [← BitVec.testBit_toNat]
    exact Nat.testBit_lt_two_pow (Nat.lt_of_lt_of_le Nat.lt_log2_self (Nat.pow_le_pow_right (by decide) hj))
end Go.AM.N14
