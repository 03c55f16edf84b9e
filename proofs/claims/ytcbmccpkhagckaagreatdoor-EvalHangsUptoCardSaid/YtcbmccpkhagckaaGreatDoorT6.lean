/- Part of the proof of EvalHangsUptoCardSaid: see the last file.  -/
import Derived.KernelRfl
import Derived.Test.YtcbmccpkhagckaaGreatDoorT2
import Derived.Test.YtcbmccpkhagckaaGreatDoorT4
import Derived.Test.YtcbmccpkhagckaaGreatDoorT5
set_option linter.unusedSimpArgs false
set_option linter.unusedVariables false
set_option linter.unusedSectionVars false
set_option maxRecDepth 100000
namespace Go.AM.N14
open Go Go.AM
theorem post_sub {L : List Nd} (hd : Dag L) {S : Nat → Prop} (hcl : ∀ u, S u → ∀ c ∈ kids L u, S c) : ∀ t, 1 ≤ t → S t → ∀ out, ∀ x ∈ post L t out, x ∈ out ∨ S x := by
  intro t
  induction t using Nat.strongRecOn with
  | _ t ih =>
    intro ht hs out x hx
    rw [zgy hd ht] at hx
    split at hx
    · exact .inl hx
    · have key : ∀ (l : List Nat) (o : List Nat), (∀ c ∈ l, c ∈ kids L t) → ∀ x ∈ posts L l o, x ∈ o ∨ S x := by
        intro l
        induction l with
        | nil => exact fun o _ x hx => .inl hx
        | cons c l ihl =>
          intro o hl x hx
          rw [zgx] at hx
          have hc := zeK hd ht (hl c (List.mem_cons_self ..))
          rcases ihl _ (fun c hc => hl c (List.mem_cons_of_mem _ hc)) x hx with q | q
          · exact ih c hc.2 hc.1 (hcl t hs c (hl c (List.mem_cons_self ..))) o x q
          · exact .inr q
      rcases List.mem_append.1 hx with q | q
      · exact key (kids L t) out (fun c hc => hc) x q
      · rw [List.mem_singleton] at q; rw [q]; exact .inr hs
theorem zoa {L : List Nd} {out : List Nat} (hcl : zc0 L out) : ∀ u, u ∈ out → ∀ c ∈ kids L u, c ∈ out := fun u hu c hc => by
  obtain ⟨j, hj⟩ := List.getElem?_of_mem hu
  exact List.mem_of_mem_take (hcl j u hj c hc)
theorem zhu {v : VV} : ∀ {Tv : List VV}, (Tv.map VV.name).Nodup → v ∈ Tv → fndV v.name Tv = some v
  | [], _, h => by cases h
  | x :: r, hn, h => by
    rw [List.map_cons] at hn
    obtain ⟨n1, n2⟩ := List.nodup_cons.1 hn
    unfold fndV
    by_cases e : (v.name == x.name) = true
    · rw [if_pos e]
      rcases List.mem_cons.1 h with q | q
      · rw [q]
      · exact absurd (by rw [← (ze8 _ _).1 e]; exact List.mem_map_of_mem q) n1
    · rw [if_neg e]
      rcases List.mem_cons.1 h with q | q
      · rw [q] at e; exact absurd ((ze8 _ _).2 rfl) e
      · exact zhu n2 q
theorem znV {s : ByteArray} : ∀ {Tv : List VV}, s ∈ Tv.map VV.name → ∃ v, fndV s Tv = some v
  | [], h => by cases h
  | x :: r, h => by
    unfold fndV
    by_cases e : (s == x.name) = true
    · rw [if_pos e]; exact ⟨x, rfl⟩
    · rw [if_neg e]
      rw [List.map_cons] at h
      rcases List.mem_cons.1 h with q | q
      · exact absurd ((ze8 _ _).2 q) e
      · exact znV q
theorem trim_bd {w x : Int} (h : 0 ≤ x ∧ x < 18446744073709551616) : 0 ≤ zdc w x ∧ zdc w x < 18446744073709551616 := by
  unfold zdc
  split
  · exact ⟨Int.le_refl _, by decide⟩
  · split
    · exact h
    · have hp : (0 : Int) < 2 ^ w.toNat := Int.pow_pos (by decide)
      have h1 := Int.emod_nonneg x (by omega : (2 : Int) ^ w.toNat ≠ 0)
      have h2 : x % 2 ^ w.toNat ≤ x := by
        have := Int.emod_add_mul_ediv x (2 ^ w.toNat)
        have h3 : 0 ≤ x / 2 ^ w.toNat := Int.ediv_nonneg h.1 (by omega)
        have h4 : 0 ≤ 2 ^ w.toNat * (x / 2 ^ w.toNat) := Int.mul_nonneg (by omega) h3
        omega
      exact ⟨h1, by omega⟩
theorem zgd {nums : List Int} (hn : ∀ z ∈ nums, 0 ≤ z ∧ z < 18446744073709551616) : ∀ (A : List VV) (i : Nat) (v : VV), v ∈ zaX nums i A → v.Ok ∧ ∃ a ∈ A, a.name = v.name ∧ a.w = v.w
  | [], i, v, h => by cases h
  | a :: r, i, v, h => by
    have e : zaX nums i (a :: r) = { a with num := cutW a.w (zej nums i) } :: zaX nums (i + 1) r := rfl
    rw [e] at h
    rcases List.mem_cons.1 h with rfl | q
    · exact ⟨trim_bd (zn7 hn i), a, List.mem_cons_self .., rfl, rfl⟩
    · obtain ⟨h1, b, h2, h3⟩ := zgd hn r (i + 1) v q
      exact ⟨h1, b, List.mem_cons_of_mem _ h2, h3⟩
theorem ziA (nums : List Int) : ∀ (A : List VV) (i : Nat), (zaX nums i A).length = A.length
  | [], i => rfl
  | a :: r, i => by
    have e : zaX nums i (a :: r) = { a with num := cutW a.w (zej nums i) } :: zaX nums (i + 1) r := rfl
    rw [e, List.length_cons, List.length_cons, ziA nums r (i + 1)]
theorem zib {A : Type} : ∀ l : List A, l.Nodup → l.reverse.Nodup
  | [], h => h
  | a :: l, h => by
    obtain ⟨n1, n2⟩ := List.nodup_cons.1 h
    rw [List.reverse_cons, List.nodup_append]
    refine ⟨zib l n2, List.nodup_cons.2 ⟨fun q => (by cases q), List.nodup_nil⟩, fun x hx y hy e => ?_⟩
    rw [List.mem_singleton] at hy
    rw [hy] at e
    rw [e] at hx
    exact n1 (List.mem_reverse.1 hx)
def zc5 (vals : List VV) (o : VV) : List VV := vals.filter fun v => (v.name.toList == o.name.toList) && decide (v.num ≠ 0)
def ze7 (vals own : List VV) : List VV := own.reverse.flatMap (zc5 vals)
theorem zgb {vals : List VV} {o v : VV} : v ∈ zc5 vals o ↔ v ∈ vals ∧ v.name = o.name ∧ v.num ≠ 0 := by
  unfold zc5
  rw [List.mem_filter, Bool.and_eq_true, decide_eq_true_eq]
  constructor
  · rintro ⟨a, b, c⟩; exact ⟨a, zmo _ _ b, c⟩
  · rintro ⟨a, b, c⟩; exact ⟨a, by rw [b]; exact beq_self_eq_true _, c⟩
theorem zcO {vals own : List VV} {v : VV} : v ∈ ze7 vals own ↔ v ∈ vals ∧ v.num ≠ 0 ∧ ∃ o ∈ own, v.name = o.name := by
  unfold ze7
  rw [List.mem_flatMap]
  constructor
  · rintro ⟨o, ho, h⟩
    obtain ⟨a, b, c⟩ := zgb.1 h
    exact ⟨a, c, o, List.mem_reverse.1 ho, b⟩
  · rintro ⟨a, c, o, ho, b⟩
    exact ⟨o, List.mem_reverse.2 ho, zgb.2 ⟨a, b, c⟩⟩
theorem zgG {vals : List VV} (hv : (vals.map VV.name).Nodup) : ∀ (r : List VV), (r.map VV.name).Nodup → ((r.flatMap (zc5 vals)).map VV.name).Nodup
  | [], _ => List.nodup_nil
  | o :: r, h => by
    rw [List.map_cons] at h
    obtain ⟨n1, n2⟩ := List.nodup_cons.1 h
    rw [List.flatMap_cons, List.map_append, List.nodup_append]
    refine ⟨?_, zgG hv r n2, fun a ha b hb e => ?_⟩
    · unfold zc5
      exact List.Nodup.sublist (List.Sublist.map _ List.filter_sublist) hv
    · obtain ⟨v, hv1, rfl⟩ := List.mem_map.1 ha
      obtain ⟨w, hw1, rfl⟩ := List.mem_map.1 hb
      obtain ⟨o', ho', hw2⟩ := List.mem_flatMap.1 hw1
      rw [(zgb.1 hv1).2.1, (zgb.1 hw2).2.1] at e
      exact n1 (by rw [e]; exact List.mem_map_of_mem ho')
section
variable {L : List Nd} {K : List (ByteArray × Int)} (hg : zev L K) {ns : List Nat} (hns : ∀ t ∈ ns, 1 ≤ t ∧ t ≤ L.length)
include hg hns
theorem zdg : (posts L ns []).Nodup ∧ (∀ t ∈ posts L ns [], 1 ≤ t ∧ t ≤ L.length) ∧ zc0 L (posts L ns []) ∧ (∀ t ∈ ns, t ∈ posts L ns []) := by
  have hd := hg.dag
  have hmem := zcG hd (N := L.length) ns [] hns
  exact ⟨zfY hd ns [] (fun c hc => (hns c hc).1) List.nodup_nil, fun t ht => (hmem.2.2 t ht).elim (fun q => by cases q) fun q => q, (zeX hd ns [] (fun c hc => (hns c hc).1) (fun i t h => by cases h)).1, hmem.2.1⟩
theorem zfl {v : VV} : v ∈ zaY L ns ↔ ∃ u n, u ∈ posts L ns [] ∧ L[u - 1]? = some n ∧ n.op = 4 ∧ v = ⟨n.name, n.w, 0⟩ := by
  rw [zjV, List.mem_filterMap]
  constructor
  · rintro ⟨u, hu, h⟩
    obtain ⟨n, h1, h2, h3⟩ := zhs h
    exact ⟨u, n, hu, h1, h2, h3⟩
  · rintro ⟨u, n, hu, h1, h2, rfl⟩
    exact ⟨u, hu, by rw [isV_eq h1, if_pos h2]⟩
theorem zdQ : nmOk [] ((zaY L ns).map VV.name) = true := by
  obtain ⟨p1, p2, _⟩ := zdg hg hns
  rw [zjV]
  exact zok hg _ p1 p2
theorem vars_w : ∀ v ∈ zaY L ns, 0 ≤ v.w ∧ v.w ≤ 64 := fun v hv => by
  obtain ⟨u, n, _, h1, _, rfl⟩ := (zfl hg hns).1 hv
  exact zis hg n (List.mem_of_getElem? h1)
theorem zjL {nums : List Int} (hn : ∀ z ∈ nums, 0 ≤ z ∧ z < 18446744073709551616) : zfm (zaX nums 0 (zaY L ns)) = 0 := by
  unfold zfm
  rw [zdo, zdQ hg hns, if_pos rfl, zn6 nums (fun z hz => (hn z hz).1) _ _ (vars_w hg hns), if_pos rfl]
theorem zjN {nums : List Int} (hn : ∀ z ∈ nums, 0 ≤ z ∧ z < 18446744073709551616) {u : Nat} (hu : u ∈ posts L ns []) : badV L (zaX nums 0 (zaY L ns)) u = false := by
  obtain ⟨_, p2, _⟩ := zdg hg hns
  have ht := p2 u hu
  have hq : L[u - 1]? = some (L[u - 1]'(by omega)) := List.getElem?_eq_getElem (by omega)
  generalize L[u - 1]'(by omega) = n at hq
  rw [zgK hq]
  by_cases h4 : n.op = 4
  · rw [decide_eq_true h4, Bool.true_and]
    cases hf : fndV n.name (zaX nums 0 (zaY L ns)) with
    | none => rfl
    | some v =>
      obtain ⟨hm, hname⟩ := zeh hf
      obtain ⟨_, a, ha, e1, e2⟩ := zgd hn _ _ v hm
      obtain ⟨u', n', hu', h1, h2, rfl⟩ := (zfl hg hns).1 ha
      have := znb hg (List.mem_of_getElem? h1) (List.mem_of_getElem? hq) h2 h4 (by rw [← hname]; exact e1)
      rw [this] at e2
      exact decide_eq_false fun z => z e2.symm
  · rw [decide_eq_false h4]; rfl
theorem zoK {nums : List Int} (hn : ∀ z ∈ nums, 0 ≤ z ∧ z < 18446744073709551616) : zeb L ns (zaX nums 0 (zaY L ns)) = (0, ns.map (vfn L (zcv (zaX nums 0 (zaY L ns))))) := by
  unfold zeb
  rw [zjL hg hns hn, if_neg (by decide), if_neg]
  intro q
  obtain ⟨u, hu, h⟩ := List.any_eq_true.1 q
  rw [zjN hg hns hn hu] at h
  cases h
theorem vals_hang {nums : List Int} (hn : ∀ z ∈ nums, 0 ≤ z ∧ z < 18446744073709551616) {t : Nat} (ht : t ∈ ns) {m : Nat} (hm : m ≤ 2 ^ 41) (hfree : ∀ v ∈ zaY L ns, v.name ≠ za6 m) {more : Int} (hmore : 0 ≤ more ∧ more < 18446744073709551616) :
    (∀ v ∈ ze7 (zaX nums 0 (zaY L ns)) (zaY L [t]) ++ [⟨za6 m, 64, more⟩], v.Ok) ∧
    zeb L [t] (ze7 (zaX nums 0 (zaY L ns)) (zaY L [t]) ++ [⟨za6 m, 64, more⟩]) = (0, [vfn L (zcv (zaX nums 0 (zaY L ns))) t]) := by
  have h1 : ∀ c ∈ [t], 1 ≤ c ∧ c ≤ L.length := fun c hc => by rw [List.mem_singleton] at hc; rw [hc]; exact hns t ht
  obtain ⟨p1, p2, p3, p4⟩ := zdg hg hns
  obtain ⟨q1, q2, q3, q4⟩ := zdg hg h1
  have hsub : ∀ u ∈ posts L [t] [], u ∈ posts L ns [] := fun u hu => by
    rcases post_sub hg.dag (zoa p3) t (hns t ht).1 (p4 t ht) [] u hu with q | q
    · cases q
    · exact q
  have hown : ∀ v ∈ zaY L [t], v ∈ zaY L ns := fun v hv => by
    obtain ⟨u, n, hu, h⟩ := (zfl hg h1).1 hv
    exact (zfl hg hns).2 ⟨u, n, hsub u hu, h⟩
  have hvn := (zee _ _).1 (zdQ hg hns)
  have hon := (zee _ _).1 (zdQ hg h1)
  have hdn : ((zaX nums 0 (zaY L ns)).map VV.name).Nodup := by rw [zdo]; exact hvn.2.1
  have hold := zjL hg hns hn
  have hgood := fun u hu => zjN hg hns hn (u := u) hu
  have hnames := zdo nums (zaY L ns) 0
  have hokd : ∀ v ∈ zaX nums 0 (zaY L ns), v.Ok := fun v hv => (zgd hn _ _ v hv).1
  generalize zaX nums 0 (zaY L ns) = vals at *
  have hin : ∀ v ∈ vals, v.name ∈ (zaY L ns).map VV.name := fun v hv => by rw [← hnames]; exact List.mem_map_of_mem hv
  have hfree' : ∀ v ∈ vals, v.name ≠ za6 m := fun v hv e => by
    obtain ⟨a, ha, e2⟩ := List.mem_map.1 (hin v hv)
    exact hfree a ha (by rw [e2]; exact e)
  have hTn : ((ze7 vals (zaY L [t]) ++ [(⟨za6 m, 64, more⟩ : VV)]).map VV.name).Nodup := by
    rw [List.map_append, List.nodup_append]
    refine ⟨zgG hdn _ (by rw [List.map_reverse]; exact zib _ hon.2.1), (List.nodup_cons.2 ⟨fun q => (by cases q), List.nodup_nil⟩), fun a ha b hb e => ?_⟩
    obtain ⟨v, hv, rfl⟩ := List.mem_map.1 ha
    rw [List.map_cons, List.map_nil, List.mem_singleton] at hb
    rw [hb] at e
    exact hfree' v (zcO.1 hv).1 e
  have hTok : ∀ v ∈ ze7 vals (zaY L [t]) ++ [(⟨za6 m, 64, more⟩ : VV)], v.Ok := fun v hv => by
    rcases List.mem_append.1 hv with q | q
    · exact hokd v (zcO.1 q).1
    · rw [List.mem_singleton] at q; rw [q]; exact hmore
  refine ⟨hTok, ?_⟩
  have hT0 : zfm (ze7 vals (zaY L [t]) ++ [(⟨za6 m, 64, more⟩ : VV)]) = 0 := by
    unfold zfm
    rw [if_pos, if_pos]
    · rw [List.all_append, Bool.and_eq_true]
      refine ⟨List.all_eq_true.2 fun v hv => List.all_eq_true.1 (toldE_0 hold).2 v (zcO.1 hv).1, ?_⟩
      rw [List.all_cons, List.all_nil, Bool.and_true]
      unfold wdOk
      rw [decide_eq_true (show (0 : Int) ≤ 64 by decide), decide_eq_true (show (64 : Int) ≤ 64 by decide), if_neg (show ¬ (64 : Int) < 1 by decide), decide_eq_true (trim64)]; rfl
    · rw [zee]
      refine ⟨fun s hs => ?_, hTn, fun s _ q => by cases q⟩
      obtain ⟨v, hv, rfl⟩ := List.mem_map.1 hs
      rcases List.mem_append.1 hv with q | q
      · exact hvn.1 _ (hin v (zcO.1 q).1)
      · rw [List.mem_singleton] at q; rw [q]; exact spare_ok hm
  have hTm : ∀ w, w ∈ ze7 vals (zaY L [t]) ++ [(⟨za6 m, 64, more⟩ : VV)] → (w ∈ vals ∧ w.num ≠ 0) ∨ w.name = za6 m := fun w hw => by
    rcases List.mem_append.1 hw with q | q
    · exact .inl ⟨(zcO.1 q).1, (zcO.1 q).2.1⟩
    · rw [List.mem_singleton] at q; exact .inr (by rw [q])
  have hvar : ∀ u n, u ∈ posts L [t] [] → L[u - 1]? = some n → n.op = 4 → n.name ≠ za6 m := fun u n hu hq h4 =>
    hfree ⟨n.name, n.w, 0⟩ ((zfl hg hns).2 ⟨u, n, hsub u hu, hq, h4, rfl⟩)
  unfold zeb
  rw [hT0, if_neg (by decide), if_neg]
  · rw [List.map_cons, List.map_nil]
    congr 2
    refine vfn_own hg.dag (zoa q3) (fun u n hu1 hu hq h4 => ?_) (hns t ht).1 (hns t ht).2 (q4 t (List.mem_singleton.2 rfl))
    have hne := hvar u n hu hq h4
    have hmA : (⟨n.name, n.w, 0⟩ : VV) ∈ zaY L ns := (zfl hg hns).2 ⟨u, n, hsub u hu, hq, h4, rfl⟩
    have hmO : (⟨n.name, n.w, 0⟩ : VV) ∈ zaY L [t] := (zfl hg h1).2 ⟨u, n, hu, hq, h4, rfl⟩
    obtain ⟨v, hv⟩ := znV (s := n.name) (Tv := vals) (by rw [hnames]; exact List.mem_map_of_mem hmA)
    obtain ⟨v1, v2⟩ := zeh hv
    rw [zfO hv]
    by_cases h0 : v.num = 0
    · rw [zhC, h0]; · rfl
      cases hf : fndV n.name (ze7 vals (zaY L [t]) ++ [(⟨za6 m, 64, more⟩ : VV)]) with
      | none => rfl
      | some w =>
        obtain ⟨w1, w2⟩ := zeh hf
        rcases hTm w w1 with ⟨z1, z2⟩ | z
        · have := zhu hdn z1
          rw [w2, hv] at this
          cases this
          exact absurd h0 z2
        · exact absurd (w2.symm.trans z) hne
    · have hin2 : v ∈ ze7 vals (zaY L [t]) ++ [(⟨za6 m, 64, more⟩ : VV)] := List.mem_append_left _ (zcO.2 ⟨v1, h0, _, hmO, v2⟩)
      have := zhu hTn hin2
      rw [v2] at this
      rw [zfO this]
  · intro q
    obtain ⟨u, hu, h⟩ := List.any_eq_true.1 q
    have ht2 := q2 u hu
    have hq : L[u - 1]? = some (L[u - 1]'(by omega)) := List.getElem?_eq_getElem (by omega)
    generalize L[u - 1]'(by omega) = n at hq
    rw [zgK hq, Bool.and_eq_true, decide_eq_true_eq] at h
    obtain ⟨h4, h⟩ := h
    cases hf : fndV n.name (ze7 vals (zaY L [t]) ++ [(⟨za6 m, 64, more⟩ : VV)]) with
    | none => rw [hf] at h; cases h
    | some w =>
      rw [hf] at h
      obtain ⟨w1, w2⟩ := zeh hf
      rcases hTm w w1 with ⟨z1, _⟩ | z
      · have hgu := hgood u (hsub u hu)
        rw [zgK hq, decide_eq_true h4, Bool.true_and] at hgu
        have := zhu hdn z1
        rw [w2] at this
        rw [this] at hgu
        dsimp only at h hgu
        rw [h] at hgu; cases hgu
      · exact hvar u n hu hq h4 (w2.symm.trans z)
end
end Go.AM.N14
namespace Go.AM.N14
open Go Go.AM
theorem zi2 {L : List Nd} {ns : List Nat} (h : ∀ t ∈ ns, 1 ≤ t ∧ t ≤ L.length) (Tv : List VV) : zbT L (ns.map fun (t : Nat) => (t : Int)) Tv = zeb L ns Tv := by
  unfold zbT
  rw [if_pos, zgC]
  rw [List.all_map, List.all_eq_true]
  intro t ht
  have := h t ht
  exact zbf.2 ⟨by show (1 : Int) ≤ (t : Int); omega, by show (t : Int) ≤ L.length; omega⟩
theorem zna {L : List Nd} {ns : List Nat} (h : ∀ t ∈ ns, 1 ≤ t ∧ t ≤ L.length) : zl2 L (ns.map fun (t : Nat) => (t : Int)) = (0, zaY L ns) := by
  unfold zl2
  rw [if_pos, zgC]
  rw [List.all_map, List.all_eq_true]
  intro t ht
  have := h t ht
  exact zbf.2 ⟨by show (1 : Int) ≤ (t : Int); omega, by show (t : Int) ≤ L.length; omega⟩
theorem zhB {L : List Nd} (hd : Dag L) {ns : List Nat} (h : ∀ t ∈ ns, 1 ≤ t ∧ t ≤ L.length) : (zaY L ns).length ≤ L.length := by
  rw [zjV]
  exact Nat.le_trans (List.length_filterMap_le ..) (Told.len ((⟨List.nodup_nil, fun x h => by cases h⟩ : Told L.length []).posts hd h))
section
variable {B : Hp} {ov vv : Value} {own vals : List VV} (ho : Rdb B 3 ov own.length (za8 own)) (hv : Rdb B 3 vv vals.length (za8 vals)) (hvl : vals.length ≤ 2 ^ 40) (hol : own.length ≤ 2 ^ 40)
include ho hv hvl hol
theorem hang_in {k : Nat} {o : VV} (hk : own[k]? = some o) (acc0 : Value) : ∀ (r : List VV) (j : Nat) (H : Hp) (acc : Value) (out : List VV), vals.drop j = r → j ≤ vals.length → Own B H [⟨3, acc, out.length, za8 out⟩] → out.length + r.length ≤ 2 ^ 41 →
    ∃ H' acc', zat (zaw RR ov vv [acc0, .int .i64 (k : Int)]) [acc, .int .i64 (j : Int)] H = some (.exit 4, [acc', .int .i64 (vals.length : Int)], H') ∧ Own B H' [⟨3, acc', (out ++ zc5 r o).length, za8 (out ++ zc5 r o)⟩]
  | [], j, H, acc, out, hr, hj, h, hb => by
    have hjl : j = vals.length := by
      have := congrArg List.length hr
      rw [List.length_drop, List.length_nil] at this; omega
    subst hjl
    have hvH : Rdb H 3 vv vals.length (za8 vals) := hv.keep' (fun j hj => h.old j (hv.lt hj)) h.next
    refine ⟨H, acc, ?_, by rw [show zc5 [] o = [] from rfl, List.append_nil]; exact h⟩
    rw [zak]
    have : zaw RR ov vv [acc0, .int .i64 (k : Int)] [acc, .int .i64 (vals.length : Int)] H = some (.exit 4, [acc, .int .i64 (vals.length : Int)], H) := by
      unfold zaw
      simp only [qg0, qg1]
      rw [hvH.len, lF (Int.lt_irrefl _)]
    rw [this]; rfl
  | v :: r, j, H, acc, out, hr, hj, h, hb => by
    have hlt : j < vals.length := by
      have := congrArg List.length hr
      rw [List.length_drop, List.length_cons] at this; omega
    have hvj : vals[j]? = some v := by
      have : (vals.drop j)[0]? = some v := by rw [hr]; rfl
      rwa [List.getElem?_drop, Nat.add_zero] at this
    have hr2 : vals.drop (j + 1) = r := by rw [← List.drop_drop, hr]; rfl
    have hvH : Rdb H 3 vv vals.length (za8 vals) := hv.keep' (fun j hj => h.old j (hv.lt hj)) h.next
    have hoH : Rdb H 3 ov own.length (za8 own) := ho.keep' (fun j hj => h.old j (ho.lt hj)) h.next
    obtain ⟨a, _, a1, a2, a3⟩ := Rdb.vv hvH hvj
    obtain ⟨b, _, b1, _, b3⟩ := Rdb.vv hoH hk
    have q : (j : Int) < (vals.length : Int) := by omega
    have w1 : IntKind.i64.wrap ((j : Int) + 1) = ((j + 1 : Nat) : Int) := zaz (by omega) (by omega)
    rw [List.length_cons] at hb
    have hcase : ∃ H1 acc1, zaw RR ov vv [acc0, .int .i64 (k : Int)] [acc, .int .i64 (j : Int)] H = some (.next, [acc1, .int .i64 ((j + 1 : Nat) : Int)], H1) ∧ Own B H1 [⟨3, acc1, (out ++ zc5 [v] o).length, za8 (out ++ zc5 [v] o)⟩] ∧ (zc5 [v] o).length ≤ 1 := by
      have hf : zc5 [v] o = if ((v.name.toList == o.name.toList) && decide (v.num ≠ 0)) = true then [v] else [] := by
        unfold zc5
        rw [List.filter_cons]; rfl
      rw [hf]
      have head : ∀ X, (zaw RR ov vv [acc0, .int .i64 (k : Int)] [acc, .int .i64 (j : Int)] H = X) ↔ (zaa (.bool (v.name.toList == o.name.toList)) fun b71 => br b71
         (pBin PP .neq T.uint64 (.int .u64 v.num) (.int .u64 0) fun v75 =>
         zaa v75 fun b76 => br b76
         (zaj 3 [.string ⟨#[]⟩, .int .i64 0, .int .u64 0] 1 [(0, v.val)] H fun v79 H80 =>
         zaF 3 32 acc v79 H80 fun v81 H82 =>
         pBin PP .add T.int (.int .i64 (j : Int)) (.int .i64 1) fun v83 =>
         some (.next, [v81, v83], H82))
         (pBin PP .add T.int (.int .i64 (j : Int)) (.int .i64 1) fun v84 =>
         some (.next, [acc, v84], H)))
         (pBin PP .add T.int (.int .i64 (j : Int)) (.int .i64 1) fun v85 =>
         some (.next, [acc, v85], H))) = X := fun X => by
        unfold zaw
        simp only [qg0, qg1]
        rw [hvH.len, lT q, a1, zaT, a3 _ 0 (.string v.name) rfl, b1, zaT, b3 _ 0 (.string o.name) rfl, q_seql, a1, zaT, a3 _ 2 (.int .u64 v.num) rfl, a1, a2]
      cases hn : (v.name.toList == o.name.toList) with
      | false =>
        refine ⟨H, acc, ?_, by rw [Bool.false_and, if_neg (by decide), List.append_nil]; exact h, by rw [Bool.false_and, if_neg (by decide)]; simp⟩
        rw [head, hn, zac, zaK, za5, w1]
      | true =>
        by_cases h0 : v.num ≠ 0
        · obtain ⟨acc1, H1, p1, p2⟩ := pushV h v (by omega)
          rw [decide_eq_true h0]
          refine ⟨H1, acc1, ?_, by rw [if_pos (show (true && true) = true from rfl)]; exact p2, by rw [if_pos (show (true && true) = true from rfl)]; simp⟩
          rw [head, hn, zac, za1, zbo, bT h0, p1, za5, w1]
        · rw [decide_eq_false h0]
          refine ⟨H, acc, ?_, by rw [if_neg (by decide), List.append_nil]; exact h, by rw [if_neg (by decide)]; simp⟩
          rw [head, hn, zac, za1, zbo, bF h0, za5, w1]
    obtain ⟨H1, acc1, e1, h1, hl1⟩ := hcase
    obtain ⟨H', acc', g1, g2⟩ := hang_in hk acc0 r (j + 1) H1 acc1 (out ++ zc5 [v] o) hr2 (by omega) h1 (by rw [List.length_append]; omega)
    refine ⟨H', acc', ?_, ?_⟩
    · rw [zak, e1]; exact g1
    · have : zc5 (v :: r) o = zc5 [v] o ++ zc5 r o := by
        unfold zc5
        rw [← List.filter_append]; rfl
      rw [this, ← List.append_assoc]; exact g2
theorem znU : ∀ (n : Nat) (H : Hp) (acc : Value) (out : List VV), n ≤ own.length → Own B H [⟨3, acc, out.length, za8 out⟩] → out.length + n * vals.length ≤ 2 ^ 41 →
    ∃ H' acc', zat (zaM RR ov vv) [acc, .int .i64 ((n : Int) - 1)] H = some (.exit 2, [acc', .int .i64 (-1)], H') ∧ Own B H' [⟨3, acc', (out ++ (own.take n).reverse.flatMap (zc5 vals)).length, za8 (out ++ (own.take n).reverse.flatMap (zc5 vals))⟩]
  | 0, H, acc, out, hn, h, hb => by
    refine ⟨H, acc, ?_, by rw [List.take_zero, List.reverse_nil, List.flatMap_nil, List.append_nil]; exact h⟩
    rw [zak]
    have : zaM RR ov vv [acc, .int .i64 (((0 : Nat) : Int) - 1)] H = some (.exit 2, [acc, .int .i64 (-1)], H) := by
      unfold zaM
      simp only [qg0, qg1]
      rw [zde, bF (by decide)]; rfl
    rw [this]; rfl
  | n + 1, H, acc, out, hn, h, hb => by
    have hk : own[n]? = some own[n] := List.getElem?_eq_getElem (by omega)
    have htk : own.take (n + 1) = own.take n ++ [own[n]] := by rw [List.take_add_one, hk]; rfl
    generalize own[n] = o at hk htk
    rw [Nat.succ_mul] at hb
    obtain ⟨H1, acc1, e1, h1⟩ := hang_in ho hv hvl hol hk acc vals 0 H acc out rfl (Nat.zero_le _) h (by omega)
    have e1 : zat (zaw RR ov vv [acc, .int .i64 (n : Int)]) [acc, .int .i64 0] H = _ := e1
    have hfl : (zc5 vals o).length ≤ vals.length := List.length_filter_le ..
    obtain ⟨H', acc', g1, g2⟩ := znU n H1 acc1 (out ++ zc5 vals o) (by omega) h1 (by rw [List.length_append]; omega)
    refine ⟨H', acc', ?_, ?_⟩
    · rw [zak]
      have hk1 : (((n + 1 : Nat) : Int) - 1) = (n : Int) := by omega
      have w1 : IntKind.i64.wrap ((n : Int) - 1) = (n : Int) - 1 := zaz (by omega) (by omega)
      have : zaM RR ov vv [acc, .int .i64 (((n + 1 : Nat) : Int) - 1)] H = some (.next, [acc1, .int .i64 ((n : Int) - 1)], H1) := by
        rw [hk1]
        unfold zaM
        simp only [qg0, qg1]
        rw [zde, bT (by omega), e1, zap, zbg, zaJ, zdr, w1]; rfl
      rw [this]; exact g1
    · rw [htk, List.reverse_append]
      show Own B H' [⟨3, acc', (out ++ ([o] ++ (own.take n).reverse).flatMap (zc5 vals)).length, za8 (out ++ ([o] ++ (own.take n).reverse).flatMap (zc5 vals))⟩]
      rw [List.flatMap_append, List.flatMap_cons, List.flatMap_nil, List.append_nil, ← List.append_assoc]
      exact g2
end
section
variable {B : Hp} {st f g : Nat} {L : List Nd} {K : List (ByteArray × Int)} {sl : Value} (hst : StF B st 0 L K sl f g) (hg : zev L K) (hL : L.length ≤ 2 ^ 20 + 1) {rv av wv' vv : Value} {ns : List Nat} (hns : ∀ t ∈ ns, 1 ≤ t ∧ t ≤ L.length) (hnl : ns.length ≤ 2 ^ 40)
  (hr : Rdb B 1 rv ns.length (ints ns)) (ha : Rdb B 3 av (zaY L ns).length (za8 (zaY L ns))) {nums : List Int} (hn : ∀ z ∈ nums, 0 ≤ z ∧ z < 18446744073709551616) (hv : Rdb B 3 vv (zaX nums 0 (zaY L ns)).length (za8 (zaX nums 0 (zaY L ns))))
  (hw : Rdb B 1 wv' ns.length (wvs (ns.map (vfn L (zcv (zaX nums 0 (zaY L ns))))))) {more : Int} (hmore : 0 ≤ more ∧ more < 18446744073709551616)
include hst hg hL hns hnl hr ha hn hv hw hmore
theorem hang_step {i t : Nat} (hi : ns[i]? = some t) {H : Hp} (h : Frm (fun _ => False) B H) : ∃ H', zaD RR (.int .u64 more) (.pointer (some ⟨st, 0, none⟩)) rv av wv' vv [.int .i64 (i : Int)] H = some (.next, [.int .i64 ((i + 1 : Nat) : Int)], H') ∧ Frm (fun _ => False) B H' := by
  have tr : ∀ {A B C : Hp}, Frm (fun _ => False) A B → Frm (fun _ => False) B C → Frm (fun _ => False) A C := fun a b => a.trans b fun j q => q.elim
  have hlt : i < ns.length := (List.getElem?_eq_some_iff.1 hi).1
  have htm := List.mem_of_getElem? hi
  have ht := hns t htm
  have h1 : ∀ c ∈ [t], 1 ≤ c ∧ c ≤ L.length := fun c hc => by rw [List.mem_singleton] at hc; rw [hc]; exact ht
  have kst : ∀ {H' : Hp}, Frm (fun _ => False) B H' → StF H' st 0 L K sl f g := fun k => hst.keep (fun j hj => k.same j (hst.foot_lt hj) fun q => q) k.next
  have hrH : Rdb H 1 rv ns.length (ints ns) := hr.keep h fun _ _ q => q
  have hit : (ints ns)[i]? = some (.int .i64 (t : Int)) := by unfold ints; rw [List.getElem?_map, hi]; rfl
  obtain ⟨v1, a1, a2⟩ := Rdb.one hrH hit
  have a2 : RdO H 1 v1 [(t : Int)].length (zc4 [(t : Int)]) := a2
  obtain ⟨H1, ov, e1, m1⟩ := c_vars (kst h) hg.dag (by omega) a2 (by show 1 ≤ _; decide)
  have hvI : zl2 L [(t : Int)] = (0, zaY L [t]) := zna h1
  rw [hvI] at e1 m1
  have f1 := tr h m1.frm
  have hlen1 : (zaY L [t]).length ≤ 2 ^ 20 + 1 := Nat.le_trans (zhB hg.dag h1) hL
  have hlenA : (zaY L ns).length ≤ 2 ^ 20 + 1 := Nat.le_trans (zhB hg.dag hns) hL
  have hlenV : (zaX nums 0 (zaY L ns)).length ≤ 2 ^ 20 + 1 := by rw [ziA]; exact hlenA
  have hv1 := hv.keep f1 fun _ _ q => q
  have m1v : Vec H1 3 ov (zaY L [t]).length (za8 (zaY L [t])) := m1.vec
  obtain ⟨H2, acc, e2, o2⟩ := znU m1v.rd hv1 (by omega) (by omega) (zaY L [t]).length H1 (.slice none 0 0) [] (Nat.le_refl _) ((Own.nil H1).addNil 3) (by
    have := Nat.mul_le_mul hlen1 hlenV
    show ([] : List VV).length + _ ≤ _
    rw [List.length_nil]
    omega)
  rw [List.take_length, List.nil_append] at o2
  have o2 : Own H1 H2 [⟨3, acc, (ze7 (zaX nums 0 (zaY L ns)) (zaY L [t])).length, za8 (ze7 (zaX nums 0 (zaY L ns)) (zaY L [t]))⟩] := o2
  have f2 := tr f1 o2.toFrm
  obtain ⟨H3, m, e3, f23, hm, hfree⟩ := c_spare (ha.keep f2 fun _ _ q => q) (by omega)
  have o3 := o2.frm f23
  have hhl : (ze7 (zaX nums 0 (zaY L ns)) (zaY L [t])).length ≤ 2 ^ 20 + 1 := by
    obtain ⟨p1, p2, p3, p4⟩ := zdg hg hns
    have hvn := (zee _ _).1 (zdQ hg hns)
    have hon := (zee _ _).1 (zdQ hg h1)
    have hdn : ((zaX nums 0 (zaY L ns)).map VV.name).Nodup := by rw [zdo]; exact hvn.2.1
    have hnd := zgG hdn _ (by rw [List.map_reverse]; exact zib _ hon.2.1)
    have := @zia ByteArray (fun a b => Classical.propDecidable (a = b)) ((ze7 (zaX nums 0 (zaY L ns)) (zaY L [t])).map VV.name) ((zaX nums 0 (zaY L ns)).map VV.name) hnd fun x hx => by
      obtain ⟨v, hv2, rfl⟩ := List.mem_map.1 hx
      exact List.mem_map_of_mem (zcO.1 hv2).1
    rw [List.length_map, List.length_map] at this
    omega
  obtain ⟨acc2, H4, e4, o4⟩ := pushV o3 ⟨za6 m, 64, more⟩ (by omega)
  have f4 := tr f1 o4.toFrm
  obtain ⟨hok, hvals⟩ := vals_hang hg hns hn htm (m := m) (by omega) hfree hmore
  have hr4 : Rdb H4 1 rv ns.length (ints ns) := hr.keep f4 fun _ _ q => q
  obtain ⟨H5, e5, n5, o5⟩ := c_value (kst f4) hg (by omega) (rs := ns.map fun (t : Nat) => (t : Int)) (x := rv) (by rw [List.length_map, ← zbD]; exact hr4.o) (by rw [List.length_map]; exact hnl) o4.head.rd (by rw [List.length_append]; show _ + 1 ≤ _; omega) hok (t := (t : Int))
  have hv1' : zbT L [(t : Int)] (ze7 (zaX nums 0 (zaY L ns)) (zaY L [t]) ++ [⟨za6 m, 64, more⟩]) = (0, [vfn L (zcv (zaX nums 0 (zaY L ns))) t]) := (zi2 h1 _).trans hvals
  rw [hv1'] at e5
  have f5 : Frm (fun _ => False) B H5 := tr f4 ⟨n5, fun j hj _ => o5 j hj⟩
  have hw5 : Rdb H5 1 wv' ns.length (wvs (ns.map (vfn L (zcv (zaX nums 0 (zaY L ns)))))) := hw.keep f5 fun _ _ q => q
  obtain ⟨y, y1, y2⟩ := Rdb.at1 hr4 hit
  obtain ⟨z, z1, z2⟩ := Rdb.at1 hw5 (i := i) (wvs_get (by rw [List.getElem?_map, hi]; rfl))
  have q : (i : Int) < (ns.length : Int) := by omega
  have w1 : IntKind.i64.wrap ((i : Int) + 1) = ((i + 1 : Nat) : Int) := zaz (by omega) (by omega)
  have w2 : IntKind.i64.wrap (((zaY L [t]).length : Int) - 1) = ((zaY L [t]).length : Int) - 1 := zaz (by omega) (by omega)
  have e0 : ∀ x : Int, ¬ (x ≠ x) := fun x q => q rfl
  refine ⟨H5, ?_, f5⟩
  unfold zaD
  simp only [qg0]
  rw [hrH.len, lT q, za5, w1, a1, zag e1, x01, zag (c_no _ _), zbo, bF (e0 _), m1v.len, zdr, w2, e2, zap, zbg, zaJ, zag e3, bvv3]
  simp only [qg0]
  rw [e4, y1, y2, zag e5, x01, zag (c_no _ _), zbo, bF (e0 _), z1, z2]
  show pBin PP .neq T.uint64 (.int .u64 _) (.int .u64 _) _ = _
  rw [zbo, zac]
  show br (decide ((((vfn L (zcv (zaX nums 0 (zaY L ns))) t).toNat : Int)) ≠ ((vfn L (zcv (zaX nums 0 (zaY L ns))) t).toNat : Int))) _ _ = _
  rw [decide_eq_false (e0 _), zaK, za5, w1]
theorem zlE : ∀ (k i : Nat) (H : Hp), i + k = ns.length → Frm (fun _ => False) B H → ∃ H', zat (zaD RR (.int .u64 more) (.pointer (some ⟨st, 0, none⟩)) rv av wv' vv) [.int .i64 (i : Int)] H = some (.exit 0, [.int .i64 (ns.length : Int)], H')
  | 0, i, H, hk, h => by
    have : i = ns.length := by omega
    subst this
    have hrH : Rdb H 1 rv ns.length (ints ns) := hr.keep h fun _ _ q => q
    refine ⟨H, ?_⟩
    have : zaD RR (.int .u64 more) (.pointer (some ⟨st, 0, none⟩)) rv av wv' vv [.int .i64 (ns.length : Int)] H = some (.exit 0, [.int .i64 (ns.length : Int)], H) := by
      unfold zaD
      simp only [qg0]
      rw [hrH.len, lF (Int.lt_irrefl _)]
    rw [zak, this]; rfl
  | k + 1, i, H, hk, h => by
    obtain ⟨H1, e1, f1⟩ := hang_step hst hg hL hns hnl hr ha hn hv hw hmore (List.getElem?_eq_getElem (show i < ns.length by omega)) h
    obtain ⟨H', g1⟩ := zlE k (i + 1) H1 (by omega) f1
    refine ⟨H', ?_⟩
    rw [zak, e1]; exact g1
end
theorem run8h (l : List UInt8) (hl : l.length ≤ 2 ^ 20) {x : Value} {nums : List Int} {H : Hp} (hx : Rdb H 1 x nums.length (u64I nums)) (hn : ∀ z ∈ nums, 0 ≤ z ∧ z < 18446744073709551616) {more : Int} (hmore : 0 ≤ more ∧ more < 18446744073709551616) (hL : Laid H) :
    ∃ H', RR F.a56 [str l, x, .int .u64 more] H = some (.bool true, H') := by
  have hr := zdY E0 rfl (str l) x (.int .u64 more) H
  rw [zd7] at hr
  have tr : ∀ {A B C : Hp}, Frm (fun _ => False) A B → Frm (fun _ => False) B C → Frm (fun _ => False) A C := fun a b => a.trans b fun j q => q.elim
  have e0 : ∀ x : Int, ¬ (x ≠ x) := fun x q => q rfl
  obtain ⟨H1, e1, f1⟩ := c_live hL
  rw [zag e1, zbE, zac, Bool.not_true, zaK] at hr
  have hlo := c_lload (hL.keep f1 fun j q => q.elim) l (by omega)
  cases hr0 : zfz 0 (zcK l) 0 [] [] [] with
  | bad ln e =>
    rw [hr0] at hlo
    obtain ⟨H2, e2, f2⟩ := hlo
    rw [zag e2, s_t3a, s_t3b, s_t3c, zbE, zac, Bool.not_false, za1] at hr
    exact ⟨H2, hr⟩
  | good L K q =>
    rw [hr0] at hlo
    obtain ⟨H2, st, f, g, sl, rv, e2, f2, s2, r2, _, _, _⟩ := hlo
    obtain ⟨l1, l2⟩ := load_bd hr0
    obtain ⟨hg, hqb⟩ := zlz hr0
    obtain ⟨ns, rfl, hns⟩ : ∃ ns : List Nat, q = ns.map (fun (t : Nat) => (t : Int)) ∧ ∀ t ∈ ns, 1 ≤ t ∧ t ≤ L.length := nats q (List.all_eq_true.2 fun t ht => zbf.2 (hqb t ht))
    rw [List.length_map] at l2 r2
    rw [← zbD] at r2
    have hrI : ∀ {H : Hp}, Rdb H 1 rv ns.length (ints ns) → Rdb H 1 rv (ns.map fun (t : Nat) => (t : Int)).length (zc4 (ns.map fun (t : Nat) => (t : Int))) := fun h => by rw [List.length_map, ← zbD]; exact h
    obtain ⟨H3, av, e3, m3⟩ := c_vars s2 hg.dag (by omega) (hrI r2.rd).o (by rw [List.length_map]; omega)
    rw [zna hns] at e3 m3
    have m3v : Vec H3 3 av (zaY L ns).length (za8 (zaY L ns)) := m3.vec
    have hlenA := zhB hg.dag hns
    have hx3 := hx.keep (tr (tr f1 f2) m3.frm) fun _ _ q => q
    obtain ⟨H4, vv, e4, m4⟩ := c_drawn m3v.rd (by omega) hx3 (vars_w hg hns) hn
    have f24 := tr m3.frm m4.frm
    have kst : ∀ {H' : Hp}, Frm (fun _ => False) H2 H' → StF H' st 0 L K sl f g := fun k => s2.keep (fun j hj => k.same j (s2.foot_lt hj) fun q => q) k.next
    have hr4 : Rdb H4 1 rv ns.length (ints ns) := r2.rd.keep f24 fun _ _ q => q
    have hok4 : ∀ v ∈ zaX nums 0 (zaY L ns), v.Ok := fun v hv => (zgd hn _ _ v hv).1
    obtain ⟨H5, wv', e5, m5⟩ := zkE (kst f24) hg (by omega) (hrI hr4).o (by rw [List.length_map]; omega) m4.vec.rd (by rw [ziA]; omega) hok4
    rw [zi2 hns, zoK hg hns hn] at e5 m5
    have f45 : Frm (fun _ => False) H4 H5 := ⟨m5.next, fun j hj _ => m5.old j hj⟩
    have m5v : Vec H5 1 wv' ns.length (wvs (ns.map (vfn L (zcv (zaX nums 0 (zaY L ns)))))) := by
      have := m5.vec
      dsimp only at this
      rw [List.length_map] at this
      exact this
    have hr5 : Rdb H5 1 rv ns.length (ints ns) := hr4.keep f45 fun _ _ q => q
    obtain ⟨H6, e6⟩ := zlE (kst (tr f24 f45)) hg (by omega) hns (by omega) hr5 (m3v.rd.keep (tr m4.frm f45) fun _ _ q => q) hn (m4.vec.rd.keep f45 fun _ _ q => q) m5v.rd hmore ns.length 0 H5 (Nat.zero_add _) (Frm.refl _ _)
    have e6 : zat (zaD RR (.int .u64 more) (.pointer (some ⟨st, 0, none⟩)) rv av wv' vv) [.int .i64 0] H5 = _ := e6
    rw [zag e2, s_t3a, s_t3b, s_t3c, zbE, zac, Bool.not_true, zaK, zag e3, x01, zag (c_no _ _), zbo, bF (e0 _), zag e4, zag e5, x01, zag (c_no _ _), zbo, bF (e0 _), m5v.len, hr5.len, zbo, bF (e0 _), zap, za3, e6, zap, zbg, zaJ] at hr
    exact ⟨H6, hr⟩
end Go.AM.N14
namespace Go.AM
open Go Go.ChangeShapes Go.WideShapes Go.ChangeAt Go.RowKit
end Go.AM
namespace Go.AM.N14
open Go Go.AM Go.ChangeShapes Go.WideShapes Go.ChangeAt Go.RowKit
theorem flatU : flat PP 1 T.uint64 = some [.int .u64] := by kernel_rfl
theorem u64Dec (l : List Value) (h : OkL [.int .u64] l) : ∃ o : Int, [Value.int .u64 o] = l ∧ (0 ≤ o ∧ o < 18446744073709551616) := by
  obtain ⟨hl, hh⟩ := h
  obtain ⟨v, l, rfl, hl2⟩ := consL hl
  obtain ⟨_, e, n, rfl, p, q⟩ := hh 0 _ rfl
  cases e
  have : l = [] := by cases l with | nil => rfl | cons a t => cases hl2
  subst this
  have e1 : IntKind.u64.min = 0 := rfl
  have e2 : IntKind.u64.max = 18446744073709551615 := rfl
  exact ⟨n, rfl, by omega, by omega⟩
theorem u64s_arg {HH : Type} {enc : TypeId × Value → HH} {W : World} {H : Hp} {β : Bt} (hR : Rel PP W H β) (hno : ∀ i o, H.get i = some o → o.own = false) {b0 : Nat} {v' : Value} {dw : DataW HH} {ps : List MemPlace}
    (hval : Value.okWide PP W .any b0 T.sl_uint64 v') (hd : DataW.Trod enc PP W 0 (fun _ => true) true T.sl_uint64 v' dw ps) :
    ∃ (v : Value) (H' : Hp) (β' : Bt) (os : List Int), Rel PP W H' β' ∧ (∀ i o, H'.get i = some o → o.own = false) ∧ β.le β' ∧ VRel β' v v' ∧ Rdb H' 1 v os.length (u64I os) ∧ (∀ o ∈ os, 0 ≤ o ∧ o < 18446744073709551616) ∧ os.length ≤ Go.Proofs.YtcbmccpkhagckaaGreatDoor.Rows.uptoBulk dw ∧ Frm (fun _ => False) H H' := by
  obtain ⟨v, H', β', g1, g2, g3, g4, g5⟩ := arg_flats (P := PP) (t := T.sl_uint64) (e := T.uint64) (d := 1) (ks := [.int .u64]) (by kernel_rfl) flatU (by kernel_rfl) (by decide) hR hno hval hd
  rcases g5 with ⟨rfl, rfl, rfl⟩ | ⟨L, es, sp, rfl, rfl, h1, rfl, h2⟩
  · exact ⟨_, _, β', [], g1, g2, g3, g4, .inl ⟨rfl, rfl, rfl⟩, fun o h => (by cases h), by simp, Frm.refl _ _⟩
  · obtain ⟨os, h3, h4⟩ := decL (cells := fun (t : Int) => [Value.int .u64 t]) u64Dec L h1
    have hfl : L.flatten = u64I os := by
      rw [h3, ← List.flatMap_def]
      clear h3 h1 g1 g2 g3 g4 h2 h4
      induction os with
      | nil => rfl
      | cons a t ih => rw [List.flatMap_cons, ih]; rfl
    have hll : L.length = os.length := by rw [h3, List.length_map]
    refine ⟨_, _, β', os, g1, g2, g3, g4, .inr ⟨H.next, L.length, [], false, ?_, by omega, ?_, ?_, ?_⟩, h4, ?_, zct _ _ _⟩
    · rw [hll]; rfl
    · rw [get_new, if_pos rfl, hfl, List.append_nil]
    · rw [u64I_len, Nat.mul_one]
    · show H.next < H.next + 1; omega
    · have := zod es
      simp only [Go.Proofs.YtcbmccpkhagckaaGreatDoor.Rows.uptoBulk]
      omega
end Go.AM.N14
