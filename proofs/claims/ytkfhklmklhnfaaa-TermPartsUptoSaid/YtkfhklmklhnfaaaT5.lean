/- Part of the proof of TermPartsUptoSaid: see the last file.  -/
import Derived.KernelRfl
import Derived.Test.YtkfhklmklhnfaaaT4
set_option linter.unusedSimpArgs false
set_option linter.unusedVariables false
set_option linter.unusedSectionVars false
/- The Term seat: TermOrders. -/
set_option linter.unusedVariables false
set_option linter.unusedSimpArgs false
namespace Go.AM
open Go
def orderR (L : List Nd) (rs : List Int) : Int × List Nat := if rs.all (isT L) = true then (0, posts L (rs.map Int.toNat) []) else (70, [])
theorem map_nat (ns : List Nat) : (ns.map fun (t : Nat) => (t : Int)).map Int.toNat = ns := by
  induction ns with
  | nil => rfl
  | cons a l ih => rw [List.map_cons, List.map_cons, ih]; rfl
theorem orderR_bd {L : List Nd} (hd : Dag L) (rs : List Int) : (orderR L rs).2.length ≤ L.length := by
  unfold orderR
  split
  · rename_i h
    obtain ⟨ns, h1, h2⟩ := nats rs h
    have e : rs.map Int.toNat = ns := by rw [h1, map_nat]
    rw [e]
    exact Told.len ((⟨List.nodup_nil, fun x h => by cases h⟩ : Told L.length []).posts hd h2)
  · simp
section
variable {H0 : Hp} {p f g : Nat} {lim : Int} {L : List Nd} {K : List (ByteArray × Int)} {sl : Value} (hst : StF H0 p lim L K sl f g) (hd : Dag L) (hL : L.length * 64 ≤ 2 ^ 46) {x : Value} {rs : List Int} (hx : Rdb H0 1 x rs.length (intsI rs)) (hl : rs.length ≤ 2 ^ 40)
include hst hd hL hx hl
theorem c13 : ∃ H' v, RR 13 [.pointer (some ⟨p, 0, none⟩), x] H0 = some (.tuple #[v, .int .i64 (orderR L rs).1], H') ∧ OrdOk H0 H' v (orderR L rs).2 := by
  unfold orderR
  cases h : rs.all (isT L) with
  | true =>
    obtain ⟨ns, h1, h2⟩ := nats rs h
    have e : rs.map Int.toNat = ns := by rw [h1, map_nat]
    have hlen : rs.length = ns.length := by rw [h1, List.length_map]
    rw [if_pos rfl, e]
    exact c13_yes hst hd hL (by rw [ints_intsI, ← h1, ← hlen]; exact hx) (by omega) h2
  | false =>
    rw [if_neg (by decide)]
    exact ⟨H0, _, c13_no hst hx hl h, Vec.nil _ _, Nat.le_refl _, fun _ _ => rfl, fun j hj => by cases hj⟩
theorem c14 : ∃ H' v, RR 14 [.pointer (some ⟨p, 0, none⟩), x] H0 = some (.tuple #[v, .int .i64 (orderR L rs).1], H') ∧ OrdOk H0 H' v (orderR L rs).2 := by
  unfold orderR
  cases h : rs.all (isT L) with
  | true =>
    obtain ⟨ns, h1, h2⟩ := nats rs h
    have e : rs.map Int.toNat = ns := by rw [h1, map_nat]
    have hlen : rs.length = ns.length := by rw [h1, List.length_map]
    rw [if_pos rfl, e]
    exact c14_yes hst hd hL (by rw [ints_intsI, ← h1, ← hlen]; exact hx) (by omega) h2
  | false =>
    rw [if_neg (by decide)]
    exact ⟨H0, _, c14_no hst hx hl h, Vec.nil _ _, Nat.le_refl _, fun _ _ => rfl, fun j hj => by cases hj⟩
end
theorem OrdOk.add {H0 H H' : Hp} {v : Value} {out : List Nat} {r : List Sl} (h : OrdOk H H' v out) (hr : Own H0 H r) : Own H0 H' (⟨1, v, out.length, ints out⟩ :: r) :=
  hr.add (a := ⟨1, v, out.length, ints out⟩) h.vec ⟨h.next, fun j hj _ => h.old j hj⟩ h.new
theorem loop6a {H0 : Hp} {r : List Sl} {v : Value} (n : Nat) (hn : n ≤ 2 ^ 60) : ∀ (k i : Nat) (H : Hp) (l : List Int), i + k = n → l.length = n → Own H0 H (⟨1, v, n, intsI l⟩ :: r) →
    ∃ H' l', loopD (s6_1 RR v) [.int .i64 (i : Int)] H = some (.exit 0, [.int .i64 (n : Int)], H') ∧ Own H0 H' (⟨1, v, n, intsI l'⟩ :: r)
  | 0, i, H, l, hi, hl, h => by
    have : i = n := by omega
    subst this
    refine ⟨H, l, ?_, h⟩
    rw [loopD_eq]
    have hh := h.head
    dsimp only at hh
    have : s6_1 RR v [.int .i64 (i : Int)] H = some (.exit 0, [.int .i64 (i : Int)], H) := by
      unfold s6_1
      simp only [hh.len, s_lss, s_bool, s_brf, List.getD_cons_zero, Int.lt_irrefl, decide_false]
    rw [this]; rfl
  | k + 1, i, H, l, hi, hl, h => by
    have hh := h.head
    dsimp only at hh
    obtain ⟨y, _, e1, _, _, e2⟩ := h.set (i := i) (by omega)
    obtain ⟨H1, e3, h1⟩ := e2 (i * 1) 1 (.int .i64 (-7)) rfl (by omega) rfl
    have es : spl (intsI l) (i * 1) (cellsL (.int .i64 (-7))) = intsI (l.set i (-7)) := spl_set (fun (t : Int) => Value.int .i64 t) l (by omega) (-7)
    rw [es] at h1
    obtain ⟨H', l', g1, g2⟩ := loop6a n hn k (i + 1) H1 (l.set i (-7)) (by omega) (by rw [List.length_set]; exact hl) h1
    refine ⟨H', l', ?_, g2⟩
    rw [loopD_eq]
    have w : IntKind.i64.wrap ((i : Int) + 1) = ((i + 1 : Nat) : Int) := i64_wrap (by omega) (by omega)
    have q : (i : Int) < (n : Int) := by omega
    have : s6_1 RR v [.int .i64 (i : Int)] H = some (.next, [.int .i64 ((i + 1 : Nat) : Int)], H1) := by
      unfold s6_1
      simp only [hh.len, s_lss, s_bool, s_brt, List.getD_cons_zero, q, decide_true, e1, e3, s_add, w]
    rw [this]; exact g1
theorem loop6b {H0 : Hp} {r : List Sl} : ∀ (k i n : Nat) (H : Hp) (v : Value) (cs : List Value), i + k = 16 → n + k ≤ 2 ^ 42 → Own H0 H (⟨1, v, n, cs⟩ :: r) →
    ∃ H' v' cs', loopD (s6_2 RR) [v, .int .i64 (i : Int)] H = some (.exit 2, [v', .int .i64 16], H') ∧ Own H0 H' (⟨1, v', n + k, cs'⟩ :: r)
  | 0, i, n, H, v, cs, hi, hn, h => by
    have : i = 16 := by omega
    subst this
    refine ⟨H, v, cs, ?_, h⟩
    rw [loopD_eq]
    have : s6_2 RR [v, .int .i64 ((16 : Nat) : Int)] H = some (.exit 2, [v, .int .i64 16], H) := by
      unfold s6_2
      simp only [s_lss, s_bool, List.getD_cons_succ, List.getD_cons_zero]
      rfl
    rw [this]; rfl
  | k + 1, i, n, H, v, cs, hi, hn, h => by
    obtain ⟨v1, H1, e1, h1⟩ := h.push (bytes := 8) (zs := [.int .i64 0]) (x := .int .i64 (-8)) (by decide) (by decide) rfl rfl rfl (by omega)
    obtain ⟨H', v', cs', g1, g2⟩ := loop6b k (i + 1) (n + 1) H1 v1 _ (by omega) (by omega) h1
    refine ⟨H', v', cs', ?_, by rw [show n + (k + 1) = n + 1 + k by omega]; exact g2⟩
    rw [loopD_eq]
    have w : IntKind.i64.wrap ((i : Int) + 1) = ((i + 1 : Nat) : Int) := i64_wrap (by omega) (by omega)
    have q : (i : Int) < 16 := by omega
    have : s6_2 RR [v, .int .i64 (i : Int)] H = some (.next, [v1, .int .i64 ((i + 1 : Nat) : Int)], H1) := by
      unfold s6_2
      simp only [s_lss, s_bool, s_brt, List.getD_cons_succ, List.getD_cons_zero, q, decide_true, e1, s_add, w]
    rw [this]; exact g1
theorem run6 (lim : Int) (os : List OpA) (hf : Fine os) (hos : os.length ≤ 2 ^ 20) (x y : Value) (rs : List Int) (H : Hp) (hx : ScR H x os) (hy : Rdb H 1 y rs.length (intsI rs)) (hrs : rs.length ≤ 2 ^ 20) : ∃ H', RR 6 [.int .i64 lim, x, y] H = some (.bool true, H') := by
  have hr := (r6 E0 rfl (.int .i64 lim) x y H).trans (k6 _ _ _ _ _)
  by_cases hl : lim < 0
  · rw [s_call (c8_neg lim x H hl), s_t3a, s_t3b, s_t3c, s_pnil0 23 und23, s_bool, s_brt] at hr
    exact ⟨_, hr⟩
  · obtain ⟨H2, p, f, g, s1, q, f', g', s2, e8, hw⟩ := c8_pos lim os hf x H hx hl
    rw [s_call e8, s_t3a, s_t3b, s_t3c, s_pnil 23 _ und23, s_bool, s_brf] at hr
    have hll := hw.l
    have htwo := hw.two
    have hd := run_dag (lim := lim) os [] [] Dag.nil
    have hy2 : Rdb H2 1 y rs.length (intsI rs) := hy.keep' (fun j hj => hw.old j (hy.lt hj)) hw.next
    clear hw
    generalize (runR lim os [] []).1 = L at hll htwo hd
    generalize (runR lim os [] []).2 = K at htwo
    have hL : L.length * 64 ≤ 2 ^ 46 := by omega
    have sa := htwo.a
    have sb := htwo.b
    -- a list of the roots
    obtain ⟨m1, m2⟩ := Vec.empty H2 1 [.int .i64 0]
    have o0 : Own H2 (H2.new (.cells [] true)) [⟨1, .slice (some ⟨H2.next, 0, some 1⟩) 0 0, 0, []⟩] := (Own.nil H2).add (a := ⟨1, .slice (some ⟨H2.next, 0, some 1⟩) 0 0, 0, []⟩) m2 (fr_new _ _ _) fun j hj => by cases hj; exact Nat.le_refl _
    have rd : ∀ {Hx : Hp} {r : List Sl}, Own H2 Hx r → Rdb Hx 1 y rs.length (intsI rs) := fun o => hy2.keep' (fun j hj => o.old j (hy2.lt hj)) o.next
    obtain ⟨v10, H3, m3, m4, m5, m6⟩ := o0.head.app (bytes := 8) (rd o0) (intsI_one rs) (by dsimp only; omega)
    dsimp only at m3 m4
    rw [Nat.zero_add, List.nil_append] at m4
    have o1 : Own H2 H3 [⟨1, v10, rs.length, intsI rs⟩] := o0.upd (a' := ⟨1, v10, rs.length, intsI rs⟩) m4 m5 m6
    have mine : ∀ {Hx : Hp} {r : List Sl}, Own H2 Hx r → ⟨1, v10, rs.length, intsI rs⟩ ∈ r → Rdb Hx 1 v10 rs.length (intsI rs) := fun o hm => (o.vec _ hm).rd
    -- the orders
    obtain ⟨H4, va, a1, a2⟩ := c13 (Own.st o1 sa) hd hL (mine o1 (by simp)) (by omega)
    have o2 := a2.add o1
    obtain ⟨H5, vb, b1, b2⟩ := c13 (Own.st o2 sa) hd hL (mine o2 (by simp)) (by omega)
    have o3 := b2.add o2
    obtain ⟨H6, vc, c1, c2⟩ := c14 (Own.st o3 sb) hd hL (rd o3) (by omega)
    have o4 := c2.add o3
    have hbd := orderR_bd hd rs
    obtain ⟨e, out, ho⟩ : ∃ e out, orderR L rs = (e, out) := ⟨_, _, rfl⟩
    rw [ho] at a1 a2 b1 b2 c1 c2 o2 o3 o4 hbd
    dsimp only at a1 a2 b1 b2 c1 c2 o2 o3 o4 hbd
    have il : ∀ l : List Nat, (l.map fun (t : Nat) => (t : Int)).length = l.length := fun l => List.length_map ..
    have rv : ∀ {Hx : Hp} {v : Value} {l : List Nat}, Vec Hx 1 v l.length (ints l) → Rdb Hx 1 v (l.map fun (t : Nat) => (t : Int)).length (intsI (l.map fun (t : Nat) => (t : Int))) := fun h => by
      rw [il, ← ints_intsI]; exact h.rd
    have hA := c15 (rv (o4.vec ⟨1, va, out.length, ints out⟩ (by simp))) (rv (o4.vec ⟨1, vc, out.length, ints out⟩ (by simp))) (by rw [il]; omega) rfl
    have hB := c15 (rv (o4.vec ⟨1, vb, out.length, ints out⟩ (by simp))) (rv (o4.vec ⟨1, vc, out.length, ints out⟩ (by simp))) (by rw [il]; omega) rfl
    have hM := c15 (mine o4 (by simp)) (rd o4) (by omega) rfl
    -- a is written
    have o4' : Own H2 H6 (⟨1, va, out.length, intsI (out.map fun (t : Nat) => (t : Int))⟩ :: ⟨1, vc, out.length, ints out⟩ :: ⟨1, vb, out.length, ints out⟩ :: [⟨1, v10, rs.length, intsI rs⟩]) := by
      rw [← ints_intsI]; exact o4.third
    obtain ⟨H7, l7, d1, o5⟩ := loop6a (v := va) out.length (by omega) out.length 0 H6 _ (by omega) (il out) o4'
    obtain ⟨H8, v8, cs8, d2, o6⟩ := loop6b 16 0 out.length H7 va _ (by omega) (by omega) o5
    obtain ⟨H9, vd, g1, g2⟩ := c13 (Own.st o6 sa) hd hL (mine o6 (by simp)) (by omega)
    rw [ho] at g1 g2
    dsimp only at g1 g2
    have o7 := g2.add o6
    have hB2 := c15 (rv (o7.vec ⟨1, vb, out.length, ints out⟩ (by simp))) (rv (o7.vec ⟨1, vc, out.length, ints out⟩ (by simp))) (by rw [il]; omega) rfl
    have hD := c15 (rv (o7.vec ⟨1, vd, out.length, ints out⟩ (by simp))) (rv (o7.vec ⟨1, vc, out.length, ints out⟩ (by simp))) (by rw [il]; omega) rfl
    have l8 := (o7.vec ⟨1, v8, out.length + 16, cs8⟩ (by simp))
    have lc := (o7.vec ⟨1, vc, out.length, ints out⟩ (by simp))
    dsimp only at l8 lc
    have w : IntKind.i64.wrap ((out.length : Int) + 16) = ((out.length + 16 : Nat) : Int) := i64_wrap (by omega) (by omega)
    refine ⟨H9, hr.trans ?_⟩
    rw [m1, m3, s_call a1, s_ext0, s_ext1, s_call b1, s_ext0, s_ext1, s_call c1, s_ext0, s_ext1]
    rw [s_call hA, s_not, s_bool, show (!true) = false from rfl, s_brf, s_call hB, s_not, s_bool, show (!true) = false from rfl, s_brf, s_neq, s_bool, decide_eq_false (by simp), s_brf, s_call hM, s_not, s_bool, show (!true) = false from rfl, s_brf, s_bind, s_next]
    rw [show (0 : Int) = ((0 : Nat) : Int) from rfl, d1, s_bind, s_exit, s_onExit, d2, s_bind, s_exit, s_onExit, s_call g1, s_ext0, s_ext1, List.getD_cons_zero, l8.len, lc.len, s_add, w, s_eql, s_bool, decide_eq_true rfl, s_brt, s_call hB2, s_bool, s_brt, s_call hD]
end Go.AM
/- The Term seat: arguments that are lists of numbers. -/
set_option linter.unusedVariables false
set_option linter.unusedSimpArgs false
namespace Go.AM
open Go Go.ChangeShapes Go.WideShapes Go.ChangeAt Go.RowKit
theorem flat3 : flat Go.Proofs.Try.prog 1 3 = some [.int .i64] := by kernel_rfl
theorem intDec (l : List Value) (h : OkL [.int .i64] l) : ∃ o : Int, [Value.int .i64 o] = l ∧ (IntKind.i64.min ≤ o ∧ o ≤ IntKind.i64.max) := by
  obtain ⟨hl, hh⟩ := h
  obtain ⟨v, l, rfl, hl2⟩ := consL hl
  obtain ⟨_, e, n, rfl, p, q⟩ := hh 0 _ rfl
  cases e
  have : l = [] := by cases l with | nil => rfl | cons a t => cases hl2
  subst this
  exact ⟨n, rfl, p, q⟩
theorem ints_arg {HH : Type} {enc : TypeId × Value → HH} {W : World} {H : Hp} {β : Bt} (hR : Rel Go.Proofs.Try.prog W H β) (hno : ∀ i o, H.get i = some o → o.own = false) {b0 : Nat} {v' : Value} {dw : DataW HH} {ps : List MemPlace}
    (hval : Value.okWide Go.Proofs.Try.prog W .any b0 47 v') (hd : DataW.Trod enc Go.Proofs.Try.prog W 0 (fun _ => true) true 47 v' dw ps) :
    ∃ (v : Value) (H' : Hp) (β' : Bt) (os : List Int), Rel Go.Proofs.Try.prog W H' β' ∧ (∀ i o, H'.get i = some o → o.own = false) ∧ β.le β' ∧ VRel β' v v' ∧ Rdb H' 1 v os.length (intsI os) ∧ (∀ o ∈ os, IntKind.i64.min ≤ o ∧ o ≤ IntKind.i64.max) ∧ os.length ≤ Go.Proofs.Ytkfhklmklhnfaaa.Rows.uptoBulk dw ∧ Frm (fun _ => False) H H' := by
  obtain ⟨v, H', β', g1, g2, g3, g4, g5⟩ := arg_flats (P := Go.Proofs.Try.prog) (t := 47) (e := 3) (d := 1) (ks := [.int .i64]) (by kernel_rfl) flat3 (by kernel_rfl) (by decide) hR hno hval hd
  rcases g5 with ⟨rfl, rfl, rfl⟩ | ⟨L, es, sp, rfl, rfl, h1, rfl, h2⟩
  · exact ⟨_, _, β', [], g1, g2, g3, g4, .inl ⟨rfl, rfl, rfl⟩, fun o h => (by cases h), by simp, Frm.refl _ _⟩
  · obtain ⟨os, h3, h4⟩ := decL (cells := fun (t : Int) => [Value.int .i64 t]) intDec L h1
    have hfl : L.flatten = intsI os := by
      rw [h3, ← List.flatMap_def]
      clear h3 h1 g1 g2 g3 g4 h2 h4
      induction os with
      | nil => rfl
      | cons a t ih => rw [List.flatMap_cons, ih]; rfl
    have hll : L.length = os.length := by rw [h3, List.length_map]
    refine ⟨_, _, β', os, g1, g2, g3, g4, .inr ⟨H.next, L.length, [], false, ?_, by omega, ?_, ?_, ?_⟩, h4, ?_, fr_new _ _ _⟩
    · rw [hll]; rfl
    · rw [get_new, if_pos rfl, hfl, List.append_nil]
    · rw [intsI_len, Nat.mul_one]
    · show H.next < H.next + 1; omega
    · have := bulk_len es
      simp only [Go.Proofs.Ytkfhklmklhnfaaa.Rows.uptoBulk]
      omega
end Go.AM
/- The Term seat: what is so of an order. -/
set_option linter.unusedVariables false
set_option linter.unusedSimpArgs false
namespace Go.AM
open Go
/-- Each term's parts stand ahead of it. -/
def Closed (L : List Nd) (out : List Nat) : Prop := ∀ (i : Nat) t, out[i]? = some t → ∀ c ∈ kids L t, c ∈ out.take i
/-- What is new is asked for, or is a part of something behind it. -/
def Grew (L : List Nd) (l out out' : List Nat) : Prop := ∃ new, out' = out ++ new ∧ ∀ (i : Nat) x, new[i]? = some x → x ∈ l ∨ ∃ (j : Nat) (u : Nat), i < j ∧ new[j]? = some u ∧ x ∈ kids L u
theorem Closed.app {L : List Nd} {out : List Nat} {t : Nat} (h : Closed L out) (hk : ∀ c ∈ kids L t, c ∈ out) : Closed L (out ++ [t]) := by
  intro i x hx c hc
  rw [List.getElem?_append] at hx
  split at hx
  · rename_i lt
    rw [List.take_append_of_le_length (by omega)]
    exact h i x hx c hc
  · have : i = out.length := by
      have := (List.getElem?_eq_some_iff.1 hx).1
      simp at this; omega
    subst this
    simp at hx
    subst hx
    rw [List.take_left' rfl]
    exact hk c hc
theorem Grew.refl (L : List Nd) (l out : List Nat) : Grew L l out out := ⟨[], by simp, fun i x h => by cases h⟩
theorem Grew.cons {L : List Nd} {c : Nat} {l out o1 o2 : List Nat} (h : Grew L [c] out o1) (k : Grew L l o1 o2) : Grew L (c :: l) out o2 := by
  obtain ⟨n1, e1, h1⟩ := h
  obtain ⟨n2, e2, h2⟩ := k
  refine ⟨n1 ++ n2, by rw [e2, e1, List.append_assoc], fun i x hx => ?_⟩
  rw [List.getElem?_append] at hx
  split at hx
  · rename_i lt
    rcases h1 i x hx with q | ⟨j, u, q1, q2, q3⟩
    · rw [List.mem_singleton] at q; subst q; exact .inl (List.mem_cons_self ..)
    · have := (List.getElem?_eq_some_iff.1 q2).1
      exact .inr ⟨j, u, q1, by rw [List.getElem?_append_left this]; exact q2, q3⟩
  · rename_i ge
    rcases h2 _ x hx with q | ⟨j, u, q1, q2, q3⟩
    · exact .inl (List.mem_cons_of_mem _ q)
    · exact .inr ⟨n1.length + j, u, by omega, by rw [List.getElem?_append_right (by omega), Nat.add_sub_cancel_left]; exact q2, q3⟩
theorem post_good {L : List Nd} (h : Dag L) : ∀ (t : Nat), 1 ≤ t → ∀ (out : List Nat), Closed L out → Closed L (post L t out) ∧ Grew L [t] out (post L t out) := by
  intro t
  induction t using Nat.strongRecOn with
  | _ t ih =>
    intro ht out hc
    rw [post_eq h ht]
    split
    · exact ⟨hc, Grew.refl ..⟩
    · have key : ∀ (l : List Nat) (o : List Nat), (∀ c ∈ l, c ∈ kids L t) → Closed L o → Closed L (posts L l o) ∧ Grew L l o (posts L l o) := by
        intro l
        induction l with
        | nil => exact fun o _ h => ⟨h, Grew.refl ..⟩
        | cons c l ihl =>
          intro o hl ho
          have hcc := kids_lt h ht (hl c (List.mem_cons_self ..))
          obtain ⟨a1, a2⟩ := ih c hcc.2 hcc.1 o ho
          obtain ⟨b1, b2⟩ := ihl _ (fun c hc => hl c (List.mem_cons_of_mem _ hc)) a1
          exact ⟨b1, a2.cons b2⟩
      obtain ⟨k1, new, e, k2⟩ := key (kids L t) out (fun c hc => hc) hc
      have hm := (posts_mem h (N := t) (kids L t) out fun c hc => by have := kids_lt h ht hc; omega).2.1
      refine ⟨k1.app hm, new ++ [t], by rw [e, List.append_assoc], fun i x hx => ?_⟩
      rw [List.getElem?_append] at hx
      split at hx
      · rename_i lt
        rcases k2 i x hx with q | ⟨j, u, q1, q2, q3⟩
        · exact .inr ⟨new.length, t, lt, by rw [List.getElem?_append_right (Nat.le_refl _), Nat.sub_self]; rfl, q⟩
        · have := (List.getElem?_eq_some_iff.1 q2).1
          exact .inr ⟨j, u, q1, by rw [List.getElem?_append_left this]; exact q2, q3⟩
      · rename_i ge
        have := List.mem_of_getElem? hx
        exact .inl this
theorem posts_good {L : List Nd} (h : Dag L) : ∀ (l o : List Nat), (∀ c ∈ l, 1 ≤ c) → Closed L o → Closed L (posts L l o) ∧ Grew L l o (posts L l o)
  | [], o, _, ho => ⟨ho, Grew.refl ..⟩
  | c :: l, o, hl, ho => by
    obtain ⟨a1, a2⟩ := post_good h c (hl c (List.mem_cons_self ..)) o ho
    obtain ⟨b1, b2⟩ := posts_good h l _ (fun c hc => hl c (List.mem_cons_of_mem _ hc)) a1
    exact ⟨b1, a2.cons b2⟩
/-- A part of a node's, by its fields. -/
theorem kids_field {L : List Nd} (h : Dag L) {i : Nat} {n : Nd} (hn : L[i]? = some n) : (∀ c ∈ kidsN n, (c : Int) = n.a ∨ (c : Int) = n.b ∨ (c : Int) = n.c) ∧ (∀ x : Int, x = n.a ∨ x = n.b ∨ x = n.c → x ≠ 0 → ∃ c ∈ kidsN n, (c : Int) = x) := by
  have ha := h.a i n hn
  have hb := h.b i n hn
  have hc := h.c i n hn
  unfold kidsN
  rcases partsT_cases n.op with q | q | q | q <;> rw [q]
  · refine ⟨fun c hcm => by simp at hcm, fun x hx h0 => by omega⟩
  · refine ⟨fun c hcm => ?_, fun x hx h0 => ?_⟩
    · simp at hcm; omega
    · exact ⟨n.a.toNat, by simp, by omega⟩
  · refine ⟨fun c hcm => ?_, fun x hx h0 => ?_⟩
    · simp at hcm; omega
    · rcases hx with e | e | e
      · exact ⟨n.a.toNat, by simp, by omega⟩
      · exact ⟨n.b.toNat, by simp, by omega⟩
      · omega
  · refine ⟨fun c hcm => ?_, fun x hx h0 => ?_⟩
    · simp at hcm; omega
    · rcases hx with e | e | e
      · exact ⟨n.a.toNat, by simp, by omega⟩
      · exact ⟨n.b.toNat, by simp, by omega⟩
      · exact ⟨n.c.toNat, by simp, by omega⟩
end Go.AM
/- The abstract machine: maps from numbers to numbers, as functions. -/
set_option linter.unusedVariables false
set_option linter.unusedSimpArgs false
namespace Go.AM
open Go
def mapI (A : List (Int × Int)) : List (Value × Value) := A.map fun x => (.int .i64 x.1, .int .i64 x.2)
def lkI (t : Int) : Nat → List (Int × Int) → Option (Nat × Int)
  | _, [] => none
  | i, (u, w) :: r => if t = u then some (i, w) else lkI t (i + 1) r
/-- A map whose look at a number is F; 0 where nothing is. -/
def MapF (H : Hp) (m : Nat) (F : Int → Int) : Prop := ∃ A, H.get m = some (.map (mapI A)) ∧ ∀ t, F t = (match lkI t 0 A with | some q => q.2 | none => 0)
/-- A type whose values are whole numbers. -/
structure IntKey (P : Program) (kt : TypeId) : Prop where
  eq : ∀ a b : Int, eqT P 10000 kt (.int .i64 a) (.int .i64 b) = some (a == b)
  sh : ∀ a : Int, shapeOk P 20 kt (.int .i64 a) = true
theorem findI {P : Program} {kt : TypeId} (hk : IntKey P kt) (t : Int) : ∀ (A : List (Int × Int)) (i : Nat), findT P kt (.int .i64 t) (mapI A) i = some ((lkI t i A).map fun q => (q.1, .int .i64 q.2))
  | [], i => rfl
  | (u, w) :: r, i => by
    show (match eqT P 10000 kt (.int .i64 t) (.int .i64 u) with | some true => some (some (i, Value.int .i64 w)) | some false => findT P kt (.int .i64 t) (mapI r) (i + 1) | none => none) = _
    rw [hk.eq]
    unfold lkI
    by_cases h : t = u
    · rw [if_pos h, show (t == u) = true by simpa using h]; rfl
    · rw [if_neg h, show (t == u) = false by simpa using h]
      exact findI hk t r (i + 1)
theorem MapF.look {P : Program} {kt : TypeId} (hk : IntKey P kt) {H : Hp} {m : Nat} {F : Int → Int} (h : MapF H m F) (t : Int) {α : Type} (k : Value → Option α) : pLook P kt (.int .i64 0) (.map (some m)) (.int .i64 t) false H k = k (.int .i64 (F t)) := by
  obtain ⟨A, h1, h2⟩ := h
  unfold pLook lookV
  rw [hk.sh, h2 t]
  simp only [if_true, mapOf, h1, findI hk]
  cases lkI t 0 A <;> rfl
theorem lkI_get (t : Int) : ∀ (A : List (Int × Int)) (i j : Nat) (w : Int), lkI t i A = some (j, w) → i ≤ j ∧ A[j - i]? = some (t, w)
  | [], i, j, w, h => by cases h
  | (u, v) :: r, i, j, w, h => by
    unfold lkI at h
    split at h
    · rename_i e
      cases h
      subst e
      exact ⟨Nat.le_refl _, by simp⟩
    · obtain ⟨h1, h2⟩ := lkI_get t r (i + 1) j w h
      refine ⟨by omega, ?_⟩
      rw [show j - i = (j - (i + 1)) + 1 by omega]
      simpa using h2
theorem lkI_app (t key v : Int) : ∀ (A : List (Int × Int)) (i : Nat), lkI key i A = none → (lkI t i (A ++ [(key, v)])).map Prod.snd = if t = key then some v else (lkI t i A).map Prod.snd
  | [], i, h => by
    show (lkI t i [(key, v)]).map Prod.snd = _
    unfold lkI lkI
    split <;> rfl
  | (u, w) :: r, i, h => by
    unfold lkI at h
    split at h
    · cases h
    · rename_i ne
      show (lkI t i ((u, w) :: (r ++ [(key, v)]))).map Prod.snd = _
      unfold lkI
      by_cases e : t = u
      · rw [if_pos e, if_pos e, if_neg (fun q => ne (by rw [← q, e]))]
      · rw [if_neg e, if_neg e]
        exact lkI_app t key v r (i + 1) h
theorem lkI_set (t key v : Int) : ∀ (A : List (Int × Int)) (i j : Nat) (w : Int), lkI key i A = some (j, w) → (lkI t i (A.set (j - i) (key, v))).map Prod.snd = if t = key then some v else (lkI t i A).map Prod.snd
  | [], i, j, w, h => by cases h
  | (u, x) :: r, i, j, w, h => by
    unfold lkI at h
    split at h
    · rename_i e
      cases h
      subst e
      rw [Nat.sub_self, List.set_cons_zero]
      unfold lkI
      by_cases q : t = key
      · rw [if_pos q, if_pos q]; rfl
      · rw [if_neg q, if_neg q, if_neg q]
    · rename_i ne
      have hle := (lkI_get key r (i + 1) j w h).1
      rw [show j - i = (j - (i + 1)) + 1 by omega, List.set_cons_succ]
      unfold lkI
      by_cases q : t = u
      · rw [if_pos q, if_pos q, if_neg (fun z => ne (by rw [← z, q]))]
      · rw [if_neg q, if_neg q]
        exact lkI_set t key v r (i + 1) j w h
theorem mtch (o : Option (Nat × Int)) : (match o with | some q => q.2 | none => (0 : Int)) = (o.map Prod.snd).getD 0 := by cases o <;> rfl
theorem MapF.upd {P : Program} {kt : TypeId} (hk : IntKey P kt) {H : Hp} {m : Nat} {F : Int → Int} (h : MapF H m F) (key v : Int) :
    ∃ H', (∀ (α : Type) (k : Hp → Option α), pUpd P kt (.map (some m)) (.int .i64 key) (.int .i64 v) H k = k H') ∧ MapF H' m (fun t => if t = key then v else F t) ∧ (∀ j, j ≠ m → H'.get j = H.get j) ∧ H'.next = H.next := by
  obtain ⟨A, h1, h2⟩ := h
  cases hq : lkI key 0 A with
  | none =>
    refine ⟨H.set m (some (.map (mapI (A ++ [(key, v)])))), fun α k => ?_, ⟨A ++ [(key, v)], by rw [get_set, if_pos rfl], fun t => ?_⟩, fun j hj => by rw [get_set, if_neg hj], rfl⟩
    · have : updV P kt (.map (some m)) (.int .i64 key) (.int .i64 v) H = some (H.set m (some (.map (mapI (A ++ [(key, v)]))))) := by
        unfold updV
        rw [hk.sh]
        simp only [if_true, h1, findI hk, hq, Option.map_none]
        rw [show mapI (A ++ [(key, v)]) = mapI A ++ [(Value.int .i64 key, Value.int .i64 v)] by simp [mapI]]
      unfold pUpd
      rw [this]
    · rw [mtch, lkI_app t key v A 0 hq]
      dsimp only
      split
      · rfl
      · rw [h2 t, mtch]
  | some q =>
    obtain ⟨j, w⟩ := q
    obtain ⟨_, hg⟩ := lkI_get key A 0 j w hq
    rw [Nat.sub_zero] at hg
    refine ⟨H.set m (some (.map (mapI (A.set j (key, v))))), fun α k => ?_, ⟨A.set j (key, v), by rw [get_set, if_pos rfl], fun t => ?_⟩, fun j hj => by rw [get_set, if_neg hj], rfl⟩
    · have hk1 : (mapI A)[j]? = some (.int .i64 key, .int .i64 w) := by unfold mapI; rw [List.getElem?_map, hg]; rfl
      have hsb : Instr.sameBits 10000 (.int .i64 key) (.int .i64 key) = true := by simp [Instr.sameBits]
      have : updV P kt (.map (some m)) (.int .i64 key) (.int .i64 v) H = some (H.set m (some (.map (mapI (A.set j (key, v)))))) := by
        unfold updV
        rw [hk.sh]
        simp only [if_true, h1, findI hk, hq, Option.map_some, hk1, hsb]
        rw [show mapI (A.set j (key, v)) = setAt (mapI A) j (.int .i64 key) (.int .i64 v) by unfold setAt mapI; rw [List.map_set]]
      unfold pUpd
      rw [this]
    · have := lkI_set t key v A 0 j w hq
      rw [Nat.sub_zero] at this
      rw [mtch, this]
      dsimp only
      split
      · rfl
      · rw [h2 t, mtch]
theorem MapF.new (H : Hp) : MapF (H.new (.map [])) H.next (fun _ => 0) := ⟨[], by rw [get_new, if_pos rfl]; rfl, fun t => rfl⟩
theorem MapF.keep {H H' : Hp} {m : Nat} {F : Int → Int} (h : MapF H m F) (hg : H'.get m = H.get m) : MapF H' m F := by
  obtain ⟨A, h1, h2⟩ := h
  exact ⟨A, by rw [hg]; exact h1, h2⟩
end Go.AM
/- The Term seat: TermParts. -/
set_option linter.unusedVariables false
set_option linter.unusedSimpArgs false
namespace Go.AM
open Go
theorem ik3 : IntKey Go.Proofs.Try.prog 3 := ⟨fun a b => by kernel_rfl, fun a => by kernel_rfl⟩
theorem loop7a (lim : Int) (os : List OpA) (hf : Fine os) (x : Value) (p f g : Nat) : ∀ (k i : Nat) (L : List Nd) (K : List (ByteArray × Int)) (H : Hp) (sl : Value), os.length = i + k → StF H p lim L K sl f g → Kept lim os i L → Dag L → ScR H x os →
    ∃ H' L' K' s1, loopD (s7_1 RR x (.pointer (some ⟨p, 0, none⟩))) [.int .i64 (i : Int)] H = some (.exit 0, [.int .i64 (os.length : Int)], H') ∧ One H lim L K p f g sl H' L' K' s1 ∧ Kept lim os os.length L' ∧ Dag L'
  | 0, i, L, K, H, sl, hk, h, hI, hd, hx => by
    have hi : i = os.length := by omega
    subst hi
    refine ⟨H, L, K, sl, ?_, One.refl h, hI, hd⟩
    rw [loopD_eq]
    have : s7_1 RR x (.pointer (some ⟨p, 0, none⟩)) [.int .i64 (os.length : Int)] H = some (.exit 0, [.int .i64 (os.length : Int)], H) := by
      unfold s7_1
      simp only [hx.len, s_lss, s_bool, s_brf, List.getD_cons_zero, Int.lt_irrefl, decide_false]
    rw [this]; rfl
  | k + 1, i, L, K, H, sl, hk, h, hI, hd, hx => by
    have hlt : i < os.length := by omega
    have ho : os[i]? = some os[i] := by simp [hlt]
    have hR : Roomy L := hI.roomy (by omega) hf
    have hfl := hf.len
    obtain ⟨y, hyl, hy, hix⟩ := hx.at (α := Unit) ho
    obtain ⟨H1, s1, e1, o1⟩ := Does.one (L := L) (K := K) (d12 h hR os[i] (hf.ok _ (List.getElem_mem hlt)))
    have hle := ask_le (lim := lim) (L := L) (K := K) os[i]
    have hle0 := hI.len
    obtain ⟨H', L', K', s3, g1, g2, g3, g4⟩ := loop7a lim os hf x p f g k (i + 1) _ _ H1 s1 (by omega) o1.st ⟨ask_inv os[i] hI.inv, by omega⟩ (ask_dag os[i] hd) (hx.one h o1)
    refine ⟨H', L', K', s3, ?_, o1.trans g2, g3, g4⟩
    have hwr : IntKind.i64.wrap ((i : Int) + 1) = ((i + 1 : Nat) : Int) := i64_wrap (by omega) (by omega)
    have hil : (i : Int) < (os.length : Int) := by omega
    rw [loopD_eq]
    have : s7_1 RR x (.pointer (some ⟨p, 0, none⟩)) [.int .i64 (i : Int)] H = some (.next, [.int .i64 ((i + 1 : Nat) : Int)], H1) := by
      unfold s7_1
      simp only [hx.len, s_lss, s_bool, s_brt, List.getD_cons_zero, hil, decide_true, hix, ScR.ld hy ho, s_call e1, s_add, hwr]
    rw [this]; exact g1
/-- What the checks keep: all but two maps as it was. -/
structure C7 (B H : Hp) (m1 m2 : Nat) (F1 F2 : Int → Int) : Prop where
  next : B.next ≤ H.next
  old : ∀ j, j < B.next → H.get j = B.get j
  l1 : B.next ≤ m1
  l2 : B.next ≤ m2
  ne : m1 ≠ m2
  f1 : MapF H m1 F1
  f2 : MapF H m2 F2
theorem C7.up1 {B H : Hp} {m1 m2 : Nat} {F1 F2 : Int → Int} (h : C7 B H m1 m2 F1 F2) (key v : Int) : ∃ H', (∀ (α : Type) (k : Hp → Option α), pUpd Go.Proofs.Try.prog 3 (.map (some m1)) (.int .i64 key) (.int .i64 v) H k = k H') ∧ C7 B H' m1 m2 (fun t => if t = key then v else F1 t) F2 := by
  obtain ⟨H', e1, e2, e3, e4⟩ := h.f1.upd ik3 key v
  have a := h.l1
  exact ⟨H', e1, ⟨by rw [e4]; exact h.next, fun j hj => by rw [e3 j (by omega), h.old j hj], h.l1, h.l2, h.ne, e2, h.f2.keep (e3 m2 (Ne.symm h.ne))⟩⟩
theorem C7.up2 {B H : Hp} {m1 m2 : Nat} {F1 F2 : Int → Int} (h : C7 B H m1 m2 F1 F2) (key v : Int) : ∃ H', (∀ (α : Type) (k : Hp → Option α), pUpd Go.Proofs.Try.prog 3 (.map (some m2)) (.int .i64 key) (.int .i64 v) H k = k H') ∧ C7 B H' m1 m2 F1 (fun t => if t = key then v else F2 t) := by
  obtain ⟨H', e1, e2, e3, e4⟩ := h.f2.upd ik3 key v
  have a := h.l2
  exact ⟨H', e1, ⟨by rw [e4]; exact h.next, fun j hj => by rw [e3 j (by omega), h.old j hj], h.l1, h.l2, h.ne, h.f1.keep (e3 m1 h.ne), e2⟩⟩
section
variable {B : Hp} {p f g : Nat} {lim : Int} {L : List Nd} {K : List (ByteArray × Int)} {sl : Value} (hst : StF B p lim L K sl f g) (hd : Dag L) (hL : L.length * 64 ≤ 2 ^ 46)
  {y : Value} {rs : List Int} (hy : Rdb B 1 y rs.length (intsI rs)) (hrl : rs.length ≤ 2 ^ 40) {vo : Value} {out : List Nat} (hv : Rdb B 1 vo out.length (ints out)) (ht : Told L.length out) (m1 m2 : Nat)
theorem C7.rd {H : Hp} {F1 F2 : Int → Int} (h : C7 B H m1 m2 F1 F2) {v : Value} {n : Nat} {cs : List Value} (hv : Rdb B 1 v n cs) : Rdb H 1 v n cs := hv.keep' (fun j hj => h.old j (hv.lt hj)) h.next
theorem C7.st {H : Hp} {F1 F2 : Int → Int} (h : C7 B H m1 m2 F1 F2) (hst : StF B p lim L K sl f g) : StF H p lim L K sl f g := hst.keep (fun i hi => h.old i (hst.foot_lt hi)) h.next
include hy hrl in
theorem loop7b : ∀ (k i : Nat) (H : Hp) (F1 F2 : Int → Int), i + k = rs.length → C7 B H m1 m2 F1 F2 → (∀ t ∈ rs.take i, F2 t ≠ 0) →
    ∃ H' F2', loopD (s7_2 RR y (.map (some m2))) [.int .i64 (i : Int)] H = some (.exit 2, [.int .i64 (rs.length : Int)], H') ∧ C7 B H' m1 m2 F1 F2' ∧ (∀ t ∈ rs, F2' t ≠ 0)
  | 0, i, H, F1, F2, hi, h, hw => by
    have : i = rs.length := by omega
    subst this
    refine ⟨H, F2, ?_, h, by rwa [List.take_of_length_le (Nat.le_refl _)] at hw⟩
    rw [loopD_eq]
    have : s7_2 RR y (.map (some m2)) [.int .i64 (rs.length : Int)] H = some (.exit 2, [.int .i64 (rs.length : Int)], H) := by
      unfold s7_2
      simp only [hy.len, s_lss, s_bool, s_brf, List.getD_cons_zero, Int.lt_irrefl, decide_false]
    rw [this]; rfl
  | k + 1, i, H, F1, F2, hi, h, hw => by
    have hlt : i < rs.length := by omega
    have hg : rs[i]? = some rs[i] := List.getElem?_eq_getElem hlt
    obtain ⟨a, a1, a2⟩ := (h.rd m1 m2 hy).int hg
    obtain ⟨H1, u1, u2⟩ := h.up2 rs[i] 1
    obtain ⟨H', F2', g1, g2, g3⟩ := loop7b k (i + 1) H1 F1 (fun t => if t = rs[i] then 1 else F2 t) (by omega) u2 (fun t ht => by
      show (if t = rs[i] then (1 : Int) else F2 t) ≠ 0
      split
      · decide
      · rename_i ne
        rw [List.take_add_one, hg] at ht
        rcases List.mem_append.1 ht with ht | ht
        · exact hw t ht
        · simp at ht; exact absurd ht ne)
    refine ⟨H', F2', ?_, g2, g3⟩
    have w : IntKind.i64.wrap ((i : Int) + 1) = ((i + 1 : Nat) : Int) := i64_wrap (by omega) (by omega)
    have q : (i : Int) < (rs.length : Int) := by omega
    rw [loopD_eq]
    have : s7_2 RR y (.map (some m2)) [.int .i64 (i : Int)] H = some (.next, [.int .i64 ((i + 1 : Nat) : Int)], H1) := by
      unfold s7_2
      simp only [hy.len, s_lss, s_bool, s_brt, List.getD_cons_zero, q, decide_true, a1, a2, u1, s_add, w]
    rw [this]; exact g1
theorem loop7c {H : Hp} {F1 F2 : Int → Int} (h : C7 B H m1 m2 F1 F2) (a b c : Int) (hk : ∀ x : Int, x = a ∨ x = b ∨ x = c → x ≠ 0 → F1 x ≠ 0) :
    loopD (s7_3 RR (.map (some m1)) [.int .i64 a, .int .i64 b, .int .i64 c]) [.int .i64 0] H = some (.exit 6, [.int .i64 3], H) := by
  have step : ∀ (j : Nat) (x : Int), j < 3 → [a, b, c][j]? = some x → s7_3 RR (.map (some m1)) [.int .i64 a, .int .i64 b, .int .i64 c] [.int .i64 (j : Int)] H = some (.next, [.int .i64 ((j + 1 : Nat) : Int)], H) := by
    intro j x hj hx
    have w : IntKind.i64.wrap ((j : Int) + 1) = ((j + 1 : Nat) : Int) := i64_wrap (by omega) (by omega)
    have q : (j : Int) < 3 := by omega
    have hix : ∀ (k : Nat → Option Outc), pIdxLoc 3 (.int .i64 (j : Int)) k = k j := fun k => by
      unfold pIdxLoc
      dsimp only
      rw [if_pos ⟨by omega, by omega⟩, Int.toNat_natCast]
    have hc : ∀ (k : Value → Option Outc), pCell 1 false [.int .i64 a, .int .i64 b, .int .i64 c] (0 + j * 1) k = k (.int .i64 x) := fun k => by
      refine s_cell _ _ _ ?_ k
      rw [Nat.zero_add, Nat.mul_one]
      match j, hj, hx with
      | 0, _, hx => cases hx; rfl
      | 1, _, hx => cases hx; rfl
      | 2, _, hx => cases hx; rfl
    have hxm : x = a ∨ x = b ∨ x = c := by
      match j, hj, hx with
      | 0, _, hx => cases hx; exact .inl rfl
      | 1, _, hx => cases hx; exact .inr (.inl rfl)
      | 2, _, hx => cases hx; exact .inr (.inr rfl)
    unfold s7_3
    by_cases h0 : x = 0
    · simp only [List.getD_cons_zero, s_lss, q, decide_true, s_bool, s_brt, hix, hc, s_neq, h0, ne_eq, not_true_eq_false, decide_false, s_brf, s_add, w]
    · have := hk x hxm h0
      simp only [List.getD_cons_zero, s_lss, q, decide_true, s_bool, s_brt, hix, hc, s_neq, h0, ne_eq, not_false_eq_true, h.f1.look ik3, s_eql, this, decide_false, s_brf, s_add, w]
  have e : s7_3 RR (.map (some m1)) [.int .i64 a, .int .i64 b, .int .i64 c] [.int .i64 ((3 : Nat) : Int)] H = some (.exit 6, [.int .i64 3], H) := by
    unfold s7_3
    simp only [List.getD_cons_zero, s_lss, s_bool]
    rfl
  rw [show (0 : Int) = ((0 : Nat) : Int) from rfl, loopD_eq, step 0 a (by omega) rfl]
  show loopD _ _ _ = _
  rw [loopD_eq, step 1 b (by omega) rfl]
  show loopD _ _ _ = _
  rw [loopD_eq, step 2 c (by omega) rfl]
  show loopD _ _ _ = _
  rw [loopD_eq, e]
  rfl
include hst hd hL hv ht in
theorem loop7d (hcl : Closed L out) : ∀ (k i : Nat) (H : Hp) (F1 F2 : Int → Int), i + k = out.length → C7 B H m1 m2 F1 F2 → (∀ t : Int, F1 t ≠ 0 ↔ ∃ c ∈ out.take i, (c : Int) = t) →
    ∃ H' F1', loopD (s7_4 RR (.pointer (some ⟨p, 0, none⟩)) vo (.map (some m1))) [.int .i64 (i : Int)] H = some (.exit 4, [.int .i64 (out.length : Int)], H') ∧ C7 B H' m1 m2 F1' F2 ∧ (∀ t : Int, F1' t ≠ 0 ↔ ∃ c ∈ out, (c : Int) = t)
  | 0, i, H, F1, F2, hi, h, hw => by
    have : i = out.length := by omega
    subst this
    refine ⟨H, F1, ?_, h, by rwa [List.take_of_length_le (Nat.le_refl _)] at hw⟩
    rw [loopD_eq]
    have : s7_4 RR (.pointer (some ⟨p, 0, none⟩)) vo (.map (some m1)) [.int .i64 (out.length : Int)] H = some (.exit 4, [.int .i64 (out.length : Int)], H) := by
      unfold s7_4
      simp only [hv.len, s_lss, s_bool, s_brf, List.getD_cons_zero, Int.lt_irrefl, decide_false]
    rw [this]; rfl
  | k + 1, i, H, F1, F2, hi, h, hw => by
    have hlt : i < out.length := by omega
    have hg : out[i]? = some out[i] := List.getElem?_eq_getElem hlt
    have hb := ht.bd _ (List.getElem_mem hlt)
    have hcl' := hcl i _ hg
    have hnd : out[i] ∉ out.take i := fun q => by
      obtain ⟨j, hj⟩ := List.getElem?_of_mem q
      rw [List.getElem?_take] at hj
      split at hj
      · rename_i lt
        have h1 := (List.pairwise_iff_getElem.1 ht.nd) j i (by omega) hlt lt
        have h2 := (List.getElem?_eq_some_iff.1 hj).2
        exact h1 h2
      · cases hj
    have hol := ht.len
    generalize ht' : out[i] = t at *
    have hstH := h.st m1 m2 hst
    have hvH := h.rd m1 m2 hv
    obtain ⟨a, ha, ⟨rest, own, hga⟩, a1⟩ := hvH.ix hlt
    have lt1 : t - 1 < L.length := by omega
    obtain ⟨n1, n2⟩ := nodeAt_get lt1
    have htc : ((t - 1 + 1 : Nat) : Int) = (t : Int) := by omega
    rw [htc] at n1 n2
    have hLb : (L.length : Int) ≤ 4611686018427387904 := by omega
    have hn : L[t - 1]? = some L[t - 1] := List.getElem?_eq_getElem lt1
    have hkk : kids L t = kidsN L[t - 1] := by unfold kids; rw [hn]
    rw [hkk] at hcl'
    obtain ⟨_, kf⟩ := kids_field hd hn
    have hF0 : ¬ F1 (t : Int) ≠ 0 := fun q => by
      obtain ⟨c, c1, c2⟩ := (hw (t : Int)).1 q
      have : c = t := by omega
      subst this
      exact hnd c1
    have hF0' : F1 (t : Int) = 0 := by
      rcases Int.lt_trichotomy (F1 (t : Int)) 0 with q | q | q
      · exact absurd (by omega) hF0
      · exact q
      · exact absurd (by omega) hF0
    have hl7 := loop7c (m1 := m1) (m2 := m2) h L[t - 1].a L[t - 1].b L[t - 1].c fun x hx h0 => by
      obtain ⟨c, c1, c2⟩ := kf x hx h0
      exact (hw x).2 ⟨c, hcl' c c1, c2⟩
    obtain ⟨H1, u1, u2⟩ := h.up1 (t : Int) ((i + 1 : Nat) : Int)
    obtain ⟨H', F1', g1, g2, g3⟩ := loop7d hcl k (i + 1) H1 (fun x => if x = (t : Int) then ((i + 1 : Nat) : Int) else F1 x) F2 (by omega) u2 (fun x => by
      show (if x = (t : Int) then ((i + 1 : Nat) : Int) else F1 x) ≠ 0 ↔ _
      rw [List.take_add_one, hg]
      constructor
      · intro q
        split at q
        · rename_i e; exact ⟨t, by simp, e.symm⟩
        · obtain ⟨c, c1, c2⟩ := (hw x).1 q
          exact ⟨c, List.mem_append_left _ c1, c2⟩
      · rintro ⟨c, c1, c2⟩
        split
        · omega
        · rename_i ne
          rcases List.mem_append.1 c1 with c1 | c1
          · exact (hw x).2 ⟨c, c1, c2⟩
          · simp at c1; subst c1; exact absurd c2.symm ne)
    refine ⟨H', F1', ?_, g2, g3⟩
    have e2 : ∀ (α : Type) (k : Value → Option α), pLoad 1 false H (.pointer (some ⟨a, i * 1, none⟩)) k = k (.int .i64 (t : Int)) := fun α k => ld_cell hga (by rw [Nat.mul_one]; unfold ints; rw [List.getElem?_map, hg]; rfl) k
    have w : IntKind.i64.wrap ((i : Int) + 1) = ((i + 1 : Nat) : Int) := i64_wrap (by omega) (by omega)
    have q : (i : Int) < (out.length : Int) := by omega
    rw [loopD_eq]
    have : s7_4 RR (.pointer (some ⟨p, 0, none⟩)) vo (.map (some m1)) [.int .i64 (i : Int)] H = some (.next, [.int .i64 ((i + 1 : Nat) : Int)], H1) := by
      unfold s7_4
      simp only [hv.len, s_lss, s_bool, s_brt, s_brf, List.getD_cons_zero, q, decide_true, a1, e2, s_call (c10 hstH.st hLb (t : Int)), n1, n2, s_ext0, s_ext1, if_true, spl7, s_neq, ne_eq, not_true_eq_false, decide_false, h.f1.look ik3, hF0', s_bind, s_next, ncell2, ncell3, ncell4, s_build3, spl3, hl7, s_exit, s_onExit, s_add, w, u1]
    rw [this]; exact g1
include hst hd hL hv ht in
theorem loop7e : ∀ (i : Nat) (H : Hp) (F1 F2 : Int → Int), i ≤ out.length → C7 B H m1 m2 F1 F2 → (∀ (j : Nat) (t : Nat), j < i → out[j]? = some t → F2 (t : Int) ≠ 0 ∨ ∃ (k u : Nat), j < k ∧ k < i ∧ out[k]? = some u ∧ t ∈ kids L u) →
    ∃ H' F2', loopD (s7_5 RR (.pointer (some ⟨p, 0, none⟩)) vo (.map (some m2))) [.int .i64 ((i : Int) - 1)] H = some (.exit 8, [.int .i64 (-1)], H') ∧ C7 B H' m1 m2 F1 F2'
  | 0, H, F1, F2, hi, h, hw => by
    refine ⟨H, F2, ?_, h⟩
    rw [loopD_eq]
    have : s7_5 RR (.pointer (some ⟨p, 0, none⟩)) vo (.map (some m2)) [.int .i64 (((0 : Nat) : Int) - 1)] H = some (.exit 8, [.int .i64 (-1)], H) := by
      unfold s7_5
      simp only [s_geq, s_bool, List.getD_cons_zero]
      rfl
    rw [this]; rfl
  | i + 1, H, F1, F2, hi, h, hw => by
    have hlt : i < out.length := by omega
    have hg : out[i]? = some out[i] := List.getElem?_eq_getElem hlt
    have hb := ht.bd _ (List.getElem_mem hlt)
    have hw0 := hw i _ (by omega) hg
    have hol := ht.len
    generalize ht' : out[i] = t at *
    have hF : F2 (t : Int) ≠ 0 := by
      rcases hw0 with q | ⟨k, u, k1, k2, _⟩
      · exact q
      · omega
    have hstH := h.st m1 m2 hst
    have hvH := h.rd m1 m2 hv
    obtain ⟨a, ha, ⟨rest, own, hga⟩, a1⟩ := hvH.ix hlt
    have lt1 : t - 1 < L.length := by omega
    obtain ⟨n1, n2⟩ := nodeAt_get lt1
    have htc : ((t - 1 + 1 : Nat) : Int) = (t : Int) := by omega
    rw [htc] at n1 n2
    have hLb : (L.length : Int) ≤ 4611686018427387904 := by omega
    have hn : L[t - 1]? = some L[t - 1] := List.getElem?_eq_getElem lt1
    have hkk : kids L t = kidsN L[t - 1] := by unfold kids; rw [hn]
    obtain ⟨kf, _⟩ := kids_field hd hn
    obtain ⟨H1, u1, v1⟩ := h.up2 L[t - 1].a 1
    obtain ⟨H2, u2, v2⟩ := v1.up2 L[t - 1].b 1
    obtain ⟨H3, u3, v3⟩ := v2.up2 L[t - 1].c 1
    obtain ⟨H', F2', g1, g2⟩ := loop7e i H3 F1 (fun x => if x = L[t - 1].c then 1 else if x = L[t - 1].b then 1 else if x = L[t - 1].a then 1 else F2 x) (by omega) v3 (fun j x hj hx => by
      show (if (x : Int) = L[t - 1].c then (1 : Int) else if (x : Int) = L[t - 1].b then 1 else if (x : Int) = L[t - 1].a then 1 else F2 (x : Int)) ≠ 0 ∨ _
      by_cases e1 : (x : Int) = L[t - 1].c
      · rw [if_pos e1]; exact .inl (by decide)
      rw [if_neg e1]
      by_cases e2 : (x : Int) = L[t - 1].b
      · rw [if_pos e2]; exact .inl (by decide)
      rw [if_neg e2]
      by_cases e3 : (x : Int) = L[t - 1].a
      · rw [if_pos e3]; exact .inl (by decide)
      rw [if_neg e3]
      rcases hw j x (by omega) hx with q | ⟨k, u, k1, k2, k3, k4⟩
      · exact .inl q
      · rcases Nat.lt_or_ge k i with z | z
        · exact .inr ⟨k, u, k1, z, k3, k4⟩
        · have : k = i := by omega
          subst this
          rw [hg] at k3
          cases k3
          rw [hkk] at k4
          rcases kf x k4 with q | q | q
          · exact absurd q e3
          · exact absurd q e2
          · exact absurd q e1)
    refine ⟨H', F2', ?_, g2⟩
    have e2 : ∀ (α : Type) (k : Value → Option α), pLoad 1 false H (.pointer (some ⟨a, i * 1, none⟩)) k = k (.int .i64 (t : Int)) := fun α k => ld_cell hga (by rw [Nat.mul_one]; unfold ints; rw [List.getElem?_map, hg]; rfl) k
    have w0 : ((i + 1 : Nat) : Int) - 1 = (i : Int) := by omega
    have w : IntKind.i64.wrap ((i : Int) - 1) = (i : Int) - 1 := i64_wrap (by omega) (by omega)
    have q : (i : Int) ≥ 0 := by omega
    rw [loopD_eq, w0]
    have : s7_5 RR (.pointer (some ⟨p, 0, none⟩)) vo (.map (some m2)) [.int .i64 (i : Int)] H = some (.next, [.int .i64 ((i : Int) - 1)], H3) := by
      unfold s7_5
      simp only [s_geq, s_bool, s_brt, s_brf, List.getD_cons_zero, q, decide_true, a1, e2, h.f2.look ik3, s_eql, hF, decide_false, s_call (c10 hstH.st hLb (t : Int)), n1, s_ext0, s_ext1, spl7, ncell2, ncell3, ncell4, u1, u2, u3, s_sub, w]
    rw [this]; exact g1
include hy hrl in
theorem loop7f {H : Hp} {F1 F2 : Int → Int} (h : C7 B H m1 m2 F1 F2) (hw : ∀ t ∈ rs, F1 t ≠ 0) : loopD (s7_6 RR y (.map (some m1))) [.int .i64 0] H = some (.exit 10, [.int .i64 (rs.length : Int)], H) := by
  have key : ∀ k i, i + k = rs.length → loopD (s7_6 RR y (.map (some m1))) [.int .i64 (i : Int)] H = some (.exit 10, [.int .i64 (rs.length : Int)], H) := by
    intro k
    induction k with
    | zero =>
      intro i hi
      have : i = rs.length := by omega
      subst this
      rw [loopD_eq]
      have : s7_6 RR y (.map (some m1)) [.int .i64 (rs.length : Int)] H = some (.exit 10, [.int .i64 (rs.length : Int)], H) := by
        unfold s7_6
        simp only [hy.len, s_lss, s_bool, s_brf, List.getD_cons_zero, Int.lt_irrefl, decide_false]
      rw [this]; rfl
    | succ k ih =>
      intro i hi
      have hlt : i < rs.length := by omega
      have hg : rs[i]? = some rs[i] := List.getElem?_eq_getElem hlt
      obtain ⟨a, a1, a2⟩ := (h.rd m1 m2 hy).int hg
      have hF := hw _ (List.getElem_mem hlt)
      have w : IntKind.i64.wrap ((i : Int) + 1) = ((i + 1 : Nat) : Int) := i64_wrap (by omega) (by omega)
      have q : (i : Int) < (rs.length : Int) := by omega
      rw [loopD_eq]
      have : s7_6 RR y (.map (some m1)) [.int .i64 (i : Int)] H = some (.next, [.int .i64 ((i + 1 : Nat) : Int)], H) := by
        unfold s7_6
        simp only [hy.len, s_lss, s_bool, s_brt, s_brf, List.getD_cons_zero, q, decide_true, a1, a2, h.f1.look ik3, s_eql, hF, decide_false, s_add, w]
      rw [this]; exact ih (i + 1) (by omega)
  exact key rs.length 0 (by omega)
end
end Go.AM
/- The Term seat: TermParts, II. -/
set_option linter.unusedVariables false
set_option linter.unusedSimpArgs false
namespace Go.AM
open Go
theorem run7 (lim : Int) (os : List OpA) (hf : Fine os) (hos : os.length ≤ 2 ^ 20) (x y : Value) (rs : List Int) (H : Hp) (hx : ScR H x os) (hy : Rdb H 1 y rs.length (intsI rs)) (hrs : rs.length ≤ 2 ^ 20) : ∃ H', RR 7 [.int .i64 lim, x, y] H = some (.bool true, H') := by
  have hr := (r7 E0 rfl (.int .i64 lim) x y H).trans (k7 _ _ _ _ _)
  by_cases hl : lim < 0
  · rw [s_call (c11_neg lim H hl), s_ext0, s_ext1, s_pnil0 23 und23, s_bool, s_brt] at hr
    exact ⟨_, hr⟩
  · obtain ⟨H1, p, f, g, e1, st1, n1, old1, ft1⟩ := c11_pos lim H hl
    have hx1 : ScR H1 x os := hx.keep (fun y cs h1 h2 => by rw [old1 y h1]; exact h2) n1
    obtain ⟨H2, L, K, s2, e2, o2, hK, hd⟩ := loop7a lim os hf x p f g os.length 0 [] [] H1 _ (by omega) st1 ⟨Inv.nil lim, by simp⟩ Dag.nil hx1
    have hll := hK.len
    have hL : L.length * 64 ≤ 2 ^ 46 := by omega
    have hy2 : Rdb H2 1 y rs.length (intsI rs) := hy.keep' (fun j hj => by
      have hj1 := hy.lt hj
      rw [o2.same j (by omega) (fun q => by have := ft1 j q; omega), old1 j hj1]) (Nat.le_trans n1 o2.next)
    obtain ⟨m1, m2⟩ := Vec.empty H2 1 [.int .i64 0]
    have o0 : Own H2 (H2.new (.cells [] true)) [⟨1, .slice (some ⟨H2.next, 0, some 1⟩) 0 0, 0, []⟩] := (Own.nil H2).add (a := ⟨1, .slice (some ⟨H2.next, 0, some 1⟩) 0 0, 0, []⟩) m2 (fr_new _ _ _) fun j hj => by cases hj; exact Nat.le_refl _
    have rd : ∀ {Hx : Hp} {r : List Sl}, Own H2 Hx r → Rdb Hx 1 y rs.length (intsI rs) := fun o => hy2.keep' (fun j hj => o.old j (hy2.lt hj)) o.next
    obtain ⟨v10, H3, m3, m4, m5, m6⟩ := o0.head.app (bytes := 8) (rd o0) (intsI_one rs) (by dsimp only; omega)
    dsimp only at m3 m4
    rw [Nat.zero_add, List.nil_append] at m4
    have oo1 : Own H2 H3 [⟨1, v10, rs.length, intsI rs⟩] := o0.upd (a' := ⟨1, v10, rs.length, intsI rs⟩) m4 m5 m6
    obtain ⟨H4, va, a1, a2⟩ := c13 (Own.st oo1 o2.st) hd hL m4.rd (by omega)
    have oo2 := a2.add oo1
    have head : RR 7 [.int .i64 lim, x, y] H = _ := hr
    rw [s_call e1, s_ext0, s_ext1, s_pnil 23 _ und23, s_bool, s_brf, s_not, s_bool, show (!true) = false from rfl, s_brf, s_bind, s_next] at hr
    rw [show ((0 : Nat) : Int) = 0 from rfl] at e2
    rw [e2, s_bind, s_exit, s_onExit, m1, m3, s_call a1, s_ext0, s_ext1, s_neq, s_bool] at hr
    cases hall : rs.all (isT L) with
    | false =>
      have ho : orderR L rs = (70, []) := by unfold orderR; rw [hall]; rfl
      have la := a2.vec.len (α := Value × Hp)
      rw [ho] at hr la
      rw [decide_eq_true (by simp), s_brt, la] at hr
      exact ⟨_, hr⟩
    | true =>
      obtain ⟨ns, h1, h2⟩ := nats rs hall
      have ho : orderR L rs = (0, posts L ns []) := by unfold orderR; rw [hall, if_pos rfl, h1, map_nat]
      rw [ho] at a2 oo2 hr
      dsimp only at a2 oo2 hr
      rw [decide_eq_false (by simp), s_brf] at hr
      have hto : Told L.length (posts L ns []) := (⟨List.nodup_nil, fun x h => by cases h⟩ : Told L.length []).posts hd h2
      obtain ⟨gc, new, gn, gg⟩ := posts_good hd ns [] (fun c hc => (h2 c hc).1) (fun i t h => by cases h)
      have hin := (posts_mem hd ns [] h2).2.1
      rw [List.nil_append] at gn
      generalize posts L ns [] = out at *
      subst gn
      have stB := Own.st oo2 o2.st
      have yB := rd oo2
      have vB := a2.vec.rd
      have c70 : C7 H4 ((H4.new (.map [])).new (.map [])) H4.next (H4.next + 1) (fun _ => 0) (fun _ => 0) := by
        refine ⟨by show H4.next ≤ H4.next + 1 + 1; omega, fun j hj => ?_, Nat.le_refl _, by omega, by omega, ?_, MapF.new _⟩
        · rw [get_new, if_neg (by show ¬ j = H4.next + 1; omega), get_new, if_neg (by omega)]
        · exact (MapF.new H4).keep (by rw [get_new, if_neg (by show ¬ H4.next = H4.next + 1; omega)])
      obtain ⟨H5, F2, b1, b2, b3⟩ := loop7b yB (by omega) H4.next (H4.next + 1) rs.length 0 _ _ _ (by omega) c70 (fun t ht => by simp at ht)
      obtain ⟨H6, F1, d1, d2, d3⟩ := loop7d stB hd hL vB hto H4.next (H4.next + 1) gc out.length 0 _ _ _ (by omega) b2 (fun t => by simp)
      obtain ⟨H7, F3, g1, g2⟩ := loop7e stB hd hL vB hto H4.next (H4.next + 1) out.length _ _ _ (Nat.le_refl _) d2 (fun j t hj ht => by
        rcases gg j t ht with q | ⟨k, u, k1, k2, k3⟩
        · exact .inl (b3 (t : Int) (by rw [h1]; exact List.mem_map.2 ⟨t, q, rfl⟩))
        · exact .inr ⟨k, u, k1, (List.getElem?_eq_some_iff.1 k2).1, k2, k3⟩)
      have l7 := loop7f yB (by omega) H4.next (H4.next + 1) g2 (fun t ht => by
        rw [h1] at ht
        obtain ⟨c, c1, c2⟩ := List.mem_map.1 ht
        exact (d3 t).2 ⟨c, hin c c1, c2⟩)
      have hol := hto.len
      have lo := vB.len (α := Value × Hp)
      have w : IntKind.i64.wrap ((out.length : Int) - 1) = (out.length : Int) - 1 := i64_wrap (by omega) (by omega)
      refine ⟨H7, hr.trans ?_⟩
      unfold pNewMap
      dsimp only
      rw [show (H4.new (.map [])).next = H4.next + 1 from rfl]
      rw [show ((0 : Nat) : Int) = 0 from rfl] at b1 d1
      rw [b1, s_bind, s_exit, s_onExit, d1, s_bind, s_exit, s_onExit, lo, s_sub, w, g1, s_bind, s_exit, s_onExit, l7, s_bind, s_exit, s_onExit]
end Go.AM
