/- Part of the proof of TermOrdersUptoSaid: see the last file.  -/
import Derived.KernelRfl
import Derived.Test.YtkfhklmklhnfaaaT4
set_option linter.unusedSimpArgs false
set_option linter.unusedVariables false
set_option linter.unusedSectionVars false
/- The Term seat: TermOrders. -/
set_option linter.unusedVariables false
set_option linter.unusedSimpArgs false
namespace Go.AM
open Go
def orderR (L : List Nd) (rs : List Int) : Int × List Nat := if rs.all (isT L) = true then (0, posts L (rs.map Int.toNat) []) else (70, [])
theorem map_nat (ns : List Nat) : (ns.map fun (t : Nat) => (t : Int)).map Int.toNat = ns := by
  induction ns with
  | nil => rfl
  | cons a l ih => rw [List.map_cons, List.map_cons, ih]; rfl
theorem orderR_bd {L : List Nd} (hd : Dag L) (rs : List Int) : (orderR L rs).2.length ≤ L.length := by
  unfold orderR
  split
  · rename_i h
    obtain ⟨ns, h1, h2⟩ := nats rs h
    have e : rs.map Int.toNat = ns := by rw [h1, map_nat]
    rw [e]
    exact Told.len ((⟨List.nodup_nil, fun x h => by cases h⟩ : Told L.length []).posts hd h2)
  · simp
section
variable {H0 : Hp} {p f g : Nat} {lim : Int} {L : List Nd} {K : List (ByteArray × Int)} {sl : Value} (hst : StF H0 p lim L K sl f g) (hd : Dag L) (hL : L.length * 64 ≤ 2 ^ 46) {x : Value} {rs : List Int} (hx : Rdb H0 1 x rs.length (intsI rs)) (hl : rs.length ≤ 2 ^ 40)
include hst hd hL hx hl
theorem c13 : ∃ H' v, RR 13 [.pointer (some ⟨p, 0, none⟩), x] H0 = some (.tuple #[v, .int .i64 (orderR L rs).1], H') ∧ OrdOk H0 H' v (orderR L rs).2 := by
  unfold orderR
  cases h : rs.all (isT L) with
  | true =>
    obtain ⟨ns, h1, h2⟩ := nats rs h
    have e : rs.map Int.toNat = ns := by rw [h1, map_nat]
    have hlen : rs.length = ns.length := by rw [h1, List.length_map]
    rw [if_pos rfl, e]
    exact c13_yes hst hd hL (by rw [ints_intsI, ← h1, ← hlen]; exact hx) (by omega) h2
  | false =>
    rw [if_neg (by decide)]
    exact ⟨H0, _, c13_no hst hx hl h, Vec.nil _ _, Nat.le_refl _, fun _ _ => rfl, fun j hj => by cases hj⟩
theorem c14 : ∃ H' v, RR 14 [.pointer (some ⟨p, 0, none⟩), x] H0 = some (.tuple #[v, .int .i64 (orderR L rs).1], H') ∧ OrdOk H0 H' v (orderR L rs).2 := by
  unfold orderR
  cases h : rs.all (isT L) with
  | true =>
    obtain ⟨ns, h1, h2⟩ := nats rs h
    have e : rs.map Int.toNat = ns := by rw [h1, map_nat]
    have hlen : rs.length = ns.length := by rw [h1, List.length_map]
    rw [if_pos rfl, e]
    exact c14_yes hst hd hL (by rw [ints_intsI, ← h1, ← hlen]; exact hx) (by omega) h2
  | false =>
    rw [if_neg (by decide)]
    exact ⟨H0, _, c14_no hst hx hl h, Vec.nil _ _, Nat.le_refl _, fun _ _ => rfl, fun j hj => by cases hj⟩
end
theorem OrdOk.add {H0 H H' : Hp} {v : Value} {out : List Nat} {r : List Sl} (h : OrdOk H H' v out) (hr : Own H0 H r) : Own H0 H' (⟨1, v, out.length, ints out⟩ :: r) :=
  hr.add (a := ⟨1, v, out.length, ints out⟩) h.vec ⟨h.next, fun j hj _ => h.old j hj⟩ h.new
theorem loop6a {H0 : Hp} {r : List Sl} {v : Value} (n : Nat) (hn : n ≤ 2 ^ 60) : ∀ (k i : Nat) (H : Hp) (l : List Int), i + k = n → l.length = n → Own H0 H (⟨1, v, n, intsI l⟩ :: r) →
    ∃ H' l', loopD (s6_1 RR v) [.int .i64 (i : Int)] H = some (.exit 0, [.int .i64 (n : Int)], H') ∧ Own H0 H' (⟨1, v, n, intsI l'⟩ :: r)
  | 0, i, H, l, hi, hl, h => by
    have : i = n := by omega
    subst this
    refine ⟨H, l, ?_, h⟩
    rw [loopD_eq]
    have hh := h.head
    dsimp only at hh
    have : s6_1 RR v [.int .i64 (i : Int)] H = some (.exit 0, [.int .i64 (i : Int)], H) := by
      unfold s6_1
      simp only [hh.len, s_lss, s_bool, s_brf, List.getD_cons_zero, Int.lt_irrefl, decide_false]
    rw [this]; rfl
  | k + 1, i, H, l, hi, hl, h => by
    have hh := h.head
    dsimp only at hh
    obtain ⟨y, _, e1, _, _, e2⟩ := h.set (i := i) (by omega)
    obtain ⟨H1, e3, h1⟩ := e2 (i * 1) 1 (.int .i64 (-7)) rfl (by omega) rfl
    have es : spl (intsI l) (i * 1) (cellsL (.int .i64 (-7))) = intsI (l.set i (-7)) := spl_set (fun (t : Int) => Value.int .i64 t) l (by omega) (-7)
    rw [es] at h1
    obtain ⟨H', l', g1, g2⟩ := loop6a n hn k (i + 1) H1 (l.set i (-7)) (by omega) (by rw [List.length_set]; exact hl) h1
    refine ⟨H', l', ?_, g2⟩
    rw [loopD_eq]
    have w : IntKind.i64.wrap ((i : Int) + 1) = ((i + 1 : Nat) : Int) := i64_wrap (by omega) (by omega)
    have q : (i : Int) < (n : Int) := by omega
    have : s6_1 RR v [.int .i64 (i : Int)] H = some (.next, [.int .i64 ((i + 1 : Nat) : Int)], H1) := by
      unfold s6_1
      simp only [hh.len, s_lss, s_bool, s_brt, List.getD_cons_zero, q, decide_true, e1, e3, s_add, w]
    rw [this]; exact g1
theorem loop6b {H0 : Hp} {r : List Sl} : ∀ (k i n : Nat) (H : Hp) (v : Value) (cs : List Value), i + k = 16 → n + k ≤ 2 ^ 42 → Own H0 H (⟨1, v, n, cs⟩ :: r) →
    ∃ H' v' cs', loopD (s6_2 RR) [v, .int .i64 (i : Int)] H = some (.exit 2, [v', .int .i64 16], H') ∧ Own H0 H' (⟨1, v', n + k, cs'⟩ :: r)
  | 0, i, n, H, v, cs, hi, hn, h => by
    have : i = 16 := by omega
    subst this
    refine ⟨H, v, cs, ?_, h⟩
    rw [loopD_eq]
    have : s6_2 RR [v, .int .i64 ((16 : Nat) : Int)] H = some (.exit 2, [v, .int .i64 16], H) := by
      unfold s6_2
      simp only [s_lss, s_bool, List.getD_cons_succ, List.getD_cons_zero]
      rfl
    rw [this]; rfl
  | k + 1, i, n, H, v, cs, hi, hn, h => by
    obtain ⟨v1, H1, e1, h1⟩ := h.push (bytes := 8) (zs := [.int .i64 0]) (x := .int .i64 (-8)) (by decide) (by decide) rfl rfl rfl (by omega)
    obtain ⟨H', v', cs', g1, g2⟩ := loop6b k (i + 1) (n + 1) H1 v1 _ (by omega) (by omega) h1
    refine ⟨H', v', cs', ?_, by rw [show n + (k + 1) = n + 1 + k by omega]; exact g2⟩
    rw [loopD_eq]
    have w : IntKind.i64.wrap ((i : Int) + 1) = ((i + 1 : Nat) : Int) := i64_wrap (by omega) (by omega)
    have q : (i : Int) < 16 := by omega
    have : s6_2 RR [v, .int .i64 (i : Int)] H = some (.next, [v1, .int .i64 ((i + 1 : Nat) : Int)], H1) := by
      unfold s6_2
      simp only [s_lss, s_bool, s_brt, List.getD_cons_succ, List.getD_cons_zero, q, decide_true, e1, s_add, w]
    rw [this]; exact g1
theorem run6 (lim : Int) (os : List OpA) (hf : Fine os) (hos : os.length ≤ 2 ^ 20) (x y : Value) (rs : List Int) (H : Hp) (hx : ScR H x os) (hy : Rdb H 1 y rs.length (intsI rs)) (hrs : rs.length ≤ 2 ^ 20) : ∃ H', RR 6 [.int .i64 lim, x, y] H = some (.bool true, H') := by
  have hr := (r6 E0 rfl (.int .i64 lim) x y H).trans (k6 _ _ _ _ _)
  by_cases hl : lim < 0
  · rw [s_call (c8_neg lim x H hl), s_t3a, s_t3b, s_t3c, s_pnil0 23 und23, s_bool, s_brt] at hr
    exact ⟨_, hr⟩
  · obtain ⟨H2, p, f, g, s1, q, f', g', s2, e8, hw⟩ := c8_pos lim os hf x H hx hl
    rw [s_call e8, s_t3a, s_t3b, s_t3c, s_pnil 23 _ und23, s_bool, s_brf] at hr
    have hll := hw.l
    have htwo := hw.two
    have hd := run_dag (lim := lim) os [] [] Dag.nil
    have hy2 : Rdb H2 1 y rs.length (intsI rs) := hy.keep' (fun j hj => hw.old j (hy.lt hj)) hw.next
    clear hw
    generalize (runR lim os [] []).1 = L at hll htwo hd
    generalize (runR lim os [] []).2 = K at htwo
    have hL : L.length * 64 ≤ 2 ^ 46 := by omega
    have sa := htwo.a
    have sb := htwo.b
    -- a list of the roots
    obtain ⟨m1, m2⟩ := Vec.empty H2 1 [.int .i64 0]
    have o0 : Own H2 (H2.new (.cells [] true)) [⟨1, .slice (some ⟨H2.next, 0, some 1⟩) 0 0, 0, []⟩] := (Own.nil H2).add (a := ⟨1, .slice (some ⟨H2.next, 0, some 1⟩) 0 0, 0, []⟩) m2 (fr_new _ _ _) fun j hj => by cases hj; exact Nat.le_refl _
    have rd : ∀ {Hx : Hp} {r : List Sl}, Own H2 Hx r → Rdb Hx 1 y rs.length (intsI rs) := fun o => hy2.keep' (fun j hj => o.old j (hy2.lt hj)) o.next
    obtain ⟨v10, H3, m3, m4, m5, m6⟩ := o0.head.app (bytes := 8) (rd o0) (intsI_one rs) (by dsimp only; omega)
    dsimp only at m3 m4
    rw [Nat.zero_add, List.nil_append] at m4
    have o1 : Own H2 H3 [⟨1, v10, rs.length, intsI rs⟩] := o0.upd (a' := ⟨1, v10, rs.length, intsI rs⟩) m4 m5 m6
    have mine : ∀ {Hx : Hp} {r : List Sl}, Own H2 Hx r → ⟨1, v10, rs.length, intsI rs⟩ ∈ r → Rdb Hx 1 v10 rs.length (intsI rs) := fun o hm => (o.vec _ hm).rd
    -- the orders
    obtain ⟨H4, va, a1, a2⟩ := c13 (Own.st o1 sa) hd hL (mine o1 (by simp)) (by omega)
    have o2 := a2.add o1
    obtain ⟨H5, vb, b1, b2⟩ := c13 (Own.st o2 sa) hd hL (mine o2 (by simp)) (by omega)
    have o3 := b2.add o2
    obtain ⟨H6, vc, c1, c2⟩ := c14 (Own.st o3 sb) hd hL (rd o3) (by omega)
    have o4 := c2.add o3
    have hbd := orderR_bd hd rs
    obtain ⟨e, out, ho⟩ : ∃ e out, orderR L rs = (e, out) := ⟨_, _, rfl⟩
    rw [ho] at a1 a2 b1 b2 c1 c2 o2 o3 o4 hbd
    dsimp only at a1 a2 b1 b2 c1 c2 o2 o3 o4 hbd
    have il : ∀ l : List Nat, (l.map fun (t : Nat) => (t : Int)).length = l.length := fun l => List.length_map ..
    have rv : ∀ {Hx : Hp} {v : Value} {l : List Nat}, Vec Hx 1 v l.length (ints l) → Rdb Hx 1 v (l.map fun (t : Nat) => (t : Int)).length (intsI (l.map fun (t : Nat) => (t : Int))) := fun h => by
      rw [il, ← ints_intsI]; exact h.rd
    have hA := c15 (rv (o4.vec ⟨1, va, out.length, ints out⟩ (by simp))) (rv (o4.vec ⟨1, vc, out.length, ints out⟩ (by simp))) (by rw [il]; omega) rfl
    have hB := c15 (rv (o4.vec ⟨1, vb, out.length, ints out⟩ (by simp))) (rv (o4.vec ⟨1, vc, out.length, ints out⟩ (by simp))) (by rw [il]; omega) rfl
    have hM := c15 (mine o4 (by simp)) (rd o4) (by omega) rfl
    -- a is written
    have o4' : Own H2 H6 (⟨1, va, out.length, intsI (out.map fun (t : Nat) => (t : Int))⟩ :: ⟨1, vc, out.length, ints out⟩ :: ⟨1, vb, out.length, ints out⟩ :: [⟨1, v10, rs.length, intsI rs⟩]) := by
      rw [← ints_intsI]; exact o4.third
    obtain ⟨H7, l7, d1, o5⟩ := loop6a (v := va) out.length (by omega) out.length 0 H6 _ (by omega) (il out) o4'
    obtain ⟨H8, v8, cs8, d2, o6⟩ := loop6b 16 0 out.length H7 va _ (by omega) (by omega) o5
    obtain ⟨H9, vd, g1, g2⟩ := c13 (Own.st o6 sa) hd hL (mine o6 (by simp)) (by omega)
    rw [ho] at g1 g2
    dsimp only at g1 g2
    have o7 := g2.add o6
    have hB2 := c15 (rv (o7.vec ⟨1, vb, out.length, ints out⟩ (by simp))) (rv (o7.vec ⟨1, vc, out.length, ints out⟩ (by simp))) (by rw [il]; omega) rfl
    have hD := c15 (rv (o7.vec ⟨1, vd, out.length, ints out⟩ (by simp))) (rv (o7.vec ⟨1, vc, out.length, ints out⟩ (by simp))) (by rw [il]; omega) rfl
    have l8 := (o7.vec ⟨1, v8, out.length + 16, cs8⟩ (by simp))
    have lc := (o7.vec ⟨1, vc, out.length, ints out⟩ (by simp))
    dsimp only at l8 lc
    have w : IntKind.i64.wrap ((out.length : Int) + 16) = ((out.length + 16 : Nat) : Int) := i64_wrap (by omega) (by omega)
    refine ⟨H9, hr.trans ?_⟩
    rw [m1, m3, s_call a1, s_ext0, s_ext1, s_call b1, s_ext0, s_ext1, s_call c1, s_ext0, s_ext1]
    rw [s_call hA, s_not, s_bool, show (!true) = false from rfl, s_brf, s_call hB, s_not, s_bool, show (!true) = false from rfl, s_brf, s_neq, s_bool, decide_eq_false (by simp), s_brf, s_call hM, s_not, s_bool, show (!true) = false from rfl, s_brf, s_bind, s_next]
    rw [show (0 : Int) = ((0 : Nat) : Int) from rfl, d1, s_bind, s_exit, s_onExit, d2, s_bind, s_exit, s_onExit, s_call g1, s_ext0, s_ext1, List.getD_cons_zero, l8.len, lc.len, s_add, w, s_eql, s_bool, decide_eq_true rfl, s_brt, s_call hB2, s_bool, s_brt, s_call hD]
end Go.AM
/- The Term seat: arguments that are lists of numbers. -/
set_option linter.unusedVariables false
set_option linter.unusedSimpArgs false
namespace Go.AM
open Go Go.ChangeShapes Go.WideShapes Go.ChangeAt Go.RowKit
theorem flat3 : flat Go.Proofs.Try.prog 1 3 = some [.int .i64] := by kernel_rfl
theorem intDec (l : List Value) (h : OkL [.int .i64] l) : ∃ o : Int, [Value.int .i64 o] = l ∧ (IntKind.i64.min ≤ o ∧ o ≤ IntKind.i64.max) := by
  obtain ⟨hl, hh⟩ := h
  obtain ⟨v, l, rfl, hl2⟩ := consL hl
  obtain ⟨_, e, n, rfl, p, q⟩ := hh 0 _ rfl
  cases e
  have : l = [] := by cases l with | nil => rfl | cons a t => cases hl2
  subst this
  exact ⟨n, rfl, p, q⟩
theorem ints_arg {HH : Type} {enc : TypeId × Value → HH} {W : World} {H : Hp} {β : Bt} (hR : Rel Go.Proofs.Try.prog W H β) (hno : ∀ i o, H.get i = some o → o.own = false) {b0 : Nat} {v' : Value} {dw : DataW HH} {ps : List MemPlace}
    (hval : Value.okWide Go.Proofs.Try.prog W .any b0 47 v') (hd : DataW.Trod enc Go.Proofs.Try.prog W 0 (fun _ => true) true 47 v' dw ps) :
    ∃ (v : Value) (H' : Hp) (β' : Bt) (os : List Int), Rel Go.Proofs.Try.prog W H' β' ∧ (∀ i o, H'.get i = some o → o.own = false) ∧ β.le β' ∧ VRel β' v v' ∧ Rdb H' 1 v os.length (intsI os) ∧ (∀ o ∈ os, IntKind.i64.min ≤ o ∧ o ≤ IntKind.i64.max) ∧ os.length ≤ Go.Proofs.Ytkfhklmklhnfaaa.Rows.uptoBulk dw ∧ Frm (fun _ => False) H H' := by
  obtain ⟨v, H', β', g1, g2, g3, g4, g5⟩ := arg_flats (P := Go.Proofs.Try.prog) (t := 47) (e := 3) (d := 1) (ks := [.int .i64]) (by kernel_rfl) flat3 (by kernel_rfl) (by decide) hR hno hval hd
  rcases g5 with ⟨rfl, rfl, rfl⟩ | ⟨L, es, sp, rfl, rfl, h1, rfl, h2⟩
  · exact ⟨_, _, β', [], g1, g2, g3, g4, .inl ⟨rfl, rfl, rfl⟩, fun o h => (by cases h), by simp, Frm.refl _ _⟩
  · obtain ⟨os, h3, h4⟩ := decL (cells := fun (t : Int) => [Value.int .i64 t]) intDec L h1
    have hfl : L.flatten = intsI os := by
      rw [h3, ← List.flatMap_def]
      clear h3 h1 g1 g2 g3 g4 h2 h4
      induction os with
      | nil => rfl
      | cons a t ih => rw [List.flatMap_cons, ih]; rfl
    have hll : L.length = os.length := by rw [h3, List.length_map]
    refine ⟨_, _, β', os, g1, g2, g3, g4, .inr ⟨H.next, L.length, [], false, ?_, by omega, ?_, ?_, ?_⟩, h4, ?_, fr_new _ _ _⟩
    · rw [hll]; rfl
    · rw [get_new, if_pos rfl, hfl, List.append_nil]
    · rw [intsI_len, Nat.mul_one]
    · show H.next < H.next + 1; omega
    · have := bulk_len es
      simp only [Go.Proofs.Ytkfhklmklhnfaaa.Rows.uptoBulk]
      omega
end Go.AM
