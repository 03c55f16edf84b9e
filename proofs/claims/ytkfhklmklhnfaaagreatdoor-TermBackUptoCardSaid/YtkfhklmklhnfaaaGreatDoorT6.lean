/- Part of the proof of TermBackUptoCardSaid: see the last file.  -/
import Derived.KernelRfl
import Derived.Test.YtkfhklmklhnfaaaGreatDoorT2
import Derived.Test.YtkfhklmklhnfaaaGreatDoorT4
import Derived.Test.YtkfhklmklhnfaaaGreatDoorT5
set_option linter.unusedSimpArgs false
set_option linter.unusedVariables false
set_option linter.unusedSectionVars false
set_option maxRecDepth 100000
namespace Go.AM
open Go
theorem loopB (lim : Int) (os : List OpA) (hf : Fine os) (x : Value) (p f g : Nat) : ∀ (k i : Nat) (L : List Nd) (K : List (ByteArray × Int)) (H : Hp) (sl : Value), os.length = i + k → StF H p lim L K sl f g → Inv lim L → L.length ≤ i → ScR H x os →
    ∃ H' s1, zaG (zaJ RR x (.pointer (some ⟨p, 0, none⟩))) [.int .i64 (i : Int)] H = some (.exit 0, [.int .i64 (os.length : Int)], H') ∧ One H lim L K p f g sl H' (runR lim (os.drop i) L K).1 (runR lim (os.drop i) L K).2 s1 ∧ (runR lim (os.drop i) L K).1.length ≤ os.length
  | 0, i, L, K, H, sl, hk, h, hI, hl, hx => by
    have hi : i = os.length := by omega
    subst hi
    rw [List.drop_of_length_le (Nat.le_refl _)]
    refine ⟨H, sl, ?_, One.refl h, hl⟩
    rw [zan]
    have : zaJ RR x (.pointer (some ⟨p, 0, none⟩)) [.int .i64 (os.length : Int)] H = some (.exit 0, [.int .i64 (os.length : Int)], H) := by
      unfold zaJ
      simp only [hx.len, zaY, zaf, zcJ, qg0, Int.lt_irrefl, decide_false]
    rw [this]; rfl
  | k + 1, i, L, K, H, sl, hk, h, hI, hl, hx => by
    have hlt : i < os.length := by omega
    have ho : os[i]? = some os[i] := by simp [hlt]
    have hfl := hf.len
    have hR : zf4 L := ⟨hI.w, by omega⟩
    have hok := hf.ok _ (List.getElem_mem hlt)
    obtain ⟨y, hyl, hy, hix⟩ := hx.at (α := Unit) ho
    obtain ⟨H1, s1, e1, o1⟩ := Does.one (L := L) (K := K) (d12 h hR os[i] hok)
    have hx1 : ScR H1 x os := hx.one h o1
    have hI1 := ask_inv (K := K) os[i] hI
    have hle := ask_le (lim := lim) (L := L) (K := K) os[i]
    have hwr : IntKind.i64.wrap ((i : Int) + 1) = ((i + 1 : Nat) : Int) := za8 (by omega) (by omega)
    have hil : (i : Int) < (os.length : Int) := by omega
    have hdr : os.drop i = os[i] :: os.drop (i + 1) := List.drop_eq_getElem_cons hlt
    obtain ⟨H', s2, g1, g2, g3⟩ := loopB lim os hf x p f g k (i + 1) _ _ H1 s1 (by omega) o1.st hI1 (by omega) hx1
    rw [hdr]
    refine ⟨H', s2, ?_, o1.trans g2, g3⟩
    rw [zan]
    have : zaJ RR x (.pointer (some ⟨p, 0, none⟩)) [.int .i64 (i : Int)] H = some (.next, [.int .i64 ((i + 1 : Nat) : Int)], H1) := by
      unfold zaJ
      simp only [hx.len, zaY, zaf, zda, qg0, hil, decide_true, hix, ScR.ld hy ho, zah e1, zbb, hwr]
    rw [this]; exact g1
theorem s_strn {α : Type} (tt : TypeId) (a b : List UInt8) (k : Value → Option α) : pBin PP .neq tt (str a) (str b) k = k (.bool (!(a == b))) := by
  have e : zj2 .neq (ba a) (ba b) = some (.bool (!((ba a).data.toList == (ba b).data.toList))) := by
    unfold zj2
    simp only [Go.Lib.toList_data]
  show pBin PP .neq tt (.string (ba a)) (.string (ba b)) k = _
  unfold pBin binV
  simp only [e, zd8]
theorem runB (lim : Int) (os : List OpA) (hf : Fine os) (hos : os.length ≤ 2 ^ 20) (x y : Value) (rs : List Int) (H : Hp) (hT : Laid H) (hx : ScR H x os) (hy : Rdb H 1 y rs.length (zcP rs)) (hrs : rs.length ≤ 2 ^ 20) : ∃ H', RR F.a54 [.int .i64 lim, x, y] H = some (.bool true, H') := by
  have hr := zet E0 rfl (.int .i64 lim) x y H
  rw [zex] at hr
  by_cases hl : lim < 0
  · rw [zah (c11_neg lim H hl), x01, s_pnil0 T.p_term_Store zkO, zaf, zda] at hr
    exact ⟨_, hr⟩
  · obtain ⟨H1, p, f, g, e1, st1, n1, old1, fo1⟩ := c11_pos lim H hl
    have hx1 : ScR H1 x os := hx.keep (fun y cs h1 h2 => by rw [old1 y h1]; exact h2) n1
    obtain ⟨H2, s1, l1, o2, hll⟩ := loopB lim os hf x p f g os.length 0 [] [] H1 _ (by omega) st1 (Inv.nil lim) (Nat.le_refl _) hx1
    rw [qd0] at o2 hll
    rw [show ((0 : Nat) : Int) = 0 from rfl] at l1
    have old2 : ∀ k, k < H.next → H2.get k = H.get k := fun k hk => by
      rw [o2.same k (by omega) (fun z => by have := fo1 k z; omega), old1 k hk]
    have n2 : H.next ≤ H2.next := Nat.le_trans n1 o2.next
    have hd := run_dag (lim := lim) os [] [] Dag.nil
    have hN := run_txt (lim := lim) os [] [] hf.ok (fun m hm => by cases hm)
    have hg := zk2 (lim := lim) os [] [] hf.ok zeq.nil
    have st2 := o2.st
    generalize (runR lim os [] []).1 = L at hll hd hN hg st2
    generalize (runR lim os [] []).2 = K at hg st2
    have hy2 : Rdb H2 1 y rs.length (zcP rs) := hy.keep' (fun j hj => old2 j (hy.lt hj)) n2
    have hT2 : Laid H2 := hT.old n2 old2
    have cpy : ∀ {Hx : Hp}, Rdb Hx 1 y rs.length (zcP rs) → ∃ v10 H3, (∀ (k : Value → Hp → Option (Value × Hp)), (zao 1 [.int .i64 0] 0 [] Hx fun v27 H28 => zaF 1 8 v27 y H28 k) = k v10 H3) ∧ Vec H3 1 v10 rs.length (zcP rs) ∧ Hx.next ≤ H3.next ∧ (∀ k, k < Hx.next → H3.get k = Hx.get k) := fun {Hx} hyx => by
      obtain ⟨m1, m2⟩ := Vec.empty Hx 1 [.int .i64 0]
      have o0 : Own Hx (Hx.new (.cells [] true)) [⟨1, .slice (some ⟨Hx.next, 0, some 1⟩) 0 0, 0, []⟩] := (Own.nil Hx).add (a := ⟨1, .slice (some ⟨Hx.next, 0, some 1⟩) 0 0, 0, []⟩) m2 (zc8 _ _ _) fun j hj => by cases hj; exact Nat.le_refl _
      obtain ⟨v10, H3, m3, m4, m5, m6⟩ := o0.head.app (bytes := 8) (hyx.keep' (fun j hj => o0.old j (hyx.lt hj)) o0.next) (intsI_one rs) (by dsimp only; omega)
      dsimp only at m3 m4
      rw [Nat.zero_add, List.nil_append] at m4
      have o1 : Own Hx H3 [⟨1, v10, rs.length, zcP rs⟩] := o0.upd (a' := ⟨1, v10, rs.length, zcP rs⟩) m4 m5 m6
      exact ⟨v10, H3, fun k => by rw [m1, m3], m4, o1.next, o1.old⟩
    obtain ⟨v29, H3, m3, m4, n3, old3⟩ := cpy hy2
    have st3 : StF H3 p lim L K s1 f g := st2.keep (fun i hi => old3 i (st2.foot_lt hi)) n3
    have hT3 : Laid H3 := hT2.old n3 old3
    obtain ⟨H4, a1, n4, old4⟩ := c_dump hT3.tabs hT3.next st3 hd hN (by omega) m4.rd (by omega)
    have st4 : StF H4 p lim L K s1 f g := st3.keep (fun i hi => old4 i (st3.foot_lt hi)) n4
    have hT4 : Laid H4 := hT3.old n4 old4
    have hy4 : Rdb H4 1 y rs.length (zcP rs) := hy2.keep' (fun j hj => by rw [old4 j (by have := hy2.lt hj; omega), old3 j (hy2.lt hj)]) (by omega)
    obtain ⟨v37, H5, m5, m6, n5, old5⟩ := cpy hy4
    have st5 : StF H5 p lim L K s1 f g := st4.keep (fun i hi => old5 i (st4.foot_lt hi)) n5
    have hT5 : Laid H5 := hT4.old n5 old5
    obtain ⟨H6, v41, b1, b2⟩ := c13 st5 hd (by omega) m6.rd (by omega)
    have hT6 : Laid H6 := hT5.old b2.next b2.old
    have hyl : ∀ (H' : Hp) (k : Value → Option Outc), pLen .sl y H' k = k (.int .i64 (rs.length : Int)) := fun H' k => hy2.len _ k
    have vl : ∀ {α : Type} (H' : Hp) (k : Value → Option α), pLen .sl v41 H' k = k (.int .i64 ((zb6 L rs).2.length : Int)) := fun H' k => b2.vec.len _ k
    have z0 : ∀ a : Int, ¬ (a ≠ a) := fun a q => q rfl
    rw [zah e1, x01] at hr
    simp only [zng T.p_term_Store _ zkO, zaf, zcJ, zc9, Bool.not_true, zaq, zaV] at hr
    rw [l1, zaq, zbk, zaI, m3, zah a1, x01, m5, zah b1, x01] at hr
    simp only [zec, z0, decide_false, zaf, zcJ] at hr
    by_cases hall : rs.all (isT L) = true
    · obtain ⟨ns, hns, hnb⟩ := nats rs hall
      have hord : zb6 L rs = (0, posts L ns []) := by rw [hns]; exact zgS hnb
      obtain ⟨d1, d2, d3⟩ := zoI hg hnb
      obtain ⟨ho, hin⟩ := zld hg.dag hnb
      have hOle := zlp hd rs
      rw [hord] at hr vl hOle
      dsimp only at hr vl hOle
      have hdu : zdC L rs = zgZ zaH L (posts L ns []) (ofN ns) := by rw [hns]; exact d1
      generalize hO : posts L ns [] = O at *
      have hlen : ns.length = rs.length := by rw [hns, List.length_map]
      have htl : (zdC L rs).length ≤ 2 ^ 37 := by
        rw [hdu]
        have := dumpT_len (L := L) (O := O) (rs := ofN ns) (fun t ht => hN _ (List.mem_of_getElem? (zby (ho.bd t ht)))) (by omega)
        have : (ofN ns).length = ns.length := List.length_map _
        omega
      obtain ⟨K2, q2⟩ := (ziw hg ho (by omega) (lim := 0) hin).1 (by omega)
      have c0 := c_load hT6 (zdC L rs) htl (lim := 0) (by omega)
      rw [hdu] at c0
      rw [q2] at c0
      rw [← hdu] at c0
      obtain ⟨H7, st, fm, gm, sl, rv, u1, u2, u3, u4, _, _, _⟩ := c0
      have hT7 : Laid H7 := hT6.old u4.next fun k hk => u4.same k hk fun q => q
      have hL' : (renL L O).length = O.length := zgM L O
      have hql : ((ns.map (ixO O)).map fun (t : Nat) => (t : Int)).length = rs.length := by rw [List.length_map, List.length_map, hlen]
      have hN' := hg.txt hN O ho.bd
      obtain ⟨H8, w1, n8, old8⟩ := c_dump hT7.tabs hT7.next u2 (ren_dag hg ho) hN' (by rw [hL']; omega) (x := rv) (rs := ofN (ren O ns)) u3.rd (by show ((ns.map (ixO O)).map fun (t : Nat) => (t : Int)).length ≤ _; omega)
      have hT8 : Laid H8 := hT7.old n8 old8
      have w1 : RR F.a18 [.pointer (some ⟨st, 0, none⟩), rv] H7 = some (.tuple #[.string (ba (zdC L rs)), .int .i64 0], H8) := by
        rw [w1, d3, d2, hns]
      have u1 : RR F.a8 [.string (ba (zdC L rs)), .int .i64 0] H6 = some (W1 (.tuple #[.pointer (some ⟨st, 0, none⟩), rv, .int .i64 0, .int .i64 0]), H7) := u1
      have rvl : ∀ {α : Type} (H' : Hp) (k : Value → Option α), pLen .sl rv H' k = k (.int .i64 (rs.length : Int)) := fun H' k => by rw [u3.len, hql]
      have hc9 := c9 u2.st
      rw [hL'] at hc9
      have hse : ∀ {α : Type} (k : Value → Option α), pBin PP .neq T.string (.string (ba (zdC L rs))) (.string (ba (zdC L rs))) k = k (.bool false) := fun k => (s_strn T.string (zdC L rs) (zdC L rs) k).trans (by rw [beq_self_eq_true]; rfl)
      rw [zmm u1] at hr
      simp only [(s_t4 _ _ _ _ _).1, (s_t4 _ _ _ _ _).2.1, (s_t4 _ _ _ _ _).2.2.1, (s_t4 _ _ _ _ _).2.2.2, zng T.p_term_Store _ zkO, zaf, zcJ, zec, z0, decide_false, zah hc9, vl, rvl, hyl, zaq, zaV, zah w1, x01, hse, za4] at hr
      by_cases h0 : O.length = 0
      · rw [decide_eq_true (by omega), zda] at hr
        exact ⟨_, hr⟩
      rw [decide_eq_false (by omega), zcJ] at hr
      obtain ⟨K3, q3⟩ := (ziw hg ho (by omega) (lim := (O.length : Int)) hin).1 (by omega)
      have c1 := c_load hT8 (zdC L rs) htl (lim := (O.length : Int)) (by omega)
      rw [hdu] at c1
      rw [q3] at c1
      rw [← hdu] at c1
      obtain ⟨H9, st', fm', gm', sl', rv', t1, _, _, t4, _, _, _⟩ := c1
      have hT9 : Laid H9 := hT8.old t4.next fun k hk => t4.same k hk fun q => q
      have t1 : RR F.a8 [.string (ba (zdC L rs)), .int .i64 (O.length : Int)] H8 = some (W1 (.tuple #[.pointer (some ⟨st', 0, none⟩), rv', .int .i64 0, .int .i64 0]), H9) := t1
      rw [zmm t1] at hr
      simp only [(s_t4 _ _ _ _ _).1, (s_t4 _ _ _ _ _).2.1, (s_t4 _ _ _ _ _).2.2.1, (s_t4 _ _ _ _ _).2.2.2, zng T.p_term_Store _ zkO, zaf, zcJ, zec, z0, decide_false, zaq, zaV, vl, za4] at hr
      by_cases h1 : O.length = 1
      · rw [decide_eq_true (by omega), zda] at hr
        exact ⟨_, hr⟩
      rw [decide_eq_false (by omega), zcJ] at hr
      have q4 := (ziw hg ho (by omega) (lim := (O.length : Int) - 1) hin).2 (by omega) (by omega)
      have c2 := c_load hT9 (zdC L rs) htl (lim := (O.length : Int) - 1) (by omega)
      rw [hdu] at c2
      rw [q4] at c2
      rw [← hdu] at c2
      obtain ⟨H10, y1, _⟩ := c2
      have hw : IntKind.i64.wrap ((O.length : Int) - 1) = (O.length : Int) - 1 := za8 (by omega) (by omega)
      have hln : ((((O.length : Int) - 1).toNat + 1 : Nat) : Int) = (O.length : Int) := by omega
      rw [hln] at y1
      have y1 : RR F.a8 [.string (ba (zdC L rs)), .int .i64 ((O.length : Int) - 1)] H9 = some (W1 (.tuple #[.pointer none, .slice none 0 0, .int .i64 (O.length : Int), .int .i64 4]), H10) := y1
      rw [zd4, hw, zmm y1] at hr
      simp only [(s_t4 _ _ _ _ _).1, (s_t4 _ _ _ _ _).2.1, (s_t4 _ _ _ _ _).2.2.1, (s_t4 _ _ _ _ _).2.2.2, s_pnil0 T.p_term_Store zkO, zaf, zda, za4, decide_true, vl] at hr
      exact ⟨_, hr⟩
    · have hord : zb6 L rs = (70, []) := by unfold zb6; rw [if_neg hall]
      have hdu : zdC L rs = [] := by unfold zdC; rw [hord]; rfl
      rw [hord] at hr vl
      dsimp only at hr vl
      rw [hdu] at hr
      have hse : ∀ {α : Type} (k : Value → Option α), pBin PP .eql T.string (.string (ba [])) (.string ⟨#[]⟩) k = k (.bool true) := fun k => zeQ T.string [] [] k
      have h7 : ((70 : Int) ≠ 0) = True := by simp
      simp only [h7, decide_true, zda, hse, zaf, vl, List.length_nil, za4] at hr
      exact ⟨_, hr⟩
end Go.AM
namespace Go.AM
open Go Go.ChangeShapes Go.WideShapes Go.ChangeAt Go.RowKit
theorem flat3 : flat PP 1 T.int = some [.int .i64] := by kernel_rfl
theorem intDec (l : List Value) (h : OkL [.int .i64] l) : ∃ o : Int, [Value.int .i64 o] = l ∧ (IntKind.i64.min ≤ o ∧ o ≤ IntKind.i64.max) := by
  obtain ⟨hl, hh⟩ := h
  obtain ⟨v, l, rfl, hl2⟩ := ze6 hl
  obtain ⟨_, e, n, rfl, p, q⟩ := hh 0 _ rfl
  cases e
  have : l = [] := by cases l with | nil => rfl | cons a t => cases hl2
  subst this
  exact ⟨n, rfl, p, q⟩
theorem ints_arg {HH : Type} {enc : TypeId × Value → HH} {W : World} {H : Hp} {β : Bt} (hR : Rel PP W H β) (hno : ∀ i o, H.get i = some o → o.own = false) {b0 : Nat} {v' : Value} {dw : DataW HH} {ps : List MemPlace}
    (hval : Value.okWide PP W .any b0 T.sl_int v') (hd : DataW.Trod enc PP W 0 (fun _ => true) true T.sl_int v' dw ps) :
    ∃ (v : Value) (H' : Hp) (β' : Bt) (os : List Int), Rel PP W H' β' ∧ (∀ i o, H'.get i = some o → o.own = false) ∧ β.le β' ∧ VRel β' v v' ∧ Rdb H' 1 v os.length (zcP os) ∧ (∀ o ∈ os, IntKind.i64.min ≤ o ∧ o ≤ IntKind.i64.max) ∧ os.length ≤ Go.Proofs.YtkfhklmklhnfaaaGreatDoor.Rows.uptoBulk dw ∧ Frm (fun _ => False) H H' := by
  obtain ⟨v, H', β', g1, g2, g3, g4, g5⟩ := zl4 (P := PP) (t := T.sl_int) (e := T.int) (d := 1) (ks := [.int .i64]) (by kernel_rfl) flat3 (by kernel_rfl) (by decide) hR hno hval hd
  rcases g5 with ⟨rfl, rfl, rfl⟩ | ⟨L, es, sp, rfl, rfl, h1, rfl, h2⟩
  · exact ⟨_, _, β', [], g1, g2, g3, g4, .inl ⟨rfl, rfl, rfl⟩, fun o h => (by cases h), by simp, Frm.refl _ _⟩
  · obtain ⟨os, h3, h4⟩ := decL (cells := fun (t : Int) => [Value.int .i64 t]) intDec L h1
    have hfl : L.flatten = zcP os := by
      rw [h3, ← List.flatMap_def]
      clear h3 h1 g1 g2 g3 g4 h2 h4
      induction os with
      | nil => rfl
      | cons a t ih => rw [List.flatMap_cons, ih]; rfl
    have hll : L.length = os.length := by rw [h3, List.length_map]
    refine ⟨_, _, β', os, g1, g2, g3, g4, .inr ⟨H.next, L.length, [], false, ?_, by omega, ?_, ?_, ?_⟩, h4, ?_, zc8 _ _ _⟩
    · rw [hll]; rfl
    · rw [get_new, if_pos rfl, hfl, List.append_nil]
    · rw [intsI_len, Nat.mul_one]
    · show H.next < H.next + 1; omega
    · have := zkD es
      simp only [Go.Proofs.YtkfhklmklhnfaaaGreatDoor.Rows.uptoBulk]
      omega
end Go.AM
