/- Part of the proof of TermBackUptoCardSaid: see the last file.  -/
import Derived.Shelf.Strings.Builder1
import Derived.Shelf.Strconv.Itoa0
import Derived.Shelf.Strconv.Itoa1
import Derived.Shelf.LaysM
import Derived.Shelf.Strconv.Itoa2
import Derived.Shelf.Strconv.Itoa3
import Derived.Shelf.Strconv.Clone
import Derived.Shelf.Strconv.SyntaxError
import Derived.Shelf.LaysC
import Derived.Shelf.Strconv.ToError
import Derived.Shelf.Strconv.RangeError
import Derived.Shelf.Strconv.ToErrorRange
import Derived.Shelf.Strings.Search1
import Derived.Shelf.Strings.Search2
import Derived.Shelf.Strings.Search3
import Derived.Shelf.Strings.Count
import Derived.Shelf.Strings.Shaped
import Derived.Shelf.Strings.Split
import Derived.Shelf.Strings.Fields
import Derived.Shelf.Strings.SplitShaped
import Derived.Shelf.Unicode.Latin
import Derived.Shelf.Unicode.DecodeSlow
import Derived.Shelf.Unicode.Is16White
import Derived.Shelf.Unicode.IsSpaceAny
import Derived.Shelf.Unicode.Is16Any
import Derived.Shelf.Unicode.Is32Any
import Derived.Shelf.Unicode.ExclAny
import Derived.Test.YtkfhklmklhnfaaaGreatDoorProg
import Derived.Laws.Bits64
import Derived.KernelRfl
import Derived.Laws.RangeString
import Derived.Laws.RangeAny
import Derived.Lib.DecodeN
import Derived.Test.YtkfhklmklhnfaaaGreatDoorT0
import Derived.Test.YtkfhklmklhnfaaaGreatDoorT1
import Derived.Test.YtkfhklmklhnfaaaGreatDoorT2
set_option linter.unusedSimpArgs false
set_option linter.unusedVariables false
set_option linter.unusedSectionVars false
set_option maxRecDepth 100000
namespace Go.AM
open Go
def ccB (i : Nat) (H : Hp) : Option AObj → Option (Value × Hp)
  | some (.cells [.pointer none, v] true) => if H.ty i = some T.strings_Builder then some (.tuple #[], H.set i (some (.cells [.pointer (some ⟨i, 0, none⟩), v] true))) else none
  | some (.cells [.pointer (some ⟨j, 0, none⟩), v] true) => if j = i ∧ H.ty i = some T.strings_Builder then some (.tuple #[], H) else none
  | _ => none
def extCC (l : List Value) (H : Hp) : Option (Value × Hp) :=
  match l with
  | [.pointer (some ⟨i, 0, none⟩)] => ccB i H (H.get i)
  | _ => none
def ziP : List Value → Option (List UInt8)
  | [] => some []
  | .int .u8 (.ofNat n) :: r => if n < 256 then (match ziP r with
    | some l => some (UInt8.ofNat n :: l)
    | none => none) else none
  | _ => none
def strB2 (i j n : Nat) (H : Hp) : Option AObj → Option (Value × Hp)
  | some (.cells cs true) => if H.ty i = some T.strings_Builder ∧ H.ty j = some T.uint8 ∧ 0 < n ∧ n ≤ cs.length ∧ n ≤ 2 ^ 60 then (match ziP (cs.take n) with
    | some l => some (.string ⟨l.toArray⟩, H.set j (some (.cells cs false)))
    | none => none) else none
  | _ => none
def strB (i : Nat) (H : Hp) : Option AObj → Option (Value × Hp)
  | some (.cells [_, .slice none 0 0] _) => if H.ty i = some T.strings_Builder then some (.string ⟨#[]⟩, H) else none
  | some (.cells [_, .slice (some ⟨j, 0, some 1⟩) n c] _) => strB2 i j n H (H.get j)
  | _ => none
def znS (l : List Value) (H : Hp) : Option (Value × Hp) :=
  match l with
  | [.pointer (some ⟨i, 0, none⟩)] => strB i H (H.get i)
  | _ => none
theorem zhi : ∀ (cs : List Value) (l : List UInt8), ziP cs = some l → cs = l.map fun b => Value.int .u8 (b.toNat : Int)
  | [], l, h => by cases h; rfl
  | v :: r, l, h => by
    unfold ziP at h
    split at h
    · rename_i q; cases q
    · rename_i n r' q
      cases q
      split at h
      · rename_i hn
        split at h
        · rename_i l' hl
          cases h
          rw [List.map_cons, ← zhi _ _ hl]
          have : (UInt8.ofNat n).toNat = n := by simp [UInt8.toNat_ofNat]; omega
          rw [this]; rfl
        · cases h
      · cases h
    · cases h
theorem LRel.single {β : Bt} {a : Value} {l : List Value} (h : LRel β [a] l) : ∃ a', l = [a'] ∧ VRel β a a' := by
  obtain ⟨hl, hv⟩ := h
  match l, hl with
  | [x], _ => exact ⟨x, rfl, hv 0 _ _ rfl rfl⟩
theorem znc {w : World} {b : Nat} {arr : Array Value} {e : TypeId} {fz : Nat × Nat} (h : w.heap[b]? = some (.cells arr e fz)) : w.shape? b = some (e, arr.size) := by
  unfold World.shape?
  rw [h]
theorem zlJ (w : World) (b n : Nat) : (w.freeze ⟨b, 0, none⟩ n).heap.size = w.heap.size ∧ (∀ k, k ≠ b → (w.freeze ⟨b, 0, none⟩ n).heap[k]? = w.heap[k]?) ∧
    (∀ arr e fz, w.heap[b]? = some (.cells arr e fz) → ∃ fz', (w.freeze ⟨b, 0, none⟩ n).heap[b]? = some (.cells arr e fz')) ∧ (w.freeze ⟨b, 0, none⟩ n).os = w.os ∧ (w.freeze ⟨b, 0, none⟩ n).tape = w.tape ∧ (w.freeze ⟨b, 0, none⟩ n).output = w.output := by
  unfold World.freeze
  split
  · exact ⟨rfl, fun _ _ => rfl, fun arr e fz h => ⟨fz, h⟩, rfl, rfl, rfl⟩
  · refine ⟨by simp, fun k hk => ?_, fun arr e fz h => ?_, rfl, rfl, rfl⟩
    · simp only [Array.getElem?_modify]
      rw [if_neg (by omega)]
    · simp only [Array.getElem?_modify, if_true, h, Option.map_some]
      exact ⟨_, rfl⟩
theorem extCC_ok {args : List Value} {H : Hp} {v : Value} {H' : Hp} (he : extCC args H = some (v, H')) {args' : List Value} {w : World} {β : Bt} (hl : LRel β args args') (hR : Rel PP w H β) :
    Calls PP F.a39 args'.toArray w fun x w' => ∃ v' β', x = .returned v' ∧ Rel PP w' H' β' ∧ Ext w.heap.size w H β w' H' β' ∧ VRel β' v v' := by
  have key : ∀ (i : Nat) (p u : Value), H.get i = some (.cells [p, u] true) → H.ty i = some T.strings_Builder → ∀ x, β i = some x → x.s = 0 ∧ ∃ arr fz, w.heap[x.b]? = some (.cells arr T.strings_Builder fz) ∧ arr.size = x.t ∧ 2 ≤ arr.size ∧ (∀ j, j < x.t → ¬ (fz.1 ≤ j ∧ j < fz.2)) ∧
      ∃ p', w.cell? ⟨x.b, 0, none⟩ = some p' ∧ VRel β p p' := by
    intro i p u hg hty x hx
    obtain ⟨x', hx', h1, h2⟩ := hR.cells i _ true hg
    rw [hx] at hx'; cases hx'
    obtain ⟨⟨arr, e, fz, g1, g2, g3⟩, g4⟩ := h2 rfl
    obtain ⟨x2, arr2, fz2, hx2, hs0, g5, g6⟩ := hR.tys i _ hty
    rw [hx] at hx2; cases hx2
    rw [g1] at g5; cases g5
    obtain ⟨p', a1, a2⟩ := h1 0 p rfl
    rw [hs0] at a1 g4
    have g4 : 0 + 2 ≤ x.t := g4
    exact ⟨hs0, arr, fz, g1, g2, by omega, g3, p', a1, a2⟩
  unfold extCC at he
  split at he
  · rename_i i
    obtain ⟨a', rfl, ha⟩ := hl.single
    cases ha with
    | ptr _ _ x hx =>
    unfold ccB at he
    split at he
    · rename_i u hg
      split at he
      · rename_i hty
        cases he
        obtain ⟨hs0, arr, fz, g1, g2, g3, g4, p', c0, r0⟩ := key i _ _ hg hty x hx
        cases r0
        have hput := zhW w x.b 0 (.pointer (some ⟨x.b, 0, none⟩)) arr _ fz g1 (by omega)
        have hfz : w.frozen? ⟨x.b, 0, none⟩ = false := zhf g1 (g4 0 (by omega))
        have hcall := cc_fresh x.b arr.size g3 w c0 (znc g1) hfz
        rw [hs0]
        refine hcall.mono fun e w' ⟨h1, h2⟩ => ?_
        subst h2
        have hv : LRel β [Value.pointer (some ⟨i, 0, none⟩)] [Value.pointer (some ⟨x.b, 0, none⟩)] := by
          have := VRel.ptr (β := β) i 0 x hx
          rw [hs0] at this
          exact LRel.cons this (LRel.nil _)
        obtain ⟨k1, k2⟩ := hR.write hg hx (off := 0) (vs := [Value.pointer (some ⟨i, 0, none⟩)]) (vs' := [Value.pointer (some ⟨x.b, 0, none⟩)]) (by simp) hv (by rw [hs0]; exact hput)
        exact ⟨_, β, h1, k1, k2, .tuple [] [] rfl (fun k v v' h => by cases h)⟩
      · cases he
    · rename_i j u hg
      split at he
      · rename_i hj
        cases he
        obtain ⟨rfl, hty⟩ := hj
        obtain ⟨hs0, arr, fz, g1, g2, g3, g4, p', c0, r0⟩ := key _ _ _ hg hty x hx
        cases r0 with
        | ptr _ _ y hy =>
        rw [hx] at hy; cases hy
        rw [hs0] at c0 ⊢
        refine (cc_used x.b w c0).mono fun e w' ⟨h1, h2⟩ => ?_
        subst h2
        exact ⟨_, β, h1, hR, Ext.refl _ _ _ _, .tuple [] [] rfl (fun k v v' h => by cases h)⟩
      · cases he
    · cases he
  · cases he
theorem extStr_ok {args : List Value} {H : Hp} {v : Value} {H' : Hp} (he : znS args H = some (v, H')) {args' : List Value} {w : World} {β : Bt} (hl : LRel β args args') (hR : Rel PP w H β) :
    Calls PP F.a38 args'.toArray w fun x w' => ∃ v' β', x = .returned v' ∧ Rel PP w' H' β' ∧ Ext w.heap.size w H β w' H' β' ∧ VRel β' v v' := by
  have zero : ∀ i x, H.ty i = some T.strings_Builder → β i = some x → x.s = 0 := fun i x hty hx => by
    obtain ⟨x2, arr2, fz2, hx2, hs0, _⟩ := hR.tys i _ hty
    rw [hx] at hx2; cases hx2; exact hs0
  unfold znS at he
  split at he
  · rename_i i
    obtain ⟨a', rfl, ha⟩ := hl.single
    cases ha with
    | ptr _ _ x hx =>
    unfold strB at he
    split at he
    · rename_i p own hg
      split at he
      · rename_i hty
        cases he
        have hs0 := zero i x hty hx
        obtain ⟨x', hx', h1, _⟩ := hR.cells i _ _ hg
        rw [hx] at hx'; cases hx'
        obtain ⟨v', c1, r1⟩ := h1 1 _ rfl
        cases r1
        rw [hs0] at c1 ⊢
        refine (str_nil x.b w c1).mono fun e w' ⟨g1, g2, g3, g4, g5⟩ => ?_
        have hw : ∀ b : Nat, w'.heap[b]? = w.heap[b]? := fun b => by rw [g2]
        exact ⟨_, β, g1, hR.frame (by rw [g2]; exact Nat.le_refl _) (fun _ _ _ => hw _), ⟨g3, g4, g5, by rw [g2]; exact Nat.le_refl _, Bt.le_refl _, Nat.le_refl _, fun b _ _ => hw b, fun b q => .inr q, fun i x hx hn => by rw [hn] at hx; cases hx⟩, .string _⟩
      · cases he
    · rename_i p j n c own hg
      unfold strB2 at he
      split at he
      · rename_i cs hgj
        split at he
        · rename_i hc
          obtain ⟨hty, htj, hn0, hn, hn60⟩ := hc
          split at he
          · rename_i l hb
            cases he
            have hs0 := zero i x hty hx
            obtain ⟨x', hx', h1, _⟩ := hR.cells i _ _ hg
            rw [hx] at hx'; cases hx'
            obtain ⟨v', c1, r1⟩ := h1 1 _ rfl
            cases r1 with
            | slice _ _ _ _ _ y o' c' hy hnc hcc ht hoo =>
            obtain ⟨y2, arr, fz, hy2, ys0, k1, k2⟩ := hR.tys j _ htj
            rw [hy] at hy2; cases hy2
            have ho' : o' = 0 := by have := hoo (by omega); omega
            subst ho'
            have hcl := zhi _ _ hb
            have hlen : l.length = n := by
              have := congrArg List.length hcl
              rw [List.length_take, List.length_map] at this
              omega
            obtain ⟨y3, hy3, m1, m2⟩ := hR.cells j _ _ hgj
            rw [hy] at hy3; cases hy3
            obtain ⟨_, m3⟩ := m2 rfl
            have hcell : ∀ q b, l[q]? = some b → w.cell? ((⟨y.b, 0, none⟩ : Addr).add q) = some (.int .u8 b.toNat) := fun q b hq => by
              have hq' : cs[q]? = some (.int .u8 (b.toNat : Int)) := by
                have e1 : (cs.take n)[q]? = some (Value.int .u8 (b.toNat : Int)) := by rw [hcl, List.getElem?_map, hq]; rfl
                rw [List.getElem?_take] at e1
                split at e1
                · exact e1
                · cases e1
              obtain ⟨v2, d1, d2⟩ := m1 q _ hq'
              cases d2
              have ea : (⟨y.b, 0, none⟩ : Addr).add q = ⟨y.b, y.s + q, none⟩ := by
                rw [ys0]; unfold Addr.add; split <;> simp_all
              rw [ea]; exact d1
            rw [hs0] at c1 ⊢
            rw [← hlen] at c1
            have hne : l ≠ [] := fun q => by rw [q] at hlen; simp at hlen; omega
            refine (str_row x.b y.b c' arr.size l hne (by omega) (by omega) (by omega) w c1 (znc k1) hcell).mono fun e w' ⟨g1, w0, g2, g3, g4, g5, g6⟩ => ?_
            subst g6
            obtain ⟨f1, f2, f3, f4, f5, f6⟩ := zlJ w0 y.b l.length
            obtain ⟨q1, q2⟩ := hR.freeze (w' := w0.freeze ⟨y.b, 0, none⟩ l.length) hgj hy (f4.trans g3) (f5.trans g4) (f6.trans g5) (by rw [f1, g2]) (fun k hk => by rw [f2 k hk, g2]) (fun arr e fz hh => f3 arr e fz (by rw [g2]; exact hh))
            exact ⟨_, β, g1, q1, q2, .string _⟩
          · cases he
        · cases he
      · cases he
    · cases he
  · cases he
end Go.AM
namespace Go.AM
open Go Go.AM
noncomputable def zaJ (R : zad) (x1 : Value) (v3 : Value) (l13 : List Value) (H14 : Hp) : Option Outc :=
 pLen .sl x1 H14 fun v15 =>
 pBin PP .lss T.int (l13.getD 0 undef) v15 fun v16 =>
 zaa v16 fun b17 => br b17
 (pIdx 16 x1 (l13.getD 0 undef) fun p18 =>
 zaj 16 true H14 p18 fun v19 =>
 zae R F.a53 [v3, v19] H14 fun r20 H21 =>
 pBin PP .add T.int (l13.getD 0 undef) (.int .i64 1) fun v22 =>
 some (.next, [v22], H21))
 (some (.exit 0, [(l13.getD 0 undef)], H14))
theorem zex (R : zad) (x0 x1 x2 : Value) (H0 : Hp) : zch R x0 x1 x2 H0 =
zae R F.a31 [x0] H0 fun r1 H2 =>
 zac r1 0 fun v3 =>
 zac r1 1 fun v4 =>
 zav (
 pBin PP .eql T.p_term_Store v3 (.pointer none) fun v5 =>
 zaa v5 fun b6 => br b6
 (some (.ret, [v4], H2))
 (pUn .not v4 fun v7 =>
 zaa v7 fun b8 => br b8
 (some (.ret, [v4], H2))
 (some (.next, [], H2)))) fun q9 l10 H11 => zaD q9
 (zav (zaG (zaJ R x1 v3) [(.int .i64 0)] H11) fun q23 l24 H25 => zaD q23 none
 (fun i26 => zaA i26 0 (
 zao 1 [.int .i64 0] 0 [] H25 fun v27 H28 =>
 zaF 1 8 v27 x2 H28 fun v29 H30 =>
 zae R F.a18 [v3, v29] H30 fun r31 H32 =>
 zac r31 0 fun v33 =>
 zac r31 1 fun v34 =>
 zao 1 [.int .i64 0] 0 [] H32 fun v35 H36 =>
 zaF 1 8 v35 x2 H36 fun v37 H38 =>
 zae R F.a13 [v3, v37] H38 fun r39 H40 =>
 zac r39 0 fun v41 =>
 zac r39 1 fun v42 =>
 pBin PP .neq T.api_Errno v34 v42 fun v43 =>
 zaa v43 fun b44 => br b44
 (some ((.bool false), H40))
 (pBin PP .neq T.api_Errno v34 (.int .i64 0) fun v45 =>
 zaa v45 fun b46 => br b46
 (pBin PP .eql T.string v33 (.string ⟨#[]⟩) fun v47 =>
 zaa v47 fun b48 => br b48
 (pLen .sl v41 H40 fun v49 =>
 pBin PP .eql T.int v49 (.int .i64 0) fun v50 =>
 zaa v50 fun b51 => br b51
 (pBin PP .eql T.api_Errno v34 (.int .i64 70) fun v52 =>
 some (v52, H40))
 (some ((.bool false), H40)))
 (some ((.bool false), H40)))
 (zdN R F.a8 [v33, (.int .i64 0)] H40 fun r53 H54 =>
 zac r53 0 fun v55 =>
 zac r53 1 fun v56 =>
 zac r53 2 fun v57 =>
 zac r53 3 fun v58 =>
 zav (
 pBin PP .eql T.p_term_Store v55 (.pointer none) fun v59 =>
 zaa v59 fun b60 => br b60
 (some (.ret, [(.bool false)], H54))
 (pBin PP .neq T.api_Errno v58 (.int .i64 0) fun v61 =>
 zaa v61 fun b62 => br b62
 (some (.ret, [(.bool false)], H54))
 (pBin PP .neq T.int v57 (.int .i64 0) fun v63 =>
 zaa v63 fun b64 => br b64
 (some (.ret, [(.bool false)], H54))
 (zae R F.a45 [v55] H54 fun r65 H66 =>
 pLen .sl v41 H66 fun v67 =>
 pBin PP .neq T.int r65 v67 fun v68 =>
 zaa v68 fun b69 => br b69
 (some (.ret, [(.bool false)], H66))
 (pLen .sl v56 H66 fun v70 =>
 pLen .sl x2 H66 fun v71 =>
 pBin PP .neq T.int v70 v71 fun v72 =>
 zaa v72 fun b73 => br b73
 (some (.ret, [(.bool false)], H66))
 (some (.next, [], H66))))))) fun q74 l75 H76 => zaD q74
 (zae R F.a18 [v55, v56] H76 fun r78 H79 =>
 zac r78 0 fun v80 =>
 zac r78 1 fun v81 =>
 zav (
 pBin PP .neq T.string v80 v33 fun v82 =>
 zaa v82 fun b83 => br b83
 (some (.ret, [(.bool false)], H79))
 (pBin PP .neq T.api_Errno v81 (.int .i64 0) fun v84 =>
 zaa v84 fun b85 => br b85
 (some (.ret, [(.bool false)], H79))
 (some (.next, [], H79)))) fun q86 l87 H88 => zaD q86
 (pLen .sl v41 H88 fun v90 =>
 pBin PP .eql T.int v90 (.int .i64 0) fun v91 =>
 zaa v91 fun b92 => br b92
 (some ((.bool true), H88))
 (pLen .sl v41 H88 fun v93 =>
 zdN R F.a8 [v33, v93] H88 fun r94 H95 =>
 zac r94 0 fun v96 =>
 zac r94 1 fun v97 =>
 zac r94 2 fun v98 =>
 zac r94 3 fun v99 =>
 zav (
 pBin PP .eql T.p_term_Store v96 (.pointer none) fun v100 =>
 zaa v100 fun b101 => br b101
 (some (.ret, [(.bool false)], H95))
 (pBin PP .neq T.api_Errno v99 (.int .i64 0) fun v102 =>
 zaa v102 fun b103 => br b103
 (some (.ret, [(.bool false)], H95))
 (some (.next, [], H95)))) fun q104 l105 H106 => zaD q104
 (pLen .sl v41 H106 fun v108 =>
 pBin PP .eql T.int v108 (.int .i64 1) fun v109 =>
 zaa v109 fun b110 => br b110
 (some ((.bool true), H106))
 (pLen .sl v41 H106 fun v111 =>
 pBin PP .sub T.int v111 (.int .i64 1) fun v112 =>
 zdN R F.a8 [v33, v112] H106 fun r113 H114 =>
 zac r113 0 fun v115 =>
 zac r113 1 fun v116 =>
 zac r113 2 fun v117 =>
 zac r113 3 fun v118 =>
 pBin PP .eql T.p_term_Store v115 (.pointer none) fun v119 =>
 zaa v119 fun b120 => br b120
 (pBin PP .eql T.api_Errno v118 (.int .i64 4) fun v121 =>
 zaa v121 fun b122 => br b122
 (pLen .sl v41 H114 fun v123 =>
 pBin PP .eql T.int v117 v123 fun v124 =>
 some (v124, H114))
 (some ((.bool false), H114)))
 (some ((.bool false), H114))))
 (fun i107 => none)
 (some ((l105.headD undef), H106))))
 (fun i89 => none)
 (some ((l87.headD undef), H88)))
 (fun i77 => none)
 (some ((l75.headD undef), H76))))) (
 none))
 (some ((l24.headD undef), H25)))
 (fun i12 => none)
 (some ((l10.headD undef), H11)) := by kernel_rfl
noncomputable def zbc (R : zad) (v49 : Value) (p3 : Value) (p40 : Value) (l76 : List Value) (H77 : Hp) : Option Outc :=
 pNil p40 (
 zar 1 p40 fun p78 =>
 zaj 1 false H77 p78 fun v79 =>
 pLen .sl v79 H77 fun v80 =>
 pBin PP .gtr T.int v80 (.int .i64 0) fun v81 =>
 zaa v81 fun b82 => br b82
 (zaj 1 false H77 p3 fun v83 =>
 za7 R F.a48 [p40] H77 (fun e84 H85 =>
 some (.ret, [(W0 (.tuple #[e84, v49]))], H85)) fun r86 H87 =>
 chk (Hp.rdP H87 p3 1 false = some v83) (
 zao 1 [.int .i64 0] 1 [(0, r86)] H87 fun v88 H89 =>
 chk (Hp.rdP H89 p3 1 false = some v83) (
 zaF 1 8 v83 v88 H89 fun v90 H91 =>
 zam 1 H91 p3 v90 fun H92 =>
 some (.next, [], H92))))
 (some (.exit 2, [], H77)))
noncomputable def zaO (R : zad) (v42 : Value) (p3 : Value) (p40 : Value) (l35 : List Value) (l43 : List Value) (H44 : Hp) : Option Outc :=
 pBin PP .lss T.int (l43.getD 2 undef) v42 fun v45 =>
 zaa v45 fun b46 => br b46
 (pIdx 1 (l35.getD 0 undef) (l43.getD 2 undef) fun p47 =>
 zaj 1 false H44 p47 fun v48 =>
 pBin PP .add T.int (l43.getD 2 undef) (.int .i64 1) fun v49 =>
 zae R F.a12 [v48, (.func (.func F.a10) #[] #[])] H44 fun r50 H51 =>
 pNil p40 (
 zar 1 p40 fun p52 =>
 zam 1 H51 p52 r50 fun H53 =>
 zav (
 zaa (l43.getD 1 undef) fun b54 => br b54
 (zau PP T.term_fault [(0, (.int .i64 3))] fun v55 =>
 some (.ret, [(W0 (.tuple #[(.iface T.term_fault v55), v49]))], H53))
 (pNil p40 (
 zar 1 p40 fun p56 =>
 zaj 1 false H53 p56 fun v57 =>
 pLen .sl v57 H53 fun v58 =>
 pBin PP .eql T.int v58 (.int .i64 0) fun v59 =>
 zaa v59 fun b60 => br b60
 (zau PP T.term_fault [(0, (.int .i64 3))] fun v61 =>
 some (.ret, [(W0 (.tuple #[(.iface T.term_fault v61), v49]))], H53))
 (some (.next, [], H53))))) fun q62 l63 H64 => zaD q62
 (pNil p40 (
 zar 1 p40 fun p66 =>
 zaj 1 false H64 p66 fun v67 =>
 pIdx 1 v67 (.int .i64 0) fun p68 =>
 zaj 1 false H64 p68 fun v69 =>
 pBin PP .eql T.string v69 (.string ⟨#[114, 111, 111, 116, 115]⟩) fun v70 =>
 zaa v70 fun b71 => br b71
 (za7 R F.a3 [p40] H64 (fun e72 H73 =>
 some (.ret, [(W0 (.tuple #[e72, v49]))], H73)) fun r74 H75 =>
 zav (zaG (zbc R v49 p3 p40) [] H75) fun q93 l94 H95 => zaD q93 none
 (fun i96 => zaA i96 2 (
 pBin PP .add T.int (l43.getD 2 undef) (.int .i64 1) fun v97 =>
 some (.next, [v49, (.bool true), v97], H95)) (
 zaA i96 1 (
 pBin PP .add T.int (l43.getD 2 undef) (.int .i64 1) fun v98 =>
 some (.next, [v49, (l43.getD 1 undef), v98], H95)) (
 some (.exit i96, [v49, (l43.getD 1 undef), (l43.getD 2 undef)], H95))))
 (some (.ret, [(l94.headD undef)], H95)))
 (za7 R F.a2 [p40] H64 (fun e99 H100 =>
 some (.ret, [(W0 (.tuple #[e99, v49]))], H100)) fun r101 H102 =>
 pBin PP .add T.int (l43.getD 2 undef) (.int .i64 1) fun v103 =>
 pBin PP .neq T.int r101 v103 fun v104 =>
 zaa v104 fun b105 => br b105
 (zau PP T.term_fault [(0, (.int .i64 3))] fun v106 =>
 some (.ret, [(W0 (.tuple #[(.iface T.term_fault v106), v49]))], H102))
 (za7 R F.a14 [p40] H102 (fun e107 H108 =>
 some (.ret, [(W0 (.tuple #[e107, v49]))], H108)) fun r109 H110 =>
 pNil p40 (
 zar 2 p40 fun p111 =>
 zaj 1 false H110 p111 fun v112 =>
 zao 1 [.int .i64 0] 1 [(0, r109)] H110 fun v113 H114 =>
 zaF 1 8 v112 v113 H114 fun v115 H116 =>
 pNil p40 (
 zar 2 p40 fun p117 =>
 zam 1 H116 p117 v115 fun H118 =>
 pBin PP .add T.int (l43.getD 2 undef) (.int .i64 1) fun v119 =>
 some (.next, [v49, (l43.getD 1 undef), v119], H118)))))))
 (fun i65 => zaA i65 1 (
 pBin PP .add T.int (l43.getD 2 undef) (.int .i64 1) fun v120 =>
 some (.next, [v49, (l43.getD 1 undef), v120], H64)) (
 some (.exit i65, [v49, (l43.getD 1 undef), (l43.getD 2 undef)], H64)))
 (some (.ret, [(l63.headD undef)], H64))))
 (some (.exit 0, [(l43.getD 0 undef), (l43.getD 1 undef), (l43.getD 2 undef)], H44))
theorem zmK (R : zad) (x0 x1 : Value) (H0 : Hp) : zis R x0 x1 H0 =
zdx [.pointer none] H0 fun p1 H2 =>
 zdx [.slice none 0 0] H2 fun p3 H4 =>
 zdx [.int .i64 0] H4 fun p5 H6 =>
 zae R F.a16 [x1] H6 fun r7 H8 =>
 zac r7 0 fun v9 =>
 zac r7 1 fun v10 =>
 zam 1 H8 p1 v9 fun H11 =>
 zam 1 H11 p5 v10 fun H12 =>
 zaj 1 false H12 p5 fun v13 =>
 pBin PP .neq T.api_Errno v13 (.int .i64 0) fun v14 =>
 zaa v14 fun b15 => br b15
 (zaj 1 false H12 p5 fun v16 =>
 zam 1 H12 p1 (.pointer none) fun H17 =>
 chk (Hp.rdP H17 p5 1 false = some v16) (
 zam 1 H17 p3 (.slice none 0 0) fun H18 =>
 chk (Hp.rdP H18 p5 1 false = some v16) (
 zam 1 H18 p5 v16 fun H19 =>
 zaj 1 false H19 p1 fun v20 =>
 zaj 1 false H19 p3 fun v21 =>
 zaj 1 false H19 p5 fun v22 =>
 some ((W1 (.tuple #[v20, v21, (.int .i64 0), v22])), H19))))
 (zae R F.a42 [x0, (.string ⟨#[10]⟩)] H12 fun r23 H24 =>
 zav (
 pLen .sl r23 H24 fun v25 =>
 pBin PP .sub T.int v25 (.int .i64 1) fun v26 =>
 pIdx 1 r23 v26 fun p27 =>
 zaj 1 false H24 p27 fun v28 =>
 pBin PP .eql T.string v28 (.string ⟨#[]⟩) fun v29 =>
 zaa v29 fun b30 => br b30
 (pLen .sl r23 H24 fun v31 =>
 pBin PP .sub T.int v31 (.int .i64 1) fun v32 =>
 zc3 1 r23 none (some v32) fun v33 =>
 some (.next, [v33], H24))
 (some (.next, [r23], H24))) fun q34 l35 H36 => zaD q34
 (zgD (
 zaj 1 false H36 p1 fun v38 =>
 zau PP T.term_reader [(0, v38)] fun v39 =>
 zdx (zab v39) H36 fun p40 H41 =>
 pLen .sl (l35.getD 0 undef) H41 fun v42 =>
 zav (zaG (zaO R v42 p3 p40 l35) [(.int .i64 0), (.bool false), (.int .i64 0)] H41) fun q121 l122 H123 => zaD q121 none
 (fun i124 => zaA i124 0 (
 pLen .sl (l35.getD 0 undef) H123 fun v125 =>
 pBin PP .add T.int v125 (.int .i64 1) fun v126 =>
 pUn .not (l122.getD 1 undef) fun v127 =>
 zaa v127 fun b128 => br b128
 (zau PP T.term_fault [(0, (.int .i64 3))] fun v129 =>
 some ((W0 (.tuple #[(.iface T.term_fault v129), v126])), H123))
 (zaj 1 false H123 p1 fun v130 =>
 zaj 1 false H123 p3 fun v131 =>
 zam 1 H123 p1 v130 fun H132 =>
 chk (Hp.rdP H132 p3 1 false = some v131) (
 zam 1 H132 p3 v131 fun H133 =>
 zam 1 H133 p5 (.int .i64 0) fun H134 =>
 zaj 1 false H134 p1 fun v135 =>
 zaj 1 false H134 p3 fun v136 =>
 zaj 1 false H134 p5 fun v137 =>
 some ((W1 (.tuple #[v135, v136, (.int .i64 0), v137])), H134)))) (
 none))
 (some ((l122.headD undef), H123))) fun v138 H139 => zeU v138
 (fun u140 => zjY [.cell 4 22, .cell 5 23, .tmp 6, .cell 7 24] u140 fun l141 => zlk [.cell 4 22, .cell 5 23, .tmp 6, .cell 7 24] l141 fun l142 => zgy PP orc R F.a44 [p1, p3, p5] .nilIface H139 fun H143 => endL PP [.val x0, .val x1, .unk, .unk, .val p1, .val p3, .val (.int .i64 0), .val p5, .val (l35.getD 0 undef), .unk, .unk, .unk, .unk, .unk, .val r7, .val x1, .val r7, .val v9, .val v10, .val v13, .val v14, .unk, .val x0, .val r23, .unk, .unk, .unk, .unk, .unk, .unk, .unk, .unk, .unk, .unk, .unk, .unk, .val (.func (.func F.a44) #[] #[p1, p3, p5]), .unk, .unk, .unk, .unk, .unk, .unk, .unk, .unk, .unk, .unk, .unk, .unk, .unk, .unk, .unk, .unk, .unk, .unk, .unk, .unk, .unk, .unk, .unk, .unk, .unk, .unk, .unk, .unk, .unk, .unk, .unk, .unk, .unk, .unk, .unk, .unk, .unk, .unk, .unk, .unk, .unk, .unk, .unk, .unk, .unk, .unk, .unk, .unk, .unk, .unk, .unk, .unk, .unk, .unk, .unk, .unk, .unk, .unk, .unk, .unk, .unk, .unk, .unk, .unk, .unk, .unk, .unk, .unk, .unk, .unk, .unk, .unk, .unk, .unk, .unk, .unk, .unk] H143 [.cell 4 22, .cell 5 23, .tmp 6, .cell 7 24] l142 fun l144 => some (W1 (resV l144), H143))
 (fun x145 => pTail x145 fun x146 l147 => zgy PP orc R F.a44 [p1, p3, p5] x146 H139 fun H148 => endL PP [.val x0, .val x1, .unk, .unk, .val p1, .val p3, .val (.int .i64 0), .val p5, .val (l35.getD 0 undef), .unk, .unk, .unk, .unk, .unk, .val r7, .val x1, .val r7, .val v9, .val v10, .val v13, .val v14, .unk, .val x0, .val r23, .unk, .unk, .unk, .unk, .unk, .unk, .unk, .unk, .unk, .unk, .unk, .unk, .val (.func (.func F.a44) #[] #[p1, p3, p5]), .unk, .unk, .unk, .unk, .unk, .unk, .unk, .unk, .unk, .unk, .unk, .unk, .unk, .unk, .unk, .unk, .unk, .unk, .unk, .unk, .unk, .unk, .unk, .unk, .unk, .unk, .unk, .unk, .unk, .unk, .unk, .unk, .unk, .unk, .unk, .unk, .unk, .unk, .unk, .unk, .unk, .unk, .unk, .unk, .unk, .unk, .unk, .unk, .unk, .unk, .unk, .unk, .unk, .unk, .unk, .unk, .unk, .unk, .unk, .unk, .unk, .unk, .unk, .unk, .unk, .unk, .unk, .unk, .unk, .unk, .unk, .unk, .unk, .unk, .unk, .unk, .unk] H148 [.cell 4 22, .cell 5 23, .tmp 6, .cell 7 24] l147 fun l149 => some (W1 (resV l149), H148)))
 (fun i37 => none)
 (retT (l35.headD undef) H36)) := by kernel_rfl
noncomputable def za3 (R : zad) (v9 : Value) (r64 : Value) (p7 : Value) (c27 : List Value) (l66 : List Value) (H67 : Hp) : Option Outc :=
 pBin PP .lss T.int (l66.getD 0 undef) r64 fun v68 =>
 zaa v68 fun b69 => br b69
 (zag 1 false c27 2 fun v70 =>
 zag 1 false c27 3 fun v71 =>
 zag 1 false c27 4 fun v72 =>
 zau PP T.a3_int [(0, v70), (1, v71), (2, v72)] fun v73 =>
 zdw 3 false 1 v73 (l66.getD 0 undef) fun v74 =>
 zfo PP T.int (.int .i64 0) v9 v74 false H67 fun v75 =>
 zae R F.a5 [v75, p7] H67 fun r76 H77 =>
 pBin PP .add T.int (l66.getD 0 undef) (.int .i64 1) fun v78 =>
 some (.next, [v78], H77))
 (some (.exit 3, [(l66.getD 0 undef)], H67))
noncomputable def zax (R : zad) (x0 : Value) (v3 : Value) (v9 : Value) (v13 : Value) (r11 : Value) (p7 : Value) (l14 : List Value) (H15 : Hp) : Option Outc :=
 pBin PP .lss T.int (l14.getD 0 undef) v13 fun v16 =>
 zaa v16 fun b17 => br b17
 (pIdx 1 v3 (l14.getD 0 undef) fun p18 =>
 zaj 1 false H15 p18 fun v19 =>
 pBin PP .add T.int (l14.getD 0 undef) (.int .i64 1) fun v20 =>
 pUpd PP T.int v9 v19 v20 H15 fun H21 =>
 pNil x0 (
 zar 1 x0 fun p22 =>
 zaj 1 false H21 p22 fun v23 =>
 pBin PP .sub T.int v19 (.int .i64 1) fun v24 =>
 pIdx 7 v23 v24 fun p25 =>
 zaj 7 true H21 p25 fun v26 =>
 zbx 7 [.int .i64 0, .int .i64 0, .int .i64 0, .int .i64 0, .int .i64 0, .int .u64 0, .string ⟨#[]⟩] 0 v26 fun c27 =>
 pBin PP .add T.int (l14.getD 0 undef) (.int .i64 1) fun v28 =>
 zae R F.a36 [v28] H21 fun r29 H30 =>
 pBin PP .add T.string r29 (.string ⟨#[32]⟩) fun v31 =>
 zag 1 false c27 0 fun v32 =>
 pIdx 1 r11 v32 fun p33 =>
 zaj 1 false H30 p33 fun v34 =>
 chk (Hp.rdP H21 p33 1 false = some v34) (
 pBin PP .add T.string v31 v34 fun v35 =>
 zae R F.a9 [p7, v35] H30 fun r36 H37 =>
 zav (
 zag 1 false c27 0 fun v38 =>
 pBin PP .eql T.int v38 (.int .i64 3) fun v39 =>
 zaa v39 fun b40 => br b40
 (zag 1 false c27 1 fun v41 =>
 zae R F.a5 [v41, p7] H37 fun r42 H43 =>
 zag 1 false c27 5 fun v44 =>
 zae R F.a29 [v44] H43 fun r45 H46 =>
 pBin PP .add T.string (.string ⟨#[32]⟩) r45 fun v47 =>
 zae R F.a9 [p7, v47] H46 fun r48 H49 =>
 some (.next, [], H49))
 (pBin PP .eql T.int v38 (.int .i64 4) fun v50 =>
 zaa v50 fun b51 => br b51
 (zag 1 false c27 6 fun v52 =>
 pBin PP .add T.string (.string ⟨#[32]⟩) v52 fun v53 =>
 zae R F.a9 [p7, v53] H37 fun r54 H55 =>
 zag 1 false c27 1 fun v56 =>
 zae R F.a5 [v56, p7] H55 fun r57 H58 =>
 some (.next, [], H58))
 (some (.next, [], H37)))) fun q59 l60 H61 => zaD q59
 (zag 1 false c27 0 fun v63 =>
 zae R F.a6 [v63] H61 fun r64 H65 =>
 zav (zaG (za3 R v9 r64 p7 c27) [(.int .i64 0)] H65) fun q79 l80 H81 => zaD q79 none
 (fun i82 => zaA i82 3 (
 zag 1 false c27 0 fun v83 =>
 pBin PP .eql T.int v83 (.int .i64 31) fun v84 =>
 zaa v84 fun b85 => br b85
 (zag 1 false c27 5 fun v86 =>
 zal .i64 v86 fun v87 =>
 zae R F.a5 [v87, p7] H81 fun r88 H89 =>
 zag 1 false c27 1 fun v90 =>
 zae R F.a5 [v90, p7] H89 fun r91 H92 =>
 zae R F.a7 [p7, (.int .u8 10)] H92 fun r93 H94 =>
 pBin PP .add T.int (l14.getD 0 undef) (.int .i64 1) fun v95 =>
 some (.next, [v95], H94))
 (pBin PP .eql T.int v83 (.int .i64 32) fun v96 =>
 zaa v96 fun b97 => br b97
 (zaa v96 fun b98 => br b98
 (zag 1 false c27 1 fun v99 =>
 zae R F.a5 [v99, p7] H81 fun r100 H101 =>
 zae R F.a7 [p7, (.int .u8 10)] H101 fun r102 H103 =>
 pBin PP .add T.int (l14.getD 0 undef) (.int .i64 1) fun v104 =>
 some (.next, [v104], H103))
 (zae R F.a7 [p7, (.int .u8 10)] H81 fun r105 H106 =>
 pBin PP .add T.int (l14.getD 0 undef) (.int .i64 1) fun v107 =>
 some (.next, [v107], H106)))
 (pBin PP .eql T.int v83 (.int .i64 33) fun v108 =>
 zaa v108 fun b109 => br b109
 (zag 1 false c27 1 fun v110 =>
 zae R F.a5 [v110, p7] H81 fun r111 H112 =>
 zae R F.a7 [p7, (.int .u8 10)] H112 fun r113 H114 =>
 pBin PP .add T.int (l14.getD 0 undef) (.int .i64 1) fun v115 =>
 some (.next, [v115], H114))
 (zae R F.a7 [p7, (.int .u8 10)] H81 fun r116 H117 =>
 pBin PP .add T.int (l14.getD 0 undef) (.int .i64 1) fun v118 =>
 some (.next, [v118], H117))))) (
 zaA i82 1 (
 pBin PP .add T.int (l14.getD 0 undef) (.int .i64 1) fun v119 =>
 some (.next, [v119], H81)) (
 some (.exit i82, [(l14.getD 0 undef)], H81))))
 (some (.ret, [(l80.headD undef)], H81)))
 (fun i62 => zaA i62 1 (
 pBin PP .add T.int (l14.getD 0 undef) (.int .i64 1) fun v120 =>
 some (.next, [v120], H61)) (
 some (.exit i62, [(l14.getD 0 undef)], H61)))
 (some (.ret, [(l60.headD undef)], H61)))))
 (some (.exit 0, [(l14.getD 0 undef)], H15))
noncomputable def za2 (R : zad) (x1 : Value) (v9 : Value) (v127 : Value) (p7 : Value) (l128 : List Value) (H129 : Hp) : Option Outc :=
 pBin PP .lss T.int (l128.getD 0 undef) v127 fun v130 =>
 zaa v130 fun b131 => br b131
 (pIdx 1 x1 (l128.getD 0 undef) fun p132 =>
 zaj 1 false H129 p132 fun v133 =>
 zfo PP T.int (.int .i64 0) v9 v133 false H129 fun v134 =>
 zae R F.a5 [v134, p7] H129 fun r135 H136 =>
 pBin PP .add T.int (l128.getD 0 undef) (.int .i64 1) fun v137 =>
 some (.next, [v137], H136))
 (some (.exit 6, [(l128.getD 0 undef)], H129))
theorem zgV (R : zad) (x0 x1 : Value) (H0 : Hp) : zek R x0 x1 H0 =
zae R F.a13 [x0, x1] H0 fun r1 H2 =>
 zac r1 0 fun v3 =>
 zac r1 1 fun v4 =>
 pBin PP .neq T.api_Errno v4 (.int .i64 0) fun v5 =>
 zaa v5 fun b6 => br b6
 (some ((.tuple #[(.string ⟨#[]⟩), v4]), H2))
 (zkk T.strings_Builder [.pointer none, .slice none 0 0] H2 fun p7 H8 =>
 zeu H8 fun v9 H10 =>
 zae R F.a26 [] H10 fun r11 H12 =>
 pLen .sl v3 H12 fun v13 =>
 zav (zaG (zax R x0 v3 v9 v13 r11 p7) [(.int .i64 0)] H12) fun q121 l122 H123 => zaD q121 none
 (fun i124 => zaA i124 0 (
 zae R F.a9 [p7, (.string ⟨#[114, 111, 111, 116, 115]⟩)] H123 fun r125 H126 =>
 pLen .sl x1 H126 fun v127 =>
 zav (zaG (za2 R x1 v9 v127 p7) [(.int .i64 0)] H126) fun q138 l139 H140 => zaD q138 none
 (fun i141 => zaA i141 6 (
 zae R F.a7 [p7, (.int .u8 10)] H140 fun r142 H143 =>
 zae R F.a38 [p7] H143 fun r144 H145 =>
 some ((.tuple #[r144, (.int .i64 0)]), H145)) (
 none))
 (some ((l139.headD undef), H140))) (
 none))
 (some ((l122.headD undef), H123))) := by kernel_rfl
noncomputable def zaM (R : zad) (x0 : Value) (x1 : Value) (v1 : Value) (l2 : List Value) (H3 : Hp) : Option Outc :=
 pBin PP .lss T.int (l2.getD 0 undef) v1 fun v4 =>
 zaa v4 fun b5 => br b5
 (pIdx 1 x1 (l2.getD 0 undef) fun p6 =>
 zaj 1 false H3 p6 fun v7 =>
 zae R F.a11 [x0, v7] H3 fun r8 H9 =>
 pUn .not r8 fun v10 =>
 zaa v10 fun b11 => br b11
 (some (.ret, [(.tuple #[(.slice none 0 0), (.int .i64 70)])], H9))
 (pBin PP .add T.int (l2.getD 0 undef) (.int .i64 1) fun v12 =>
 some (.next, [v12], H9)))
 (some (.exit 0, [(l2.getD 0 undef)], H3))
noncomputable def zat (R : zad) (x0 : Value) (v21 : Value) (l41 : List Value) (H42 : Hp) : Option Outc :=
 pLen .sl (l41.getD 1 undef) H42 fun v43 =>
 pBin PP .gtr T.int v43 (.int .i64 0) fun v44 =>
 zaa v44 fun b45 => br b45
 (pLen .sl (l41.getD 1 undef) H42 fun v46 =>
 pBin PP .sub T.int v46 (.int .i64 1) fun v47 =>
 pIdx 2 (l41.getD 1 undef) v47 fun p48 =>
 pNil x0 (
 zar 1 x0 fun p49 =>
 zaj 1 false H42 p49 fun v50 =>
 pNil p48 (
 zar 0 p48 fun p51 =>
 zaj 1 false H42 p51 fun v52 =>
 pBin PP .sub T.int v52 (.int .i64 1) fun v53 =>
 pIdx 7 v50 v53 fun p54 =>
 zaj 7 true H42 p54 fun v55 =>
 zbx 7 [.int .i64 0, .int .i64 0, .int .i64 0, .int .i64 0, .int .i64 0, .int .u64 0, .string ⟨#[]⟩] 0 v55 fun c56 =>
 pNil p48 (
 zar 1 p48 fun p57 =>
 zaj 1 false H42 p57 fun v58 =>
 zag 1 false c56 0 fun v59 =>
 zae R F.a6 [v59] H42 fun r60 H61 =>
 chk (Hp.rdP H61 p57 1 false = some v58) (
 pBin PP .eql T.int v58 r60 fun v62 =>
 zaa v62 fun b63 => br b63
 (pNil p48 (
 zar 0 p48 fun p64 =>
 zaj 1 false H61 p64 fun v65 =>
 zao 1 [.int .i64 0] 1 [(0, v65)] H61 fun v66 H67 =>
 zaF 1 8 (l41.getD 0 undef) v66 H67 fun v68 H69 =>
 pLen .sl (l41.getD 1 undef) H69 fun v70 =>
 pBin PP .sub T.int v70 (.int .i64 1) fun v71 =>
 zc3 2 (l41.getD 1 undef) none (some v71) fun v72 =>
 some (.next, [v68, v72], H69)))
 (zag 1 false c56 2 fun v73 =>
 zag 1 false c56 3 fun v74 =>
 zag 1 false c56 4 fun v75 =>
 zau PP T.a3_int [(0, v73), (1, v74), (2, v75)] fun v76 =>
 pNil p48 (
 zar 1 p48 fun p77 =>
 zaj 1 false H61 p77 fun v78 =>
 zdw 3 false 1 v76 v78 fun v79 =>
 pNil p48 (
 zar 1 p48 fun p80 =>
 zaj 1 false H61 p80 fun v81 =>
 pBin PP .add T.int v81 (.int .i64 1) fun v82 =>
 pNil p48 (
 zar 1 p48 fun p83 =>
 zam 1 H61 p83 v82 fun H84 =>
 pIdx 1 v21 v79 fun p85 =>
 zaj 1 false H84 p85 fun v86 =>
 pUn .not v86 fun v87 =>
 zaa v87 fun b88 => br b88
 (pIdx 1 v21 v79 fun p89 =>
 zam 1 H84 p89 (.bool true) fun H90 =>
 zau PP T.term_place [(0, v79), (1, (.int .i64 0))] fun v91 =>
 zao 2 [.int .i64 0, .int .i64 0] 1 [(0, v91)] H90 fun v92 H93 =>
 zaF 2 16 (l41.getD 1 undef) v92 H93 fun v94 H95 =>
 some (.next, [(l41.getD 0 undef), v94], H95))
 (some (.next, [(l41.getD 0 undef), (l41.getD 1 undef)], H84)))))))))))
 (some (.exit 4, [(l41.getD 0 undef), (l41.getD 1 undef)], H42))
noncomputable def zaL (R : zad) (x0 : Value) (x1 : Value) (v21 : Value) (v23 : Value) (l24 : List Value) (H25 : Hp) : Option Outc :=
 pBin PP .lss T.int (l24.getD 2 undef) v23 fun v26 =>
 zaa v26 fun b27 => br b27
 (pIdx 1 x1 (l24.getD 2 undef) fun p28 =>
 zaj 1 false H25 p28 fun v29 =>
 pIdx 1 v21 v29 fun p30 =>
 zaj 1 false H25 p30 fun v31 =>
 zaa v31 fun b32 => br b32
 (pBin PP .add T.int (l24.getD 2 undef) (.int .i64 1) fun v33 =>
 some (.next, [(l24.getD 0 undef), (l24.getD 1 undef), v33], H25))
 (pIdx 1 v21 v29 fun p34 =>
 zam 1 H25 p34 (.bool true) fun H35 =>
 zau PP T.term_place [(0, v29), (1, (.int .i64 0))] fun v36 =>
 zao 2 [.int .i64 0, .int .i64 0] 1 [(0, v36)] H35 fun v37 H38 =>
 zaF 2 16 (l24.getD 1 undef) v37 H38 fun v39 H40 =>
 zav (zaG (zat R x0 v21) [(l24.getD 0 undef), v39] H40) fun q96 l97 H98 => zaD q96 none
 (fun i99 => zaA i99 4 (
 pBin PP .add T.int (l24.getD 2 undef) (.int .i64 1) fun v100 =>
 some (.next, [(l97.getD 0 undef), (l97.getD 1 undef), v100], H98)) (
 zaA i99 3 (
 pBin PP .add T.int (l24.getD 2 undef) (.int .i64 1) fun v101 =>
 some (.next, [(l97.getD 0 undef), (l97.getD 1 undef), v101], H98)) (
 some (.exit i99, [(l97.getD 0 undef), (l97.getD 1 undef), (l24.getD 2 undef)], H98))))
 (some (.ret, [(l97.headD undef)], H98))))
 (some (.exit 2, [(l24.getD 0 undef), (l24.getD 1 undef), (l24.getD 2 undef)], H25))
theorem zd0 (R : zad) (x0 x1 : Value) (H0 : Hp) : zdV R x0 x1 H0 =
pLen .sl x1 H0 fun v1 =>
 zav (zaG (zaM R x0 x1 v1) [(.int .i64 0)] H0) fun q13 l14 H15 => zaD q13 none
 (fun i16 => zaA i16 0 (
 pNil x0 (
 zar 1 x0 fun p17 =>
 zaj 1 false H15 p17 fun v18 =>
 pLen .sl v18 H15 fun v19 =>
 pBin PP .add T.int v19 (.int .i64 1) fun v20 =>
 za1 1 1 [.bool false] v20 v20 H15 fun v21 H22 =>
 pLen .sl x1 H22 fun v23 =>
 zav (zaG (zaL R x0 x1 v21 v23) [(.slice none 0 0), (.slice none 0 0), (.int .i64 0)] H22) fun q102 l103 H104 => zaD q102 none
 (fun i105 => zaA i105 2 (
 some ((.tuple #[(l103.getD 0 undef), (.int .i64 0)]), H104)) (
 none))
 (some ((l103.headD undef), H104)))) (
 none))
 (some ((l14.headD undef), H15)) := by kernel_rfl
noncomputable def zaB (R : zad) (x1 : Value) (l4 : List Value) (H5 : Hp) : Option Outc :=
 br (Nat.blt (zaR ((l4.drop 2).getD 0 undef)) (zaW ((l4.drop 2).getD 0 undef)).size)
 (zev orc R x1 [(.int .i32 (Utf8.decode (zaW ((l4.drop 2).getD 0 undef)) (zaR ((l4.drop 2).getD 0 undef))).1)] H5 fun r6 H7 =>
 zaa r6 fun b8 => br b8
 (pBin PP .geq T.int (l4.getD 1 undef) (.int .i64 0) fun v9 =>
 zaa v9 fun b10 => br b10
 (zau PP T.strings_span [(0, (l4.getD 1 undef)), (1, (.int .i64 ((zaR ((l4.drop 2).getD 0 undef)) : Nat)))] fun v11 =>
 zao 2 [.int .i64 0, .int .i64 0] 1 [(0, v11)] H7 fun v12 H13 =>
 zaF 2 16 (l4.getD 0 undef) v12 H13 fun v14 H15 =>
 pUn .xor (l4.getD 1 undef) fun v16 =>
 some (.next, [v14, v16, (.tuple #[.string (zaW ((l4.drop 2).getD 0 undef)), .int .i64 (((zaR ((l4.drop 2).getD 0 undef)) + (Utf8.decode (zaW ((l4.drop 2).getD 0 undef)) (zaR ((l4.drop 2).getD 0 undef))).2) : Nat)])], H15))
 (some (.next, [(l4.getD 0 undef), (l4.getD 1 undef), (.tuple #[.string (zaW ((l4.drop 2).getD 0 undef)), .int .i64 (((zaR ((l4.drop 2).getD 0 undef)) + (Utf8.decode (zaW ((l4.drop 2).getD 0 undef)) (zaR ((l4.drop 2).getD 0 undef))).2) : Nat)])], H7)))
 (pBin PP .lss T.int (l4.getD 1 undef) (.int .i64 0) fun v17 =>
 zaa v17 fun b18 => br b18
 (some (.next, [(l4.getD 0 undef), (.int .i64 ((zaR ((l4.drop 2).getD 0 undef)) : Nat)), (.tuple #[.string (zaW ((l4.drop 2).getD 0 undef)), .int .i64 (((zaR ((l4.drop 2).getD 0 undef)) + (Utf8.decode (zaW ((l4.drop 2).getD 0 undef)) (zaR ((l4.drop 2).getD 0 undef))).2) : Nat)])], H7))
 (some (.next, [(l4.getD 0 undef), (l4.getD 1 undef), (.tuple #[.string (zaW ((l4.drop 2).getD 0 undef)), .int .i64 (((zaR ((l4.drop 2).getD 0 undef)) + (Utf8.decode (zaW ((l4.drop 2).getD 0 undef)) (zaR ((l4.drop 2).getD 0 undef))).2) : Nat)])], H7))))
 (some (.exit 0, [(l4.getD 0 undef), (l4.getD 1 undef), (.tuple #[.string (zaW ((l4.drop 2).getD 0 undef)), .int .i64 ((zaR ((l4.drop 2).getD 0 undef)) : Nat)])], H5))
noncomputable def zaN (R : zad) (x0 : Value) (v36 : Value) (v38 : Value) (l32 : List Value) (l39 : List Value) (H40 : Hp) : Option Outc :=
 pBin PP .lss T.int (l39.getD 0 undef) v38 fun v41 =>
 zaa v41 fun b42 => br b42
 (pIdx 2 (l32.getD 0 undef) (l39.getD 0 undef) fun p43 =>
 zaj 2 true H40 p43 fun v44 =>
 zbx 2 [.int .i64 0, .int .i64 0] 0 v44 fun c45 =>
 zag 1 false c45 0 fun v46 =>
 zag 1 false c45 1 fun v47 =>
 zaX x0 (some v46) (some v47) fun v48 =>
 pIdx 1 v36 (l39.getD 0 undef) fun p49 =>
 zam 1 H40 p49 v48 fun H50 =>
 pBin PP .add T.int (l39.getD 0 undef) (.int .i64 1) fun v51 =>
 some (.next, [v51], H50))
 (some (.exit 2, [(l39.getD 0 undef)], H40))
theorem zfr (R : zad) (x0 x1 : Value) (H0 : Hp) : zc5 R x0 x1 H0 =
za1 2 16 [.int .i64 0, .int .i64 0] (.int .i64 0) (.int .i64 32) H0 fun v1 H2 =>
 zi6 x0 fun s3 =>
 zav (zaG (zaB R x1) [v1, (.int .i64 (-1)), (.tuple #[.string s3, .int .i64 (0 : Nat)])] H2) fun q19 l20 H21 => zaD q19 none
 (fun i22 => zaA i22 0 (
 zav (
 pBin PP .geq T.int (l20.getD 1 undef) (.int .i64 0) fun v23 =>
 zaa v23 fun b24 => br b24
 (pLen .str x0 H21 fun v25 =>
 zau PP T.strings_span [(0, (l20.getD 1 undef)), (1, v25)] fun v26 =>
 zao 2 [.int .i64 0, .int .i64 0] 1 [(0, v26)] H21 fun v27 H28 =>
 zaF 2 16 (l20.getD 0 undef) v27 H28 fun v29 H30 =>
 some (.next, [v29], H30))
 (some (.next, [(l20.getD 0 undef)], H21))) fun q31 l32 H33 => zaD q31
 (pLen .sl (l32.getD 0 undef) H33 fun v35 =>
 za1 1 16 [.string ⟨#[]⟩] v35 v35 H33 fun v36 H37 =>
 pLen .sl (l32.getD 0 undef) H37 fun v38 =>
 zav (zaG (zaN R x0 v36 v38 l32) [(.int .i64 0)] H37) fun q52 l53 H54 => zaD q52 none
 (fun i55 => zaA i55 2 (
 some (v36, H54)) (
 none))
 (some ((l53.headD undef), H54)))
 (fun i34 => none)
 (some ((l32.headD undef), H33))) (
 none))
 (some ((l20.headD undef), H21)) := by kernel_rfl
noncomputable def zaC (R : zad) (x0 : Value) (r56 : Value) (p10 : Value) (l58 : List Value) (H59 : Hp) : Option Outc :=
 pBin PP .lss T.int (l58.getD 0 undef) r56 fun v60 =>
 zaa v60 fun b61 => br b61
 (zar 2 p10 fun p62 =>
 zar 3 p10 fun p63 =>
 zar 4 p10 fun p64 =>
 zau PP T.a3_p_int [(0, p62), (1, p63), (2, p64)] fun v65 =>
 zdw 3 false 1 v65 (l58.getD 0 undef) fun v66 =>
 za7 R F.a48 [x0] H59 (fun e67 H68 =>
 some (.ret, [(W0 e67)], H68)) fun r69 H70 =>
 pNil v66 (
 zam 1 H70 v66 r69 fun H71 =>
 pBin PP .add T.int (l58.getD 0 undef) (.int .i64 1) fun v72 =>
 some (.next, [v72], H71)))
 (some (.exit 1, [(l58.getD 0 undef)], H59))
theorem zgu (R : zad) (x0 : Value) (H0 : Hp) : zdS R x0 H0 =
za7 R F.a3 [x0] H0 (fun e1 H2 =>
 some ((W0 e1), H2)) fun r3 H4 =>
 za7 R F.a47 [r3] H4 (fun e5 H6 =>
 some ((W0 e5), H6)) fun r7 H8 =>
 zau PP T.api_Node [(0, r7)] fun v9 =>
 zdx [.int .i64 0, .int .i64 0, .int .i64 0, .int .i64 0, .int .i64 0, .int .u64 0, .string ⟨#[]⟩] H8 fun p10 H11 =>
 zam 7 H11 p10 v9 fun H12 =>
 zav (
 zar 0 p10 fun p13 =>
 zaj 1 false H12 p13 fun v14 =>
 pBin PP .eql T.int v14 (.int .i64 3) fun v15 =>
 zaa v15 fun b16 => br b16
 (za7 R F.a2 [x0] H12 (fun e17 H18 =>
 some (.ret, [(W0 e17)], H18)) fun r19 H20 =>
 zar 1 p10 fun p21 =>
 zam 1 H20 p21 r19 fun H22 =>
 za7 R F.a3 [x0] H22 (fun e23 H24 =>
 some (.ret, [(W0 e23)], H24)) fun r25 H26 =>
 zae R F.a15 [r25] H26 fun r27 H28 =>
 zac r27 0 fun v29 =>
 zac r27 1 fun v30 =>
 pBin PP .neq T.api_Errno v30 (.int .i64 0) fun v31 =>
 zaa v31 fun b32 => br b32
 (zau PP T.term_fault [(0, (.int .i64 3))] fun v33 =>
 some (.ret, [(W0 (.iface T.term_fault v33))], H28))
 (zar 5 p10 fun p34 =>
 zam 1 H28 p34 v29 fun H35 =>
 some (.next, [], H35)))
 (pBin PP .eql T.int v14 (.int .i64 4) fun v36 =>
 zaa v36 fun b37 => br b37
 (za7 R F.a3 [x0] H12 (fun e38 H39 =>
 some (.ret, [(W0 e38)], H39)) fun r40 H41 =>
 zar 6 p10 fun p42 =>
 zam 1 H41 p42 r40 fun H43 =>
 za7 R F.a2 [x0] H43 (fun e44 H45 =>
 some (.ret, [(W0 e44)], H45)) fun r46 H47 =>
 zar 1 p10 fun p48 =>
 zam 1 H47 p48 r46 fun H49 =>
 some (.next, [], H49))
 (some (.next, [], H12)))) fun q50 l51 H52 => zaD q50
 (zar 0 p10 fun p54 =>
 zaj 1 false H52 p54 fun v55 =>
 zae R F.a6 [v55] H52 fun r56 H57 =>
 zav (zaG (zaC R x0 r56 p10) [(.int .i64 0)] H57) fun q73 l74 H75 => zaD q73 none
 (fun i76 => zaA i76 1 (
 zav (
 zar 0 p10 fun p77 =>
 zaj 1 false H75 p77 fun v78 =>
 pBin PP .eql T.int v78 (.int .i64 31) fun v79 =>
 zaa v79 fun b80 => br b80
 (za7 R F.a2 [x0] H75 (fun e81 H82 =>
 some (.ret, [(W0 e81)], H82)) fun r83 H84 =>
 zal .u64 r83 fun v85 =>
 zar 5 p10 fun p86 =>
 zam 1 H84 p86 v85 fun H87 =>
 za7 R F.a2 [x0] H87 (fun e88 H89 =>
 some (.ret, [(W0 e88)], H89)) fun r90 H91 =>
 zar 1 p10 fun p92 =>
 zam 1 H91 p92 r90 fun H93 =>
 some (.next, [], H93))
 (zav (
 pBin PP .eql T.int v78 (.int .i64 32) fun v94 =>
 zaa v94 fun b95 => br b95
 (some (.next, [(.bool true)], H75))
 (pBin PP .eql T.int v78 (.int .i64 33) fun v96 =>
 some (.next, [v96], H75))) fun q97 l98 H99 => zaD q97
 (zaa (l98.getD 0 undef) fun b101 => br b101
 (za7 R F.a2 [x0] H99 (fun e102 H103 =>
 some (.ret, [(W0 e102)], H103)) fun r104 H105 =>
 zar 1 p10 fun p106 =>
 zam 1 H105 p106 r104 fun H107 =>
 some (.next, [], H107))
 (pBin PP .eql T.int v78 (.int .i64 14) fun v108 =>
 zaa v108 fun b109 => br b109
 (pNil x0 (
 zar 0 x0 fun p110 =>
 zaj 1 false H99 p110 fun v111 =>
 zar 3 p10 fun p112 =>
 zaj 1 false H99 p112 fun v113 =>
 zae R F.a1 [v111, v113] H99 fun r114 H115 =>
 zar 1 p10 fun p116 =>
 zam 1 H115 p116 r114 fun H117 =>
 some (.next, [], H117)))
 (pBin PP .eql T.int v78 (.int .i64 30) fun v118 =>
 zaa v118 fun b119 => br b119
 (pNil x0 (
 zar 0 x0 fun p120 =>
 zaj 1 false H99 p120 fun v121 =>
 zar 2 p10 fun p122 =>
 zaj 1 false H99 p122 fun v123 =>
 zae R F.a1 [v121, v123] H99 fun r124 H125 =>
 pNil x0 (
 zar 0 x0 fun p126 =>
 zaj 1 false H125 p126 fun v127 =>
 chk (Hp.rdP H99 p126 1 false = some v127) (
 zar 3 p10 fun p128 =>
 zaj 1 false H125 p128 fun v129 =>
 chk (Hp.rdP H99 p128 1 false = some v129) (
 zae R F.a1 [v127, v129] H125 fun r130 H131 =>
 pBin PP .add T.int r124 r130 fun v132 =>
 pMM false [v132, (.int .i64 65)] fun v133 =>
 zar 1 p10 fun p134 =>
 zam 1 H131 p134 v133 fun H135 =>
 zar 1 p10 fun p136 =>
 zaj 1 false H135 p136 fun v137 =>
 pBin PP .gtr T.int v137 (.int .i64 64) fun v138 =>
 zaa v138 fun b139 => br b139
 (zar 1 p10 fun p140 =>
 zam 1 H135 p140 (.int .i64 0) fun H141 =>
 some (.next, [], H141))
 (some (.next, [], H135)))))))
 (pBin PP .geq T.int v78 (.int .i64 15) fun v142 =>
 zaa v142 fun b143 => br b143
 (pBin PP .leq T.int v78 (.int .i64 29) fun v144 =>
 zaa v144 fun b145 => br b145
 (pNil x0 (
 zar 0 x0 fun p146 =>
 zaj 1 false H99 p146 fun v147 =>
 zar 2 p10 fun p148 =>
 zaj 1 false H99 p148 fun v149 =>
 zae R F.a1 [v147, v149] H99 fun r150 H151 =>
 zar 1 p10 fun p152 =>
 zam 1 H151 p152 r150 fun H153 =>
 some (.next, [], H153)))
 (some (.next, [], H99)))
 (some (.next, [], H99))))))
 (fun i100 => zaA i100 3 (
 some (.next, [], H99)) (
 some (.exit i100, [], H99)))
 (some (.ret, [(l98.headD undef)], H99)))) fun q154 l155 H156 => zaD q154
 (pNil x0 (
 zar 1 x0 fun p158 =>
 zaj 1 false H156 p158 fun v159 =>
 pLen .sl v159 H156 fun v160 =>
 pBin PP .gtr T.int v160 (.int .i64 0) fun v161 =>
 zaa v161 fun b162 => br b162
 (zau PP T.term_fault [(0, (.int .i64 3))] fun v163 =>
 some ((W0 (.iface T.term_fault v163)), H156))
 (pNil x0 (
 zar 0 x0 fun p164 =>
 zaj 1 false H156 p164 fun v165 =>
 zaj 7 true H156 p10 fun v166 =>
 zae R F.a0 [v165, v166] H156 fun r167 H168 =>
 zac r167 0 fun v169 =>
 zac r167 1 fun v170 =>
 pBin PP .neq T.api_Errno v170 (.int .i64 0) fun v171 =>
 zaa v171 fun b172 => br b172
 (zau PP T.term_fault [(0, v170)] fun v173 =>
 some ((W0 (.iface T.term_fault v173)), H168))
 (some ((W1 v169), H168))))))
 (fun i157 => none)
 (some ((l155.headD undef), H156))) (
 none))
 (some ((l74.headD undef), H75)))
 (fun i53 => none)
 (some ((l51.headD undef), H52)) := by kernel_rfl
noncomputable def za0 (R : zad) (x1 : Value) (x2 : Value) (v19 : Value) (v21 : Value) (l22 : List Value) (H23 : Hp) : Option Outc :=
 pBin PP .lss T.int (l22.getD 1 undef) v21 fun v24 =>
 zaa v24 fun b25 => br b25
 (zae R F.a25 [(l22.getD 0 undef), x1] H23 fun r26 H27 =>
 pBin PP .lss T.int r26 (.int .i64 0) fun v28 =>
 zaa v28 fun b29 => br b29
 (some (.exit 0, [(l22.getD 0 undef), (l22.getD 1 undef)], H27))
 (pBin PP .add T.int r26 x2 fun v30 =>
 zaX (l22.getD 0 undef) none (some v30) fun v31 =>
 pIdx 1 v19 (l22.getD 1 undef) fun p32 =>
 zam 1 H27 p32 v31 fun H33 =>
 pLen .str x1 H33 fun v34 =>
 pBin PP .add T.int r26 v34 fun v35 =>
 zaX (l22.getD 0 undef) (some v35) none fun v36 =>
 pBin PP .add T.int (l22.getD 1 undef) (.int .i64 1) fun v37 =>
 some (.next, [v36, v37], H33)))
 (some (.exit 0, [(l22.getD 0 undef), (l22.getD 1 undef)], H23))
theorem zgv (R : zad) (x0 x1 x2 x3 : Value) (H0 : Hp) : zdX R x0 x1 x2 x3 H0 =
pBin PP .eql T.int x3 (.int .i64 0) fun v1 =>
 zaa v1 fun b2 => br b2
 (some ((.slice none 0 0), H0))
 (pBin PP .eql T.string x1 (.string ⟨#[]⟩) fun v3 =>
 zaa v3 fun b4 => br b4
 (zae R F.a78 [x0, x3] H0 fun r5 H6 =>
 some (r5, H6))
 (zav (
 pBin PP .lss T.int x3 (.int .i64 0) fun v7 =>
 zaa v7 fun b8 => br b8
 (zae R F.a40 [x0, x1] H0 fun r9 H10 =>
 pBin PP .add T.int r9 (.int .i64 1) fun v11 =>
 some (.next, [v11], H10))
 (some (.next, [x3], H0))) fun q12 l13 H14 => zaD q12
 (pLen .str x0 H14 fun v16 =>
 pBin PP .add T.int v16 (.int .i64 1) fun v17 =>
 pMM false [(l13.getD 0 undef), v17] fun v18 =>
 za1 1 16 [.string ⟨#[]⟩] v18 v18 H14 fun v19 H20 =>
 pBin PP .sub T.int v18 (.int .i64 1) fun v21 =>
 zav (zaG (za0 R x1 x2 v19 v21) [x0, (.int .i64 0)] H20) fun q38 l39 H40 => zaD q38 none
 (fun i41 => zaA i41 0 (
 pIdx 1 v19 (l39.getD 1 undef) fun p42 =>
 zam 1 H40 p42 (l39.getD 0 undef) fun H43 =>
 pBin PP .add T.int (l39.getD 1 undef) (.int .i64 1) fun v44 =>
 zc3 1 v19 none (some v44) fun v45 =>
 some (v45, H43)) (
 none))
 (some ((l39.headD undef), H40)))
 (fun i15 => none)
 (some ((l13.headD undef), H14)))) := by kernel_rfl
noncomputable def za6 (R : zad) (l11 : List Value) (H12 : Hp) : Option Outc :=
 br (Nat.blt (zaR ((l11.drop 0).getD 0 undef)) (zaW ((l11.drop 0).getD 0 undef)).size)
 (pBin PP .eql T.int32 (.int .i32 (Utf8.decode (zaW ((l11.drop 0).getD 0 undef)) (zaR ((l11.drop 0).getD 0 undef))).1) (.int .i32 95) fun v13 =>
 zaa v13 fun b14 => br b14
 (some (.ret, [(.tuple #[(.int .u64 0), (.int .i64 10)])], H12))
 (pBin PP .eql T.int32 (.int .i32 (Utf8.decode (zaW ((l11.drop 0).getD 0 undef)) (zaR ((l11.drop 0).getD 0 undef))).1) (.int .i32 43) fun v15 =>
 zaa v15 fun b16 => br b16
 (some (.ret, [(.tuple #[(.int .u64 0), (.int .i64 10)])], H12))
 (pBin PP .eql T.int32 (.int .i32 (Utf8.decode (zaW ((l11.drop 0).getD 0 undef)) (zaR ((l11.drop 0).getD 0 undef))).1) (.int .i32 45) fun v17 =>
 zaa v17 fun b18 => br b18
 (some (.ret, [(.tuple #[(.int .u64 0), (.int .i64 10)])], H12))
 (some (.next, [(.tuple #[.string (zaW ((l11.drop 0).getD 0 undef)), .int .i64 (((zaR ((l11.drop 0).getD 0 undef)) + (Utf8.decode (zaW ((l11.drop 0).getD 0 undef)) (zaR ((l11.drop 0).getD 0 undef))).2) : Nat)])], H12)))))
 (some (.exit 0, [(.tuple #[.string (zaW ((l11.drop 0).getD 0 undef)), .int .i64 ((zaR ((l11.drop 0).getD 0 undef)) : Nat)])], H12))
theorem zkr (R : zad) (x0 : Value) (H0 : Hp) : zgt R x0 H0 =
zae R F.a63 [x0, (.string ⟨#[48, 120]⟩)] H0 fun r1 H2 =>
 zac r1 0 fun v3 =>
 zac r1 1 fun v4 =>
 zav (
 zaa v4 fun b5 => br b5
 (some (.next, [(.int .i64 16)], H2))
 (some (.next, [(.int .i64 10)], H2))) fun q6 l7 H8 => zaD q6
 (zi6 v3 fun s10 =>
 zav (zaG (za6 R) [(.tuple #[.string s10, .int .i64 (0 : Nat)])] H8) fun q19 l20 H21 => zaD q19 none
 (fun i22 => zaA i22 0 (
 zae R F.a37 [v3, (l7.getD 0 undef), (.int .i64 64)] H21 fun r23 H24 =>
 zac r23 0 fun v25 =>
 zac r23 1 fun v26 =>
 zeD PP .neq T.error v26 fun v27 =>
 zaa v27 fun b28 => br b28
 (some ((.tuple #[(.int .u64 0), (.int .i64 10)]), H24))
 (some ((.tuple #[v25, (.int .i64 0)]), H24))) (
 none))
 (some ((l20.headD undef), H21)))
 (fun i9 => none)
 (some ((l7.headD undef), H8)) := by kernel_rfl
noncomputable def zaz (R : zad) (x0 : Value) (v3 : Value) (r1 : Value) (l4 : List Value) (H5 : Hp) : Option Outc :=
 pBin PP .lss T.int (l4.getD 1 undef) v3 fun v6 =>
 zaa v6 fun b7 => br b7
 (pIdx 1 r1 (l4.getD 1 undef) fun p8 =>
 zaj 1 false H5 p8 fun v9 =>
 pBin PP .gtr T.int (l4.getD 1 undef) (.int .i64 0) fun v10 =>
 zaa v10 fun b11 => br b11
 (pBin PP .eql T.string v9 x0 fun v12 =>
 zaa v12 fun b13 => br b13
 (some (.ret, [(W1 (l4.getD 1 undef))], H5))
 (pBin PP .add T.int (l4.getD 1 undef) (.int .i64 1) fun v14 =>
 some (.next, [(l4.getD 0 undef), v14], H5)))
 (pBin PP .add T.int (l4.getD 1 undef) (.int .i64 1) fun v15 =>
 some (.next, [(l4.getD 0 undef), v15], H5)))
 (some (.exit 0, [(l4.getD 0 undef), (l4.getD 1 undef)], H5))
theorem zhr (R : zad) (x0 : Value) (H0 : Hp) : zeE R x0 H0 =
zae R F.a26 [] H0 fun r1 H2 =>
 pLen .sl r1 H2 fun v3 =>
 zav (zaG (zaz R x0 v3 r1) [(.int .i64 0), (.int .i64 0)] H2) fun q16 l17 H18 => zaD q16 none
 (fun i19 => zaA i19 0 (
 zau PP T.term_fault [(0, (.int .i64 3))] fun v20 =>
 some ((W0 (.iface T.term_fault v20)), H18)) (
 none))
 (some ((l17.headD undef), H18)) := by kernel_rfl
noncomputable def zay (R : zad) (v3 : Value) (v81 : Value) (v82 : Value) (v84 : Value) (l55 : List Value) (l76 : List Value) (l85 : List Value) (H86 : Hp) : Option Outc :=
 pBin PP .lss T.int (l85.getD 2 undef) v84 fun v87 =>
 zaa v87 fun b88 => br b88
 (pIdx 1 v82 (l85.getD 2 undef) fun p89 =>
 zaj 1 false H86 p89 fun v90 =>
 zav (
 zav (
 pBin PP .eql T.uint8 v90 (.int .u8 95) fun v91 =>
 zaa v91 fun b92 => br b92
 (some (.next, [v3], H86))
 (some (.next, [(.bool false)], H86))) fun q93 l94 H95 => zaD q93
 (zaa (l94.getD 0 undef) fun b97 => br b97
 (some (.exit 4, [(.bool true), (.int .u8 0)], H95))
 (pBin PP .leq T.uint8 (.int .u8 48) v90 fun v98 =>
 zaa v98 fun b99 => br b99
 (pBin PP .leq T.uint8 v90 (.int .u8 57) fun v100 =>
 zaa v100 fun b101 => br b101
 (pBin PP .sub T.uint8 v90 (.int .u8 48) fun v102 =>
 some (.next, [(l85.getD 0 undef), v102], H95))
 (zae R F.a4 [v90] H95 fun r103 H104 =>
 pBin PP .leq T.uint8 (.int .u8 97) r103 fun v105 =>
 zaa v105 fun b106 => br b106
 (zae R F.a4 [v90] H104 fun r107 H108 =>
 pBin PP .leq T.uint8 r107 (.int .u8 122) fun v109 =>
 zaa v109 fun b110 => br b110
 (zae R F.a4 [v90] H108 fun r111 H112 =>
 pBin PP .sub T.uint8 r111 (.int .u8 97) fun v113 =>
 pBin PP .add T.uint8 v113 (.int .u8 10) fun v114 =>
 some (.next, [(l85.getD 0 undef), v114], H112))
 (some (.ret, [(.tuple #[(.int .u64 0), (.iface T.strconv_Error (.int .i64 2))])], H108)))
 (some (.ret, [(.tuple #[(.int .u64 0), (.iface T.strconv_Error (.int .i64 2))])], H104))))
 (zae R F.a4 [v90] H95 fun r115 H116 =>
 pBin PP .leq T.uint8 (.int .u8 97) r115 fun v117 =>
 zaa v117 fun b118 => br b118
 (zae R F.a4 [v90] H116 fun r119 H120 =>
 pBin PP .leq T.uint8 r119 (.int .u8 122) fun v121 =>
 zaa v121 fun b122 => br b122
 (zae R F.a4 [v90] H120 fun r123 H124 =>
 pBin PP .sub T.uint8 r123 (.int .u8 97) fun v125 =>
 pBin PP .add T.uint8 v125 (.int .u8 10) fun v126 =>
 some (.next, [(l85.getD 0 undef), v126], H124))
 (some (.ret, [(.tuple #[(.int .u64 0), (.iface T.strconv_Error (.int .i64 2))])], H120)))
 (some (.ret, [(.tuple #[(.int .u64 0), (.iface T.strconv_Error (.int .i64 2))])], H116)))))
 (fun i96 => zaA i96 5 (
 some (.next, [(l85.getD 0 undef), (.int .u8 0)], H95)) (
 some (.exit i96, [(l85.getD 0 undef), (.int .u8 0)], H95)))
 (some (.ret, [(l94.headD undef)], H95))) fun q127 l128 H129 => zaD q127
 (zal .u8 (l55.getD 1 undef) fun v131 =>
 pBin PP .geq T.uint8 (l128.getD 1 undef) v131 fun v132 =>
 zaa v132 fun b133 => br b133
 (some (.ret, [(.tuple #[(.int .u64 0), (.iface T.strconv_Error (.int .i64 2))])], H129))
 (pBin PP .geq T.uint64 (l85.getD 1 undef) (l76.getD 0 undef) fun v134 =>
 zaa v134 fun b135 => br b135
 (some (.ret, [(.tuple #[v81, (.iface T.strconv_Error (.int .i64 1))])], H129))
 (zal .u64 (l55.getD 1 undef) fun v136 =>
 pBin PP .mul T.uint64 (l85.getD 1 undef) v136 fun v137 =>
 zal .u64 (l128.getD 1 undef) fun v138 =>
 pBin PP .add T.uint64 v137 v138 fun v139 =>
 pBin PP .lss T.uint64 v139 v137 fun v140 =>
 zaa v140 fun b141 => br b141
 (some (.ret, [(.tuple #[v81, (.iface T.strconv_Error (.int .i64 1))])], H129))
 (pBin PP .gtr T.uint64 v139 v81 fun v142 =>
 zaa v142 fun b143 => br b143
 (some (.ret, [(.tuple #[v81, (.iface T.strconv_Error (.int .i64 1))])], H129))
 (pBin PP .add T.int (l85.getD 2 undef) (.int .i64 1) fun v144 =>
 some (.next, [(l128.getD 0 undef), v139, v144], H129))))))
 (fun i130 => zaA i130 4 (
 pBin PP .add T.int (l85.getD 2 undef) (.int .i64 1) fun v145 =>
 some (.next, [(l128.getD 0 undef), (l85.getD 1 undef), v145], H129)) (
 some (.exit i130, [(l128.getD 0 undef), (l85.getD 1 undef), (l85.getD 2 undef)], H129)))
 (some (.ret, [(l128.headD undef)], H129)))
 (some (.exit 3, [(l85.getD 0 undef), (l85.getD 1 undef), (l85.getD 2 undef)], H86))
theorem zbR (R : zad) (x0 x1 x2 : Value) (H0 : Hp) : zbQ R x0 x1 x2 H0 =
pBin PP .eql T.string x0 (.string ⟨#[]⟩) fun v1 =>
 zaa v1 fun b2 => br b2
 (some ((.tuple #[(.int .u64 0), (.iface T.strconv_Error (.int .i64 2))]), H0))
 (pBin PP .eql T.int x1 (.int .i64 0) fun v3 =>
 zav (
 zav (
 pBin PP .leq T.int (.int .i64 2) x1 fun v4 =>
 zaa v4 fun b5 => br b5
 (pBin PP .leq T.int x1 (.int .i64 36) fun v6 =>
 some (.next, [v6], H0))
 (some (.next, [(.bool false)], H0))) fun q7 l8 H9 => zaD q7
 (zaa (l8.getD 0 undef) fun b11 => br b11
 (some (.next, [x0, x1], H9))
 (pBin PP .eql T.int x1 (.int .i64 0) fun v12 =>
 zaa v12 fun b13 => br b13
 (zaQ x0 (.int .i64 0) fun v14 =>
 pBin PP .eql T.uint8 v14 (.int .u8 48) fun v15 =>
 zaa v15 fun b16 => br b16
 (zav (
 pLen .str x0 H9 fun v17 =>
 pBin PP .geq T.int v17 (.int .i64 3) fun v18 =>
 zaa v18 fun b19 => br b19
 (zaQ x0 (.int .i64 1) fun v20 =>
 zae R F.a4 [v20] H9 fun r21 H22 =>
 pBin PP .eql T.uint8 r21 (.int .u8 98) fun v23 =>
 some (.next, [v23], H22))
 (some (.next, [(.bool false)], H9))) fun q24 l25 H26 => zaD q24
 (zaa (l25.getD 0 undef) fun b28 => br b28
 (zaX x0 (some (.int .i64 2)) none fun v29 =>
 some (.next, [v29, (.int .i64 2)], H26))
 (zav (
 pLen .str x0 H26 fun v30 =>
 pBin PP .geq T.int v30 (.int .i64 3) fun v31 =>
 zaa v31 fun b32 => br b32
 (zaQ x0 (.int .i64 1) fun v33 =>
 zae R F.a4 [v33] H26 fun r34 H35 =>
 pBin PP .eql T.uint8 r34 (.int .u8 111) fun v36 =>
 some (.next, [v36], H35))
 (some (.next, [(.bool false)], H26))) fun q37 l38 H39 => zaD q37
 (zaa (l38.getD 0 undef) fun b41 => br b41
 (zaX x0 (some (.int .i64 2)) none fun v42 =>
 some (.next, [v42, (.int .i64 8)], H39))
 (pLen .str x0 H39 fun v43 =>
 pBin PP .geq T.int v43 (.int .i64 3) fun v44 =>
 zaa v44 fun b45 => br b45
 (zaQ x0 (.int .i64 1) fun v46 =>
 zae R F.a4 [v46] H39 fun r47 H48 =>
 pBin PP .eql T.uint8 r47 (.int .u8 120) fun v49 =>
 zaa v49 fun b50 => br b50
 (zaX x0 (some (.int .i64 2)) none fun v51 =>
 some (.next, [v51, (.int .i64 16)], H48))
 (zaX x0 (some (.int .i64 1)) none fun v52 =>
 some (.next, [v52, (.int .i64 8)], H48)))
 (zaX x0 (some (.int .i64 1)) none fun v53 =>
 some (.next, [v53, (.int .i64 8)], H39))))
 (fun i40 => zaA i40 1 (
 some (.next, [x0, (.int .i64 10)], H39)) (
 zaA i40 0 (
 some (.next, [x0, (.int .i64 10)], H39)) (
 some (.exit i40, [x0, (.int .i64 10)], H39))))
 (some (.ret, [(l38.headD undef)], H39))))
 (fun i27 => zaA i27 1 (
 some (.next, [x0, (.int .i64 10)], H26)) (
 zaA i27 0 (
 some (.next, [x0, (.int .i64 10)], H26)) (
 some (.exit i27, [x0, (.int .i64 10)], H26))))
 (some (.ret, [(l25.headD undef)], H26)))
 (some (.next, [x0, (.int .i64 10)], H9)))
 (some (.ret, [(.tuple #[(.int .u64 0), (.iface T.strconv_Error (.int .i64 3))])], H9))))
 (fun i10 => zaA i10 0 (
 some (.next, [x0, x1], H9)) (
 some (.exit i10, [x0, x1], H9)))
 (some (.ret, [(l8.headD undef)], H9))) fun q54 l55 H56 => zaD q54
 (zav (
 pBin PP .eql T.int x2 (.int .i64 0) fun v58 =>
 zaa v58 fun b59 => br b59
 (some (.next, [(.int .i64 64)], H56))
 (pBin PP .lss T.int x2 (.int .i64 0) fun v60 =>
 zaa v60 fun b61 => br b61
 (some (.ret, [(.tuple #[(.int .u64 0), (.iface T.strconv_Error (.int .i64 4))])], H56))
 (pBin PP .gtr T.int x2 (.int .i64 64) fun v62 =>
 zaa v62 fun b63 => br b63
 (some (.ret, [(.tuple #[(.int .u64 0), (.iface T.strconv_Error (.int .i64 4))])], H56))
 (some (.next, [x2], H56))))) fun q64 l65 H66 => zaD q64
 (zav (
 pBin PP .eql T.int (l55.getD 1 undef) (.int .i64 10) fun v68 =>
 zaa v68 fun b69 => br b69
 (some (.next, [(.int .u64 1844674407370955162)], H66))
 (pBin PP .eql T.int (l55.getD 1 undef) (.int .i64 16) fun v70 =>
 zaa v70 fun b71 => br b71
 (some (.next, [(.int .u64 1152921504606846976)], H66))
 (zal .u64 (l55.getD 1 undef) fun v72 =>
 pBin PP .quo T.uint64 (.int .u64 18446744073709551615) v72 fun v73 =>
 pBin PP .add T.uint64 v73 (.int .u64 1) fun v74 =>
 some (.next, [v74], H66)))) fun q75 l76 H77 => zaD q75
 (zal .u64 (l65.getD 0 undef) fun v79 =>
 pBin PP .shl T.uint64 (.int .u64 1) v79 fun v80 =>
 pBin PP .sub T.uint64 v80 (.int .u64 1) fun v81 =>
 zdg (l55.getD 0 undef) H77 fun v82 H83 =>
 pLen .sl v82 H83 fun v84 =>
 zav (zaG (zay R v3 v81 v82 v84 l55 l76) [(.bool false), (.int .u64 0), (.int .i64 0)] H83) fun q146 l147 H148 => zaD q146 none
 (fun i149 => zaA i149 3 (
 zaa (l147.getD 0 undef) fun b150 => br b150
 (zae R F.a75 [x0] H148 fun r151 H152 =>
 pUn .not r151 fun v153 =>
 zaa v153 fun b154 => br b154
 (some ((.tuple #[(.int .u64 0), (.iface T.strconv_Error (.int .i64 2))]), H152))
 (some ((.tuple #[(l147.getD 1 undef), .nilIface]), H152)))
 (some ((.tuple #[(l147.getD 1 undef), .nilIface]), H148))) (
 none))
 (some ((l147.headD undef), H148)))
 (fun i78 => none)
 (some ((l76.headD undef), H77)))
 (fun i67 => none)
 (some ((l65.headD undef), H66)))
 (fun i57 => none)
 (some ((l55.headD undef), H56))) := by kernel_rfl
noncomputable def zaP (R : zad) (x0 : Value) (l2 : List Value) (H3 : Hp) : Option Outc :=
 pBin PP .geq T.int (l2.getD 1 undef) (.int .i64 8) fun v4 =>
 zaa v4 fun b5 => br b5
 (pBin PP .rem T.uint64 (l2.getD 0 undef) (.int .u64 100000000) fun v6 =>
 zal .u32 v6 fun v7 =>
 pBin PP .quo T.uint64 (l2.getD 0 undef) (.int .u64 100000000) fun v8 =>
 pBin PP .quo T.uint32 v7 (.int .u32 10000) fun v9 =>
 pBin PP .rem T.uint32 v7 (.int .u32 10000) fun v10 =>
 pBin PP .quo T.uint32 v10 (.int .u32 100) fun v11 =>
 pBin PP .mul T.uint32 v11 (.int .u32 2) fun v12 =>
 pBin PP .rem T.uint32 v10 (.int .u32 100) fun v13 =>
 pBin PP .mul T.uint32 v13 (.int .u32 2) fun v14 =>
 pBin PP .quo T.uint32 v9 (.int .u32 100) fun v15 =>
 pBin PP .mul T.uint32 v15 (.int .u32 2) fun v16 =>
 pBin PP .rem T.uint32 v9 (.int .u32 100) fun v17 =>
 pBin PP .mul T.uint32 v17 (.int .u32 2) fun v18 =>
 pBin PP .sub T.int (l2.getD 1 undef) (.int .i64 1) fun v19 =>
 pBin PP .sub T.int (l2.getD 1 undef) (.int .i64 2) fun v20 =>
 pBin PP .add T.uint32 v14 (.int .u32 1) fun v21 =>
 zaQ (.string ⟨#[48, 48, 48, 49, 48, 50, 48, 51, 48, 52, 48, 53, 48, 54, 48, 55, 48, 56, 48, 57, 49, 48, 49, 49, 49, 50, 49, 51, 49, 52, 49, 53, 49, 54, 49, 55, 49, 56, 49, 57, 50, 48, 50, 49, 50, 50, 50, 51, 50, 52, 50, 53, 50, 54, 50, 55, 50, 56, 50, 57, 51, 48, 51, 49, 51, 50, 51, 51, 51, 52, 51, 53, 51, 54, 51, 55, 51, 56, 51, 57, 52, 48, 52, 49, 52, 50, 52, 51, 52, 52, 52, 53, 52, 54, 52, 55, 52, 56, 52, 57, 53, 48, 53, 49, 53, 50, 53, 51, 53, 52, 53, 53, 53, 54, 53, 55, 53, 56, 53, 57, 54, 48, 54, 49, 54, 50, 54, 51, 54, 52, 54, 53, 54, 54, 54, 55, 54, 56, 54, 57, 55, 48, 55, 49, 55, 50, 55, 51, 55, 52, 55, 53, 55, 54, 55, 55, 55, 56, 55, 57, 56, 48, 56, 49, 56, 50, 56, 51, 56, 52, 56, 53, 56, 54, 56, 55, 56, 56, 56, 57, 57, 48, 57, 49, 57, 50, 57, 51, 57, 52, 57, 53, 57, 54, 57, 55, 57, 56, 57, 57]⟩) v21 fun v22 =>
 zaQ (.string ⟨#[48, 48, 48, 49, 48, 50, 48, 51, 48, 52, 48, 53, 48, 54, 48, 55, 48, 56, 48, 57, 49, 48, 49, 49, 49, 50, 49, 51, 49, 52, 49, 53, 49, 54, 49, 55, 49, 56, 49, 57, 50, 48, 50, 49, 50, 50, 50, 51, 50, 52, 50, 53, 50, 54, 50, 55, 50, 56, 50, 57, 51, 48, 51, 49, 51, 50, 51, 51, 51, 52, 51, 53, 51, 54, 51, 55, 51, 56, 51, 57, 52, 48, 52, 49, 52, 50, 52, 51, 52, 52, 52, 53, 52, 54, 52, 55, 52, 56, 52, 57, 53, 48, 53, 49, 53, 50, 53, 51, 53, 52, 53, 53, 53, 54, 53, 55, 53, 56, 53, 57, 54, 48, 54, 49, 54, 50, 54, 51, 54, 52, 54, 53, 54, 54, 54, 55, 54, 56, 54, 57, 55, 48, 55, 49, 55, 50, 55, 51, 55, 52, 55, 53, 55, 54, 55, 55, 55, 56, 55, 57, 56, 48, 56, 49, 56, 50, 56, 51, 56, 52, 56, 53, 56, 54, 56, 55, 56, 56, 56, 57, 57, 48, 57, 49, 57, 50, 57, 51, 57, 52, 57, 53, 57, 54, 57, 55, 57, 56, 57, 57]⟩) v14 fun v23 =>
 pIdx 1 x0 v19 fun p24 =>
 zam 1 H3 p24 v22 fun H25 =>
 pIdx 1 x0 v20 fun p26 =>
 zam 1 H25 p26 v23 fun H27 =>
 pBin PP .sub T.int (l2.getD 1 undef) (.int .i64 3) fun v28 =>
 pBin PP .sub T.int (l2.getD 1 undef) (.int .i64 4) fun v29 =>
 pBin PP .add T.uint32 v12 (.int .u32 1) fun v30 =>
 zaQ (.string ⟨#[48, 48, 48, 49, 48, 50, 48, 51, 48, 52, 48, 53, 48, 54, 48, 55, 48, 56, 48, 57, 49, 48, 49, 49, 49, 50, 49, 51, 49, 52, 49, 53, 49, 54, 49, 55, 49, 56, 49, 57, 50, 48, 50, 49, 50, 50, 50, 51, 50, 52, 50, 53, 50, 54, 50, 55, 50, 56, 50, 57, 51, 48, 51, 49, 51, 50, 51, 51, 51, 52, 51, 53, 51, 54, 51, 55, 51, 56, 51, 57, 52, 48, 52, 49, 52, 50, 52, 51, 52, 52, 52, 53, 52, 54, 52, 55, 52, 56, 52, 57, 53, 48, 53, 49, 53, 50, 53, 51, 53, 52, 53, 53, 53, 54, 53, 55, 53, 56, 53, 57, 54, 48, 54, 49, 54, 50, 54, 51, 54, 52, 54, 53, 54, 54, 54, 55, 54, 56, 54, 57, 55, 48, 55, 49, 55, 50, 55, 51, 55, 52, 55, 53, 55, 54, 55, 55, 55, 56, 55, 57, 56, 48, 56, 49, 56, 50, 56, 51, 56, 52, 56, 53, 56, 54, 56, 55, 56, 56, 56, 57, 57, 48, 57, 49, 57, 50, 57, 51, 57, 52, 57, 53, 57, 54, 57, 55, 57, 56, 57, 57]⟩) v30 fun v31 =>
 zaQ (.string ⟨#[48, 48, 48, 49, 48, 50, 48, 51, 48, 52, 48, 53, 48, 54, 48, 55, 48, 56, 48, 57, 49, 48, 49, 49, 49, 50, 49, 51, 49, 52, 49, 53, 49, 54, 49, 55, 49, 56, 49, 57, 50, 48, 50, 49, 50, 50, 50, 51, 50, 52, 50, 53, 50, 54, 50, 55, 50, 56, 50, 57, 51, 48, 51, 49, 51, 50, 51, 51, 51, 52, 51, 53, 51, 54, 51, 55, 51, 56, 51, 57, 52, 48, 52, 49, 52, 50, 52, 51, 52, 52, 52, 53, 52, 54, 52, 55, 52, 56, 52, 57, 53, 48, 53, 49, 53, 50, 53, 51, 53, 52, 53, 53, 53, 54, 53, 55, 53, 56, 53, 57, 54, 48, 54, 49, 54, 50, 54, 51, 54, 52, 54, 53, 54, 54, 54, 55, 54, 56, 54, 57, 55, 48, 55, 49, 55, 50, 55, 51, 55, 52, 55, 53, 55, 54, 55, 55, 55, 56, 55, 57, 56, 48, 56, 49, 56, 50, 56, 51, 56, 52, 56, 53, 56, 54, 56, 55, 56, 56, 56, 57, 57, 48, 57, 49, 57, 50, 57, 51, 57, 52, 57, 53, 57, 54, 57, 55, 57, 56, 57, 57]⟩) v12 fun v32 =>
 pIdx 1 x0 v28 fun p33 =>
 zam 1 H27 p33 v31 fun H34 =>
 pIdx 1 x0 v29 fun p35 =>
 zam 1 H34 p35 v32 fun H36 =>
 pBin PP .sub T.int (l2.getD 1 undef) (.int .i64 5) fun v37 =>
 pBin PP .sub T.int (l2.getD 1 undef) (.int .i64 6) fun v38 =>
 pBin PP .add T.uint32 v18 (.int .u32 1) fun v39 =>
 zaQ (.string ⟨#[48, 48, 48, 49, 48, 50, 48, 51, 48, 52, 48, 53, 48, 54, 48, 55, 48, 56, 48, 57, 49, 48, 49, 49, 49, 50, 49, 51, 49, 52, 49, 53, 49, 54, 49, 55, 49, 56, 49, 57, 50, 48, 50, 49, 50, 50, 50, 51, 50, 52, 50, 53, 50, 54, 50, 55, 50, 56, 50, 57, 51, 48, 51, 49, 51, 50, 51, 51, 51, 52, 51, 53, 51, 54, 51, 55, 51, 56, 51, 57, 52, 48, 52, 49, 52, 50, 52, 51, 52, 52, 52, 53, 52, 54, 52, 55, 52, 56, 52, 57, 53, 48, 53, 49, 53, 50, 53, 51, 53, 52, 53, 53, 53, 54, 53, 55, 53, 56, 53, 57, 54, 48, 54, 49, 54, 50, 54, 51, 54, 52, 54, 53, 54, 54, 54, 55, 54, 56, 54, 57, 55, 48, 55, 49, 55, 50, 55, 51, 55, 52, 55, 53, 55, 54, 55, 55, 55, 56, 55, 57, 56, 48, 56, 49, 56, 50, 56, 51, 56, 52, 56, 53, 56, 54, 56, 55, 56, 56, 56, 57, 57, 48, 57, 49, 57, 50, 57, 51, 57, 52, 57, 53, 57, 54, 57, 55, 57, 56, 57, 57]⟩) v39 fun v40 =>
 zaQ (.string ⟨#[48, 48, 48, 49, 48, 50, 48, 51, 48, 52, 48, 53, 48, 54, 48, 55, 48, 56, 48, 57, 49, 48, 49, 49, 49, 50, 49, 51, 49, 52, 49, 53, 49, 54, 49, 55, 49, 56, 49, 57, 50, 48, 50, 49, 50, 50, 50, 51, 50, 52, 50, 53, 50, 54, 50, 55, 50, 56, 50, 57, 51, 48, 51, 49, 51, 50, 51, 51, 51, 52, 51, 53, 51, 54, 51, 55, 51, 56, 51, 57, 52, 48, 52, 49, 52, 50, 52, 51, 52, 52, 52, 53, 52, 54, 52, 55, 52, 56, 52, 57, 53, 48, 53, 49, 53, 50, 53, 51, 53, 52, 53, 53, 53, 54, 53, 55, 53, 56, 53, 57, 54, 48, 54, 49, 54, 50, 54, 51, 54, 52, 54, 53, 54, 54, 54, 55, 54, 56, 54, 57, 55, 48, 55, 49, 55, 50, 55, 51, 55, 52, 55, 53, 55, 54, 55, 55, 55, 56, 55, 57, 56, 48, 56, 49, 56, 50, 56, 51, 56, 52, 56, 53, 56, 54, 56, 55, 56, 56, 56, 57, 57, 48, 57, 49, 57, 50, 57, 51, 57, 52, 57, 53, 57, 54, 57, 55, 57, 56, 57, 57]⟩) v18 fun v41 =>
 pIdx 1 x0 v37 fun p42 =>
 zam 1 H36 p42 v40 fun H43 =>
 pIdx 1 x0 v38 fun p44 =>
 zam 1 H43 p44 v41 fun H45 =>
 pBin PP .sub T.int (l2.getD 1 undef) (.int .i64 7) fun v46 =>
 pBin PP .sub T.int (l2.getD 1 undef) (.int .i64 8) fun v47 =>
 pBin PP .add T.uint32 v16 (.int .u32 1) fun v48 =>
 zaQ (.string ⟨#[48, 48, 48, 49, 48, 50, 48, 51, 48, 52, 48, 53, 48, 54, 48, 55, 48, 56, 48, 57, 49, 48, 49, 49, 49, 50, 49, 51, 49, 52, 49, 53, 49, 54, 49, 55, 49, 56, 49, 57, 50, 48, 50, 49, 50, 50, 50, 51, 50, 52, 50, 53, 50, 54, 50, 55, 50, 56, 50, 57, 51, 48, 51, 49, 51, 50, 51, 51, 51, 52, 51, 53, 51, 54, 51, 55, 51, 56, 51, 57, 52, 48, 52, 49, 52, 50, 52, 51, 52, 52, 52, 53, 52, 54, 52, 55, 52, 56, 52, 57, 53, 48, 53, 49, 53, 50, 53, 51, 53, 52, 53, 53, 53, 54, 53, 55, 53, 56, 53, 57, 54, 48, 54, 49, 54, 50, 54, 51, 54, 52, 54, 53, 54, 54, 54, 55, 54, 56, 54, 57, 55, 48, 55, 49, 55, 50, 55, 51, 55, 52, 55, 53, 55, 54, 55, 55, 55, 56, 55, 57, 56, 48, 56, 49, 56, 50, 56, 51, 56, 52, 56, 53, 56, 54, 56, 55, 56, 56, 56, 57, 57, 48, 57, 49, 57, 50, 57, 51, 57, 52, 57, 53, 57, 54, 57, 55, 57, 56, 57, 57]⟩) v48 fun v49 =>
 zaQ (.string ⟨#[48, 48, 48, 49, 48, 50, 48, 51, 48, 52, 48, 53, 48, 54, 48, 55, 48, 56, 48, 57, 49, 48, 49, 49, 49, 50, 49, 51, 49, 52, 49, 53, 49, 54, 49, 55, 49, 56, 49, 57, 50, 48, 50, 49, 50, 50, 50, 51, 50, 52, 50, 53, 50, 54, 50, 55, 50, 56, 50, 57, 51, 48, 51, 49, 51, 50, 51, 51, 51, 52, 51, 53, 51, 54, 51, 55, 51, 56, 51, 57, 52, 48, 52, 49, 52, 50, 52, 51, 52, 52, 52, 53, 52, 54, 52, 55, 52, 56, 52, 57, 53, 48, 53, 49, 53, 50, 53, 51, 53, 52, 53, 53, 53, 54, 53, 55, 53, 56, 53, 57, 54, 48, 54, 49, 54, 50, 54, 51, 54, 52, 54, 53, 54, 54, 54, 55, 54, 56, 54, 57, 55, 48, 55, 49, 55, 50, 55, 51, 55, 52, 55, 53, 55, 54, 55, 55, 55, 56, 55, 57, 56, 48, 56, 49, 56, 50, 56, 51, 56, 52, 56, 53, 56, 54, 56, 55, 56, 56, 56, 57, 57, 48, 57, 49, 57, 50, 57, 51, 57, 52, 57, 53, 57, 54, 57, 55, 57, 56, 57, 57]⟩) v16 fun v50 =>
 pIdx 1 x0 v46 fun p51 =>
 zam 1 H45 p51 v49 fun H52 =>
 pIdx 1 x0 v47 fun p53 =>
 zam 1 H52 p53 v50 fun H54 =>
 pBin PP .sub T.int (l2.getD 1 undef) (.int .i64 8) fun v55 =>
 some (.next, [v8, v55], H54))
 (some (.exit 0, [(l2.getD 0 undef), (l2.getD 1 undef)], H3))
theorem zcB (R : zad) (x0 x1 : Value) (H0 : Hp) : zbz R x0 x1 H0 =
pLen .sl x0 H0 fun v1 =>
 zav (zaG (zaP R x0) [x1, v1] H0) fun q56 l57 H58 => zaD q56 none
 (fun i59 => zaA i59 0 (
 zal .u32 (l57.getD 0 undef) fun v60 =>
 zav (
 pBin PP .geq T.int (l57.getD 1 undef) (.int .i64 4) fun v61 =>
 zaa v61 fun b62 => br b62
 (pBin PP .rem T.uint32 v60 (.int .u32 10000) fun v63 =>
 pBin PP .quo T.uint32 v60 (.int .u32 10000) fun v64 =>
 pBin PP .quo T.uint32 v63 (.int .u32 100) fun v65 =>
 pBin PP .mul T.uint32 v65 (.int .u32 2) fun v66 =>
 pBin PP .rem T.uint32 v63 (.int .u32 100) fun v67 =>
 pBin PP .mul T.uint32 v67 (.int .u32 2) fun v68 =>
 pBin PP .sub T.int (l57.getD 1 undef) (.int .i64 1) fun v69 =>
 pBin PP .sub T.int (l57.getD 1 undef) (.int .i64 2) fun v70 =>
 pBin PP .add T.uint32 v68 (.int .u32 1) fun v71 =>
 zaQ (.string ⟨#[48, 48, 48, 49, 48, 50, 48, 51, 48, 52, 48, 53, 48, 54, 48, 55, 48, 56, 48, 57, 49, 48, 49, 49, 49, 50, 49, 51, 49, 52, 49, 53, 49, 54, 49, 55, 49, 56, 49, 57, 50, 48, 50, 49, 50, 50, 50, 51, 50, 52, 50, 53, 50, 54, 50, 55, 50, 56, 50, 57, 51, 48, 51, 49, 51, 50, 51, 51, 51, 52, 51, 53, 51, 54, 51, 55, 51, 56, 51, 57, 52, 48, 52, 49, 52, 50, 52, 51, 52, 52, 52, 53, 52, 54, 52, 55, 52, 56, 52, 57, 53, 48, 53, 49, 53, 50, 53, 51, 53, 52, 53, 53, 53, 54, 53, 55, 53, 56, 53, 57, 54, 48, 54, 49, 54, 50, 54, 51, 54, 52, 54, 53, 54, 54, 54, 55, 54, 56, 54, 57, 55, 48, 55, 49, 55, 50, 55, 51, 55, 52, 55, 53, 55, 54, 55, 55, 55, 56, 55, 57, 56, 48, 56, 49, 56, 50, 56, 51, 56, 52, 56, 53, 56, 54, 56, 55, 56, 56, 56, 57, 57, 48, 57, 49, 57, 50, 57, 51, 57, 52, 57, 53, 57, 54, 57, 55, 57, 56, 57, 57]⟩) v71 fun v72 =>
 zaQ (.string ⟨#[48, 48, 48, 49, 48, 50, 48, 51, 48, 52, 48, 53, 48, 54, 48, 55, 48, 56, 48, 57, 49, 48, 49, 49, 49, 50, 49, 51, 49, 52, 49, 53, 49, 54, 49, 55, 49, 56, 49, 57, 50, 48, 50, 49, 50, 50, 50, 51, 50, 52, 50, 53, 50, 54, 50, 55, 50, 56, 50, 57, 51, 48, 51, 49, 51, 50, 51, 51, 51, 52, 51, 53, 51, 54, 51, 55, 51, 56, 51, 57, 52, 48, 52, 49, 52, 50, 52, 51, 52, 52, 52, 53, 52, 54, 52, 55, 52, 56, 52, 57, 53, 48, 53, 49, 53, 50, 53, 51, 53, 52, 53, 53, 53, 54, 53, 55, 53, 56, 53, 57, 54, 48, 54, 49, 54, 50, 54, 51, 54, 52, 54, 53, 54, 54, 54, 55, 54, 56, 54, 57, 55, 48, 55, 49, 55, 50, 55, 51, 55, 52, 55, 53, 55, 54, 55, 55, 55, 56, 55, 57, 56, 48, 56, 49, 56, 50, 56, 51, 56, 52, 56, 53, 56, 54, 56, 55, 56, 56, 56, 57, 57, 48, 57, 49, 57, 50, 57, 51, 57, 52, 57, 53, 57, 54, 57, 55, 57, 56, 57, 57]⟩) v68 fun v73 =>
 pIdx 1 x0 v69 fun p74 =>
 zam 1 H58 p74 v72 fun H75 =>
 pIdx 1 x0 v70 fun p76 =>
 zam 1 H75 p76 v73 fun H77 =>
 pBin PP .sub T.int (l57.getD 1 undef) (.int .i64 3) fun v78 =>
 pBin PP .sub T.int (l57.getD 1 undef) (.int .i64 4) fun v79 =>
 pBin PP .add T.uint32 v66 (.int .u32 1) fun v80 =>
 zaQ (.string ⟨#[48, 48, 48, 49, 48, 50, 48, 51, 48, 52, 48, 53, 48, 54, 48, 55, 48, 56, 48, 57, 49, 48, 49, 49, 49, 50, 49, 51, 49, 52, 49, 53, 49, 54, 49, 55, 49, 56, 49, 57, 50, 48, 50, 49, 50, 50, 50, 51, 50, 52, 50, 53, 50, 54, 50, 55, 50, 56, 50, 57, 51, 48, 51, 49, 51, 50, 51, 51, 51, 52, 51, 53, 51, 54, 51, 55, 51, 56, 51, 57, 52, 48, 52, 49, 52, 50, 52, 51, 52, 52, 52, 53, 52, 54, 52, 55, 52, 56, 52, 57, 53, 48, 53, 49, 53, 50, 53, 51, 53, 52, 53, 53, 53, 54, 53, 55, 53, 56, 53, 57, 54, 48, 54, 49, 54, 50, 54, 51, 54, 52, 54, 53, 54, 54, 54, 55, 54, 56, 54, 57, 55, 48, 55, 49, 55, 50, 55, 51, 55, 52, 55, 53, 55, 54, 55, 55, 55, 56, 55, 57, 56, 48, 56, 49, 56, 50, 56, 51, 56, 52, 56, 53, 56, 54, 56, 55, 56, 56, 56, 57, 57, 48, 57, 49, 57, 50, 57, 51, 57, 52, 57, 53, 57, 54, 57, 55, 57, 56, 57, 57]⟩) v80 fun v81 =>
 zaQ (.string ⟨#[48, 48, 48, 49, 48, 50, 48, 51, 48, 52, 48, 53, 48, 54, 48, 55, 48, 56, 48, 57, 49, 48, 49, 49, 49, 50, 49, 51, 49, 52, 49, 53, 49, 54, 49, 55, 49, 56, 49, 57, 50, 48, 50, 49, 50, 50, 50, 51, 50, 52, 50, 53, 50, 54, 50, 55, 50, 56, 50, 57, 51, 48, 51, 49, 51, 50, 51, 51, 51, 52, 51, 53, 51, 54, 51, 55, 51, 56, 51, 57, 52, 48, 52, 49, 52, 50, 52, 51, 52, 52, 52, 53, 52, 54, 52, 55, 52, 56, 52, 57, 53, 48, 53, 49, 53, 50, 53, 51, 53, 52, 53, 53, 53, 54, 53, 55, 53, 56, 53, 57, 54, 48, 54, 49, 54, 50, 54, 51, 54, 52, 54, 53, 54, 54, 54, 55, 54, 56, 54, 57, 55, 48, 55, 49, 55, 50, 55, 51, 55, 52, 55, 53, 55, 54, 55, 55, 55, 56, 55, 57, 56, 48, 56, 49, 56, 50, 56, 51, 56, 52, 56, 53, 56, 54, 56, 55, 56, 56, 56, 57, 57, 48, 57, 49, 57, 50, 57, 51, 57, 52, 57, 53, 57, 54, 57, 55, 57, 56, 57, 57]⟩) v66 fun v82 =>
 pIdx 1 x0 v78 fun p83 =>
 zam 1 H77 p83 v81 fun H84 =>
 pIdx 1 x0 v79 fun p85 =>
 zam 1 H84 p85 v82 fun H86 =>
 pBin PP .sub T.int (l57.getD 1 undef) (.int .i64 4) fun v87 =>
 some (.next, [v87, v64], H86))
 (some (.next, [(l57.getD 1 undef), v60], H58))) fun q88 l89 H90 => zaD q88
 (pBin PP .geq T.int (l89.getD 0 undef) (.int .i64 2) fun v92 =>
 zaa v92 fun b93 => br b93
 (pBin PP .rem T.uint32 (l89.getD 1 undef) (.int .u32 100) fun v94 =>
 pBin PP .mul T.uint32 v94 (.int .u32 2) fun v95 =>
 pBin PP .quo T.uint32 (l89.getD 1 undef) (.int .u32 100) fun v96 =>
 pBin PP .sub T.int (l89.getD 0 undef) (.int .i64 1) fun v97 =>
 pBin PP .sub T.int (l89.getD 0 undef) (.int .i64 2) fun v98 =>
 pBin PP .add T.uint32 v95 (.int .u32 1) fun v99 =>
 zaQ (.string ⟨#[48, 48, 48, 49, 48, 50, 48, 51, 48, 52, 48, 53, 48, 54, 48, 55, 48, 56, 48, 57, 49, 48, 49, 49, 49, 50, 49, 51, 49, 52, 49, 53, 49, 54, 49, 55, 49, 56, 49, 57, 50, 48, 50, 49, 50, 50, 50, 51, 50, 52, 50, 53, 50, 54, 50, 55, 50, 56, 50, 57, 51, 48, 51, 49, 51, 50, 51, 51, 51, 52, 51, 53, 51, 54, 51, 55, 51, 56, 51, 57, 52, 48, 52, 49, 52, 50, 52, 51, 52, 52, 52, 53, 52, 54, 52, 55, 52, 56, 52, 57, 53, 48, 53, 49, 53, 50, 53, 51, 53, 52, 53, 53, 53, 54, 53, 55, 53, 56, 53, 57, 54, 48, 54, 49, 54, 50, 54, 51, 54, 52, 54, 53, 54, 54, 54, 55, 54, 56, 54, 57, 55, 48, 55, 49, 55, 50, 55, 51, 55, 52, 55, 53, 55, 54, 55, 55, 55, 56, 55, 57, 56, 48, 56, 49, 56, 50, 56, 51, 56, 52, 56, 53, 56, 54, 56, 55, 56, 56, 56, 57, 57, 48, 57, 49, 57, 50, 57, 51, 57, 52, 57, 53, 57, 54, 57, 55, 57, 56, 57, 57]⟩) v99 fun v100 =>
 zaQ (.string ⟨#[48, 48, 48, 49, 48, 50, 48, 51, 48, 52, 48, 53, 48, 54, 48, 55, 48, 56, 48, 57, 49, 48, 49, 49, 49, 50, 49, 51, 49, 52, 49, 53, 49, 54, 49, 55, 49, 56, 49, 57, 50, 48, 50, 49, 50, 50, 50, 51, 50, 52, 50, 53, 50, 54, 50, 55, 50, 56, 50, 57, 51, 48, 51, 49, 51, 50, 51, 51, 51, 52, 51, 53, 51, 54, 51, 55, 51, 56, 51, 57, 52, 48, 52, 49, 52, 50, 52, 51, 52, 52, 52, 53, 52, 54, 52, 55, 52, 56, 52, 57, 53, 48, 53, 49, 53, 50, 53, 51, 53, 52, 53, 53, 53, 54, 53, 55, 53, 56, 53, 57, 54, 48, 54, 49, 54, 50, 54, 51, 54, 52, 54, 53, 54, 54, 54, 55, 54, 56, 54, 57, 55, 48, 55, 49, 55, 50, 55, 51, 55, 52, 55, 53, 55, 54, 55, 55, 55, 56, 55, 57, 56, 48, 56, 49, 56, 50, 56, 51, 56, 52, 56, 53, 56, 54, 56, 55, 56, 56, 56, 57, 57, 48, 57, 49, 57, 50, 57, 51, 57, 52, 57, 53, 57, 54, 57, 55, 57, 56, 57, 57]⟩) v95 fun v101 =>
 pIdx 1 x0 v97 fun p102 =>
 zam 1 H90 p102 v100 fun H103 =>
 pIdx 1 x0 v98 fun p104 =>
 zam 1 H103 p104 v101 fun H105 =>
 pBin PP .sub T.int (l89.getD 0 undef) (.int .i64 2) fun v106 =>
 pBin PP .gtr T.int v106 (.int .i64 0) fun v107 =>
 zaa v107 fun b108 => br b108
 (pBin PP .add T.uint32 (.int .u32 48) v96 fun v109 =>
 zal .u8 v109 fun v110 =>
 pIdx 1 x0 (.int .i64 0) fun p111 =>
 zam 1 H105 p111 v110 fun H112 =>
 some ((.tuple #[]), H112))
 (some ((.tuple #[]), H105)))
 (pBin PP .gtr T.int (l89.getD 0 undef) (.int .i64 0) fun v113 =>
 zaa v113 fun b114 => br b114
 (pBin PP .add T.uint32 (.int .u32 48) (l89.getD 1 undef) fun v115 =>
 zal .u8 v115 fun v116 =>
 pIdx 1 x0 (.int .i64 0) fun p117 =>
 zam 1 H90 p117 v116 fun H118 =>
 some ((.tuple #[]), H118))
 (some ((.tuple #[]), H90))))
 (fun i91 => none)
 (some ((l89.headD undef), H90))) (
 none))
 (some ((l57.headD undef), H58)) := by kernel_rfl
noncomputable def zas (R : zad) (v25 : Value) (v26 : Value) (v28 : Value) (p11 : Value) (l29 : List Value) (H30 : Hp) : Option Outc :=
 pBin PP .geq T.uint64 (l29.getD 0 undef) v26 fun v31 =>
 zaa v31 fun b32 => br b32
 (pBin PP .sub T.int (l29.getD 1 undef) (.int .i64 1) fun v33 =>
 pBin PP .and T.uint (l29.getD 0 undef) v28 fun v34 =>
 zaQ (.string ⟨#[48, 49, 50, 51, 52, 53, 54, 55, 56, 57, 97, 98, 99, 100, 101, 102, 103, 104, 105, 106, 107, 108, 109, 110, 111, 112, 113, 114, 115, 116, 117, 118, 119, 120, 121, 122]⟩) v34 fun v35 =>
 zb0 65 1 p11 v33 fun p36 =>
 zam 1 H30 p36 v35 fun H37 =>
 pBin PP .shr T.uint64 (l29.getD 0 undef) v25 fun v38 =>
 some (.next, [v38, v33], H37))
 (some (.exit 0, [(l29.getD 0 undef), (l29.getD 1 undef)], H30))
noncomputable def zcu (R : zad) (v63 : Value) (p11 : Value) (l64 : List Value) (H65 : Hp) : Option Outc :=
 pBin PP .geq T.uint64 (l64.getD 0 undef) v63 fun v66 =>
 zaa v66 fun b67 => br b67
 (pBin PP .sub T.int (l64.getD 1 undef) (.int .i64 1) fun v68 =>
 pBin PP .quo T.uint64 (l64.getD 0 undef) v63 fun v69 =>
 pBin PP .mul T.uint64 v69 v63 fun v70 =>
 pBin PP .sub T.uint64 (l64.getD 0 undef) v70 fun v71 =>
 zaQ (.string ⟨#[48, 49, 50, 51, 52, 53, 54, 55, 56, 57, 97, 98, 99, 100, 101, 102, 103, 104, 105, 106, 107, 108, 109, 110, 111, 112, 113, 114, 115, 116, 117, 118, 119, 120, 121, 122]⟩) v71 fun v72 =>
 zb0 65 1 p11 v68 fun p73 =>
 zam 1 H65 p73 v72 fun H74 =>
 some (.next, [v69, v68], H74))
 (some (.exit 2, [(l64.getD 0 undef), (l64.getD 1 undef)], H65))
theorem zcW (R : zad) (x0 x1 x2 x3 x4 : Value) (H0 : Hp) : zbH R x0 x1 x2 x3 x4 H0 =
zav (
 pBin PP .lss T.int x2 (.int .i64 2) fun v1 =>
 zaa v1 fun b2 => br b2
 (none)
 (pBin PP .eql T.int x2 (.int .i64 10) fun v3 =>
 zaa v3 fun b4 => br b4
 (none)
 (pBin PP .gtr T.int x2 (.int .i64 36) fun v5 =>
 zaa v5 fun b6 => br b6
 (none)
 (some (.next, [], H0))))) fun q7 l8 H9 => zaD q7
 (zdx [.int .u8 0, .int .u8 0, .int .u8 0, .int .u8 0, .int .u8 0, .int .u8 0, .int .u8 0, .int .u8 0, .int .u8 0, .int .u8 0, .int .u8 0, .int .u8 0, .int .u8 0, .int .u8 0, .int .u8 0, .int .u8 0, .int .u8 0, .int .u8 0, .int .u8 0, .int .u8 0, .int .u8 0, .int .u8 0, .int .u8 0, .int .u8 0, .int .u8 0, .int .u8 0, .int .u8 0, .int .u8 0, .int .u8 0, .int .u8 0, .int .u8 0, .int .u8 0, .int .u8 0, .int .u8 0, .int .u8 0, .int .u8 0, .int .u8 0, .int .u8 0, .int .u8 0, .int .u8 0, .int .u8 0, .int .u8 0, .int .u8 0, .int .u8 0, .int .u8 0, .int .u8 0, .int .u8 0, .int .u8 0, .int .u8 0, .int .u8 0, .int .u8 0, .int .u8 0, .int .u8 0, .int .u8 0, .int .u8 0, .int .u8 0, .int .u8 0, .int .u8 0, .int .u8 0, .int .u8 0, .int .u8 0, .int .u8 0, .int .u8 0, .int .u8 0, .int .u8 0] H9 fun p11 H12 =>
 zav (
 zaa x3 fun b13 => br b13
 (pUn .neg x1 fun v14 =>
 some (.next, [v14], H12))
 (some (.next, [x1], H12))) fun q15 l16 H17 => zaD q15
 (zae R F.a57 [x2] H17 fun r19 H20 =>
 zaa r19 fun b21 => br b21
 (zal .u64 x2 fun v22 =>
 zae R F.a51 [v22] H20 fun r23 H24 =>
 zal .u64 r23 fun v25 =>
 zal .u64 x2 fun v26 =>
 zal .u64 x2 fun v27 =>
 pBin PP .sub T.uint v27 (.int .u64 1) fun v28 =>
 zav (zaG (zas R v25 v26 v28 p11) [(l16.getD 0 undef), (.int .i64 65)] H24) fun q39 l40 H41 => zaD q39 none
 (fun i42 => zaA i42 0 (
 pBin PP .sub T.int (l40.getD 1 undef) (.int .i64 1) fun v43 =>
 zaQ (.string ⟨#[48, 49, 50, 51, 52, 53, 54, 55, 56, 57, 97, 98, 99, 100, 101, 102, 103, 104, 105, 106, 107, 108, 109, 110, 111, 112, 113, 114, 115, 116, 117, 118, 119, 120, 121, 122]⟩) (l40.getD 0 undef) fun v44 =>
 zb0 65 1 p11 v43 fun p45 =>
 zam 1 H41 p45 v44 fun H46 =>
 zaa x3 fun b47 => br b47
 (pBin PP .sub T.int v43 (.int .i64 1) fun v48 =>
 zb0 65 1 p11 v48 fun p49 =>
 zam 1 H46 p49 (.int .u8 45) fun H50 =>
 zaa x4 fun b51 => br b51
 (zbU 65 1 p11 (some v48) none H50 fun v52 =>
 zbw T.uint8 1 1 x0 v52 H50 fun v53 H54 =>
 some ((.tuple #[v53, (.string ⟨#[]⟩)]), H54))
 (zbU 65 1 p11 (some v48) none H50 fun v55 =>
 zdM v55 H50 fun v56 =>
 some ((.tuple #[(.slice none 0 0), v56]), H50)))
 (zaa x4 fun b57 => br b57
 (zbU 65 1 p11 (some v43) none H46 fun v58 =>
 zbw T.uint8 1 1 x0 v58 H46 fun v59 H60 =>
 some ((.tuple #[v59, (.string ⟨#[]⟩)]), H60))
 (zbU 65 1 p11 (some v43) none H46 fun v61 =>
 zdM v61 H46 fun v62 =>
 some ((.tuple #[(.slice none 0 0), v62]), H46)))) (
 none))
 (some ((l40.headD undef), H41)))
 (zal .u64 x2 fun v63 =>
 zav (zaG (zcu R v63 p11) [(l16.getD 0 undef), (.int .i64 65)] H20) fun q75 l76 H77 => zaD q75 none
 (fun i78 => zaA i78 2 (
 pBin PP .sub T.int (l76.getD 1 undef) (.int .i64 1) fun v79 =>
 zaQ (.string ⟨#[48, 49, 50, 51, 52, 53, 54, 55, 56, 57, 97, 98, 99, 100, 101, 102, 103, 104, 105, 106, 107, 108, 109, 110, 111, 112, 113, 114, 115, 116, 117, 118, 119, 120, 121, 122]⟩) (l76.getD 0 undef) fun v80 =>
 zb0 65 1 p11 v79 fun p81 =>
 zam 1 H77 p81 v80 fun H82 =>
 zaa x3 fun b83 => br b83
 (pBin PP .sub T.int v79 (.int .i64 1) fun v84 =>
 zb0 65 1 p11 v84 fun p85 =>
 zam 1 H82 p85 (.int .u8 45) fun H86 =>
 zaa x4 fun b87 => br b87
 (zbU 65 1 p11 (some v84) none H86 fun v88 =>
 zbw T.uint8 1 1 x0 v88 H86 fun v89 H90 =>
 some ((.tuple #[v89, (.string ⟨#[]⟩)]), H90))
 (zbU 65 1 p11 (some v84) none H86 fun v91 =>
 zdM v91 H86 fun v92 =>
 some ((.tuple #[(.slice none 0 0), v92]), H86)))
 (zaa x4 fun b93 => br b93
 (zbU 65 1 p11 (some v79) none H82 fun v94 =>
 zbw T.uint8 1 1 x0 v94 H82 fun v95 H96 =>
 some ((.tuple #[v95, (.string ⟨#[]⟩)]), H96))
 (zbU 65 1 p11 (some v79) none H82 fun v97 =>
 zdM v97 H82 fun v98 =>
 some ((.tuple #[(.slice none 0 0), v98]), H82)))) (
 none))
 (some ((l76.headD undef), H77))))
 (fun i18 => none)
 (some ((l16.headD undef), H17)))
 (fun i10 => none)
 (some ((l8.headD undef), H9)) := by kernel_rfl
end Go.AM
namespace Go.AM
open Go
def HS (P : Program) (F : Nat → Option AObj) : Hp := ⟨P.globals.size, fun i => if i < P.globals.size then F i else none, fun _ => none⟩
def isInt : Value → Bool
  | .int _ _ => true
  | _ => false
theorem isInt_rel {β : Bt} {v : Value} (h : isInt v = true) : VRel β v v := by
  unfold isInt at h
  split at h
  · exact .int _ _
  · cases h
theorem relStart {P : Program} {W : World} (h : P.globals.size ≤ W.heap.size) {F : Nat → Option AObj}
    (hF : ∀ i o, F i = some o → (∃ q, o = .fix q ∧ W.heap[i]? = some q) ∨ (∃ cs, o = .cells cs false ∧ ∀ (j : Nat) v, cs[j]? = some v → isInt v = true ∧ W.cell? ⟨i, j, none⟩ = some v)) :
    Rel P W (HS P F) (B00 P) ∧ (∀ i o, (HS P F).get i = some o → o.own = false) := by
  have key : ∀ i o, (HS P F).get i = some o → i < P.globals.size ∧ F i = some o := fun i o hi => by
    have hi : (if i < P.globals.size then F i else none) = some o := hi
    split at hi
    · exact ⟨by assumption, hi⟩
    · cases hi
  have hno : ∀ i o, (HS P F).get i = some o → o.own = false := fun i o hi => by
    rcases hF i o (key i o hi).2 with ⟨q, rfl, _⟩ | ⟨cs, rfl, _⟩ <;> rfl
  refine ⟨⟨fun i cs own hi => ?_, fun i kv hi => ?_, fun i j o o' x y _ hi _ ho => ?_, fun i hi => ⟨?_, by unfold B00; rw [if_neg (by have : P.globals.size ≤ i := hi; omega)]⟩,
    fun i x hx => (by unfold B00 at hx; split at hx <;> cases hx; show i < _; omega), fun g hg => ⟨0, by unfold B00; rw [if_pos hg]⟩, fun i o hi => ?_, fun i T hi => (by cases hi)⟩, hno⟩
  · obtain ⟨h1, h2⟩ := key i _ hi
    rcases hF i _ h2 with ⟨q, e, _⟩ | ⟨cs', e, hc⟩
    · cases e
    · cases e
      refine ⟨⟨i, 0, 0⟩, by unfold B00; rw [if_pos h1], fun j v hv => ?_, fun q => by cases q⟩
      obtain ⟨c1, c2⟩ := hc j v hv
      exact ⟨v, by rw [Nat.zero_add]; exact c2, isInt_rel c1⟩
  · obtain ⟨h1, h2⟩ := key i _ hi
    rcases hF i _ h2 with ⟨q, e, _⟩ | ⟨cs', e, hc⟩ <;> cases e
  · rw [hno i o hi] at ho; cases ho
  · show (if i < P.globals.size then F i else none) = none
    have : P.globals.size ≤ i := hi
    rw [if_neg (by omega)]
  · obtain ⟨h1, h2⟩ := key i _ hi
    rcases hF i _ h2 with ⟨q, e, hq⟩ | ⟨cs', e, hc⟩
    · cases e
      exact ⟨⟨i, 0, 0⟩, by unfold B00; rw [if_pos h1], rfl, hq⟩
    · cases e
end Go.AM
namespace Go.Proofs
open Go.Shelf
def Tryz.laysM246_ren : Go.Shelf.Ren := ⟨fun | 246 => 82 | 283 => 94 | 284 => 95 | 285 => 96 | 286 => 97 | 129 => 112 | 317 => 111 | 318 => 113 | 319 => 114 | 320 => 115 | 337 => 122 | 338 => 123 | n => n, fun | 2 => 2 | 3 => 3 | 9 => 9 | 4 => 4 | 171 => 143 | 0 => 0 | 53 => 37 | 37 => 85 | 5 => 5 | 173 => 145 | 212 => 156 | 51 => 141 | 20 => 20 | 213 => 157 | 46 => 131 | 232 => 183 | 233 => 184 | n => n, fun | 17 => 3 | 18 => 8 | 19 => 9 | n => n⟩
theorem Tryz.laysM246 : Go.Proofs.LaysM.n246 Tryz.prog Tryz.laysM246_ren := {
  mixed := by kernel_rfl
  f129 := Tryz.func112.trans (congrArg some (by kernel_rfl))
  f246 := Tryz.func82.trans (congrArg some (by kernel_rfl))
  f283 := Tryz.func94.trans (congrArg some (by kernel_rfl))
  f284 := Tryz.func95.trans (congrArg some (by kernel_rfl))
  f285 := Tryz.func96.trans (congrArg some (by kernel_rfl))
  f286 := Tryz.func97.trans (congrArg some (by kernel_rfl))
  f317 := Tryz.func111.trans (congrArg some (by kernel_rfl))
  f318 := Tryz.func113.trans (congrArg some (by kernel_rfl))
  f319 := Tryz.func114.trans (congrArg some (by kernel_rfl))
  f320 := Tryz.func115.trans (congrArg some (by kernel_rfl))
  f337 := Tryz.func122.trans (congrArg some (by kernel_rfl))
  f338 := Tryz.func123.trans (congrArg some (by kernel_rfl))
  t0 := Tryz.underlying0
  a0 := Tryz.isAgg0
  z0 := Tryz.sizeOf0
  v0 := Tryz.zeroValue0
  t2 := Tryz.underlying2
  a2 := Tryz.isAgg2
  z2 := Tryz.sizeOf2
  v2 := Tryz.zeroValue2
  t3 := Tryz.underlying3
  a3 := Tryz.isAgg3
  z3 := Tryz.sizeOf3
  v3 := Tryz.zeroValue3
  t4 := Tryz.underlying4
  a4 := Tryz.isAgg4
  z4 := Tryz.sizeOf4
  v4 := Tryz.zeroValue4
  t5 := Tryz.underlying5
  a5 := Tryz.isAgg5
  z5 := Tryz.sizeOf5
  v5 := Tryz.zeroValue5
  t9 := Tryz.underlying9
  a9 := Tryz.isAgg9
  z9 := Tryz.sizeOf9
  v9 := Tryz.zeroValue9
  t20 := Tryz.underlying20
  a20 := Tryz.isAgg20
  z20 := Tryz.sizeOf20
  v20 := Tryz.zeroValue20
  t37 := Tryz.underlying85
  a37 := Tryz.isAgg85
  z37 := Tryz.sizeOf85
  v37 := Tryz.zeroValue85
  t46 := Tryz.underlying131
  a46 := Tryz.isAgg131
  z46 := Tryz.sizeOf131
  v46 := Tryz.zeroValue131
  t51 := Tryz.underlying141
  a51 := Tryz.isAgg141
  z51 := Tryz.sizeOf141
  v51 := Tryz.zeroValue141
  t53 := Tryz.underlying37
  a53 := Tryz.isAgg37
  z53 := Tryz.sizeOf37
  v53 := Tryz.zeroValue37
  t171 := Tryz.underlying143
  a171 := Tryz.isAgg143
  z171 := Tryz.sizeOf143
  v171 := Tryz.zeroValue143
  t173 := Tryz.underlying145
  a173 := Tryz.isAgg145
  z173 := Tryz.sizeOf145
  v173 := Tryz.zeroValue145
  t212 := Tryz.underlying156
  a212 := Tryz.isAgg156
  z212 := Tryz.sizeOf156
  v212 := Tryz.zeroValue156
  t213 := Tryz.underlying157
  a213 := Tryz.isAgg157
  z213 := Tryz.sizeOf157
  t232 := Tryz.underlying183
  a232 := Tryz.isAgg183
  z232 := Tryz.sizeOf183
  v232 := Tryz.zeroValue183
  t233 := Tryz.underlying184
  a233 := Tryz.isAgg184
  z233 := Tryz.sizeOf184
  v233 := Tryz.zeroValue184
  g17 := by kernel_rfl
  g18 := by kernel_rfl
  g19 := by kernel_rfl
  i0 := by kernel_rfl
  i2 := by kernel_rfl
  i3 := by kernel_rfl
  i4 := by kernel_rfl
  i5 := by kernel_rfl
  i9 := by kernel_rfl
  i20 := by kernel_rfl
  i37 := by kernel_rfl
  i46 := by kernel_rfl
  i51 := by kernel_rfl
  i53 := by kernel_rfl
  i171 := by kernel_rfl
  i173 := by kernel_rfl
  i212 := by kernel_rfl
  i232 := by kernel_rfl
  i233 := by kernel_rfl
  m17 := by kernel_rfl
  m18 := by kernel_rfl
  m19 := by kernel_rfl }
open Go.RowKit Go.Sort Go.Lib in
theorem Tryz.internal_strconv_FormatInt_10 (n : Int) (h0 : -9223372036854775808 ≤ n) (h1 : n ≤ 9223372036854775807) (w : World) (htab : Lib.TabIs Tryz.prog w "internal/strconv.uint64pow10" .u64 Lib.pow10Tab) :
    Calls Tryz.prog 82 #[.int .i64 n, .int .i64 10] w fun e w' => e = .returned (.string ⟨(Lib.itoa n).toArray⟩) ∧ ∃ k os, w' = grow (w.drewN k) os := Any.internal_strconv_FormatInt_10 Tryz.laysM246 n h0 h1 w htab
def Tryz.laysC245_ren : Go.Shelf.Ren := ⟨fun | 245 => 91 | 279 => 107 | 280 => 108 | 281 => 109 | 282 => 110 | 316 => 120 | 171 => 41 | 205 => 121 | 243 => 68 | 246 => 82 | 283 => 94 | 284 => 95 | 285 => 96 | 286 => 97 | 129 => 112 | 317 => 111 | 318 => 113 | 319 => 114 | 320 => 115 | 337 => 122 | 338 => 123 | n => n, fun | 9 => 9 | 3 => 3 | 75 => 90 | 167 => 150 | 4 => 4 | 168 => 152 | 210 => 176 | 37 => 85 | 0 => 0 | 127 => 120 | 145 => 182 | 143 => 180 | 2 => 2 | 171 => 143 | 53 => 37 | 5 => 5 | 173 => 145 | 212 => 156 | 51 => 141 | 20 => 20 | 213 => 157 | 46 => 131 | 232 => 183 | 233 => 184 | 80 => 66 | n => n, fun | 15 => 6 | 16 => 7 | 17 => 3 | 18 => 8 | 19 => 9 | n => n⟩
theorem Tryz.laysC245 : Go.Proofs.LaysC.n245 Tryz.prog Tryz.laysC245_ren := {
  mixed := by kernel_rfl
  f129 := Tryz.func112.trans (congrArg some (by kernel_rfl))
  f171 := Tryz.func41.trans (congrArg some (by kernel_rfl))
  f205 := Tryz.func121.trans (congrArg some (by kernel_rfl))
  f243 := Tryz.func68.trans (congrArg some (by kernel_rfl))
  f245 := Tryz.func91.trans (congrArg some (by kernel_rfl))
  f246 := Tryz.func82.trans (congrArg some (by kernel_rfl))
  f279 := Tryz.func107.trans (congrArg some (by kernel_rfl))
  f280 := Tryz.func108.trans (congrArg some (by kernel_rfl))
  f281 := Tryz.func109.trans (congrArg some (by kernel_rfl))
  f282 := Tryz.func110.trans (congrArg some (by kernel_rfl))
  f283 := Tryz.func94.trans (congrArg some (by kernel_rfl))
  f284 := Tryz.func95.trans (congrArg some (by kernel_rfl))
  f285 := Tryz.func96.trans (congrArg some (by kernel_rfl))
  f286 := Tryz.func97.trans (congrArg some (by kernel_rfl))
  f316 := Tryz.func120.trans (congrArg some (by kernel_rfl))
  f317 := Tryz.func111.trans (congrArg some (by kernel_rfl))
  f318 := Tryz.func113.trans (congrArg some (by kernel_rfl))
  f319 := Tryz.func114.trans (congrArg some (by kernel_rfl))
  f320 := Tryz.func115.trans (congrArg some (by kernel_rfl))
  f337 := Tryz.func122.trans (congrArg some (by kernel_rfl))
  f338 := Tryz.func123.trans (congrArg some (by kernel_rfl))
  t0 := Tryz.underlying0
  a0 := Tryz.isAgg0
  z0 := Tryz.sizeOf0
  v0 := Tryz.zeroValue0
  t2 := Tryz.underlying2
  a2 := Tryz.isAgg2
  z2 := Tryz.sizeOf2
  v2 := Tryz.zeroValue2
  t3 := Tryz.underlying3
  a3 := Tryz.isAgg3
  z3 := Tryz.sizeOf3
  v3 := Tryz.zeroValue3
  t4 := Tryz.underlying4
  a4 := Tryz.isAgg4
  z4 := Tryz.sizeOf4
  v4 := Tryz.zeroValue4
  t5 := Tryz.underlying5
  a5 := Tryz.isAgg5
  z5 := Tryz.sizeOf5
  v5 := Tryz.zeroValue5
  t9 := Tryz.underlying9
  a9 := Tryz.isAgg9
  z9 := Tryz.sizeOf9
  v9 := Tryz.zeroValue9
  t20 := Tryz.underlying20
  a20 := Tryz.isAgg20
  z20 := Tryz.sizeOf20
  v20 := Tryz.zeroValue20
  t37 := Tryz.underlying85
  a37 := Tryz.isAgg85
  z37 := Tryz.sizeOf85
  v37 := Tryz.zeroValue85
  t46 := Tryz.underlying131
  a46 := Tryz.isAgg131
  z46 := Tryz.sizeOf131
  v46 := Tryz.zeroValue131
  t51 := Tryz.underlying141
  a51 := Tryz.isAgg141
  z51 := Tryz.sizeOf141
  v51 := Tryz.zeroValue141
  t53 := Tryz.underlying37
  a53 := Tryz.isAgg37
  z53 := Tryz.sizeOf37
  v53 := Tryz.zeroValue37
  t75 := Tryz.underlying90
  a75 := Tryz.isAgg90
  z75 := Tryz.sizeOf90
  v75 := Tryz.zeroValue90
  t127 := Tryz.underlying120
  a127 := Tryz.isAgg120
  z127 := Tryz.sizeOf120
  v127 := Tryz.zeroValue120
  t143 := Tryz.underlying180
  a143 := Tryz.isAgg180
  z143 := Tryz.sizeOf180
  v143 := Tryz.zeroValue180
  t145 := Tryz.underlying182
  a145 := Tryz.isAgg182
  z145 := Tryz.sizeOf182
  v145 := Tryz.zeroValue182
  t167 := Tryz.underlying150
  a167 := Tryz.isAgg150
  z167 := Tryz.sizeOf150
  v167 := Tryz.zeroValue150
  t168 := Tryz.underlying152
  a168 := Tryz.isAgg152
  z168 := Tryz.sizeOf152
  v168 := Tryz.zeroValue152
  t171 := Tryz.underlying143
  a171 := Tryz.isAgg143
  z171 := Tryz.sizeOf143
  v171 := Tryz.zeroValue143
  t173 := Tryz.underlying145
  a173 := Tryz.isAgg145
  z173 := Tryz.sizeOf145
  v173 := Tryz.zeroValue145
  t210 := Tryz.underlying176
  a210 := Tryz.isAgg176
  z210 := Tryz.sizeOf176
  v210 := Tryz.zeroValue176
  t212 := Tryz.underlying156
  a212 := Tryz.isAgg156
  z212 := Tryz.sizeOf156
  v212 := Tryz.zeroValue156
  t213 := Tryz.underlying157
  a213 := Tryz.isAgg157
  z213 := Tryz.sizeOf157
  t232 := Tryz.underlying183
  a232 := Tryz.isAgg183
  z232 := Tryz.sizeOf183
  v232 := Tryz.zeroValue183
  t233 := Tryz.underlying184
  a233 := Tryz.isAgg184
  z233 := Tryz.sizeOf184
  v233 := Tryz.zeroValue184
  g15 := by kernel_rfl
  g16 := by kernel_rfl
  g17 := by kernel_rfl
  g18 := by kernel_rfl
  g19 := by kernel_rfl
  t80 := Tryz.underlying66
  a80 := Tryz.isAgg66
  z80 := Tryz.sizeOf66
  v80 := Tryz.zeroValue66
  i0 := by kernel_rfl
  i2 := by kernel_rfl
  i3 := by kernel_rfl
  i4 := by kernel_rfl
  i5 := by kernel_rfl
  i9 := by kernel_rfl
  i20 := by kernel_rfl
  i37 := by kernel_rfl
  i46 := by kernel_rfl
  i51 := by kernel_rfl
  i53 := by kernel_rfl
  i75 := by kernel_rfl
  i80 := by kernel_rfl
  i127 := by kernel_rfl
  i143 := by kernel_rfl
  i145 := by kernel_rfl
  i167 := by kernel_rfl
  i168 := by kernel_rfl
  i171 := by kernel_rfl
  i173 := by kernel_rfl
  i210 := by kernel_rfl
  i212 := by kernel_rfl
  i232 := by kernel_rfl
  i233 := by kernel_rfl
  m15 := by kernel_rfl
  m16 := by kernel_rfl
  m17 := by kernel_rfl
  m18 := by kernel_rfl
  m19 := by kernel_rfl
  c0 := by kernel_rfl
  c2 := by kernel_rfl
  c3 := by kernel_rfl
  c4 := by kernel_rfl
  c5 := by kernel_rfl
  c9 := by kernel_rfl
  c20 := by kernel_rfl
  c37 := by kernel_rfl
  c46 := by kernel_rfl
  c51 := by kernel_rfl
  c53 := by kernel_rfl
  c75 := by kernel_rfl
  c80 := by kernel_rfl
  c127 := by kernel_rfl
  c143 := by kernel_rfl
  c145 := by kernel_rfl
  c167 := by kernel_rfl
  c168 := by kernel_rfl
  c171 := by kernel_rfl
  c173 := by kernel_rfl
  c210 := by kernel_rfl
  c212 := by kernel_rfl
  c213 := by kernel_rfl
  c232 := by kernel_rfl
  c233 := by kernel_rfl }
open Go.RowKit in
theorem Tryz.strconv_toError_syntax (fn s : ByteArray) (base bits : Int) (ev : Value) (w : World) (hlim : s.size ≤ 281474976710656) (hv : w.cell? ⟨6, 0, none⟩ = some ev) (hev : ev = .nilIface ∨ ∃ te pe, ev = .iface te pe) :
    Calls Tryz.prog 91 #[.string fn, .string s, .int .i64 base, .int .i64 bits, .iface 150 (.int .i64 2)] w fun e w' => ∃ N, e = .returned (.iface 152 (.pointer (some ⟨N, 0, none⟩))) ∧ w.heap.size ≤ N ∧ w'.heap[N]? = some (.cells #[.string fn, .string s, ev] 176 (0, 0)) ∧ Below w.heap.size w w' := Any.strconv_toError_syntax Tryz.laysC245 fn s base bits ev w hlim hv hev
open Go.RowKit in
theorem Tryz.strconv_toError_range (fn s : ByteArray) (base bits : Int) (ev : Value) (w : World) (hlim : s.size ≤ 281474976710656) (hv : w.cell? ⟨7, 0, none⟩ = some ev) (hev : ev = .nilIface ∨ ∃ te pe, ev = .iface te pe) :
    Calls Tryz.prog 91 #[.string fn, .string s, .int .i64 base, .int .i64 bits, .iface 150 (.int .i64 1)] w fun e w' => ∃ N, e = .returned (.iface 152 (.pointer (some ⟨N, 0, none⟩))) ∧ w.heap.size ≤ N ∧ w'.heap[N]? = some (.cells #[.string fn, .string s, ev] 176 (0, 0)) ∧ Below w.heap.size w w' := Any.strconv_toError_range Tryz.laysC245 fn s base bits ev w hlim hv hev
def Tryz.laysM157_ren : Go.Shelf.Ren := ⟨fun | 157 => 69 | 229 => 17 | 199 => 83 | 261 => 98 | 311 => 116 | 312 => 117 | n => n, fun | 9 => 9 | 31 => 57 | 3 => 3 | 5 => 5 | 4 => 4 | 119 => 135 | 0 => 0 | 40 => 65 | 152 => 106 | 21 => 21 | 154 => 108 | 51 => 141 | 141 => 148 | 196 => 161 | 193 => 158 | 198 => 164 | 49 => 162 | 194 => 159 | 201 => 167 | 226 => 178 | 46 => 131 | 227 => 179 | n => n, fun | 0 => 0 | 6 => 1 | n => n⟩
theorem Tryz.laysM157 : Go.Proofs.LaysM.n157 Tryz.prog Tryz.laysM157_ren := {
  mixed := by kernel_rfl
  f157 := Tryz.func69.trans (congrArg some (by kernel_rfl))
  f199 := Tryz.func83.trans (congrArg some (by kernel_rfl))
  f229 := Tryz.func17.trans (congrArg some (by kernel_rfl))
  f261 := Tryz.func98.trans (congrArg some (by kernel_rfl))
  f311 := Tryz.func116.trans (congrArg some (by kernel_rfl))
  f312 := Tryz.func117.trans (congrArg some (by kernel_rfl))
  t0 := Tryz.underlying0
  a0 := Tryz.isAgg0
  z0 := Tryz.sizeOf0
  v0 := Tryz.zeroValue0
  t3 := Tryz.underlying3
  a3 := Tryz.isAgg3
  z3 := Tryz.sizeOf3
  v3 := Tryz.zeroValue3
  t4 := Tryz.underlying4
  a4 := Tryz.isAgg4
  z4 := Tryz.sizeOf4
  v4 := Tryz.zeroValue4
  t5 := Tryz.underlying5
  a5 := Tryz.isAgg5
  z5 := Tryz.sizeOf5
  v5 := Tryz.zeroValue5
  t9 := Tryz.underlying9
  a9 := Tryz.isAgg9
  z9 := Tryz.sizeOf9
  v9 := Tryz.zeroValue9
  t21 := Tryz.underlying21
  a21 := Tryz.isAgg21
  z21 := Tryz.sizeOf21
  v21 := Tryz.zeroValue21
  t31 := Tryz.underlying57
  a31 := Tryz.isAgg57
  z31 := Tryz.sizeOf57
  v31 := Tryz.zeroValue57
  t40 := Tryz.underlying65
  a40 := Tryz.isAgg65
  z40 := Tryz.sizeOf65
  v40 := Tryz.zeroValue65
  t46 := Tryz.underlying131
  a46 := Tryz.isAgg131
  z46 := Tryz.sizeOf131
  v46 := Tryz.zeroValue131
  t49 := Tryz.underlying162
  a49 := Tryz.isAgg162
  z49 := Tryz.sizeOf162
  v49 := Tryz.zeroValue162
  t51 := Tryz.underlying141
  a51 := Tryz.isAgg141
  z51 := Tryz.sizeOf141
  v51 := Tryz.zeroValue141
  t119 := Tryz.underlying135
  a119 := Tryz.isAgg135
  z119 := Tryz.sizeOf135
  t141 := Tryz.underlying148
  a141 := Tryz.isAgg148
  z141 := Tryz.sizeOf148
  v141 := Tryz.zeroValue148
  t152 := Tryz.underlying106
  a152 := Tryz.isAgg106
  z152 := Tryz.sizeOf106
  v152 := Tryz.zeroValue106
  t154 := Tryz.underlying108
  a154 := Tryz.isAgg108
  z154 := Tryz.sizeOf108
  v154 := Tryz.zeroValue108
  t193 := Tryz.underlying158
  a193 := Tryz.isAgg158
  z193 := Tryz.sizeOf158
  v193 := Tryz.zeroValue158
  t194 := Tryz.underlying159
  a194 := Tryz.isAgg159
  z194 := Tryz.sizeOf159
  v194 := Tryz.zeroValue159
  t196 := Tryz.underlying161
  a196 := Tryz.isAgg161
  z196 := Tryz.sizeOf161
  v196 := Tryz.zeroValue161
  t198 := Tryz.underlying164
  a198 := Tryz.isAgg164
  z198 := Tryz.sizeOf164
  v198 := Tryz.zeroValue164
  t201 := Tryz.underlying167
  a201 := Tryz.isAgg167
  z201 := Tryz.sizeOf167
  v201 := Tryz.zeroValue167
  t226 := Tryz.underlying178
  a226 := Tryz.isAgg178
  z226 := Tryz.sizeOf178
  v226 := Tryz.zeroValue178
  t227 := Tryz.underlying179
  a227 := Tryz.isAgg179
  z227 := Tryz.sizeOf179
  v227 := Tryz.zeroValue179
  g0 := by kernel_rfl
  g6 := by kernel_rfl
  i0 := by kernel_rfl
  i3 := by kernel_rfl
  i4 := by kernel_rfl
  i5 := by kernel_rfl
  i9 := by kernel_rfl
  i21 := by kernel_rfl
  i31 := by kernel_rfl
  i40 := by kernel_rfl
  i46 := by kernel_rfl
  i49 := by kernel_rfl
  i51 := by kernel_rfl
  i141 := by kernel_rfl
  i152 := by kernel_rfl
  i154 := by kernel_rfl
  i193 := by kernel_rfl
  i194 := by kernel_rfl
  i196 := by kernel_rfl
  i198 := by kernel_rfl
  i201 := by kernel_rfl
  i226 := by kernel_rfl
  i227 := by kernel_rfl
  m0 := by kernel_rfl
  m6 := by kernel_rfl }
open Go.RowKit Go.Lib in
theorem Tryz.strings_Fields_laid (s : ByteArray) (w : World) (hs : s.size < 4294967281) (hascii : ∀ (j : Nat) b, s.data.toList[j]? = some b → b.toNat < 128) (htab : Lib.TabIs Tryz.prog w "strings.asciiSpace" .u8 Lib.asciiSpaceTab) :
    Calls Tryz.prog 69 #[.string s] w fun e w' =>
      e = .returned (.slice (some ⟨w.heap.size, 0, none⟩) (Lib.fields s.data.toList).length (Lib.fields s.data.toList).length) ∧ w' = w.alloc (.cells ((Lib.fields s.data.toList).map fun l => Value.string ⟨l.toArray⟩).toArray 9) := Any.strings_Fields_laid Tryz.laysM157 s w hs hascii htab
end Go.Proofs
namespace Go.AM
open Go
def zj1 (k : IntKind) : List Value → List Int → Bool
  | [], [] => true
  | .int k' a :: r, b :: s => decide (k' = k) && decide (a = b) && zj1 k r s
  | _, _ => false
theorem zj0 {k : IntKind} : ∀ (l : List Value) (s : List Int), zj1 k l s = true → l = s.map fun z => Value.int k z
  | [], [], _ => rfl
  | [], _ :: _, h => by cases h
  | _ :: _, [], h => by unfold zj1 at h; split at h <;> simp_all
  | v :: r, b :: s, h => by
    unfold zj1 at h
    split at h
    · rename_i e1 e2; cases e1
    · rename_i k' a r' b' s' e1 e2
      cases e1; cases e2
      rw [Bool.and_eq_true, Bool.and_eq_true, decide_eq_true_eq, decide_eq_true_eq] at h
      rw [zj0 r s h.2, h.1.1, h.1.2]; rfl
    · cases h
def zol : List Int := Go.Lib.pow10Tab
def zje : List Int := Go.Lib.asciiSpaceTab
def extFmt (args : List Value) (H : Hp) : Option (Value × Hp) :=
  match args with
  | [.int .i64 n, .int .i64 10] => if -9223372036854775808 ≤ n ∧ n ≤ 9223372036854775807 then
      match H.get G.internal_strconv_uint64pow10 with
      | some (.fix (.cells cs _ _)) => match zj1 .u64 cs.toList zol with
        | true => some (.string ⟨(Go.Lib.itoa n).toArray⟩, H)
        | false => none
      | _ => none
    else none
  | _ => none
def ziG (args : List Value) (H : Hp) : Option (Value × Hp) :=
  match args with
  | [.string s] => if s.size < 4294967281 ∧ s.data.toList.all (fun b => decide (b.toNat < 128)) = true then
      match H.get G.strings_asciiSpace with
      | some (.fix (.cells cs _ _)) => match zj1 .u8 cs.toList zje with
        | true => some (.slice (some ⟨H.next, 0, some 1⟩) (Go.Lib.fields s.data.toList).length (Go.Lib.fields s.data.toList).length, H.new (.cells ((Go.Lib.fields s.data.toList).map fun l => Value.string ⟨l.toArray⟩) true))
        | false => none
      | _ => none
    else none
  | _ => none
def Hp.skip (H : Hp) : Hp := ⟨H.next + 1, H.get, H.ty⟩
def isErr : List Value → Bool
  | .iface _ _ :: _ => true
  | _ => false
def zlN (args : List Value) (H : Hp) : Option (Value × Hp) :=
  match args with
  | [.string fn, .string s, .int .i64 _, .int .i64 _, .iface t (.int .i64 c)] => if t = T.strconv_Error ∧ s.size ≤ 281474976710656 ∧ (c = 1 ∨ c = 2) then
      match H.get (if c = 2 then G.strconv_ErrSyntax else G.strconv_ErrRange) with
      | some (.fix (.cells cs _ _)) => match isErr cs.toList with
        | true => some (.iface T.p_strconv_NumError (.pointer (some ⟨H.next, 0, none⟩)), H.skip)
        | false => none
      | _ => none
    else none
  | _ => none
def E0 : FuncId → Option (List Value → Hp → Option (Value × Hp)) := fun f =>
  if f = F.a55 then some extFmt else if f = F.a41 then some ziG else if f = F.a39 then some extCC else if f = F.a38 then some znS
  else if f = F.a24 then some zlN else none
noncomputable abbrev RR : zad := run PP orc E0
theorem zk7 {P : Program} {w w' : World} {H : Hp} {β : Bt} (h : Rel P w H β) (ho : w'.os = w.os) (ht : w'.tape = w.tape) (hu : w'.output = w.output) (hs : w.heap.size ≤ w'.heap.size) (hp : ∀ b, b < w.heap.size → w'.heap[b]? = w.heap[b]?) :
    Rel P w' H β ∧ Ext w.heap.size w H β w' H β :=
  ⟨h.frame hs fun i x hx => hp _ (h.lt i x hx), ho, ht, hu, hs, Bt.le_refl _, Nat.le_refl _, fun b hb _ => hp b hb, fun b q => .inr q, fun i x hx e => by rw [hx] at e; cases e⟩
theorem Rel.skip {P : Program} {w : World} {H : Hp} {β : Bt} (h : Rel P w H β) {b : Nat} (hb : b < w.heap.size) (t : Nat) : Rel P w H.skip (β.set H.next ⟨b, 0, t⟩) ∧ β.le (β.set H.next ⟨b, 0, t⟩) := by
  have hf := (h.fresh H.next (Nat.le_refl _)).2
  have hle : β.le (β.set H.next ⟨b, 0, t⟩) := Bt.le_set hf
  have old : ∀ {i o y}, H.get i = some o → (β.set H.next ⟨b, 0, t⟩) i = some y → β i = some y := fun {i o y} hi hy => by
    obtain ⟨z, hz⟩ := h.has i o hi
    rw [hle i z hz] at hy; cases hy; exact hz
  refine ⟨⟨fun i ds own hi => ?_, fun i kv hi => ?_, fun i j o o' x y hij hi hj ho hx hy => h.apart i j o o' x y hij hi hj ho (old hi hx) (old hj hy), fun i hi => ?_, fun i x hx => ?_, fun g hg => ?_, fun i o hi => ?_, fun i T hi => (h.tys i T hi).le hle⟩, hle⟩
  · obtain ⟨x, hx, h1, h2⟩ := h.cells i ds own hi
    exact ⟨x, hle i x hx, fun j v hv => by obtain ⟨v', h3, h4⟩ := h1 j v hv; exact ⟨v', h3, h4.mono hle⟩, h2⟩
  · obtain ⟨x, hx, es, clock, h1, h2, h3⟩ := h.maps i kv hi
    exact ⟨x, hle i x hx, es, clock, h1, h2.mono hle, h3⟩
  · have hi : H.next + 1 ≤ i := hi
    have := h.fresh i (by omega)
    exact ⟨this.1, by unfold Bt.set; rw [if_neg (by omega)]; exact this.2⟩
  · unfold Bt.set at hx
    split at hx
    · cases hx; exact hb
    · exact h.lt i x hx
  · obtain ⟨t', ht⟩ := h.glob g hg
    exact ⟨t', hle g _ ht⟩
  · obtain ⟨x, hx, h1, h2⟩ := h.fix i o hi
    exact ⟨x, hle i x hx, h1, h2⟩
theorem LRel.two {β : Bt} {a b : Value} {l : List Value} (h : LRel β [a, b] l) : ∃ a' b', l = [a', b'] ∧ VRel β a a' ∧ VRel β b b' := by
  obtain ⟨hl, hv⟩ := h
  match l, hl with
  | [x, y], _ => exact ⟨x, y, rfl, hv 0 _ _ rfl rfl, hv 1 _ _ rfl rfl⟩
theorem LRel.five {β : Bt} {a b c d e : Value} {l : List Value} (h : LRel β [a, b, c, d, e] l) : ∃ a' b' c' d' e', l = [a', b', c', d', e'] ∧ VRel β a a' ∧ VRel β b b' ∧ VRel β c c' ∧ VRel β d d' ∧ VRel β e e' := by
  obtain ⟨hl, hv⟩ := h
  match l, hl with
  | [x, y, z, u, v], _ => exact ⟨x, y, z, u, v, rfl, hv 0 _ _ rfl rfl, hv 1 _ _ rfl rfl, hv 2 _ _ rfl rfl, hv 3 _ _ rfl rfl, hv 4 _ _ rfl rfl⟩
theorem tabIs {w : World} {H : Hp} {β : Bt} (hR : Rel PP w H β) {name : String} {g : Nat} (hg : PP.globalNamed name = some g) (hlt : g < PP.globals.size) {cs : Array Value} {e : TypeId} {fz : Nat × Nat} (h : H.get g = some (.fix (.cells cs e fz))) {k : IntKind} {zs : List Int}
    (ht : zj1 k cs.toList zs = true) : Go.Lib.TabIs PP w name k zs := by
  obtain ⟨x, hx, _, hx2⟩ := hR.fix g _ h
  obtain ⟨t, ht2⟩ := hR.glob g hlt
  rw [hx] at ht2
  cases ht2
  unfold Go.Lib.TabIs World.var?
  rw [hg]
  have hx2 : w.heap[g]? = some (.cells cs e fz) := hx2
  show (match w.heap[g]? with | some (.cells cs _ _) => some cs | _ => none) = _
  rw [hx2]
  dsimp only
  congr 1
  apply Array.ext'
  rw [zj0 _ _ ht]
theorem zfp : PP.globals.size = 11 := by kernel_rfl
theorem named_pow : PP.globalNamed "internal/strconv.uint64pow10" = some G.internal_strconv_uint64pow10 := by kernel_rfl
theorem named_spc : PP.globalNamed "strings.asciiSpace" = some G.strings_asciiSpace := by kernel_rfl
theorem errIs {w : World} {H : Hp} {β : Bt} (hR : Rel PP w H β) {g : Nat} (hlt : g < PP.globals.size) {cs : Array Value} {e : TypeId} {fz : Nat × Nat} (h : H.get g = some (.fix (.cells cs e fz))) (ht : isErr cs.toList = true) :
    ∃ te pe, w.cell? ⟨g, 0, none⟩ = some (.iface te pe) := by
  obtain ⟨x, hx, _, hx2⟩ := hR.fix g _ h
  obtain ⟨t, ht2⟩ := hR.glob g hlt
  rw [hx] at ht2
  cases ht2
  obtain ⟨l⟩ := cs
  cases l with
  | nil => cases ht
  | cons v r =>
    cases v with
    | iface te pe => exact ⟨te, pe, zbX.2 ⟨_, e, fz, hx2, rfl⟩⟩
    | _ => cases ht
theorem extErr_ok {args : List Value} {H : Hp} {v : Value} {H' : Hp} (he : zlN args H = some (v, H')) {args' : List Value} {w : World} {β : Bt} (hl : LRel β args args') (hR : Rel PP w H β) :
    Calls PP F.a24 args'.toArray w fun x w' => ∃ v' β', x = .returned v' ∧ Rel PP w' H' β' ∧ Ext w.heap.size w H β w' H' β' ∧ VRel β' v v' := by
  unfold zlN at he
  split at he
  · rename_i fn s i1 i2 t c
    split at he
    · rename_i hc
      obtain ⟨rfl, hs, hc⟩ := hc
      split at he
      · rename_i cs ty fz hg
        split at he
        · rename_i hok
          cases he
          obtain ⟨a', b', c', d', e', rfl, ha, hb, hc', hd, he'⟩ := hl.five
          cases ha; cases hb; cases hc'; cases hd
          cases he' with
          | iface _ _ v' hv =>
          cases hv
          have fin : ∀ e w', (∃ N, e = Ending.returned (.iface T.p_strconv_NumError (.pointer (some ⟨N, 0, none⟩))) ∧ w.heap.size ≤ N ∧ N < w'.heap.size ∧ RowKit.Below w.heap.size w w') →
              ∃ v' β', e = .returned v' ∧ Rel PP w' H.skip β' ∧ Ext w.heap.size w H β w' H.skip β' ∧ VRel β' (.iface T.p_strconv_NumError (.pointer (some ⟨H.next, 0, none⟩))) v' := by
            rintro e w' ⟨N, rfl, h1, h2, h3⟩
            obtain ⟨r1, r2⟩ := zk7 hR h3.os h3.tape h3.output h3.size h3.block
            obtain ⟨q1, q2⟩ := r1.skip h2 0
            refine ⟨_, _, rfl, q1, ⟨h3.os, h3.tape, h3.output, h3.size, q2, Nat.le_succ _, fun b hb _ => h3.block b hb, fun b q => ?_, fun i x hx hn => ?_⟩, .iface _ _ _ (.ptr _ 0 ⟨N, 0, 0⟩ (Bt.set_same _ _ _))⟩
            · obtain ⟨i, o, x, hi, ho, hx, rfl⟩ := q
              have hi : H.get i = some o := hi
              obtain ⟨z, hz⟩ := hR.has i o hi
              rw [q2 i z hz] at hx; cases hx
              exact .inr ⟨i, o, _, hi, ho, hz, rfl⟩
            · unfold Bt.set at hx
              split at hx
              · cases hx; exact .inl h1
              · rw [hn] at hx; cases hx
          rcases hc with rfl | rfl
          · obtain ⟨te, pe, hv⟩ := errIs hR (by rw [zfp]; decide) hg hok
            refine (Go.Proofs.Tryz.strconv_toError_range fn s i1 i2 _ w hs hv (.inr ⟨te, pe, rfl⟩)).mono fun e w' ⟨N, g1, g2, g3, g4⟩ => fin e w' ⟨N, g1, g2, ?_, g4⟩
            exact (Array.getElem?_eq_some_iff.1 g3).1
          · obtain ⟨te, pe, hv⟩ := errIs hR (by rw [zfp]; decide) hg hok
            refine (Go.Proofs.Tryz.strconv_toError_syntax fn s i1 i2 _ w hs hv (.inr ⟨te, pe, rfl⟩)).mono fun e w' ⟨N, g1, g2, g3, g4⟩ => fin e w' ⟨N, g1, g2, ?_, g4⟩
            exact (Array.getElem?_eq_some_iff.1 g3).1
        · cases he
      · cases he
    · cases he
  · cases he
theorem extE0 : ExtC PP E0 := by
  intro f e hf args H v H' he args' w β hl hR
  unfold E0 at hf
  split at hf
  · rename_i hf1
    subst hf1
    cases hf
    unfold extFmt at he
    split at he
    · rename_i n
      split at he
      · rename_i hn
        split at he
        · rename_i cs ty fz hg
          split at he
          · rename_i hok
            cases he
            obtain ⟨a', b', rfl, ha, hb⟩ := hl.two
            cases ha
            cases hb
            have hT := tabIs hR named_pow (by rw [zfp]; decide) hg hok
            refine (Go.Proofs.Tryz.internal_strconv_FormatInt_10 n hn.1 hn.2 w hT).mono fun x w' ⟨h1, k, os, h2⟩ => ?_
            subst h2
            obtain ⟨r1, r2⟩ := zk7 hR (w' := Go.Sort.grow (w.drewN k) os) rfl rfl rfl (by show w.heap.size ≤ (w.heap ++ os).size; rw [Array.size_append]; omega) (fun b hb => by
              show (w.heap ++ os)[b]? = _
              rw [Array.getElem?_append_left hb])
            exact ⟨_, β, h1, r1, r2, .string _⟩
          · cases he
        · cases he
      · cases he
    · cases he
  · split at hf
    · rename_i hf2
      subst hf2
      cases hf
      unfold ziG at he
      split at he
      · rename_i s
        split at he
        · rename_i hs
          split at he
          · rename_i cs ty fz hg
            split at he
            · rename_i hok
              cases he
              obtain ⟨a', rfl, ha⟩ := hl.single
              cases ha
              have hT := tabIs hR named_spc (by rw [zfp]; decide) hg hok
              refine (Go.Proofs.Tryz.strings_Fields_laid s w hs.1 (fun j b hb => of_decide_eq_true (List.all_eq_true.1 hs.2 b (List.mem_of_getElem? hb))) hT).mono fun x w' ⟨h1, h2⟩ => ?_
              subst h2
              subst h1
              have hlr : LRel β ((Go.Lib.fields s.data.toList).map fun l => Value.string ⟨l.toArray⟩) ((((Go.Lib.fields s.data.toList).map fun l => Value.string ⟨l.toArray⟩).toArray).toList.take ((Go.Lib.fields s.data.toList).length)) := by
                have e : (((Go.Lib.fields s.data.toList).map fun l => Value.string ⟨l.toArray⟩).toArray).toList.take ((Go.Lib.fields s.data.toList).length) = (Go.Lib.fields s.data.toList).map fun l => Value.string ⟨l.toArray⟩ := by
                  rw [List.take_of_length_le (by simp)]
                rw [e]
                refine ⟨rfl, fun k v v' h1 h2 => ?_⟩
                rw [h1] at h2; cases h2
                rw [List.getElem?_map] at h1
                cases q : (Go.Lib.fields s.data.toList)[k]? with
                | none => rw [q] at h1; cases h1
                | some l => rw [q] at h1; cases h1; exact .string _
              obtain ⟨g1, g2⟩ := hR.new_cells _ (((Go.Lib.fields s.data.toList).map fun l => Value.string ⟨l.toArray⟩).toArray) 9 (0, 0) _ hlr (by intro j hj; simp)
              refine ⟨_, _, rfl, g1, g2, ?_⟩
              have := VRel.slice (β := β.set H.next ⟨w.heap.size, 0, (((Go.Lib.fields s.data.toList).map fun l => Value.string ⟨l.toArray⟩).toArray).size⟩) H.next 0 1 (Go.Lib.fields s.data.toList).length (Go.Lib.fields s.data.toList).length _ 0 (Go.Lib.fields s.data.toList).length (Bt.set_same _ _ _) (Nat.le_refl _) (Nat.le_refl _) (by simp) (by intro; rfl)
              exact this
            · cases he
          · cases he
        · cases he
      · cases he
    · split at hf
      · rename_i hf3
        subst hf3
        cases hf
        exact extCC_ok he hl hR
      · split at hf
        · rename_i hf4
          subst hf4
          cases hf
          exact extStr_ok he hl hR
        · split at hf
          · rename_i hf5
            subst hf5
            cases hf
            exact extErr_ok he hl hR
          · cases hf
end Go.AM
namespace Go.AM
open Go
def zak (op : Int) : Int := if op = 1 ∨ op = 2 ∨ op = 3 ∨ op = 4 then 0 else if op = 5 ∨ op = 15 ∨ op = 16 ∨ op = 31 ∨ op = 32 ∨ op = 33 then 1 else if op = 14 then 3 else 2
theorem c29 (op : Int) (H : Hp) : RR F.a6 [.int .i64 op] H = some (.int .i64 (zak op), H) := by
  refine (zla E0 rfl _ _).trans ?_
  unfold zha
  simp only [zaf, s_br, za4, zaq, zdj, zaV, zbk, zeb, zaI, decide_eq_true_eq, qg0]
  unfold zak
  by_cases h1 : op = 1
  · simp [h1]
  by_cases h2 : op = 2
  · simp [h2]
  by_cases h3 : op = 3
  · simp [h3]
  by_cases h4 : op = 4
  · simp [h4]
  simp only [h1, h2, h3, h4, if_false, zaq, zaV, zaf, qg0, decide_false, Bool.false_eq_true, or_self, false_or]
  by_cases h5 : op = 5
  · simp [h5]
  by_cases h6 : op = 15
  · simp [h6]
  by_cases h7 : op = 16
  · simp [h7]
  by_cases h8 : op = 31
  · simp [h8]
  by_cases h9 : op = 32
  · simp [h9]
  by_cases h10 : op = 33
  · simp [h10]
  by_cases h11 : op = 14
  · simp [h11]
  simp [h5, h6, h7, h8, h9, h10, h11]
end Go.AM
namespace Go.AM
open Go
structure Nd where
  op : Int
  w : Int
  a : Int
  b : Int
  c : Int
  num : Int
  name : ByteArray
def Nd.cells (n : Nd) : List Value := [.int .i64 n.op, .int .i64 n.w, .int .i64 n.a, .int .i64 n.b, .int .i64 n.c, .int .u64 n.num, .string n.name]
def Nd.val (n : Nd) : Value := .agg n.cells.toArray
def SlR (H : Hp) (sl : Value) (L : List Nd) : Prop :=
  (L = [] ∧ sl = .slice none 0 0) ∨ ∃ i, sl = .slice (some ⟨i, 0, some 7⟩) L.length L.length ∧ H.get i = some (.cells (L.flatMap Nd.cells) true)
structure StR (H : Hp) (p : Nat) (lim : Int) (L : List Nd) (sl : Value) (f g : Nat) : Prop where
  obj : H.get p = some (.cells [.int .i64 lim, sl, .map (some f), .map (some g)] true)
  all : SlR H sl L
section
variable {H : Hp} {p f g : Nat} {lim : Int} {L : List Nd} {sl : Value} (hs : StR H p lim L sl f g) {α : Type} (k : Value → Option α)
include hs
theorem StR.l0 : zaj 1 false H (.pointer (some ⟨p, 0, none⟩)) k = k (.int .i64 lim) := zbe hs.obj 0 _ rfl k
theorem StR.l1 : zaj 1 false H (.pointer (some ⟨p, 1, none⟩)) k = k sl := zbe hs.obj 1 _ rfl k
theorem StR.l2 : zaj 1 false H (.pointer (some ⟨p, 2, none⟩)) k = k (.map (some f)) := zbe hs.obj 2 _ rfl k
theorem StR.l3 : zaj 1 false H (.pointer (some ⟨p, 3, none⟩)) k = k (.map (some g)) := zbe hs.obj 3 _ rfl k
end
theorem SlR.len {H : Hp} {sl : Value} {L : List Nd} (h : SlR H sl L) {α : Type} (k : Value → Option α) : pLen .sl sl H k = k (.int .i64 L.length) := by
  rcases h with ⟨rfl, rfl⟩ | ⟨i, rfl, _⟩ <;> rfl
theorem zoF (L : List Nd) (i j : Nat) (hj : j < 7) : (L.flatMap Nd.cells)[i * 7 + j]? = L[i]?.bind fun n => n.cells[j]? := by
  induction L generalizing i with
  | nil => simp
  | cons n L ih =>
    rw [List.flatMap_cons]
    cases i with
    | zero => rw [Nat.zero_mul, Nat.zero_add, List.getElem?_append_left (by simp [Nd.cells]; omega)]; rfl
    | succ i =>
      have h7 : n.cells.length = 7 := rfl
      rw [List.getElem?_append_right (by omega), h7, show (i + 1) * 7 + j - 7 = i * 7 + j by omega]
      exact ih i
theorem zkw (L : List Nd) : (L.flatMap Nd.cells).length = L.length * 7 := by
  induction L with
  | nil => rfl
  | cons n L ih =>
    have h7 : n.cells.length = 7 := rfl
    rw [List.flatMap_cons, List.length_append, ih, List.length_cons, h7]; omega
def isT (L : List Nd) (t : Int) : Bool := decide (t ≥ 1) && decide (t ≤ L.length)
theorem c19 {H : Hp} {p f g : Nat} {lim t : Int} {L : List Nd} {sl : Value} (hs : StR H p lim L sl f g) : RR F.a11 [.pointer (some ⟨p, 0, none⟩), .int .i64 t] H = some (.bool (isT L t), H) := by
  refine (zh4 E0 rfl _ _ _).trans ?_
  unfold zeX
  simp only [zaf, s_br, zcb, zbm, zaE, zi3, Nat.zero_add, hs.l1, hs.all.len, decide_eq_true_eq]
  unfold isT
  by_cases h : t ≥ 1 <;> simp [h]
theorem zdo {k : IntKind} {n : Int} (h1 : k.min ≤ n) (h2 : n ≤ k.max) : k.wrap n = n := by
  cases k <;> simp [IntKind.wrap, IntKind.min, IntKind.max, IntKind.signed, IntKind.bits] at * <;> omega
def wT (L : List Nd) (d t : Int) : Int := if isT L t then (L[(t - 1).toNat]?.map Nd.w).getD d else d
theorem zbD {L : List Nd} {t : Int} : isT L t = true ↔ 1 ≤ t ∧ t ≤ L.length := by unfold isT; simp
theorem s_idx {H : Hp} {L : List Nd} {sl : Value} (h : SlR H sl L) {t : Int} (ht : isT L t = true) (hL : (L.length : Int) ≤ 4611686018427387904) {α : Type} (k : Value → Option α) :
    ∃ i n, L[(t - 1).toNat]? = some n ∧ H.get i = some (.cells (L.flatMap Nd.cells) true) ∧ pIdx 7 sl (.int .i64 (IntKind.i64.wrap (t - 1))) k = k (.pointer (some ⟨i, (t - 1).toNat * 7, none⟩)) := by
  obtain ⟨h1, h2⟩ := zbD.1 ht
  have hw : IntKind.i64.wrap (t - 1) = t - 1 := zdo (by simp [IntKind.min, IntKind.signed, IntKind.bits]; omega) (by simp [IntKind.max, IntKind.signed, IntKind.bits]; omega)
  rcases h with ⟨rfl, rfl⟩ | ⟨i, rfl, hi⟩
  · simp at h2; omega
  · have hlt : (t - 1).toNat < L.length := by omega
    refine ⟨i, L[(t - 1).toNat], by simp [hlt], hi, ?_⟩
    rw [hw]
    unfold pIdx idxV
    have : (7 : Nat) = 7 ∧ 0 ≤ t - 1 ∧ t - 1 < (L.length : Int) := ⟨rfl, by omega, by omega⟩
    simp only [this, and_self, if_true, Nat.zero_add]
theorem c40 {H : Hp} {p f g : Nat} {lim t : Int} {L : List Nd} {sl : Value} (hs : StR H p lim L sl f g) (hL : (L.length : Int) ≤ 4611686018427387904) : RR F.a1 [.pointer (some ⟨p, 0, none⟩), .int .i64 t] H = some (.int .i64 (wT L (-1) t), H) := by
  refine (zi4 E0 rfl _ _ _).trans ?_
  unfold zfw
  simp only [zah (c19 hs), zaf, s_br, zc9, zbm, zaE, zd4, Nat.zero_add, hs.l1]
  unfold wT
  cases ht : isT L t with
  | false => simp
  | true =>
    obtain ⟨i, n, hn, hi, hx⟩ := s_idx hs.all ht hL (fun p8 => zar 1 p8 fun p9 => zaj 1 false H p9 fun v10 => some (v10, H))
    simp only [Bool.not_true, Bool.false_eq_true, if_false, if_true]
    rw [hx, zaE, zbe hi _ (.int .i64 n.w) (by rw [zoF _ _ _ (by omega), hn]; rfl), hn]
    rfl
end Go.AM
namespace Go.AM
open Go
section
variable {α : Type} {P : Program} (n : Nd) (k : Value → Option α)
theorem n0 : zag 1 false (zab n.val) 0 k = k (.int .i64 n.op) := zbT _ 0 _ rfl k
theorem n1 : zag 1 false (zab n.val) 1 k = k (.int .i64 n.w) := zbT _ 1 _ rfl k
theorem n2 : zag 1 false (zab n.val) 2 k = k (.int .i64 n.a) := zbT _ 2 _ rfl k
theorem n3 : zag 1 false (zab n.val) 3 k = k (.int .i64 n.b) := zbT _ 3 _ rfl k
theorem n4 : zag 1 false (zab n.val) 4 k = k (.int .i64 n.c) := zbT _ 4 _ rfl k
theorem n5 : zag 1 false (zab n.val) 5 k = k (.int .u64 n.num) := zbT _ 5 _ rfl k
theorem n6 : zag 1 false (zab n.val) 6 k = k (.string n.name) := zbT _ 6 _ rfl k
theorem n07 : zag 7 true (zab n.val) 0 k = k n.val := rfl
theorem s_sneq (T : TypeId) (a b : ByteArray) (k : Value → Option α) : pBin P .neq T (.string a) (.string b) k = k (.bool !(a.toList == b.toList)) := rfl
end
theorem s_ite (p : Prop) [Decidable p] (x y : Bool) (H : Hp) : (if p then some (Value.bool x, H) else some (Value.bool y, H)) = some (Value.bool (bif decide p then x else y), H) := by
  by_cases h : p <;> simp [h]
def zlz (n : Nd) : Bool := !(n.name.toList == (⟨#[]⟩ : ByteArray).toList)
def zeP (k : Int) (n : Nd) : Bool :=
  (decide (k < 1) && decide (n.a ≠ 0)) || (decide (k < 2) && decide (n.b ≠ 0)) || (decide (k < 3) && decide (n.c ≠ 0)) ||
  (decide (n.num ≠ 0) && decide (n.op ≠ 3) && decide (n.op ≠ 31)) || (zlz n && decide (n.op ≠ 4))
theorem c41 (n : Nd) (H : Hp) : RR F.a72 [n.val] H = some (.bool (zeP (zak n.op) n), H) := by
  refine (zk9 E0 rfl _ _).trans ?_
  unfold zg9
  simp only [n0, n2, n3, n4, n5, n6, zah (c29 _ _), zaY, zec, s_sneq, zaf, s_br, s_ite]
  unfold zeP zlz
  generalize zak n.op = k
  congr 2
  congr 1
  generalize decide (k < 1) = b1
  generalize decide (n.a ≠ 0) = b2
  generalize decide (k < 2) = b3
  generalize decide (n.b ≠ 0) = b4
  generalize decide (k < 3) = b5
  generalize decide (n.c ≠ 0) = b6
  generalize decide (n.num ≠ 0) = b7
  generalize decide (n.op ≠ 3) = b8
  generalize decide (n.op ≠ 31) = b9
  generalize (!(n.name.toList == (⟨#[]⟩ : ByteArray).toList)) = b10
  generalize decide (n.op ≠ 4) = b11
  simp only [Bool.decide_eq_true]
  cases b1 <;> cases b2 <;> cases b3 <;> cases b4 <;> cases b5 <;> cases b6 <;> simp <;> cases b7 <;> cases b8 <;> cases b9 <;> simp <;> cases b10 <;> simp
end Go.AM
namespace Go.AM
open Go
theorem zdH (v : Value) (l : List Value) : (v :: l).headD undef = v := rfl
end Go.AM
namespace Go.AM
open Go
def zer (op a b c : Int) : Bool :=
  if zak op = 0 then true
  else if op = 5 then decide (a = 0)
  else if op = 6 ∨ op = 7 ∨ op = 8 then decide (a = 0) && decide (b = 0)
  else if op = 9 then decide (a = b)
  else if op = 14 then decide (a = 0) && decide (b = c)
  else if op = 30 then decide (a > 0) && decide (b > 0)
  else if zak op = 1 then decide (a > 0)
  else decide (a > 0) && decide (a = b)
section
variable {H : Hp} {p f g : Nat} {lim : Int} {L : List Nd} {sl : Value}
theorem c42 (hs : StR H p lim L sl f g) (hL : (L.length : Int) ≤ 4611686018427387904) (n : Nd) :
    RR F.a70 [.pointer (some ⟨p, 0, none⟩), n.val] H = some (.bool (zer n.op (wT L (-1) n.a) (wT L (-1) n.b) (wT L (-1) n.c)), H) := by
  refine (zfJ E0 rfl _ _ _).trans ?_
  unfold zdy
  simp only [n0, n2, n3, n4, zah (c40 hs hL), zah (c29 _ _), za4, zca, zaf, s_br, zaq, zdj, zaV, zbk, zeb, zaI, zdH, qg0, decide_eq_true_eq, if_true]
  unfold zer
  generalize wT L (-1) n.a = a
  generalize wT L (-1) n.b = b
  generalize wT L (-1) n.c = c
  generalize n.op = op
  by_cases h0 : zak op = 0
  · simp only [h0, if_true]
  simp only [h0, if_false]
  by_cases h5 : op = 5
  · simp only [h5, if_true]
  simp only [h5, if_false]
  by_cases h6 : op = 6
  · simp [h6, s_ite]
  by_cases h7 : op = 7
  · simp [h7, s_ite]
  by_cases h8 : op = 8
  · simp [h8, s_ite]
  simp only [h6, h7, h8, if_false, or_self]
  by_cases h9 : op = 9
  · simp [h9]
  simp only [h9, if_false]
  by_cases h14 : op = 14
  · simp [h14]; by_cases q : a = 0 <;> simp [q]
  simp only [h14, if_false]
  by_cases h30 : op = 30
  · simp [h30]; by_cases q : a > 0 <;> simp [q]
  simp only [h30, if_false]
  by_cases h1 : zak op = 1
  · simp [h1]
  simp only [h1, if_false]
  by_cases q : a > 0 <;> simp [q]
end
end Go.AM
namespace Go.AM
open Go
theorem znh {α : Type} (kd k2 : IntKind) (a : Int) (k : Value → Option α) : zal kd (.int k2 a) k = k (.int kd (kd.wrap a)) := rfl
theorem s_and {α : Type} {P : Program} (T : TypeId) (kd : IntKind) (a b : Int) (k : Value → Option α) : pBin P .and T (.int kd a) (.int kd b) k = k (.int kd (kd.wrap (BitVec.ofInt kd.bits a &&& BitVec.ofInt kd.bits b).toNat)) := by simp [pBin, binV, zdF, bvOp]
theorem s_shl {α : Type} {P : Program} (T : TypeId) (kd k2 : IntKind) (a b : Int) (hb : 0 ≤ b) (k : Value → Option α) : pBin P .shl T (.int kd a) (.int k2 b) k = k (.int kd (kd.wrap (a * 2 ^ (min b.toNat kd.bits)))) := by
  have : ¬ b < 0 := by omega
  simp [pBin, binV, shOp, this]
def zmd (w x : Int) : Int := if w < 1 then 0 else if w ≥ 64 then x else x % 2 ^ w.toNat
theorem znq {w : Int} (h1 : 1 ≤ w) (h2 : w < 64) : (2 : Int) ^ w.toNat < 18446744073709551616 ∧ (2 : Int) ≤ 2 ^ w.toNat := by
  have hw : w.toNat < 64 := by omega
  have hw1 : 1 ≤ w.toNat := by omega
  have h3 : (2 : Nat) ^ w.toNat < 2 ^ 64 := Nat.pow_lt_pow_right (by omega) hw
  have h4 : (2 : Nat) ^ 1 ≤ 2 ^ w.toNat := Nat.pow_le_pow_right (by omega) hw1
  constructor
  · have : ((2 ^ w.toNat : Nat) : Int) < ((2 ^ 64 : Nat) : Int) := Int.ofNat_lt.2 h3
    simpa using this
  · have : ((2 ^ 1 : Nat) : Int) ≤ ((2 ^ w.toNat : Nat) : Int) := Int.ofNat_le.2 h4
    simpa using this
theorem wrap_pow {w : Int} (h1 : 1 ≤ w) (h2 : w < 64) : IntKind.u64.wrap (1 * 2 ^ (min (IntKind.u64.wrap w).toNat IntKind.u64.bits)) = 2 ^ w.toNat := by
  have hw : IntKind.u64.wrap w = w := zdo (by simp [IntKind.min, IntKind.signed, IntKind.bits]; omega) (by simp [IntKind.max, IntKind.signed, IntKind.bits]; omega)
  rw [hw]
  have hb : IntKind.u64.bits = 64 := rfl
  rw [hb, Nat.min_eq_left (by omega), Int.one_mul]
  obtain ⟨p1, p2⟩ := znq h1 h2
  exact zdo (by simp [IntKind.min, IntKind.signed, IntKind.bits]; omega) (by simp [IntKind.max, IntKind.signed, IntKind.bits]; omega)
theorem c45 (w x : Int) (hx : 0 ≤ x) (hx2 : x < 18446744073709551616) (H : Hp) : RR F.a30 [.int .i64 w, .int .u64 x] H = some (.int .u64 (zmd w x), H) := by
  refine (zmo E0 rfl _ _ _).trans ?_
  unfold zit zmd
  simp only [zaY, zcb, zaf, s_br, decide_eq_true_eq, znh]
  by_cases h1 : w < 1
  · simp [h1]
  by_cases h2 : w ≥ 64
  · simp [h1, h2]
  simp only [h1, h2, if_false]
  have hw : IntKind.u64.wrap w = w := zdo (by simp [IntKind.min, IntKind.signed, IntKind.bits]; omega) (by simp [IntKind.max, IntKind.signed, IntKind.bits]; omega)
  obtain ⟨p1, p2⟩ := znq (w := w) (by omega) (by omega)
  rw [s_shl _ _ _ _ _ (by rw [hw]; omega), wrap_pow (by omega) (by omega), zd4, s_and]
  have hm : IntKind.u64.wrap (2 ^ w.toNat - 1) = 2 ^ w.toNat - 1 := zdo (by simp [IntKind.min, IntKind.signed, IntKind.bits]; omega) (by simp [IntKind.max, IntKind.signed, IntKind.bits]; omega)
  rw [hm]
  congr 3
  have hb : IntKind.u64.bits = 64 := rfl
  rw [hb]
  obtain ⟨X, rfl⟩ := Int.eq_ofNat_of_zero_le hx
  have e2 : (2 : Int) ^ w.toNat - 1 = ((2 ^ w.toNat - 1 : Nat) : Int) := by
    have : 1 ≤ (2 : Nat) ^ w.toNat := Nat.one_le_two_pow
    rw [Int.ofNat_sub this]; simp
  rw [e2]
  have e3 : BitVec.ofInt 64 ((X : Nat) : Int) = BitVec.ofNat 64 X := by simp
  have e4 : BitVec.ofInt 64 (((2 ^ w.toNat - 1 : Nat)) : Int) = BitVec.ofNat 64 (2 ^ w.toNat - 1) := by simp
  rw [e3, e4, BitVec.toNat_and, BitVec.toNat_ofNat, BitVec.toNat_ofNat]
  have hX : X < 2 ^ 64 := by have : (X : Int) < 18446744073709551616 := hx2; omega
  have h3 : (2 : Nat) ^ w.toNat < 2 ^ 64 := Nat.pow_lt_pow_right (by omega) (by omega)
  rw [Nat.mod_eq_of_lt hX, Nat.mod_eq_of_lt (by omega), Nat.and_two_pow_sub_one_eq_mod]
  have h4 : X % 2 ^ w.toNat ≤ X := Nat.mod_le _ _
  have h5 : ((X : Nat) : Int) % 2 ^ w.toNat = ((X % 2 ^ w.toNat : Nat) : Int) := by simp
  rw [h5]
  generalize X % 2 ^ w.toNat = Y at h4
  have m1 : IntKind.u64.min = 0 := rfl
  have m2 : IntKind.u64.max = 18446744073709551615 := rfl
  rw [zdo (by rw [m1]; omega) (by rw [m2]; omega)]
end Go.AM
namespace Go.AM
open Go
def isPow (w : Int) : Bool := decide (w = 1 ∨ w = 2 ∨ w = 4 ∨ w = 8 ∨ w = 16 ∨ w = 32 ∨ w = 64)
def pops : List Int := [0, 1, 1, 2, 1, 2, 2, 3, 1, 2, 2, 3, 2, 3, 3, 4, 1, 2, 2, 3, 2, 3, 3, 4, 2, 3, 3, 4, 3, 4, 4, 5, 1, 2, 2, 3, 2, 3, 3, 4, 2, 3, 3, 4, 3, 4, 4, 5, 2, 3, 3, 4, 3, 4, 4, 5, 3, 4, 4, 5, 4, 5, 5, 6, 1]
theorem all58 (H : Hp) : (i : Nat) → i < 65 → zdZ RR (.int .u64 (i : Int)) H = some (.int .i64 (pops.getD i 0), H)
  | 0, _ => by kernel_rfl
  | 1, _ => by kernel_rfl
  | 2, _ => by kernel_rfl
  | 3, _ => by kernel_rfl
  | 4, _ => by kernel_rfl
  | 5, _ => by kernel_rfl
  | 6, _ => by kernel_rfl
  | 7, _ => by kernel_rfl
  | 8, _ => by kernel_rfl
  | 9, _ => by kernel_rfl
  | 10, _ => by kernel_rfl
  | 11, _ => by kernel_rfl
  | 12, _ => by kernel_rfl
  | 13, _ => by kernel_rfl
  | 14, _ => by kernel_rfl
  | 15, _ => by kernel_rfl
  | 16, _ => by kernel_rfl
  | 17, _ => by kernel_rfl
  | 18, _ => by kernel_rfl
  | 19, _ => by kernel_rfl
  | 20, _ => by kernel_rfl
  | 21, _ => by kernel_rfl
  | 22, _ => by kernel_rfl
  | 23, _ => by kernel_rfl
  | 24, _ => by kernel_rfl
  | 25, _ => by kernel_rfl
  | 26, _ => by kernel_rfl
  | 27, _ => by kernel_rfl
  | 28, _ => by kernel_rfl
  | 29, _ => by kernel_rfl
  | 30, _ => by kernel_rfl
  | 31, _ => by kernel_rfl
  | 32, _ => by kernel_rfl
  | 33, _ => by kernel_rfl
  | 34, _ => by kernel_rfl
  | 35, _ => by kernel_rfl
  | 36, _ => by kernel_rfl
  | 37, _ => by kernel_rfl
  | 38, _ => by kernel_rfl
  | 39, _ => by kernel_rfl
  | 40, _ => by kernel_rfl
  | 41, _ => by kernel_rfl
  | 42, _ => by kernel_rfl
  | 43, _ => by kernel_rfl
  | 44, _ => by kernel_rfl
  | 45, _ => by kernel_rfl
  | 46, _ => by kernel_rfl
  | 47, _ => by kernel_rfl
  | 48, _ => by kernel_rfl
  | 49, _ => by kernel_rfl
  | 50, _ => by kernel_rfl
  | 51, _ => by kernel_rfl
  | 52, _ => by kernel_rfl
  | 53, _ => by kernel_rfl
  | 54, _ => by kernel_rfl
  | 55, _ => by kernel_rfl
  | 56, _ => by kernel_rfl
  | 57, _ => by kernel_rfl
  | 58, _ => by kernel_rfl
  | 59, _ => by kernel_rfl
  | 60, _ => by kernel_rfl
  | 61, _ => by kernel_rfl
  | 62, _ => by kernel_rfl
  | 63, _ => by kernel_rfl
  | 64, _ => by kernel_rfl
  | n + 65, h => by omega
theorem c53 (w : Int) (h0 : 0 ≤ w) (h1 : w < 65) (H : Hp) : RR F.a28 [.int .u64 w] H = some (.int .i64 (pops.getD w.toNat 0), H) := by
  refine (zhp E0 rfl _ _).trans ?_
  unfold zeK
  have : RR F.a50 [.int .u64 w] H = some (.int .i64 (pops.getD w.toNat 0), H) := by
    refine (zgl E0 rfl _ _).trans ?_
    obtain ⟨n, rfl⟩ := Int.eq_ofNat_of_zero_le h0
    exact all58 H n (by omega)
  rw [zah this]
theorem pops_pow : (i : Nat) → i < 65 → decide (pops.getD i 0 = 1) = isPow (i : Int)
  | 0, _ => by kernel_rfl
  | 1, _ => by kernel_rfl
  | 2, _ => by kernel_rfl
  | 3, _ => by kernel_rfl
  | 4, _ => by kernel_rfl
  | 5, _ => by kernel_rfl
  | 6, _ => by kernel_rfl
  | 7, _ => by kernel_rfl
  | 8, _ => by kernel_rfl
  | 9, _ => by kernel_rfl
  | 10, _ => by kernel_rfl
  | 11, _ => by kernel_rfl
  | 12, _ => by kernel_rfl
  | 13, _ => by kernel_rfl
  | 14, _ => by kernel_rfl
  | 15, _ => by kernel_rfl
  | 16, _ => by kernel_rfl
  | 17, _ => by kernel_rfl
  | 18, _ => by kernel_rfl
  | 19, _ => by kernel_rfl
  | 20, _ => by kernel_rfl
  | 21, _ => by kernel_rfl
  | 22, _ => by kernel_rfl
  | 23, _ => by kernel_rfl
  | 24, _ => by kernel_rfl
  | 25, _ => by kernel_rfl
  | 26, _ => by kernel_rfl
  | 27, _ => by kernel_rfl
  | 28, _ => by kernel_rfl
  | 29, _ => by kernel_rfl
  | 30, _ => by kernel_rfl
  | 31, _ => by kernel_rfl
  | 32, _ => by kernel_rfl
  | 33, _ => by kernel_rfl
  | 34, _ => by kernel_rfl
  | 35, _ => by kernel_rfl
  | 36, _ => by kernel_rfl
  | 37, _ => by kernel_rfl
  | 38, _ => by kernel_rfl
  | 39, _ => by kernel_rfl
  | 40, _ => by kernel_rfl
  | 41, _ => by kernel_rfl
  | 42, _ => by kernel_rfl
  | 43, _ => by kernel_rfl
  | 44, _ => by kernel_rfl
  | 45, _ => by kernel_rfl
  | 46, _ => by kernel_rfl
  | 47, _ => by kernel_rfl
  | 48, _ => by kernel_rfl
  | 49, _ => by kernel_rfl
  | 50, _ => by kernel_rfl
  | 51, _ => by kernel_rfl
  | 52, _ => by kernel_rfl
  | 53, _ => by kernel_rfl
  | 54, _ => by kernel_rfl
  | 55, _ => by kernel_rfl
  | 56, _ => by kernel_rfl
  | 57, _ => by kernel_rfl
  | 58, _ => by kernel_rfl
  | 59, _ => by kernel_rfl
  | 60, _ => by kernel_rfl
  | 61, _ => by kernel_rfl
  | 62, _ => by kernel_rfl
  | 63, _ => by kernel_rfl
  | 64, _ => by kernel_rfl
  | n + 65, h => by omega
end Go.AM
namespace Go.AM
open Go
def zdp (n : Nd) (a b : Int) : Bool :=
  if n.op = 1 ∨ n.op = 2 ∨ (5 ≤ n.op ∧ n.op ≤ 13) then decide (n.w = 0)
  else if n.op = 3 then decide (n.w > 0) && decide (zmd n.w n.num = n.num)
  else if n.op = 4 then true
  else if n.op = 14 then decide (n.w = b)
  else if 25 ≤ n.op ∧ n.op ≤ 29 then decide (n.w = a) && isPow a
  else if n.op = 30 then decide (n.w = a + b)
  else if n.op = 31 then decide (n.w ≥ 1) && decide (n.w ≤ a) && decide (n.num ≤ a - n.w)
  else if n.op = 32 ∨ n.op = 33 then decide (n.w ≥ a)
  else decide (n.w = a)
structure Nd.Ok (n : Nd) : Prop where
  w0 : 0 ≤ n.w
  w1 : n.w ≤ 64
  o1 : 1 ≤ n.op
  o2 : n.op ≤ 33
  n0 : 0 ≤ n.num
  n1 : n.num < 18446744073709551616
theorem za8 {x : Int} (h1 : -9223372036854775808 ≤ x) (h2 : x ≤ 9223372036854775807) : IntKind.i64.wrap x = x := zdo (by have : IntKind.i64.min = -9223372036854775808 := rfl; omega) (by have : IntKind.i64.max = 9223372036854775807 := rfl; omega)
theorem zm6 {x : Int} (h1 : 0 ≤ x) (h2 : x ≤ 18446744073709551615) : IntKind.u64.wrap x = x := zdo (by have : IntKind.u64.min = 0 := rfl; omega) (by have : IntKind.u64.max = 18446744073709551615 := rfl; omega)
section
variable {H : Hp} {p f g : Nat} {lim : Int} {L : List Nd} {sl : Value}
theorem c43 (hs : StR H p lim L sl f g) (hL : (L.length : Int) ≤ 4611686018427387904) (n : Nd) (hn : n.Ok)
    (ha : -1 ≤ wT L (-1) n.a ∧ wT L (-1) n.a ≤ 64) (hb : -1 ≤ wT L (-1) n.b ∧ wT L (-1) n.b ≤ 64) (hsort : n.op ≥ 15 → wT L (-1) n.a > 0) :
    RR F.a71 [.pointer (some ⟨p, 0, none⟩), n.val] H = some (.bool (zdp n (wT L (-1) n.a) (wT L (-1) n.b)), H) := by
  refine (zgO E0 rfl _ _ _).trans ?_
  unfold zei
  have ht := c45 n.w n.num hn.n0 hn.n1 H
  simp only [n0, n1, n2, n3, n5, zah (c40 hs hL), za4, zca, zcb, zi3, zaf, s_br, zaq, zdj, zaV, zbk, zeb, zaI, zdH, qg0, decide_eq_true_eq, if_true, znh, zd4, zbb, zah ht]
  unfold zdp
  generalize wT L (-1) n.a = a at *
  generalize wT L (-1) n.b = b at *
  have o1 := hn.o1
  have o2 := hn.o2
  by_cases h1 : n.op = 1
  · simp [h1]
  by_cases h2 : n.op = 2
  · simp [h2]
  by_cases h5 : 5 ≤ n.op ∧ n.op ≤ 13
  · have q : n.op ≥ 5 := h5.1
    simp only [h1, h2, h5, q, if_true, if_false, and_self, or_true, decide_true]
  have hc : ¬ (n.op = 1 ∨ n.op = 2 ∨ 5 ≤ n.op ∧ n.op ≤ 13) := by omega
  simp only [hc, h1, h2, if_false]
  by_cases h3 : n.op = 3
  · have q : ¬ n.op ≥ 5 := by omega
    have q2 : ¬ (3 : Int) ≥ 5 := by decide
    simp only [h3, q2, if_true, if_false, Bool.false_eq_true]
    by_cases q : n.w > 0 <;> simp [q]
  by_cases h4 : n.op = 4
  · have q2 : ¬ (4 : Int) ≥ 5 := by decide
    have q3 : ¬ (4 : Int) = 3 := by decide
    simp only [h4, q2, q3, if_true, if_false, Bool.false_eq_true]
    simp
  have g5 : n.op ≥ 5 := by omega
  have g13 : ¬ n.op ≤ 13 := by omega
  simp only [g5, g13, h3, h4, if_true, if_false, decide_false, Bool.false_eq_true]
  by_cases h14 : n.op = 14
  · simp only [h14, if_true]
    simp
  simp only [h14, if_false]
  have hap := hsort (by omega)
  by_cases h25 : 25 ≤ n.op ∧ n.op ≤ 29
  · have q : n.op ≥ 25 := h25.1
    have e : RR F.a28 [.int .u64 (IntKind.u64.wrap a)] H = some (.int .i64 (pops.getD a.toNat 0), H) := by
      rw [zm6 (by omega) (by omega)]
      exact c53 a (by omega) (by omega) H
    have e2 := pops_pow a.toNat (by omega)
    have e3 : ((a.toNat : Nat) : Int) = a := Int.toNat_of_nonneg (by omega)
    rw [e3] at e2
    simp only [q, h25.2, if_true, decide_true, zah e, za4, e2, and_self]
    by_cases q : n.w = a <;> simp [q, h25.1]
  simp only [h25, if_false]
  have hA : (if n.op ≥ 25 then some (Ctl.next, [Value.bool (decide (n.op ≤ 29))], H) else some (Ctl.next, [Value.bool false], H)) = some (Ctl.next, [Value.bool false], H) := by
    by_cases q : n.op ≥ 25
    · have : ¬ n.op ≤ 29 := by omega
      simp [q, this]
    · simp [q]
  have w1 : IntKind.i64.wrap (a + b) = a + b := za8 (by omega) (by omega)
  have w0 := hn.w0
  have w64 := hn.w1
  have w2 : IntKind.i64.wrap (a - n.w) = a - n.w := za8 (by omega) (by omega)
  by_cases q25 : n.op ≥ 25
  · have q29 : ¬ n.op ≤ 29 := by omega
    simp only [q25, q29, if_true, if_false, decide_false, Bool.false_eq_true, w1, w2]
    by_cases h30 : n.op = 30
    · simp only [h30, if_true]
      try simp
    simp only [h30, if_false]
    by_cases h31 : n.op = 31
    · simp only [h31, if_true]
      by_cases k1 : n.w ≥ 1
      · by_cases k2 : n.w ≤ a
        · have k3 : IntKind.u64.wrap (a - n.w) = a - n.w := zm6 (by omega) (by omega)
          simp [k1, k2, k3]
        · simp [k1, k2]
      · simp [k1]
    simp only [h31, if_false]
    by_cases h32 : n.op = 32
    · simp [h32]
    by_cases h33 : n.op = 33
    · simp [h33]
    omega
  · have h30 : ¬ n.op = 30 := by omega
    have h31 : ¬ n.op = 31 := by omega
    have h32 : ¬ n.op = 32 := by omega
    have h33 : ¬ n.op = 33 := by omega
    simp only [q25, h30, h31, h32, h33, if_false, or_self, Bool.false_eq_true]
    simp
end
end Go.AM
namespace Go.AM
open Go
section
variable {H : Hp} {p f g : Nat} {lim : Int} {L : List Nd} {sl : Value}
end
end Go.AM
namespace Go.AM
open Go
def zem (x : Int) : Bool := (decide (x ≥ 97) && decide (x ≤ 122)) || (decide (x ≥ 65) && decide (x ≤ 90)) || decide (x = 95)
def zlQ (x : Int) : Bool := !(decide (x < 48)) && !(decide (x > 57))
def zio (b : UInt8) : Bool := zem (b.toNat : Int) || zlQ (b.toNat : Int)
def zdQ (s : ByteArray) : Bool := decide (s.size ≥ 1) && decide (s.size ≤ 24) && (s.data.toList.head?.any fun b => zem (b.toNat : Int)) && (s.data.toList.drop 1).all zio
theorem s_slen {α : Type} (s : ByteArray) (H : Hp) (k : Value → Option α) : pLen .str (.string s) H k = k (.int .i64 s.size) := rfl
end Go.AM
namespace Go.AM
open Go
theorem zmJ {x : Int} (h : 128 ≤ x) : zem x = false := by
  unfold zem
  have h1 : ¬ x ≤ 122 := by omega
  have h2 : ¬ x ≤ 90 := by omega
  have h3 : ¬ x = 95 := by omega
  simp [h1, h2, h3]
theorem zoB {x : Int} (h : 128 ≤ x) : zlQ x = false := by
  unfold zlQ
  have h1 : x > 57 := by omega
  simp [h1]
theorem c44 (s : ByteArray) (H : Hp) : RR F.a49 [.string s] H = some (.bool (zdQ s), H) := by
  refine (zmq E0 rfl _ _).trans ?_
  unfold ziv
  generalize hS : (fun (l12 : List Value) (H13 : Hp) =>
 br (Nat.blt (zaR ((l12.drop 0).getD 0 undef)) (zaW ((l12.drop 0).getD 0 undef)).size)
 (zav (
 pBin PP .geq T.int32 (.int .i32 (Utf8.decode (zaW ((l12.drop 0).getD 0 undef)) (zaR ((l12.drop 0).getD 0 undef))).1) (.int .i32 97) fun v14 =>
 zaa v14 fun b15 => br b15
 (pBin PP .leq T.int32 (.int .i32 (Utf8.decode (zaW ((l12.drop 0).getD 0 undef)) (zaR ((l12.drop 0).getD 0 undef))).1) (.int .i32 122) fun v16 =>
 zaa v16 fun b17 => br b17
 (some (Ctl.next, [(.bool true)], H13))
 (pBin PP .geq T.int32 (.int .i32 (Utf8.decode (zaW ((l12.drop 0).getD 0 undef)) (zaR ((l12.drop 0).getD 0 undef))).1) (.int .i32 65) fun v18 =>
 zaa v18 fun b19 => br b19
 (pBin PP .leq T.int32 (.int .i32 (Utf8.decode (zaW ((l12.drop 0).getD 0 undef)) (zaR ((l12.drop 0).getD 0 undef))).1) (.int .i32 90) fun v20 =>
 zaa v20 fun b21 => br b21
 (some (Ctl.next, [(.bool true)], H13))
 (pBin PP .eql T.int32 (.int .i32 (Utf8.decode (zaW ((l12.drop 0).getD 0 undef)) (zaR ((l12.drop 0).getD 0 undef))).1) (.int .i32 95) fun v22 =>
 some (Ctl.next, [v22], H13)))
 (pBin PP .eql T.int32 (.int .i32 (Utf8.decode (zaW ((l12.drop 0).getD 0 undef)) (zaR ((l12.drop 0).getD 0 undef))).1) (.int .i32 95) fun v23 =>
 some (Ctl.next, [v23], H13))))
 (pBin PP .geq T.int32 (.int .i32 (Utf8.decode (zaW ((l12.drop 0).getD 0 undef)) (zaR ((l12.drop 0).getD 0 undef))).1) (.int .i32 65) fun v24 =>
 zaa v24 fun b25 => br b25
 (pBin PP .leq T.int32 (.int .i32 (Utf8.decode (zaW ((l12.drop 0).getD 0 undef)) (zaR ((l12.drop 0).getD 0 undef))).1) (.int .i32 90) fun v26 =>
 zaa v26 fun b27 => br b27
 (some (Ctl.next, [(.bool true)], H13))
 (pBin PP .eql T.int32 (.int .i32 (Utf8.decode (zaW ((l12.drop 0).getD 0 undef)) (zaR ((l12.drop 0).getD 0 undef))).1) (.int .i32 95) fun v28 =>
 some (Ctl.next, [v28], H13)))
 (pBin PP .eql T.int32 (.int .i32 (Utf8.decode (zaW ((l12.drop 0).getD 0 undef)) (zaR ((l12.drop 0).getD 0 undef))).1) (.int .i32 95) fun v29 =>
 some (Ctl.next, [v29], H13)))) fun q30 l31 H32 => zaD q30
 (pUn .not (l31.getD 0 undef) fun v34 =>
 zaa v34 fun b35 => br b35
 (pBin PP .eql T.int (.int .i64 ((zaR ((l12.drop 0).getD 0 undef)) : Nat)) (.int .i64 0) fun v36 =>
 zaa v36 fun b37 => br b37
 (some (Ctl.ret, [(.bool false)], H32))
 (pBin PP .lss T.int32 (.int .i32 (Utf8.decode (zaW ((l12.drop 0).getD 0 undef)) (zaR ((l12.drop 0).getD 0 undef))).1) (.int .i32 48) fun v38 =>
 zaa v38 fun b39 => br b39
 (some (Ctl.ret, [(.bool false)], H32))
 (pBin PP .gtr T.int32 (.int .i32 (Utf8.decode (zaW ((l12.drop 0).getD 0 undef)) (zaR ((l12.drop 0).getD 0 undef))).1) (.int .i32 57) fun v40 =>
 zaa v40 fun b41 => br b41
 (some (Ctl.ret, [(.bool false)], H32))
 (some (Ctl.next, [(.tuple #[.string (zaW ((l12.drop 0).getD 0 undef)), .int .i64 (((zaR ((l12.drop 0).getD 0 undef)) + (Utf8.decode (zaW ((l12.drop 0).getD 0 undef)) (zaR ((l12.drop 0).getD 0 undef))).2) : Nat)])], H32)))))
 (some (Ctl.next, [(.tuple #[.string (zaW ((l12.drop 0).getD 0 undef)), .int .i64 (((zaR ((l12.drop 0).getD 0 undef)) + (Utf8.decode (zaW ((l12.drop 0).getD 0 undef)) (zaR ((l12.drop 0).getD 0 undef))).2) : Nat)])], H32)))
 (fun i33 => zaA i33 1 (
 some (Ctl.next, [(.tuple #[.string (zaW ((l12.drop 0).getD 0 undef)), .int .i64 (((zaR ((l12.drop 0).getD 0 undef)) + (Utf8.decode (zaW ((l12.drop 0).getD 0 undef)) (zaR ((l12.drop 0).getD 0 undef))).2) : Nat)])], H32)) (
 some (Ctl.exit i33, [(.tuple #[.string (zaW ((l12.drop 0).getD 0 undef)), .int .i64 (((zaR ((l12.drop 0).getD 0 undef)) + (Utf8.decode (zaW ((l12.drop 0).getD 0 undef)) (zaR ((l12.drop 0).getD 0 undef))).2) : Nat)])], H32)))
 (some (Ctl.ret, [(l31.headD undef)], H32)))
 (some (Ctl.exit 0, [(.tuple #[.string (zaW ((l12.drop 0).getD 0 undef)), .int .i64 ((zaR ((l12.drop 0).getD 0 undef)) : Nat)])], H13))) = S
  have hlen : s.data.toList.length = s.size := by simp
  have hstep : ∀ (i : Nat) (b : UInt8), s.data.toList[i]? = some b → S [.tuple #[.string s, .int .i64 (i : Nat)]] H =
      if (zem (b.toNat : Int) || (decide (i ≠ 0) && zlQ (b.toNat : Int))) = true then some (.next, [.tuple #[.string s, .int .i64 ((i + 1 : Nat))]], H) else some (.ret, [.bool false], H) := by
    intro i b hb
    have hl : i < s.data.toList.length := (List.getElem?_eq_some_iff.1 hb).1
    have hi : i < s.size := by omega
    have hsb : s[i]'hi = b := by
      have : s[i] = s.data[i]'(by simpa using hl) := rfl
      rw [this]
      rw [List.getElem?_eq_getElem hl] at hb
      simpa using hb
    have e1 : zaW (.tuple #[.string s, .int .i64 (i : Nat)]) = s := rfl
    have e2 : zaR (.tuple #[.string s, .int .i64 (i : Nat)]) = i := by simp [zaR]
    have e3 : Nat.blt i s.size = true := Nat.ble_eq_true_of_le hi
    have e4 : ((i : Nat) : Int) = 0 ↔ i = 0 := by omega
    rw [← hS]
    simp only [qd0, qg0, e1, e2, e3]
    simp only [zcb, zi3, za4, zaY, zca, zaf, s_br, zaq, zdj, zaV, zc9, qg0, if_true, decide_eq_true_eq, e4]
    by_cases hasc : b.toNat < 128
    · have hd := decode_ascii s i hi (by rw [hsb]; exact hasc)
      rw [hsb] at hd
      simp only [hd]
      unfold zem zlQ
      generalize ((b.toNat : Nat) : Int) = x
      by_cases a1 : x ≥ 97 <;> by_cases a2 : x ≤ 122 <;> by_cases a3 : x ≥ 65 <;> by_cases a4 : x ≤ 90 <;> by_cases a5 : x = 95 <;> by_cases a6 : i = 0 <;> simp [a1, a2, a3, a4, a5, a6] <;>
        (by_cases a7 : x < 48 <;> by_cases a8 : x > 57 <;> simp [a7, a8])
    · have hd := decode_high s i hi (by rw [hsb]; omega)
      generalize Utf8.decode s i = q at hd ⊢
      obtain ⟨r, wd⟩ := q
      have k1 : ¬ ((r : Nat) : Int) ≤ 122 := by have := hd.1; dsimp only at this; omega
      have k2 : ¬ ((r : Nat) : Int) ≤ 90 := by omega
      have k3 : ¬ ((r : Nat) : Int) = 95 := by omega
      have k4 : ¬ ((r : Nat) : Int) < 48 := by omega
      have k5 : ((r : Nat) : Int) > 57 := by omega
      rw [zmJ (by omega), zoB (by omega)]
      simp [k1, k2, k3, k4, k5]
  have hend : S [.tuple #[.string s, .int .i64 (s.size : Nat)]] H = some (.exit 0, [.tuple #[.string s, .int .i64 (s.size : Nat)]], H) := by
    have e1 : zaW (.tuple #[.string s, .int .i64 (s.size : Nat)]) = s := rfl
    have e2 : zaR (.tuple #[.string s, .int .i64 (s.size : Nat)]) = s.size := by simp [zaR]
    have e3 : Nat.blt s.size s.size = false := by
      cases hq : Nat.blt s.size s.size with
      | false => rfl
      | true => have := Nat.le_of_ble_eq_true hq; omega
    rw [← hS]
    simp only [qd0, qg0, e1, e2, e3]
    rfl
  have hloop : ∀ (r : List UInt8) (i : Nat), s.data.toList.drop i = r → i ≤ s.size → 1 ≤ i → zaG S [.tuple #[.string s, .int .i64 (i : Nat)]] H = if r.all zio = true then some (.exit 0, [.tuple #[.string s, .int .i64 (s.size : Nat)]], H) else some (.ret, [.bool false], H) := by
    intro r
    induction r with
    | nil =>
      intro i hd hi h1
      have : s.data.toList.length ≤ i := by simpa using hd
      have : i = s.size := by omega
      subst this
      rw [zan, hend]
      simp [zi7]
    | cons b r ih =>
      intro i hd hi h1
      have hb : s.data.toList[i]? = some b := by
        have : (s.data.toList.drop i)[0]? = some b := by rw [hd]; rfl
        rw [List.getElem?_drop] at this; simpa using this
      have hl : i < s.data.toList.length := (List.getElem?_eq_some_iff.1 hb).1
      have hd' : s.data.toList.drop (i + 1) = r := by rw [← List.drop_drop, hd]; rfl
      have hne : decide (i ≠ 0) = true := decide_eq_true (by omega)
      have hok : (zem (b.toNat : Int) || (decide (i ≠ 0) && zlQ (b.toNat : Int))) = zio b := by rw [hne]; rfl
      rw [zan, hstep i b hb, hok]
      cases hk : zio b with
      | true =>
        simp only [if_true, Option.bind_some, zi7]
        rw [ih (i + 1) hd' (by omega) (by omega)]
        simp [hk]
      | false => simp [hk, zi7]
  simp only [s_slen, zaY, zca, zaf, s_br, decide_eq_true_eq]
  unfold zdQ
  by_cases h1 : (s.size : Int) < 1
  · have : ¬ s.size ≥ 1 := by omega
    simp [h1, this, zaq, zeb]
  by_cases h2 : (s.size : Int) > 24
  · have : ¬ s.size ≤ 24 := by omega
    simp [h1, h2, this, zaq, zeb]
  have g1 : s.size ≥ 1 := by omega
  have g2 : s.size ≤ 24 := by omega
  obtain ⟨c, r, hcr⟩ : ∃ c r, s.data.toList = c :: r := by
    cases hq : s.data.toList with
    | nil => rw [hq] at hlen; simp at hlen; omega
    | cons c r => exact ⟨c, r, rfl⟩
  simp only [h1, h2, if_false, zaq, zaV]
  have h0 : s.data.toList[0]? = some c := by rw [hcr]; rfl
  have hd1 : s.data.toList.drop 1 = r := by rw [hcr]; rfl
  have hlp := hloop r 1 hd1 g1 (Nat.le_refl _)
  have hst := hstep 0 c h0
  have hfirst : zaG S [.tuple #[.string s, .int .i64 ((0 : Nat) : Int)]] H = if zem (c.toNat : Int) = true then (if r.all zio = true then some (.exit 0, [.tuple #[.string s, .int .i64 (s.size : Nat)]], H) else some (.ret, [.bool false], H)) else some (.ret, [.bool false], H) := by
    rw [zan, hst]
    cases hc : zem (c.toNat : Int) with
    | false => simp [zi7]
    | true =>
      simp only [Bool.true_or, if_true, Option.bind_some, zi7]
      exact hlp
  show (zav (zaG S [.tuple #[.string s, .int .i64 ((0 : Nat) : Int)]] H) _) = _
  rw [hfirst, hd1, hcr]
  cases hc : zem (c.toNat : Int) with
  | false => simp [g1, g2, hc, zaq, zeb]
  | true =>
    cases r.all zio with
    | true => simp [g1, g2, hc, zaq, zbk, zaI]
    | false => simp [g1, g2, hc, zaq, zeb]
end Go.AM
namespace Go.AM
open Go
def zme (b : Bool) (k : Option Bool) : Option Bool := match some b with | some true => k | r => r
theorem eq36c (n m : Nd) : eqT PP 10000 T.api_Node n.val m.val =
    zme (n.op == m.op) (zme (n.w == m.w) (zme (n.a == m.a) (zme (n.b == m.b) (zme (n.c == m.c) (zme (n.num == m.num) (zme (n.name == m.name) (some true))))))) := by
  kernel_rfl
def zjv (n m : Nd) : Bool := n.op == m.op && (n.w == m.w && (n.a == m.a && (n.b == m.b && (n.c == m.c && (n.num == m.num && n.name == m.name)))))
theorem eq36 (n m : Nd) : eqT PP 10000 T.api_Node n.val m.val = some (zjv n m) := by
  rw [eq36c]
  unfold zjv
  cases n.op == m.op <;> cases n.w == m.w <;> cases n.a == m.a <;> cases n.b == m.b <;> cases n.c == m.c <;> cases n.num == m.num <;> cases n.name == m.name <;> rfl
theorem eq9 (s t : ByteArray) : eqT PP 10000 T.string (.string s) (.string t) = some (s == t) := by kernel_rfl
theorem shape36 (n : Nd) : zd3 PP 20 T.api_Node n.val = true := by kernel_rfl
theorem shape9 (s : ByteArray) : zd3 PP 20 T.string (.string s) = true := by kernel_rfl
def zd2 : Nat → List Nd → List (Value × Value)
  | _, [] => []
  | i, n :: r => (n.val, .int .i64 ((i + 1 : Nat) : Int)) :: zd2 (i + 1) r
def zbf (n : Nd) : Nat → List Nd → Option Nat
  | _, [] => none
  | i, m :: r => if zjv n m = true then some i else zbf n (i + 1) r
theorem find36 (n : Nd) : ∀ (L : List Nd) (i j : Nat), zfV PP T.api_Node n.val (zd2 i L) j = some ((zbf n i L).map fun q => (q - i + j, .int .i64 ((q + 1 : Nat) : Int)))
  | [], i, j => rfl
  | m :: r, i, j => by
    unfold zd2 zfV zbf
    rw [eq36]
    cases h : zjv n m with
    | true => simp
    | false =>
      simp only [Bool.false_eq_true, if_false]
      rw [find36 n r (i + 1) (j + 1)]
      cases hp : zbf n (i + 1) r with
      | none => rfl
      | some q =>
        have : i + 1 ≤ q := by
          have aux : ∀ (L : List Nd) (i q : Nat), zbf n i L = some q → i ≤ q := by
            intro L
            induction L with
            | nil => intro i q h; cases h
            | cons m L ih =>
              intro i q h
              unfold zbf at h
              split at h
              · cases h; exact Nat.le_refl _
              · have := ih (i + 1) q h; omega
          exact aux r (i + 1) q hp
        simp
        omega
theorem look36 {H : Hp} {f : Nat} {L : List Nd} (h : H.get f = some (.map (zd2 0 L))) (n : Nd) : zi8 PP T.api_Node (.int .i64 0) (.map (some f)) n.val H =
    some (match zbf n 0 L with | some q => (.int .i64 ((q + 1 : Nat) : Int), true) | none => (.int .i64 0, false)) := by
  unfold zi8
  rw [shape36]
  simp only [if_true, mapOf, h, find36]
  cases zbf n 0 L <;> rfl
end Go.AM
namespace Go.AM
open Go
theorem ba_eq (s t : ByteArray) : (s == t) = true ↔ s = t := by
  obtain ⟨a⟩ := s
  obtain ⟨b⟩ := t
  show (a == b) = true ↔ _
  simp
theorem zjO (n : Nd) : ∀ (L : List Nd) (i : Nat), zd2 i (L ++ [n]) = zd2 i L ++ [(n.val, .int .i64 ((i + L.length + 1 : Nat) : Int))]
  | [], i => rfl
  | m :: r, i => by
    show (m.val, _) :: zd2 (i + 1) (r ++ [n]) = _
    rw [zjO n r (i + 1)]
    simp only [zd2, List.cons_append, List.length_cons]
    rw [show i + 1 + r.length + 1 = i + (r.length + 1) + 1 by omega]
theorem upd36 {H : Hp} {f : Nat} {L : List Nd} (h : H.get f = some (.map (zd2 0 L))) (n : Nd) (hn : zbf n 0 L = none) :
    updV PP T.api_Node (.map (some f)) n.val (.int .i64 ((L.length + 1 : Nat) : Int)) H = some (H.set f (some (.map (zd2 0 (L ++ [n]))))) := by
  unfold updV
  rw [shape36]
  simp only [if_true, h, find36, hn, Option.map_none]
  rw [zjO, Nat.zero_add]
def zdP (K : List (ByteArray × Int)) : List (Value × Value) := K.map fun x => (.string x.1, .int .i64 x.2)
def zaS (s : ByteArray) : Nat → List (ByteArray × Int) → Option (Nat × Int)
  | _, [] => none
  | i, (t, w) :: r => if (s == t) = true then some (i, w) else zaS s (i + 1) r
theorem find9 (s : ByteArray) : ∀ (K : List (ByteArray × Int)) (i : Nat), zfV PP T.string (.string s) (zdP K) i = some ((zaS s i K).map fun q => (q.1, .int .i64 q.2))
  | [], i => rfl
  | (t, w) :: r, i => by
    show (match eqT PP 10000 T.string (.string s) (.string t) with | some true => some (some (i, Value.int .i64 w)) | some false => zfV PP T.string (.string s) (zdP r) (i + 1) | none => none) = _
    rw [eq9]
    unfold zaS
    cases h : s == t with
    | true => simp
    | false =>
      simp only [Bool.false_eq_true, if_false]
      exact find9 s r (i + 1)
theorem look9 {H : Hp} {g : Nat} {K : List (ByteArray × Int)} (h : H.get g = some (.map (zdP K))) (s : ByteArray) : zi8 PP T.string (.int .i64 0) (.map (some g)) (.string s) H =
    some (match zaS s 0 K with | some q => (.int .i64 q.2, true) | none => (.int .i64 0, false)) := by
  unfold zi8
  rw [shape9]
  simp only [if_true, mapOf, h, find9]
  cases zaS s 0 K <;> rfl
theorem zjC (s : ByteArray) : ∀ (K : List (ByteArray × Int)) (i j : Nat) (w : Int), zaS s i K = some (j, w) → i ≤ j ∧ K[j - i]? = some (s, w)
  | [], i, j, w, h => by cases h
  | (t, u) :: r, i, j, w, h => by
    unfold zaS at h
    split at h
    · rename_i e
      cases h
      have : s = t := (ba_eq s t).1 e
      subst this
      exact ⟨Nat.le_refl _, by simp⟩
    · obtain ⟨h1, h2⟩ := zjC s r (i + 1) j w h
      refine ⟨by omega, ?_⟩
      rw [show j - i = (j - (i + 1)) + 1 by omega]
      simpa using h2
def zbK (s : ByteArray) (w : Int) (K : List (ByteArray × Int)) : List (ByteArray × Int) := match zaS s 0 K with | some _ => K | none => K ++ [(s, w)]
theorem upd9 {H : Hp} {g : Nat} {K : List (ByteArray × Int)} (h : H.get g = some (.map (zdP K))) (s : ByteArray) (w : Int) (hw : ∀ j u, zaS s 0 K = some (j, u) → u = w) :
    updV PP T.string (.map (some g)) (.string s) (.int .i64 w) H = some (H.set g (some (.map (zdP (zbK s w K))))) := by
  unfold updV zbK
  rw [shape9]
  simp only [if_true, h, find9]
  cases hq : zaS s 0 K with
  | none => simp [zdP]
  | some q =>
    obtain ⟨j, u⟩ := q
    have hu := hw j u hq
    subst hu
    obtain ⟨_, h2⟩ := zjC s K 0 j u hq
    rw [Nat.sub_zero] at h2
    have hk : (zdP K)[j]? = some (.string s, .int .i64 u) := by unfold zdP; rw [List.getElem?_map, h2]; rfl
    have hset : zkX (zdP K) j (.string s) (.int .i64 u) = zdP K := by
      unfold zkX
      apply List.ext_getElem?
      intro i
      rw [List.getElem?_set]
      split
      · rename_i e; subst e
        rw [if_pos (List.getElem?_eq_some_iff.1 hk).1, hk]
      · rfl
    have hsb : Instr.sameBits 10000 (.string s) (.string s) = true := by
      simp only [Instr.sameBits]
      exact (ba_eq s s).2 rfl
    simp only [Option.map_some, hk, hsb, if_true, hset]
end Go.AM
namespace Go.AM
open Go
def slId : Value → Option Nat
  | .slice (some a) _ _ => some a.block
  | _ => none
theorem zfT (H : Hp) (o : AObj) (i : Nat) : (H.new o).get i = if i = H.next then some o else H.get i := rfl
theorem zmL (H : Hp) (j : Nat) (o : Option AObj) (i : Nat) : (H.set j o).get i = if i = j then o else H.get i := rfl
theorem zlG (H : Hp) (j : Nat) (o : Option AObj) : (H.set j o).next = H.next := rfl
theorem ziN (n : Nd) : n.cells.all one = true := rfl
theorem zmX {H : Hp} {sl : Value} {L : List Nd} (hsl : SlR H sl L) {y : Nat} {own : Bool} {n : Nd} (hy : H.get y = some (.cells n.cells own)) (hlt : ∀ i, slId sl = some i → i < H.next) (hb : (L.length + 1) * 64 ≤ 2 ^ 47) :
    ∃ sl' H', zaZ 7 64 sl (.slice (some ⟨y, 0, some 7⟩) 1 1) H = some (sl', H') ∧ SlR H' sl' (L ++ [n]) ∧ slId sl' = some H.next ∧ H'.next = H.next + 1 ∧
      ∀ j, j < H.next → slId sl ≠ some j → H'.get j = H.get j := by
  have hsrc : zbi 7 (.slice (some ⟨y, 0, some 7⟩) 1 1) H = some (1, n.cells) := by
    simp [zbi, hy, Nd.cells]
  rcases hsl with ⟨rfl, rfl⟩ | ⟨i, rfl, hi⟩
  · refine ⟨.slice (some ⟨H.next, 0, some 7⟩) 1 1, H.new (.cells n.cells true), ?_, .inr ⟨H.next, rfl, ?_⟩, rfl, rfl, fun j hj _ => ?_⟩
    · unfold zaZ
      rw [hsrc]
      simp [ziN]
    · rw [zfT, if_pos rfl]; simp
    · rw [zfT, if_neg (by omega)]
  · refine ⟨.slice (some ⟨H.next, 0, some 7⟩) (L.length + 1) (L.length + 1), (H.set i none).new (.cells (L.flatMap Nd.cells ++ n.cells) true), ?_, .inr ⟨H.next, by simp, ?_⟩, rfl, rfl, fun j hj hne => ?_⟩
    · unfold zaZ
      rw [hsrc]
      have h1 : ¬ L.length + 1 ≤ L.length := by omega
      have h2 : (L.flatMap Nd.cells).take (L.length * 7) = L.flatMap Nd.cells := List.take_of_length_le (by rw [zkw]; omega)
      have h3 : 0 + L.length * 7 ≤ (L.flatMap Nd.cells).length := by rw [zkw]; omega
      simp only [ne_eq, not_true_eq_false, if_false, hi, h1, Nat.one_ne_zero, false_and, h3, hb, ziN, and_self, if_true, qd0, h2]
    · rw [zfT, if_pos (zlG _ _ _).symm]; simp [List.flatMap_append]
    · have : j ≠ i := fun e => hne (by rw [e]; rfl)
      rw [zfT, zlG, if_neg (by omega), zmL, if_neg this]
end Go.AM
namespace Go.AM
open Go
noncomputable def tailM (p : Nat) (n : Nd) (H : Hp) : Option (Value × Hp) :=
 (pNil (.pointer (some ⟨p, 0, none⟩)) (
  zar 1 (.pointer (some ⟨p, 0, none⟩)) fun p124 =>
  zaj 1 false H p124 fun v125 =>
  zag 7 true (zab n.val) 0 fun v126 =>
  zao 7 [.int .i64 0, .int .i64 0, .int .i64 0, .int .i64 0, .int .i64 0, .int .u64 0, .string ⟨#[]⟩] 1 [(0, v126)] H fun v127 H128 =>
  chk (Hp.rdP H128 p124 1 false = some v125) (
  zaF 7 64 v125 v127 H128 fun v129 H130 =>
  pNil (.pointer (some ⟨p, 0, none⟩)) (
  zar 1 (.pointer (some ⟨p, 0, none⟩)) fun p131 =>
  zam 1 H130 p131 v129 fun H132 =>
  pNil (.pointer (some ⟨p, 0, none⟩)) (
  zar 2 (.pointer (some ⟨p, 0, none⟩)) fun p133 =>
  zaj 1 false H132 p133 fun v134 =>
  zag 7 true (zab n.val) 0 fun v135 =>
  pNil (.pointer (some ⟨p, 0, none⟩)) (
  zar 1 (.pointer (some ⟨p, 0, none⟩)) fun p136 =>
  zaj 1 false H132 p136 fun v137 =>
  pLen .sl v137 H132 fun v138 =>
  pUpd PP T.api_Node v134 v135 v138 H132 fun H139 =>
  zag 1 false (zab n.val) 0 fun v140 =>
  pBin PP .eql T.int v140 (.int .i64 4) fun v141 =>
  zaa v141 fun b142 => br b142
  (pNil (.pointer (some ⟨p, 0, none⟩)) (
  zar 3 (.pointer (some ⟨p, 0, none⟩)) fun p143 =>
  zaj 1 false H139 p143 fun v144 =>
  zag 1 false (zab n.val) 6 fun v145 =>
  zag 1 false (zab n.val) 1 fun v146 =>
  pUpd PP T.string v144 v145 v146 H139 fun H147 =>
  pNil (.pointer (some ⟨p, 0, none⟩)) (
  zar 1 (.pointer (some ⟨p, 0, none⟩)) fun p148 =>
  zaj 1 false H147 p148 fun v149 =>
  pLen .sl v149 H147 fun v150 =>
  some ((.tuple #[v150, (.int .i64 0)]), H147))))
  (pNil (.pointer (some ⟨p, 0, none⟩)) (
  zar 1 (.pointer (some ⟨p, 0, none⟩)) fun p151 =>
  zaj 1 false H139 p151 fun v152 =>
  pLen .sl v152 H139 fun v153 =>
  some ((.tuple #[v153, (.int .i64 0)]), H139)))))))))
theorem zjT (n : Nd) (H : Hp) {α : Type} (k : Value → Hp → Option α) :
    zao 7 [.int .i64 0, .int .i64 0, .int .i64 0, .int .i64 0, .int .i64 0, .int .u64 0, .string ⟨#[]⟩] 1 [(0, n.val)] H k = k (.slice (some ⟨H.next, 0, some 7⟩) 1 1) (H.new (.cells n.cells true)) := by
  have : zbg 7 [.int .i64 0, .int .i64 0, .int .i64 0, .int .i64 0, .int .i64 0, .int .u64 0, .string ⟨#[]⟩] 1 [(0, n.val)] H = some (.slice (some ⟨H.next, 0, some 7⟩) 1 1, H.new (.cells n.cells true)) := by
    have h1 : zab n.val = n.cells := rfl
    have h2 : n.cells.length = 7 := rfl
    simp [zbg, repl, ziF, h1, h2, ziN, spl]
  unfold zao
  rw [this]
theorem zfG {α : Type} {q : Prop} (h : q) (k : Option α) : chk q k = k := by unfold chk; exact if_pos h
end Go.AM
namespace Go.AM
open Go
structure StF (H : Hp) (p : Nat) (lim : Int) (L : List Nd) (K : List (ByteArray × Int)) (sl : Value) (f g : Nat) : Prop where
  st : StR H p lim L sl f g
  fm : H.get f = some (.map (zd2 0 L))
  gm : H.get g = some (.map (zdP K))
  pf : p ≠ f
  pg : p ≠ g
  fg : f ≠ g
  lp : p < H.next
  lf : f < H.next
  lg : g < H.next
  sa : ∀ i, slId sl = some i → i ≠ p ∧ i ≠ f ∧ i ≠ g ∧ i < H.next
theorem store1 {α : Type} {H : Hp} {p f g : Nat} {lim : Int} {sl : Value} (hs : H.get p = some (.cells [.int .i64 lim, sl, .map (some f), .map (some g)] true)) (v : Value) (hv : zab v = [v]) (h1 : one v = true) (k : Hp → Option α) :
    zam 1 H (.pointer (some ⟨p, 1, none⟩)) v k = k (H.set p (some (.cells [.int .i64 lim, v, .map (some f), .map (some g)] true))) := by
  have : H.wr (.pointer (some ⟨p, 1, none⟩)) 1 v = some (H.set p (some (.cells [.int .i64 lim, v, .map (some f), .map (some g)] true))) := by
    simp [Hp.wr, hs, za5, hv, h1, spl]
  unfold zam
  rw [this]
theorem znj {α : Type} {n m : Nat} {s x : Value} {H : Hp} {v : Value} {H' : Hp} (h : zaZ n m s x H = some (v, H')) (k : Value → Hp → Option α) : zaF n m s x H k = k v H' := by unfold zaF; rw [h]
theorem s_upd {α : Type} {P : Program} {kt : TypeId} {m key v : Value} {H H' : Hp} (h : updV P kt m key v H = some H') (k : Hp → Option α) : pUpd P kt m key v H k = k H' := by unfold pUpd; rw [h]
theorem tail_ok {H : Hp} {p f g : Nat} {lim : Int} {L : List Nd} {K : List (ByteArray × Int)} {sl : Value} (h : StF H p lim L K sl f g) (n : Nd) (hn : zbf n 0 L = none) (hw : n.op = 4 → ∀ j u, zaS n.name 0 K = some (j, u) → u = n.w) (hb : (L.length + 1) * 64 ≤ 2 ^ 47) :
    ∃ H' sl', tailM p n H = some (.tuple #[.int .i64 ((L.length + 1 : Nat) : Int), .int .i64 0], H') ∧ StF H' p lim (L ++ [n]) (if n.op = 4 then zbK n.name n.w K else K) sl' f g ∧ H.next ≤ H'.next ∧
      (∀ j, j < H.next → j ≠ p → j ≠ f → j ≠ g → slId sl ≠ some j → H'.get j = H.get j) ∧ (∀ i, slId sl' = some i → H.next ≤ i) := by
  have hlp := h.lp
  have hlf := h.lf
  have hlg := h.lg
  have hH1 : ∀ j, j < H.next → (H.new (.cells n.cells true)).get j = H.get j := fun j hj => by rw [zfT, if_neg (by omega)]
  have hsl1 : SlR (H.new (.cells n.cells true)) sl L := by
    rcases h.st.all with ⟨e1, e2⟩ | ⟨i, e1, e2⟩
    · exact .inl ⟨e1, e2⟩
    · have := (h.sa i (by rw [e1]; rfl)).2.2.2
      exact .inr ⟨i, e1, by rw [hH1 i this]; exact e2⟩
  obtain ⟨sl', H2, ha, hsl2, hid, hnx, hfr⟩ := zmX hsl1 (y := H.next) (own := true) (n := n) (by rw [zfT, if_pos rfl]) (fun i hi => by have := (h.sa i hi).2.2.2; show i < H.next + 1; omega) hb
  have hnx1 : (H.new (.cells n.cells true)).next = H.next + 1 := rfl
  rw [hnx1] at hid hnx hfr
  have hg2 : ∀ j, j < H.next → slId sl ≠ some j → H2.get j = H.get j := fun j hj hne => by rw [hfr j (by omega) hne, hH1 j hj]
  have sp : slId sl ≠ some p := fun e => (h.sa p e).1 rfl
  have sf : slId sl ≠ some f := fun e => (h.sa f e).2.1 rfl
  have sg : slId sl ≠ some g := fun e => (h.sa g e).2.2.1 rfl
  have hsl' : ∃ c, sl' = .slice (some ⟨H.next + 1, 0, some 7⟩) (L ++ [n]).length c := by
    rcases hsl2 with ⟨e1, _⟩ | ⟨i, e1, _⟩
    · simp at e1
    · rw [e1] at hid
      have : i = H.next + 1 := by simpa [slId] using hid
      subst this
      exact ⟨_, e1⟩
  obtain ⟨c, hslc⟩ := hsl'
  have hobj2 : H2.get p = some (.cells [.int .i64 lim, sl, .map (some f), .map (some g)] true) := by rw [hg2 p hlp sp]; exact h.st.obj
  have hcl : zab sl' = [sl'] := by rw [hslc]; rfl
  have hone : one sl' = true := by rw [hslc]; rfl
  generalize hH3 : H2.set p (some (.cells [.int .i64 lim, sl', .map (some f), .map (some g)] true)) = H3
  have g3 : ∀ j, j ≠ p → H3.get j = H2.get j := fun j hj => by rw [← hH3, zmL, if_neg hj]
  have obj3 : H3.get p = some (.cells [.int .i64 lim, sl', .map (some f), .map (some g)] true) := by rw [← hH3, zmL, if_pos rfl]
  have n3 : H3.next = H.next + 2 := by rw [← hH3, zlG, hnx]
  have hsl3 : SlR H3 sl' (L ++ [n]) := by
    rcases hsl2 with ⟨e1, _⟩ | ⟨i, e1, e2⟩
    · simp at e1
    · have : i = H.next + 1 := by rw [e1] at hid; simpa [slId] using hid
      exact .inr ⟨i, e1, by rw [g3 i (by omega)]; exact e2⟩
  have hf3 : H3.get f = some (.map (zd2 0 L)) := by rw [g3 f (Ne.symm h.pf), hg2 f hlf sf]; exact h.fm
  have hg3 : H3.get g = some (.map (zdP K)) := by rw [g3 g (Ne.symm h.pg), hg2 g hlg sg]; exact h.gm
  have st3 : StR H3 p lim (L ++ [n]) sl' f g := ⟨obj3, hsl3⟩
  have hu := upd36 hf3 n hn
  generalize hH4 : H3.set f (some (.map (zd2 0 (L ++ [n])))) = H4 at hu
  have g4 : ∀ j, j ≠ f → H4.get j = H3.get j := fun j hj => by rw [← hH4, zmL, if_neg hj]
  have n4 : H4.next = H.next + 2 := by rw [← hH4, zlG, n3]
  have obj4 : H4.get p = some (.cells [.int .i64 lim, sl', .map (some f), .map (some g)] true) := by rw [g4 p h.pf]; exact obj3
  have hf4 : H4.get f = some (.map (zd2 0 (L ++ [n]))) := by rw [← hH4, zmL, if_pos rfl]
  have hg4 : H4.get g = some (.map (zdP K)) := by rw [g4 g (Ne.symm h.fg)]; exact hg3
  have hslk : ∀ {Hx : Hp}, (∀ j, j ≠ p → j ≠ f → j ≠ g → Hx.get j = H3.get j) → SlR Hx sl' (L ++ [n]) := fun hx => by
    rcases hsl3 with ⟨e1, _⟩ | ⟨i, e1, e2⟩
    · simp at e1
    · have : i = H.next + 1 := by rw [e1] at hid; simpa [slId] using hid
      exact .inr ⟨i, e1, by rw [hx i (by omega) (by omega) (by omega)]; exact e2⟩
  have st4 : StR H4 p lim (L ++ [n]) sl' f g := ⟨obj4, hslk fun j _ hf _ => g4 j hf⟩
  have hlen : ((L ++ [n]).length : Int) = ((L.length + 1 : Nat) : Int) := by simp
  have hapart : ∀ i, slId sl' = some i → i ≠ p ∧ i ≠ f ∧ i ≠ g ∧ i < H.next + 2 := fun i hi => by
    rw [hid] at hi
    cases hi
    exact ⟨by omega, by omega, by omega, by omega⟩
  have hframe4 : ∀ j, j < H.next → j ≠ p → j ≠ f → j ≠ g → slId sl ≠ some j → H4.get j = H.get j := fun j a b c d e => by rw [g4 j c, g3 j b, hg2 j a e]
  have hge : ∀ i, slId sl' = some i → H.next ≤ i := fun i hi => by rw [hid] at hi; cases hi; omega
  have hchk : Hp.rdP (H.new (.cells n.cells true)) (.pointer (some ⟨p, 1, none⟩)) 1 false = some sl := by
    simp [Hp.rdP, Hp.rd, hH1 p hlp, h.st.obj, zbZ]
  by_cases hop : n.op = 4
  · have hu9 := upd9 hg4 n.name n.w (hw hop)
    generalize hH5 : H4.set g (some (.map (zdP (zbK n.name n.w K)))) = H5 at hu9
    have g5 : ∀ j, j ≠ g → H5.get j = H4.get j := fun j hj => by rw [← hH5, zmL, if_neg hj]
    have n5 : H5.next = H.next + 2 := by rw [← hH5, zlG, n4]
    have obj5 : H5.get p = some (.cells [.int .i64 lim, sl', .map (some f), .map (some g)] true) := by rw [g5 p h.pg]; exact obj4
    have st5 : StR H5 p lim (L ++ [n]) sl' f g := ⟨obj5, hslk fun j _ hf hg => by rw [g5 j hg, g4 j hf]⟩
    refine ⟨H5, sl', ?_, ⟨st5, ?_, ?_, h.pf, h.pg, h.fg, by omega, by omega, by omega, by rw [n5]; exact hapart⟩, by omega, fun j a b c d e => ?_, hge⟩
    · unfold tailM
      simp only [zbm, zaE, Nat.zero_add, h.st.l1, n07, zjT]
      rw [zfG hchk, znj ha, store1 hobj2 sl' hcl hone, hH3]
      simp only [st3.l1, st3.l2, hsl3.len, hlen]
      rw [s_upd hu]
      simp only [n0, n1, n6, za4, hop, decide_true, zaf, s_br, if_true, st4.l3]
      rw [s_upd hu9]
      simp only [st5.l1, st5.all.len, hlen]
    · rw [g5 f h.fg]; exact hf4
    · rw [if_pos hop, ← hH5, zmL, if_pos rfl]
    · rw [g5 j d]; exact hframe4 j a b c d e
  · refine ⟨H4, sl', ?_, ⟨st4, hf4, ?_, h.pf, h.pg, h.fg, by omega, by omega, by omega, by rw [n4]; exact hapart⟩, by omega, hframe4, hge⟩
    · unfold tailM
      simp only [zbm, zaE, Nat.zero_add, h.st.l1, n07, zjT]
      rw [zfG hchk, znj ha, store1 hobj2 sl' hcl hone, hH3]
      simp only [st3.l1, st3.l2, hsl3.len, hlen]
      rw [s_upd hu]
      simp only [n0, za4, hop, decide_false, zaf, s_br, Bool.false_eq_true, if_false, st4.l1, st4.all.len, hlen]
    · rw [if_neg hop]; exact hg4
end Go.AM
namespace Go.AM
open Go
def zbF (L : List Nd) (n : Nd) : Bool := (decide (zak n.op ≥ 1) && !isT L n.a) || (decide (zak n.op ≥ 2) && !isT L n.b) || (decide (zak n.op ≥ 3) && !isT L n.c)
def zbh (K : List (ByteArray × Int)) (n : Nd) : Bool := !zdQ n.name || (match zaS n.name 0 K with | some q => decide (q.2 ≠ n.w) | none => false)
def zd7 (L : List Nd) (K : List (ByteArray × Int)) (n : Nd) : Int :=
  if n.op < 1 ∨ n.op > 33 then 73 else if n.w < 0 ∨ n.w > 64 then 5 else if zbF L n = true then 70 else if zeP (zak n.op) n = true then 1
  else if zer n.op (wT L (-1) n.a) (wT L (-1) n.b) (wT L (-1) n.c) = false then 71 else if zdp n (wT L (-1) n.a) (wT L (-1) n.b) = false then 5
  else if n.op = 4 ∧ zbh K n = true then 72 else 0
def mkR (lim : Int) (L : List Nd) (K : List (ByteArray × Int)) (n : Nd) : Int × Int × List Nd × List (ByteArray × Int) :=
  if zd7 L K n ≠ 0 then (0, zd7 L K n, L, K) else match zbf n 0 L with
    | some q => (((q + 1 : Nat) : Int), 0, L, K)
    | none => if lim > 0 ∧ (L.length : Int) ≥ lim then (0, 4, L, K) else (((L.length + 1 : Nat) : Int), 0, L ++ [n], if n.op = 4 then zbK n.name n.w K else K)
theorem zmb {L : List Nd} (h : ∀ m ∈ L, 0 ≤ m.w ∧ m.w ≤ 64) (t : Int) : -1 ≤ wT L (-1) t ∧ wT L (-1) t ≤ 64 := by
  unfold wT
  split
  · cases hq : L[(t - 1).toNat]? with
    | none => simp
    | some m =>
      have := h m (List.mem_of_getElem? hq)
      simp; omega
  · omega
end Go.AM
namespace Go.AM
open Go
theorem zh1 {α : Type} {P : Program} {kt : TypeId} {z m key v : Value} {b : Bool} {H : Hp} (h : zi8 P kt z m key H = some (v, b)) (k : Value → Option α) : zfo P kt z m key true H k = k (.tuple #[v, .bool b]) := by unfold zfo; rw [h]
theorem s_ext0 {α : Type} (x y : Value) (k : Value → Option α) : zac (.tuple #[x, y]) 0 k = k x := rfl
theorem s_ext1 {α : Type} (x y : Value) (k : Value → Option α) : zac (.tuple #[x, y]) 1 k = k y := rfl
noncomputable def restM (p : Nat) (n : Nd) (H : Hp) : Option (Value × Hp) :=
 pNil (.pointer (some ⟨p, 0, none⟩)) (
 zar 2 (.pointer (some ⟨p, 0, none⟩)) fun p102 =>
 zaj 1 false H p102 fun v103 =>
 zag 7 true (zab n.val) 0 fun v104 =>
 zfo PP T.api_Node (.int .i64 0) v103 v104 true H fun v105 =>
 zac v105 0 fun v106 =>
 zac v105 1 fun v107 =>
 zaa v107 fun b108 => br b108
 (some ((.tuple #[v106, (.int .i64 0)]), H))
 (zav (
 pNil (.pointer (some ⟨p, 0, none⟩)) (
 zar 0 (.pointer (some ⟨p, 0, none⟩)) fun p109 =>
 zaj 1 false H p109 fun v110 =>
 pBin PP .gtr T.int v110 (.int .i64 0) fun v111 =>
 zaa v111 fun b112 => br b112
 (pNil (.pointer (some ⟨p, 0, none⟩)) (
 zar 1 (.pointer (some ⟨p, 0, none⟩)) fun p113 =>
 zaj 1 false H p113 fun v114 =>
 pLen .sl v114 H fun v115 =>
 pNil (.pointer (some ⟨p, 0, none⟩)) (
 zar 0 (.pointer (some ⟨p, 0, none⟩)) fun p116 =>
 zaj 1 false H p116 fun v117 =>
 pBin PP .geq T.int v115 v117 fun v118 =>
 zaa v118 fun b119 => br b119
 (some (.ret, [(.tuple #[(.int .i64 0), (.int .i64 4)])], H))
 (some (.next, [], H)))))
 (some (.next, [], H)))) fun q120 l121 H122 => zaD q120
 (pNil (.pointer (some ⟨p, 0, none⟩)) (
 zar 1 (.pointer (some ⟨p, 0, none⟩)) fun p124 =>
 zaj 1 false H122 p124 fun v125 =>
 zag 7 true (zab n.val) 0 fun v126 =>
 zao 7 [.int .i64 0, .int .i64 0, .int .i64 0, .int .i64 0, .int .i64 0, .int .u64 0, .string ⟨#[]⟩] 1 [(0, v126)] H122 fun v127 H128 =>
 chk (Hp.rdP H128 p124 1 false = some v125) (
 zaF 7 64 v125 v127 H128 fun v129 H130 =>
 pNil (.pointer (some ⟨p, 0, none⟩)) (
 zar 1 (.pointer (some ⟨p, 0, none⟩)) fun p131 =>
 zam 1 H130 p131 v129 fun H132 =>
 pNil (.pointer (some ⟨p, 0, none⟩)) (
 zar 2 (.pointer (some ⟨p, 0, none⟩)) fun p133 =>
 zaj 1 false H132 p133 fun v134 =>
 zag 7 true (zab n.val) 0 fun v135 =>
 pNil (.pointer (some ⟨p, 0, none⟩)) (
 zar 1 (.pointer (some ⟨p, 0, none⟩)) fun p136 =>
 zaj 1 false H132 p136 fun v137 =>
 pLen .sl v137 H132 fun v138 =>
 pUpd PP T.api_Node v134 v135 v138 H132 fun H139 =>
 zag 1 false (zab n.val) 0 fun v140 =>
 pBin PP .eql T.int v140 (.int .i64 4) fun v141 =>
 zaa v141 fun b142 => br b142
 (pNil (.pointer (some ⟨p, 0, none⟩)) (
 zar 3 (.pointer (some ⟨p, 0, none⟩)) fun p143 =>
 zaj 1 false H139 p143 fun v144 =>
 zag 1 false (zab n.val) 6 fun v145 =>
 zag 1 false (zab n.val) 1 fun v146 =>
 pUpd PP T.string v144 v145 v146 H139 fun H147 =>
 pNil (.pointer (some ⟨p, 0, none⟩)) (
 zar 1 (.pointer (some ⟨p, 0, none⟩)) fun p148 =>
 zaj 1 false H147 p148 fun v149 =>
 pLen .sl v149 H147 fun v150 =>
 some ((.tuple #[v150, (.int .i64 0)]), H147))))
 (pNil (.pointer (some ⟨p, 0, none⟩)) (
 zar 1 (.pointer (some ⟨p, 0, none⟩)) fun p151 =>
 zaj 1 false H139 p151 fun v152 =>
 pLen .sl v152 H139 fun v153 =>
 some ((.tuple #[v153, (.int .i64 0)]), H139)))))))))
 (fun i123 => none)
 (some ((l121.headD undef), H122))))
def okR (lim : Int) (L : List Nd) (K : List (ByteArray × Int)) (n : Nd) : Int × Int × List Nd × List (ByteArray × Int) :=
  match zbf n 0 L with
    | some q => (((q + 1 : Nat) : Int), 0, L, K)
    | none => if lim > 0 ∧ (L.length : Int) ≥ lim then (0, 4, L, K) else (((L.length + 1 : Nat) : Int), 0, L ++ [n], if n.op = 4 then zbK n.name n.w K else K)
structure MkOk (H : Hp) (p : Nat) (lim : Int) (sl : Value) (f g : Nat) (r : Int × Int × List Nd × List (ByteArray × Int)) (H' : Hp) (sl' : Value) : Prop where
  st : StF H' p lim r.2.2.1 r.2.2.2 sl' f g
  next : H.next ≤ H'.next
  frame : ∀ j, j < H.next → j ≠ p → j ≠ f → j ≠ g → slId sl ≠ some j → H'.get j = H.get j
  own : ∀ i, slId sl' = some i → slId sl = some i ∨ H.next ≤ i
theorem MkOk.stay {H : Hp} {p f g : Nat} {lim : Int} {L : List Nd} {K : List (ByteArray × Int)} {sl : Value} (h : StF H p lim L K sl f g) {r : Int × Int × List Nd × List (ByteArray × Int)} (hr : r.2.2 = (L, K)) : MkOk H p lim sl f g r H sl :=
  ⟨by rw [hr]; exact h, Nat.le_refl _, fun _ _ _ _ _ _ => rfl, fun i hi => .inl hi⟩
theorem rest_ok {H : Hp} {p f g : Nat} {lim : Int} {L : List Nd} {K : List (ByteArray × Int)} {sl : Value} (h : StF H p lim L K sl f g) (n : Nd) (hw : n.op = 4 → ∀ j u, zaS n.name 0 K = some (j, u) → u = n.w) (hb : (L.length + 1) * 64 ≤ 2 ^ 47) :
    ∃ H' sl', restM p n H = some (.tuple #[.int .i64 (okR lim L K n).1, .int .i64 (okR lim L K n).2.1], H') ∧ MkOk H p lim sl f g (okR lim L K n) H' sl' := by
  have hl36 := look36 h.fm n
  unfold okR
  cases hq : zbf n 0 L with
  | some q =>
    rw [hq] at hl36
    refine ⟨H, sl, ?_, MkOk.stay h rfl⟩
    unfold restM
    simp only [zbm, zaE, Nat.zero_add, h.st.l2, n07, zh1 hl36, x01, zaf, s_br, if_true]
  | none =>
    rw [hq] at hl36
    by_cases hlim : lim > 0 ∧ (L.length : Int) ≥ lim
    · refine ⟨H, sl, ?_, MkOk.stay h (by simp only [if_pos hlim])⟩
      unfold restM
      simp only [zbm, zaE, Nat.zero_add, Nat.add_zero, h.st.l0, h.st.l1, h.st.l2, h.st.all.len, n07, zh1 hl36, x01, zaf, s_br, zca, zcb, hlim.1, hlim.2, decide_true, Bool.false_eq_true, if_false, if_true, zaq, zeb, zdH, if_pos hlim, and_self]
    · obtain ⟨H', sl', h1, h2, h3, h4, h5⟩ := tail_ok h n hq hw hb
      rw [if_neg hlim]
      refine ⟨H', sl', ?_, ⟨h2, h3, h4, fun i hi => .inr (h5 i hi)⟩⟩
      rw [← h1]
      unfold restM
      by_cases l1 : lim > 0
      · have l2 : ¬ ((L.length : Int) ≥ lim) := fun q => hlim ⟨l1, q⟩
        simp only [zbm, zaE, Nat.zero_add, Nat.add_zero, h.st.l0, h.st.l1, h.st.l2, h.st.all.len, n07, zh1 hl36, x01, zaf, s_br, zca, zcb, l1, l2, decide_true, decide_false, Bool.false_eq_true, if_false, if_true, zaq, zaV, zdH]
        unfold tailM
        simp only [zbm, zaE, Nat.zero_add, Nat.add_zero, h.st.l0, h.st.l1, h.st.l2, h.st.all.len, n07, s_br]
      · simp only [zbm, zaE, Nat.zero_add, Nat.add_zero, h.st.l0, h.st.l1, h.st.l2, h.st.all.len, n07, zh1 hl36, x01, zaf, s_br, zca, zcb, l1, decide_true, decide_false, Bool.false_eq_true, if_false, if_true, zaq, zaV, zdH]
        unfold tailM
        simp only [zbm, zaE, Nat.zero_add, Nat.add_zero, h.st.l0, h.st.l1, h.st.l2, h.st.all.len, n07, s_br]
end Go.AM
namespace Go.AM
open Go
end Go.AM
namespace Go.AM
open Go
theorem zhy {α : Type} (a b c : Int) (k : Value → Option α) : zau PP T.a3_int [(0, .int .i64 a), (1, .int .i64 b), (2, .int .i64 c)] k = k (.agg #[.int .i64 a, .int .i64 b, .int .i64 c]) := by
  have : zgC PP T.a3_int [(0, .int .i64 a), (1, .int .i64 b), (2, .int .i64 c)] = some (.agg #[.int .i64 a, .int .i64 b, .int .i64 c]) := by kernel_rfl
  unfold zau; rw [this]
theorem s_arr0 {α : Type} (a b c : Value) (k : Value → Option α) : zdw 3 false 1 (.agg #[a, b, c]) (.int .i64 0) k = k a := rfl
theorem s_arr1 {α : Type} (a b c : Value) (k : Value → Option α) : zdw 3 false 1 (.agg #[a, b, c]) (.int .i64 1) k = k b := rfl
theorem s_arr2 {α : Type} (a b c : Value) (k : Value → Option α) : zdw 3 false 1 (.agg #[a, b, c]) (.int .i64 2) k = k c := rfl
theorem loop3 {H : Hp} {p f g : Nat} {lim : Int} {L : List Nd} {sl : Value} (hs : StR H p lim L sl f g) (n : Nd) (S : List Value → Hp → Option Outc)
    (hS : S = fun (l25 : List Value) (H26 : Hp) =>
 pBin PP .lss T.int (l25.getD 0 undef) (.int .i64 3) fun v27 =>
 zaa v27 fun b28 => br b28
 (zdw 3 false 1 (.agg #[.int .i64 n.a, .int .i64 n.b, .int .i64 n.c]) (l25.getD 0 undef) fun v29 =>
 zae RR F.a6 [.int .i64 n.op] H26 fun r31 H32 =>
 pBin PP .lss T.int (l25.getD 0 undef) r31 fun v33 =>
 zaa v33 fun b34 => br b34
 (zae RR F.a11 [.pointer (some ⟨p, 0, none⟩), v29] H32 fun r35 H36 =>
 pUn .not r35 fun v37 =>
 zaa v37 fun b38 => br b38
 (some (.ret, [(.tuple #[(.int .i64 0), (.int .i64 70)])], H36))
 (pBin PP .add T.int (l25.getD 0 undef) (.int .i64 1) fun v39 =>
 some (.next, [v39], H36)))
 (pBin PP .add T.int (l25.getD 0 undef) (.int .i64 1) fun v40 =>
 some (.next, [v40], H32)))
 (some (.exit 0, [(l25.getD 0 undef)], H26))) :
    zaG S [.int .i64 0] H = if zbF L n = true then some (.ret, [.tuple #[.int .i64 0, .int .i64 70]], H) else some (.exit 0, [.int .i64 3], H) := by
  have w1 : IntKind.i64.wrap (0 + 1) = 1 := by decide
  have w2 : IntKind.i64.wrap (1 + 1) = 2 := by decide
  have w3 : IntKind.i64.wrap (2 + 1) = 3 := by decide
  have e0 : zaG S [.int .i64 0] H = if (decide (zak n.op ≥ 1) && !isT L n.a) = true then some (.ret, [.tuple #[.int .i64 0, .int .i64 70]], H) else zaG S [.int .i64 1] H := by
    rw [zan]
    have : S [.int .i64 0] H = if (decide (zak n.op ≥ 1) && !isT L n.a) = true then some (.ret, [.tuple #[.int .i64 0, .int .i64 70]], H) else some (.next, [.int .i64 1], H) := by
      rw [hS]
      simp only [zaY, zaf, s_br, qg0, s_arr0, zah (c29 _ _), zah (c19 hs), zc9, zbb, w1, decide_eq_true_eq]
      by_cases q : 0 < zak n.op
      · have q2 : zak n.op ≥ 1 := by omega
        cases isT L n.a <;> simp [q, q2]
      · have q2 : ¬ zak n.op ≥ 1 := by omega
        simp [q, q2]
    rw [this]
    split <;> rfl
  have e1 : zaG S [.int .i64 1] H = if (decide (zak n.op ≥ 2) && !isT L n.b) = true then some (.ret, [.tuple #[.int .i64 0, .int .i64 70]], H) else zaG S [.int .i64 2] H := by
    rw [zan]
    have : S [.int .i64 1] H = if (decide (zak n.op ≥ 2) && !isT L n.b) = true then some (.ret, [.tuple #[.int .i64 0, .int .i64 70]], H) else some (.next, [.int .i64 2], H) := by
      rw [hS]
      simp only [zaY, zaf, s_br, qg0, s_arr1, zah (c29 _ _), zah (c19 hs), zc9, zbb, w2, decide_eq_true_eq]
      by_cases q : 1 < zak n.op
      · have q2 : zak n.op ≥ 2 := by omega
        cases isT L n.b <;> simp [q, q2]
      · have q2 : ¬ zak n.op ≥ 2 := by omega
        simp [q, q2]
    rw [this]
    split <;> rfl
  have e2 : zaG S [.int .i64 2] H = if (decide (zak n.op ≥ 3) && !isT L n.c) = true then some (.ret, [.tuple #[.int .i64 0, .int .i64 70]], H) else zaG S [.int .i64 3] H := by
    rw [zan]
    have : S [.int .i64 2] H = if (decide (zak n.op ≥ 3) && !isT L n.c) = true then some (.ret, [.tuple #[.int .i64 0, .int .i64 70]], H) else some (.next, [.int .i64 3], H) := by
      rw [hS]
      simp only [zaY, zaf, s_br, qg0, s_arr2, zah (c29 _ _), zah (c19 hs), zc9, zbb, w3, decide_eq_true_eq]
      by_cases q : 2 < zak n.op
      · have q2 : zak n.op ≥ 3 := by omega
        cases isT L n.c <;> simp [q, q2]
      · have q2 : ¬ zak n.op ≥ 3 := by omega
        simp [q, q2]
    rw [this]
    split <;> rfl
  have e3 : zaG S [.int .i64 3] H = some (.exit 0, [.int .i64 3], H) := by
    rw [zan]
    have : S [.int .i64 3] H = some (.exit 0, [.int .i64 3], H) := by
      rw [hS]
      simp [zaY, zaf, s_br]
    rw [this]; rfl
  rw [e0, e1, e2, e3]
  unfold zbF
  cases decide (zak n.op ≥ 1) && !isT L n.a <;> cases decide (zak n.op ≥ 2) && !isT L n.b <;> cases decide (zak n.op ≥ 3) && !isT L n.c <;> rfl
theorem c22 {H : Hp} {p f g : Nat} {lim : Int} {L : List Nd} {K : List (ByteArray × Int)} {sl : Value} (h : StF H p lim L K sl f g) (n : Nd) (hnum : 0 ≤ n.num ∧ n.num < 18446744073709551616)
    (hW : ∀ m ∈ L, 0 ≤ m.w ∧ m.w ≤ 64) (hb : (L.length + 1) * 64 ≤ 2 ^ 47) :
    ∃ H' sl', RR F.a0 [.pointer (some ⟨p, 0, none⟩), n.val] H = some (.tuple #[.int .i64 (mkR lim L K n).1, .int .i64 (mkR lim L K n).2.1], H') ∧ MkOk H p lim sl f g (mkR lim L K n) H' sl' := by
  have hL : (L.length : Int) ≤ 4611686018427387904 := by omega
  have ha := zmb hW n.a
  have hbd := zmb hW n.b
  have stay : ∀ e : Int, zd7 L K n = e → e ≠ 0 → RR F.a0 [.pointer (some ⟨p, 0, none⟩), n.val] H = some (.tuple #[.int .i64 0, .int .i64 e], H) →
      ∃ H' sl', RR F.a0 [.pointer (some ⟨p, 0, none⟩), n.val] H = some (.tuple #[.int .i64 (mkR lim L K n).1, .int .i64 (mkR lim L K n).2.1], H') ∧ MkOk H p lim sl f g (mkR lim L K n) H' sl' := fun e he h0 hr => by
    have hm : mkR lim L K n = (0, e, L, K) := by unfold mkR; rw [he, if_pos h0]
    rw [hm]
    exact ⟨H, sl, hr, MkOk.stay h rfl⟩
  have hrun := zgP E0 rfl (.pointer (some ⟨p, 0, none⟩)) n.val H
  unfold zej at hrun
  simp only [n0, n1, n2, n3, n4, zaY, zca, zaf, s_br, zaq, zdj, zaV, zeb, zdH, decide_eq_true_eq, zhy] at hrun
  by_cases hop1 : n.op < 1
  · rw [if_pos hop1] at hrun
    exact stay 73 (by unfold zd7; rw [if_pos (.inl hop1)]) (by decide) hrun
  rw [if_neg hop1] at hrun
  by_cases hop2 : n.op > 33
  · rw [if_pos hop2] at hrun
    exact stay 73 (by unfold zd7; rw [if_pos (.inr hop2)]) (by decide) hrun
  rw [if_neg hop2] at hrun
  have hop : ¬ (n.op < 1 ∨ n.op > 33) := by omega
  by_cases hw1 : n.w < 0
  · rw [if_pos hw1] at hrun
    exact stay 5 (by unfold zd7; rw [if_neg hop, if_pos (.inl hw1)]) (by decide) hrun
  rw [if_neg hw1] at hrun
  by_cases hw2 : n.w > 64
  · rw [if_pos hw2] at hrun
    exact stay 5 (by unfold zd7; rw [if_neg hop, if_pos (.inr hw2)]) (by decide) hrun
  rw [if_neg hw2] at hrun
  have hww : ¬ (n.w < 0 ∨ n.w > 64) := by omega
  have hloop := loop3 h.st n _ rfl
  simp only [zaY, zaf, s_br, zc9, zbb, decide_eq_true_eq] at hloop
  simp only [zaY, zaf, s_br, zc9, zbb, decide_eq_true_eq, hloop] at hrun
  by_cases hpa : zbF L n = true
  · rw [if_pos hpa] at hrun
    exact stay 70 (by unfold zd7; rw [if_neg hop, if_neg hww, if_pos hpa]) (by decide) hrun
  rw [if_neg hpa] at hrun
  simp only [zaq, zbk, zaI] at hrun
  have pa : zak n.op ≥ 1 → isT L n.a = true := fun q => by
    cases e : isT L n.a with
    | true => rfl
    | false => exact absurd (by unfold zbF; simp [q, e]) hpa
  have hn : n.Ok := ⟨by omega, by omega, by omega, by omega, hnum.1, hnum.2⟩
  rw [n07, zah (c41 n H), zaf] at hrun
  by_cases hsp : zeP (zak n.op) n = true
  · rw [if_pos hsp] at hrun
    exact stay 1 (by unfold zd7; rw [if_neg hop, if_neg hww, if_neg hpa, if_pos hsp]) (by decide) hrun
  rw [if_neg hsp] at hrun
  rw [n07, zah (c42 h.st hL n), zc9, zaf] at hrun
  cases hso : zer n.op (wT L (-1) n.a) (wT L (-1) n.b) (wT L (-1) n.c) with
  | false =>
    rw [hso] at hrun
    simp only [Bool.not_false, if_true] at hrun
    exact stay 71 (by unfold zd7; rw [if_neg hop, if_neg hww, if_neg hpa, if_neg hsp, if_pos hso]) (by decide) hrun
  | true =>
  have hsort : n.op ≥ 15 → wT L (-1) n.a > 0 := fun q => by
    have q0 : zak n.op ≠ 0 := by unfold zak; (repeat' split) <;> omega
    have := hso
    unfold zer at this
    rw [if_neg q0, if_neg (by omega), if_neg (by omega), if_neg (by omega), if_neg (by omega)] at this
    split at this
    · simp at this; omega
    · split at this
      · simpa using this
      · simp at this; omega
  rw [hso] at hrun
  simp only [Bool.not_true, Bool.false_eq_true, if_false] at hrun
  rw [n07, zah (c43 h.st hL n hn ha hbd hsort), zc9, zaf] at hrun
  cases hwi : zdp n (wT L (-1) n.a) (wT L (-1) n.b) with
  | false =>
    rw [hwi] at hrun
    simp only [Bool.not_false, if_true] at hrun
    exact stay 5 (by unfold zd7; rw [if_neg hop, if_neg hww, if_neg hpa, if_neg hsp, hso, if_neg (by decide), if_pos hwi]) (by decide) hrun
  | true =>
  rw [hwi] at hrun
  simp only [Bool.not_true, Bool.false_eq_true, if_false] at hrun
  have hl9 := look9 h.gm n.name
  have hnm : n.op = 4 → zbh K n = true → RR F.a0 [.pointer (some ⟨p, 0, none⟩), n.val] H = some (.tuple #[.int .i64 0, .int .i64 72], H) := by
    intro h4 hbad
    refine hrun.trans ?_
    simp only [h4, za4, decide_true, zaf, s_br, if_true, zbm, zaE, Nat.zero_add, h.st.l3, n6, n1, zh1 hl9]
    unfold zbh at hbad
    cases hq : zaS n.name 0 K with
    | none =>
      rw [hq] at hbad
      simp only [x01, zah (c44 n.name H), zc9, zaf, s_br]
      cases hno : zdQ n.name with
      | true => rw [hno] at hbad; cases hbad
      | false => simp [zaq, zeb, zdH]
    | some q =>
      rw [hq] at hbad
      simp only [x01, zah (c44 n.name H), zc9, zaf, s_br, zec]
      cases hno : zdQ n.name with
      | true =>
        rw [hno] at hbad
        have hne : q.2 ≠ n.w := by simpa using hbad
        simp [hne, zaq, zeb, zdH]
      | false => simp [zaq, zeb, zdH]
  by_cases hbad : n.op = 4 ∧ zbh K n = true
  · exact stay 72 (by unfold zd7; rw [if_neg hop, if_neg hww, if_neg hpa, if_neg hsp, hso, if_neg (by decide), hwi, if_neg (by decide), if_pos hbad]) (by decide) (hnm hbad.1 hbad.2)
  have herr : zd7 L K n = 0 := by unfold zd7; rw [if_neg hop, if_neg hww, if_neg hpa, if_neg hsp, hso, if_neg (by decide), hwi, if_neg (by decide), if_neg hbad]
  have hmk : mkR lim L K n = okR lim L K n := by unfold mkR; rw [herr]; rfl
  rw [hmk]
  have hgood : n.op = 4 → zbh K n = false := fun h4 => by
    cases e : zbh K n with
    | true => exact absurd ⟨h4, e⟩ hbad
    | false => rfl
  obtain ⟨H', sl', hr, hm⟩ := rest_ok h n (fun h4 j u hq => by
    have hb := hgood h4
    unfold zbh at hb
    rw [hq] at hb
    simp at hb
    exact hb.2) hb
  refine ⟨H', sl', hrun.trans ?_, hm⟩
  rw [← hr]
  unfold restM
  by_cases h4 : n.op = 4
  · have hb := hgood h4
    unfold zbh at hb
    cases hq : zaS n.name 0 K with
    | none =>
      rw [hq] at hb hl9
      have hno : zdQ n.name = true := by simpa using hb
      simp only [h4, za4, decide_true, zaf, s_br, if_true, zbm, zaE, Nat.zero_add, h.st.l3, n0, n6, n1, zh1 hl9, x01, zah (c44 n.name H), zc9, hno, Bool.not_true, Bool.false_eq_true, if_false, zaq, zaV]
    | some q =>
      rw [hq] at hb hl9
      have hno : zdQ n.name = true ∧ q.2 = n.w := by simpa using hb
      simp only [h4, za4, decide_true, zaf, s_br, if_true, zbm, zaE, Nat.zero_add, h.st.l3, n0, n6, n1, zh1 hl9, x01, zah (c44 n.name H), zc9, zec, hno.1, hno.2, Bool.not_true, Bool.false_eq_true, if_false, zaq, zaV, ne_eq, not_true_eq_false, decide_false]
  · simp only [n0, n1, n6, zbm, zaE, Nat.zero_add, h4, za4, decide_false, zaf, s_br, Bool.false_eq_true, if_false, zaq, zaV]
end Go.AM
namespace Go.AM
open Go
def dig (d : Nat) : UInt8 := UInt8.ofNat (if d < 10 then 48 + d else 87 + d)
def dgt (b x : Nat) : List UInt8 := if h : x < b ∨ b < 2 then [dig x] else dgt b (x / b) ++ [dig (x % b)]
termination_by x
decreasing_by exact Nat.div_lt_self (by omega) (by omega)
theorem zfB {b x : Nat} (h : x < b) : dgt b x = [dig x] := by rw [dgt, dif_pos (.inl h)]
theorem zfC {b x : Nat} (hb : 2 ≤ b) (h : b ≤ x) : dgt b x = dgt b (x / b) ++ [dig (x % b)] := by rw [dgt, dif_neg (by omega)]
theorem zkA {b : Nat} (hb : 2 ≤ b) : ∀ (n x : Nat), x < b ^ n → 0 < n → (dgt b x).length ≤ n
  | 0, x, h, h0 => by omega
  | n + 1, x, h, _ => by
    by_cases hx : x < b
    · rw [zfB hx]; simp
    · rw [zfC hb (by omega), List.length_append]
      have hn : 0 < n := by
        rcases Nat.eq_zero_or_pos n with q | q
        · subst q; simp at h; omega
        · exact q
      have : x / b < b ^ n := Nat.div_lt_of_lt_mul (by rw [Nat.pow_succ, Nat.mul_comm] at h; exact h)
      have := zkA hb n (x / b) this hn
      simp; omega
abbrev ba (l : List UInt8) : ByteArray := ⟨l.toArray⟩
theorem zb3 (l : List UInt8) : (ba l).size = l.length := by simp [ba, ByteArray.size]
theorem zd8 (l : List UInt8) : (ba l).data.toList = l := by simp [ba]
theorem zfz {s : ByteArray} {l : List UInt8} (h : s.data.toList = l) : s = ba l := by
  cases s; subst h; simp [ba]
theorem app_list (a b : ByteArray) : (a ++ b).data.toList = a.data.toList ++ b.data.toList := by simp
theorem ba_app (l m : List UInt8) : ba l ++ ba m = ba (l ++ m) := zfz (by rw [app_list, zd8, zd8])
theorem zkS (s : ByteArray) : s.size = s.data.toList.length := (Array.length_toList (xs := s.data)).symm
section
variable {α : Type} {P : Program}
theorem s_cat (T : TypeId) (a b : ByteArray) (h : a.size + b.size ≤ 2 ^ 60) (k : Value → Option α) : pBin P .add T (.string a) (.string b) k = k (.string (a ++ b)) := by
  have h1 : ¬ ((a.size + b.size : Nat) : Int) > IntKind.i64.max := by
    have : IntKind.i64.max = 9223372036854775807 := rfl
    omega
  have : zj2 .add a b = some (.string (a ++ b)) := if_neg h1
  unfold pBin binV
  dsimp only
  rw [this]
theorem zni (T : TypeId) (a b : List UInt8) (h : a.length + b.length ≤ 2 ^ 60) (k : Value → Option α) : pBin P .add T (.string (ba a)) (.string (ba b)) k = k (.string (ba (a ++ b))) := by
  rw [s_cat T _ _ (by rw [zb3, zb3]; exact h), ba_app]
theorem s_cut (s : ByteArray) (k1 k2 : IntKind) (i j : Nat) (h : i ≤ j) (hj : j ≤ s.size) (k : Value → Option α) : zaX (.string s) (some (.int k1 (i : Int))) (some (.int k2 (j : Int))) k = k (.string (s.extract i j)) := by
  have : zf7 (.string s) (some (.int k1 (i : Int))) (some (.int k2 (j : Int))) = some (.string (s.extract i j)) := by
    unfold zf7
    dsimp only [zcp]
    rw [if_pos ⟨by omega, by omega, by omega⟩]
    simp
  unfold zaX; rw [this]
theorem f_at (s : ByteArray) (kd : IntKind) (i : Nat) (b : UInt8) (h : s.data.toList[i]? = some b) (k : Value → Option α) : zaQ (.string s) (.int kd (i : Int)) k = k (.int .u8 (b.toNat : Int)) := q_at s i b h k
end
def numT (x : Nat) : List UInt8 := if x < 1000 then dgt 10 x else [48, 120] ++ dgt 16 x
theorem znD {x : Nat} (h : x < 18446744073709551616) : (numT x).length ≤ 18 := by
  unfold numT
  split
  · have := zkA (b := 10) (by decide) 3 x (by omega) (by decide); omega
  · have := zkA (b := 16) (by decide) 16 x (by omega) (by decide); simp; omega
end Go.AM
namespace Go.AM
open Go
theorem run_at {P : Program} {O : Orc} {ext : FuncId → Option (List Value → Hp → Option (Value × Hp))} {g : FuncId} {fn : Func} {e : List Value → Option Value} (hf : P.funcs[g]? = some fn) (hn : (fn.name == "runtime.NumGoroutine") = false) (hb : fn.body.isNone = true) (hx : O.xt g = some e) {xs : List Value} {v : Value} (hv : e xs = some v) (H : Hp) :
    run P O ext g xs H = some (v, H) := by
  have hb : fn.body = none := by
    cases q : fn.body with
    | none => rfl
    | some c => rw [q] at hb; cases hb
  rw [run_eq]
  unfold zht
  rw [hf]
  dsimp only
  rw [hn]
  dsimp only
  rw [hb]
  dsimp only
  rw [hx]
  dsimp only
  rw [hv]
abbrev nlB : ByteArray := ⟨#[10]⟩
theorem znI {α : Type} (H : Hp) (k : Value → Option α) : pLen .str (.string nlB) H k = k (.int .i64 1) := rfl
theorem nl_at {α : Type} (k : Value → Option α) : zaQ (.string nlB) (.int .i64 0) k = k (.int .u8 10) := f_at nlB .i64 0 10 rfl k
theorem znf {α : Type} (T : TypeId) (a b : ByteArray) (k : Value → Option α) : pBin PP .eql T (.string a) (.string b) k = k (.bool (a.data.toList == b.data.toList)) := by
  have : zj2 .eql a b = some (.bool (a.data.toList == b.data.toList)) := by
    unfold zj2
    simp only [Go.Lib.toList_data]
  unfold pBin binV
  dsimp only
  rw [this]
theorem c_cntS (s : ByteArray) (H : Hp) : RR F.a40 [.string s, .string nlB] H = some (.int .i64 (Go.Lib.countByte s.data.toList 10 : Nat), H) := by
  have h : RR F.a19 [.string s, .int .u8 10] H = some (.int .i64 (Go.Lib.countByte s.data.toList 10 : Nat), H) :=
    run_at (e := zjQ) Go.Proofs.Tryz.func87 (by kernel_rfl) (by kernel_rfl) (by kernel_rfl) rfl H
  refine (zh8 E0 rfl _ _ H).trans ?_
  unfold ze1
  simp only [znI, za4, zaf, s_br, nl_at, zah h, show (1 : Int) ≠ 0 by decide, decide_false, decide_true, if_false, if_true, Bool.false_eq_true]
theorem c_ixS (s : ByteArray) (H : Hp) : RR F.a25 [.string s, .string nlB] H = some (.int .i64 (Go.Lib.indexByte s.data.toList 10), H) := by
  have h : RR F.a20 [.string s, .int .u8 10] H = some (.int .i64 (Go.Lib.indexByte s.data.toList 10), H) :=
    run_at (e := zjK) Go.Proofs.Tryz.func118 (by kernel_rfl) (by kernel_rfl) (by kernel_rfl) rfl H
  have h2 : RR F.a35 [.string s, .int .u8 10] H = some (.int .i64 (Go.Lib.indexByte s.data.toList 10), H) := by
    refine (zcm E0 rfl _ _ H).trans ?_
    unfold zbq
    rw [zah h]
  have h3 : RR F.a62 [.string s, .string nlB] H = some (.int .i64 (Go.Lib.indexByte s.data.toList 10), H) := by
    refine (zdc E0 rfl _ _ H).trans ?_
    unfold zbN
    cases e : (nlB.data.toList == s.data.toList) with
    | true =>
      have e1 : s.data.toList = [10] := (eq_of_beq e).symm
      simp only [znI, za4, zaf, s_br, nl_at, znf, e, zaq, zaV, zeb, show (1 : Int) ≠ 0 by decide, decide_false, decide_true, if_false, if_true, Bool.false_eq_true, qg0, List.headD_cons]
      rw [e1]
      rfl
    | false => simp only [znI, za4, zaf, s_br, nl_at, znf, zaq, zaV, zeb, e, zah h2, show (1 : Int) ≠ 0 by decide, decide_false, decide_true, if_false, if_true, Bool.false_eq_true, qg0, List.headD_cons]
  refine (zh7 E0 rfl _ _ H).trans ?_
  unfold ze0
  rw [zah h3]
def cutB (c : UInt8) : List UInt8 → List (List UInt8)
  | [] => [[]]
  | b :: r => match b == c with
    | true => [] :: cutB c r
    | false => match cutB c r with
      | h :: t => (b :: h) :: t
      | [] => [[b]]
theorem zn0 {c b : UInt8} (h : (b == c) = true) (r : List UInt8) : cutB c (b :: r) = [] :: cutB c r := by
  conv => lhs; unfold cutB
  rw [h]
theorem zlX {c b : UInt8} (h : (b == c) = false) {r x : List UInt8} {t : List (List UInt8)} (e : cutB c r = x :: t) : cutB c (b :: r) = (b :: x) :: t := by
  conv => lhs; unfold cutB
  rw [h, e]
theorem zgx (c : UInt8) : ∀ l, (cutB c l).length = l.count c + 1
  | [] => rfl
  | b :: r => by
    have ih := zgx c r
    unfold cutB
    rw [List.count_cons]
    cases h : b == c with
    | true => dsimp only; rw [List.length_cons, ih]; simp
    | false =>
      dsimp only
      split
      · rename_i h1 t e; rw [e] at ih; simpa using ih
      · rename_i e; rw [e] at ih; cases ih
theorem zlW (c : UInt8) : ∀ l, l.count c = 0 → cutB c l = [l]
  | [], _ => rfl
  | b :: r, h => by
    rw [List.count_cons] at h
    have h1 : (b == c) = false := by
      cases q : b == c with
      | false => rfl
      | true => rw [q] at h; simp at h
    rw [h1] at h
    unfold cutB
    rw [h1]
    dsimp only
    rw [zlW c r (by simpa using h)]
theorem zlU (c : UInt8) : ∀ l, l.count c ≠ 0 → ∃ m : Nat, Go.Lib.indexByte l c = m ∧ m < l.length ∧ cutB c l = l.take m :: cutB c (l.drop (m + 1)) ∧ (l.drop (m + 1)).count c + 1 = l.count c
  | [], h => by simp at h
  | b :: r, h => by
    rw [List.count_cons] at h
    cases q : b == c with
    | true =>
      refine ⟨0, ?_, by simp, ?_, ?_⟩
      · unfold Go.Lib.indexByte; rw [q]; rfl
      · rw [zn0 q]; rfl
      · rw [List.count_cons, q]; simp
    | false =>
      rw [q] at h
      obtain ⟨m, h1, h2, h3, h4⟩ := zlU c r (by simpa using h)
      refine ⟨m + 1, ?_, by simp; omega, ?_, ?_⟩
      · unfold Go.Lib.indexByte
        rw [q, h1]
        have : ((m : Int) == -1) = false := by rw [beq_eq_false_iff_ne]; omega
        simp [this]
      · rw [zlX q h3]; rfl
      · rw [List.count_cons, q]; simpa using h4
end Go.AM
namespace Go.AM
open Go
def str (l : List UInt8) : Value := .string (ba l)
theorem ba_take (l : List UInt8) (m : Nat) : (ba l).extract 0 m = ba (l.take m) := zfz (by simp [ByteArray.data_extract])
theorem ba_drop (l : List UInt8) (m : Nat) : (ba l).extract m l.length = ba (l.drop m) := zfz (by
  simp only [ByteArray.data_extract, Array.toList_extract, List.extract_eq_take_drop]
  exact List.take_of_length_le (by simp))
theorem s_upto {α : Type} (l : List UInt8) (kd : IntKind) {m : Nat} (hm : m ≤ l.length) (k : Value → Option α) : zaX (str l) none (some (.int kd (m : Int))) k = k (str (l.take m)) := by
  have : zf7 (str l) none (some (.int kd (m : Int))) = some (.string ((ba l).extract 0 m)) := by
    unfold zf7 str
    dsimp only [zcp]
    rw [zb3, if_pos ⟨by omega, by omega, by omega⟩]
    simp
  unfold zaX; rw [this, ba_take]; rfl
theorem s_from {α : Type} (l : List UInt8) (kd : IntKind) {m : Nat} (hm : m ≤ l.length) (k : Value → Option α) : zaX (str l) (some (.int kd (m : Int))) none k = k (str (l.drop m)) := by
  have : zf7 (str l) (some (.int kd (m : Int))) none = some (.string ((ba l).extract m l.length)) := by
    unfold zf7 str
    dsimp only [zcp]
    rw [zb3, if_pos ⟨by omega, by omega, by omega⟩]
    simp
  unfold zaX; rw [this, ba_drop]; rfl
theorem c_ixL (l : List UInt8) (H : Hp) : RR F.a25 [str l, .string nlB] H = some (.int .i64 (Go.Lib.indexByte l 10), H) := by
  have := c_ixS (ba l) H
  rw [zd8] at this
  exact this
theorem w64 {a : Int} (h1 : -9223372036854775808 ≤ a) (h2 : a ≤ 9223372036854775807) : IntKind.i64.wrap a = a := zdo (k := .i64) h1 h2
theorem zj4 (A : List Value) (e x : Value) {i n : Nat} (hi : A.length = i) (k : Nat) : spl (A ++ repl (k + 1) [e]) (i * 1) [x] = A ++ [x] ++ repl k [e] := by
  subst hi
  have h : repl (k + 1) [e] = e :: repl k [e] := rfl
  unfold spl
  rw [h, Nat.mul_one]
  simp
theorem zjd (v : Value) (n : Nat) (hn : n ≤ 2 ^ 41) : ∀ (c i : Nat) (done : List (List UInt8)) (rest : List UInt8) (H : Hp), rest.count 10 = c → Vec H 1 v n (done.map str ++ repl (c + 1) [str []]) → done.length = i → i + c + 1 = n → rest.length ≤ 2 ^ 40 →
    ∃ H' front last, zaG (za0 RR (.string nlB) (.int .i64 0) v (.int .i64 ((n : Int) - 1))) [str rest, .int .i64 (i : Int)] H = some (.exit 0, [str last, .int .i64 ((n : Int) - 1)], H') ∧
      cutB 10 rest = front ++ [last] ∧ Vec H' 1 v n ((done ++ front).map str ++ repl 1 [str []]) ∧ Frm (Id v) H H'
  | 0, i, done, rest, H, hc, hv, hd, hi, hl => by
    refine ⟨H, [], rest, ?_, by rw [zlW _ _ hc]; rfl, by rw [List.append_nil]; exact hv, Frm.refl _ _⟩
    have : za0 RR (.string nlB) (.int .i64 0) v (.int .i64 ((n : Int) - 1)) [str rest, .int .i64 (i : Int)] H = some (.exit 0, [str rest, .int .i64 (i : Int)], H) := by
      unfold za0
      have h1 : ¬ ((i : Int) < (n : Int) - 1) := by omega
      simp only [qg1, qg0, zaY, zaf, s_br, h1, decide_false, Bool.false_eq_true, if_false]
    rw [zan, this]
    have e : ((n : Int) - 1) = (i : Int) := by omega
    rw [e]
    rfl
  | c + 1, i, done, rest, H, hc, hv, hd, hi, hl => by
    obtain ⟨m, h1, h2, h3, h4⟩ := zlU 10 rest (by omega)
    obtain ⟨y, hy, _, hix⟩ := hv.ix (i := i) (by omega)
    have hsz := hv.size
    obtain ⟨H1, hst, hv1, hf1, hnx⟩ := hv.set hy (o := i * 1) (m := 1) (x := str (rest.take m)) rfl (by rw [hsz]; omega) rfl
    have hspl := zj4 (done.map str) (str []) (str (rest.take m)) (i := i) (n := n) (by simpa using hd) (c + 1)
    have hcl : zab (str (rest.take m)) = [str (rest.take m)] := rfl
    rw [hcl, hspl] at hv1
    have hv2 : Vec H1 1 v n ((done ++ [rest.take m]).map str ++ repl (c + 1) [str []]) := by simpa using hv1
    obtain ⟨H', front, last, g1, g2, g3, g4⟩ := zjd v n hn c (i + 1) (done ++ [rest.take m]) (rest.drop (m + 1)) H1 (by omega) hv2 (by simp [hd]) (by omega) (by simp; omega)
    refine ⟨H', rest.take m :: front, last, ?_, by rw [h3, g2]; rfl, by simpa using g3, hf1.trans g4 (fun j hj => .inl hj)⟩
    have : za0 RR (.string nlB) (.int .i64 0) v (.int .i64 ((n : Int) - 1)) [str rest, .int .i64 (i : Int)] H = some (.next, [str (rest.drop (m + 1)), .int .i64 ((i + 1 : Nat) : Int)], H1) := by
      unfold za0
      have q1 : ((i : Int) < (n : Int) - 1) := by omega
      have q2 : ¬ ((m : Int) < 0) := by omega
      simp only [qg1, qg0, zaY, zaf, s_br, q1, decide_true, if_true, zah (c_ixL rest H), h1, q2, decide_false, Bool.false_eq_true, if_false, zbb]
      rw [Int.add_zero, w64 (by omega) (by omega), s_upto rest _ (by omega), hix, hst, znI, zbb]
      have e1 : (m : Int) + 1 = ((m + 1 : Nat) : Int) := by omega
      have e2 : (i : Int) + 1 = ((i + 1 : Nat) : Int) := by omega
      rw [e1, e2, w64 (by omega) (by omega), w64 (by omega) (by omega), s_from rest _ (by omega)]
    rw [zan, this]
    exact g1
theorem c_split (l : List UInt8) (hl : l.length ≤ 2 ^ 40) (H : Hp) : ∃ v H', RR F.a42 [str l, .string nlB] H = some (v, H') ∧ Vec H' 1 v (cutB 10 l).length ((cutB 10 l).map str) ∧ Frm (fun _ => False) H H' ∧ ∀ j, Id v j → H.next ≤ j := by
  have hlen := zgx 10 l
  have hcnt : l.count 10 ≤ l.length := List.count_le_length
  generalize hnn : (cutB 10 l).length = n at *
  obtain ⟨v, hmk, hv, hid⟩ := Vec.make H (sz := 1) (bytes := 16) (zs := [str []]) rfl (n := n) (by omega)
  obtain ⟨H1, front, last, g1, g2, g3, g4⟩ := zjd v n (by omega) (l.count 10) 0 [] l (H.new (.cells (repl n [str []]) true)) rfl (by show Vec _ 1 v n (repl (l.count 10 + 1) [str []]); rw [← hlen]; exact hv) rfl (by omega) hl
  rw [show ((0 : Nat) : Int) = 0 from rfl] at g1
  have hfl : front.length + 1 = n := by rw [← hnn, g2]; simp
  obtain ⟨y, hy, _, hix⟩ := g3.ix (i := n - 1) (by omega)
  have hsz := g3.size
  obtain ⟨H2, hst, hv2, hf2, hnx⟩ := g3.set hy (o := (n - 1) * 1) (m := 1) (x := str last) rfl (by rw [hsz]; omega) rfl
  have hspl := zj4 (([] ++ front).map str) (str []) (str last) (i := n - 1) (n := n) (by simp; omega) 0
  have hcl : zab (str last) = [str last] := rfl
  rw [hcl, hspl] at hv2
  have hv3 : Vec H2 1 v n ((cutB 10 l).map str) := by rw [g2]; simpa [repl] using hv2
  obtain ⟨v', hcut, hv4, hid4⟩ := hv3.cut (by rw [List.all_map]; exact List.all_eq_true.2 fun x _ => rfl) (m := n) (Nat.le_refl _)
  have hv5 : Vec H2 1 v' n ((cutB 10 l).map str) := by
    have e : ((cutB 10 l).map str).take (n * 1) = (cutB 10 l).map str := List.take_of_length_le (by rw [List.length_map, hnn]; omega)
    rw [e] at hv4; exact hv4
  have hgen : RR F.a43 [str l, .string nlB, .int .i64 0, .int .i64 (-1)] H = some (v', H2) := by
    refine (zgj E0 rfl _ _ _ _ H).trans ?_
    rw [zgv]
    have hc : RR F.a40 [str l, .string nlB] H = some (.int .i64 (l.count 10 : Nat), H) := by
      have := c_cntS (ba l) H
      rw [zd8] at this
      exact this
    have q1 : ¬ ((-1 : Int) = 0) := by decide
    have q2 : (nlB.data.toList == (⟨#[]⟩ : ByteArray).data.toList) = false := by decide
    have q3 : ((-1 : Int) < 0) := by decide
    have e1 : ((l.count 10 : Nat) : Int) + 1 = (n : Int) := by omega
    have e2 : ∀ {α : Type} (k : Value → Option α), pLen .str (str l) H k = k (.int .i64 (l.length : Int)) := fun k => by
      show k (.int .i64 ((ba l).size : Int)) = _
      rw [zb3]
    have e3 : ∀ (a b : Int) (k : Value → Option (Value × Hp)), pMM false [.int .i64 a, .int .i64 b] k = k (.int .i64 (if b < a then b else a)) := fun a b k => rfl
    have hmk' : ∀ (α : Type) (k : Value → Hp → Option α), za1 1 16 [Value.string ⟨#[]⟩] (.int .i64 (n : Int)) (.int .i64 (n : Int)) H k = k v (H.new (.cells (repl n [str []]) true)) := hmk
    have q4 : ¬ (((l.length : Int) + 1) < (n : Int)) := by omega
    simp only [za4, zaf, s_br, q1, znf, q2, zaY, q3, decide_true, decide_false, if_true, if_false, Bool.false_eq_true, zah hc, zbb, e1, zaq, zaV]
    rw [w64 (by omega) (by omega)]
    simp only [qg0]
    rw [e2, zbb, w64 (by omega) (by omega), e3, if_neg q4, hmk', zd4, w64 (by omega) (by omega), g1, zaq, zbk, zaI]
    simp only [qg1, qg0]
    have e5 : (n : Int) - 1 = ((n - 1 : Nat) : Int) := by omega
    rw [e5, hix, hst, zbb]
    have e6 : ((n - 1 : Nat) : Int) + 1 = (n : Int) := by omega
    rw [e6, w64 (by omega) (by omega), hcut]
  refine ⟨v', H2, ?_, hv5, ?_, fun j hj => ?_⟩
  · refine (zh6 E0 rfl _ _ H).trans ?_
    unfold zeZ
    rw [zah hgen]
  · refine (zc8 H _ (fun _ => False)).trans (g4.trans hf2 fun j hj => .inl hj) fun j hj => .inr ?_
    rw [hid j hj]; exact Nat.le_refl _
  · rw [hid j (hid4 j hj)]; exact Nat.le_refl _
end Go.AM
namespace Go.AM
open Go
theorem zlT (n b0 b1 b2 b3 : Nat) (hn : 0 < n) : (b0 < 128 ∧ Go.Lib.decodeN n b0 b1 b2 b3 = (b0, 1)) ∨ (128 ≤ b0 ∧ Go.Lib.decodeN n b0 b1 b2 b3 = (65533, 1)) ∨
    (128 ≤ b0 ∧ 1 < n ∧ 128 ≤ b1 ∧ (Go.Lib.decodeN n b0 b1 b2 b3).2 = 2 ∧ 128 ≤ (Go.Lib.decodeN n b0 b1 b2 b3).1) ∨
    (128 ≤ b0 ∧ 2 < n ∧ 128 ≤ b1 ∧ 128 ≤ b2 ∧ (Go.Lib.decodeN n b0 b1 b2 b3).2 = 3 ∧ 128 ≤ (Go.Lib.decodeN n b0 b1 b2 b3).1) ∨
    (128 ≤ b0 ∧ 3 < n ∧ 128 ≤ b1 ∧ 128 ≤ b2 ∧ 128 ≤ b3 ∧ (Go.Lib.decodeN n b0 b1 b2 b3).2 = 4 ∧ 128 ≤ (Go.Lib.decodeN n b0 b1 b2 b3).1) := by
  unfold Go.Lib.decodeN
  repeat' split
  all_goals first
    | (left; exact ⟨by assumption, rfl⟩)
    | (right; left; exact ⟨by omega, rfl⟩)
    | (right; right; left; exact ⟨by omega, by omega, by omega, rfl, by dsimp only; omega⟩)
    | (right; right; right; left; exact ⟨by omega, by omega, by omega, by omega, rfl, by dsimp only; omega⟩)
    | (right; right; right; right; exact ⟨by omega, by omega, by omega, by omega, by omega, rfl, by dsimp only; omega⟩)
theorem ba_get (l : List UInt8) (j : Nat) : (ba l).get! j = l.getD j 0 := by
  show (ba l).data[j]! = _
  rw [List.getD_eq_getElem?_getD]
  by_cases h : j < l.length
  · simp [getElem!_pos, h]
  · rw [getElem!_neg _ _ (by simpa using h), List.getElem?_eq_none (by omega)]
    rfl
theorem dec_sp (l : List UInt8) (i : Nat) (hi : i < l.length) : 1 ≤ (Utf8.decode (ba l) i).2 ∧ i + (Utf8.decode (ba l) i).2 ≤ l.length ∧
    (((Utf8.decode (ba l) i).1 = 32 ∧ (Utf8.decode (ba l) i).2 = 1 ∧ l.getD i 0 = 32) ∨ ((Utf8.decode (ba l) i).1 ≠ 32 ∧ ∀ j, i ≤ j → j < i + (Utf8.decode (ba l) i).2 → l.getD j 0 ≠ 32)) := by
  have no : ∀ j, 128 ≤ (l.getD j 0).toNat → l.getD j 0 ≠ 32 := fun j h e => by rw [e] at h; exact absurd h (by decide)
  rw [Go.Lib.decode_at, zb3]
  simp only [ba_get]
  have hs := zlT (l.length - i) (l.getD i 0).toNat (l.getD (i + 1) 0).toNat (l.getD (i + 2) 0).toNat (l.getD (i + 3) 0).toNat (by omega)
  generalize Go.Lib.decodeN (l.length - i) (l.getD i 0).toNat (l.getD (i + 1) 0).toNat (l.getD (i + 2) 0).toNat (l.getD (i + 3) 0).toNat = q at hs ⊢
  obtain ⟨r, w⟩ := q
  rcases hs with ⟨h1, h2⟩ | ⟨h1, h2⟩ | ⟨h1, h2, h3, h4, h5⟩ | ⟨h1, h2, h3, h3', h4, h5⟩ | ⟨h1, h2, h3, h3', h3'', h4, h5⟩
  · cases h2
    refine ⟨Nat.le_refl _, by show i + 1 ≤ _; omega, ?_⟩
    by_cases e : l.getD i 0 = 32
    · left; rw [e]; exact ⟨rfl, rfl, rfl⟩
    · right
      refine ⟨fun q => e (UInt8.toNat_inj.1 q), fun j h3 h4 => ?_⟩
      have : j = i := by have h4 : j < i + 1 := h4; omega
      rw [this]; exact e
  · cases h2
    refine ⟨Nat.le_refl _, by show i + 1 ≤ _; omega, .inr ⟨by decide, fun j h3 h4 => ?_⟩⟩
    have : j = i := by have h4 : j < i + 1 := h4; omega
    rw [this]; exact no i h1
  · dsimp only at h4 h5 ⊢
    subst h4
    refine ⟨by omega, by omega, .inr ⟨by omega, fun j h6 h7 => ?_⟩⟩
    have : j = i ∨ j = i + 1 := by omega
    rcases this with rfl | rfl
    · exact no _ h1
    · exact no _ h3
  · dsimp only at h4 h5 ⊢
    subst h4
    refine ⟨by omega, by omega, .inr ⟨by omega, fun j h6 h7 => ?_⟩⟩
    have : j = i ∨ j = i + 1 ∨ j = i + 2 := by omega
    rcases this with rfl | rfl | rfl
    · exact no _ h1
    · exact no _ h3
    · exact no _ h3'
  · dsimp only at h4 h5 ⊢
    subst h4
    refine ⟨by omega, by omega, .inr ⟨by omega, fun j h6 h7 => ?_⟩⟩
    have : j = i ∨ j = i + 1 ∨ j = i + 2 ∨ j = i + 3 := by omega
    rcases this with rfl | rfl | rfl | rfl
    · exact no _ h1
    · exact no _ h3
    · exact no _ h3'
    · exact no _ h3''
theorem c_space (r : Int) (H : Hp) : RR F.a10 [.int .i32 r] H = some (.bool (decide (r = 32)), H) := by
  refine (zkf E0 rfl _ H).trans ?_
  unfold zgs
  rw [za4]
end Go.AM
namespace Go.AM
open Go
def spn : List UInt8 → Nat → Option Nat → List (Nat × Nat)
  | [], _, none => []
  | [], i, some a => [(a, i)]
  | b :: r, i, st => match b == 32, st with
    | true, none => spn r (i + 1) none
    | true, some a => (a, i) :: spn r (i + 1) none
    | false, st => spn r (i + 1) (some (st.getD i))
theorem zm8 : ∀ (x r : List UInt8) (i : Nat) (st : Option Nat), (∀ b ∈ x, b ≠ 32) → x ≠ [] → spn (x ++ r) i st = spn r (i + x.length) (some (st.getD i))
  | [], _, _, _, _, h => absurd rfl h
  | b :: x, r, i, st, h, _ => by
    have hb : (b == 32) = false := by rw [beq_eq_false_iff_ne]; exact h b (List.mem_cons_self ..)
    show spn (b :: (x ++ r)) i st = _
    have e : spn (b :: (x ++ r)) i st = spn (x ++ r) (i + 1) (some (st.getD i)) := by
      conv => lhs; unfold spn
      rw [hb]
    rw [e]
    cases x with
    | nil => rfl
    | cons c x =>
      rw [zm8 (c :: x) r (i + 1) _ (fun b hb => h b (List.mem_cons_of_mem _ hb)) (by simp)]
      simp only [List.length_cons, Option.getD_some]
      congr 1
      omega
theorem zhw {b : UInt8} (hb : (b == 32) = true) (r : List UInt8) (i : Nat) : spn (b :: r) i none = spn r (i + 1) none := by
  conv => lhs; unfold spn
  rw [hb]
theorem zj3 {b : UInt8} (hb : (b == 32) = true) (r : List UInt8) (i a : Nat) : spn (b :: r) i (some a) = (a, i) :: spn r (i + 1) none := by
  conv => lhs; unfold spn
  rw [hb]
def stV : Option Nat → Int → Prop
  | none, v => v < 0
  | some a, v => v = a
def zhT (p : Nat × Nat) : List Value := [.int .i64 (p.1 : Int), .int .i64 (p.2 : Int)]
def zcX (l : List UInt8) (i : Nat) : Value := .tuple #[.string (ba l), .int .i64 (i : Nat)]
theorem neg_xor (a : Nat) (ha : a < 2 ^ 62) : ∃ x : Int, x < 0 ∧ ∀ (α : Type) (k : Value → Option α), pUn .xor (.int .i64 (a : Int)) k = k (.int .i64 x) := by
  refine ⟨IntKind.i64.wrap (BitVec.ofInt 64 (-1) ^^^ BitVec.ofInt 64 (a : Int)).toNat, ?_, fun α k => rfl⟩
  have e1 : BitVec.ofInt 64 (-1) = BitVec.allOnes 64 := by decide
  have e2 : (BitVec.ofInt 64 (a : Int)).toNat = a := by
    rw [BitVec.toNat_ofInt]
    omega
  have e3 : (BitVec.ofInt 64 (-1) ^^^ BitVec.ofInt 64 (a : Int)).toNat = 2 ^ 64 - 1 - a := by
    rw [e1, BitVec.allOnes_xor, BitVec.toNat_not, e2]
  rw [e3]
  have hc : ((2 ^ 64 - 1 - a : Nat) : Int) = 18446744073709551615 - (a : Int) := by omega
  rw [hc]
  have : (IntKind.i64.wrap (18446744073709551615 - (a : Int))) = -1 - (a : Int) := by
    clear e3
    simp [IntKind.wrap, IntKind.signed, IntKind.bits]
    omega
  rw [this]
  omega
theorem s_bspan {α : Type} (a b : Int) (k : Value → Option α) : zau PP T.strings_span [(0, .int .i64 a), (1, .int .i64 b)] k = k (.agg #[.int .i64 a, .int .i64 b]) := by
  have : zgC PP T.strings_span [(0, .int .i64 a), (1, .int .i64 b)] = some (.agg #[.int .i64 a, .int .i64 b]) := by kernel_rfl
  unfold zau; rw [this]
abbrev spF : Value := .func (.func F.a10) #[] #[]
theorem zhx {α : Type} (r : Int) (H : Hp) (k : Value → Hp → Option α) : zev orc RR spF [.int .i32 r] H k = k (.bool (decide (r = 32))) H := by
  have h : orc.pan F.a10 = false := by kernel_rfl
  have e : zev orc RR spF [.int .i32 r] H k = zae RR F.a10 [.int .i32 r] H k := by
    unfold zev
    dsimp only
    rw [h]
    rfl
  rw [e, zah (c_space r H)]
theorem span_loop (l : List UInt8) (hl : l.length ≤ 2 ^ 40) : ∀ (m i : Nat) (done : List (Nat × Nat)) (st : Option Nat) (z : Int) (v : Value) (H : Hp), l.length - i = m → i ≤ l.length → stV st z → (∀ a, st = some a → a ≤ i) → done.length ≤ i → Vec H 2 v done.length (done.flatMap zhT) →
    ∃ H' done' st' z' v', zaG (zaB RR spF) [v, .int .i64 z, zcX l i] H = some (.exit 0, [v', .int .i64 z', zcX l l.length], H') ∧
      done ++ spn (l.drop i) i st = done' ++ spn [] l.length st' ∧ stV st' z' ∧ (∀ a, st' = some a → a ≤ l.length) ∧ done'.length ≤ l.length ∧ Vec H' 2 v' done'.length (done'.flatMap zhT) ∧ Frm (Id v) H H' ∧ (∀ j, Id v' j → Id v j ∨ H.next ≤ j) := by
  intro m
  induction m using Nat.strongRecOn with
  | _ m ih =>
  intro i done st z v H hm hi hst hsti hdl hv
  have step : zaB RR spF [v, .int .i64 z, zcX l i] H = br (Nat.blt i (ba l).size)
      (zev orc RR spF [.int .i32 ((Utf8.decode (ba l) i).1 : Nat)] H fun r6 H7 => zaa r6 fun b8 => br b8
        (pBin PP .geq T.int (.int .i64 z) (.int .i64 0) fun v9 => zaa v9 fun b10 => br b10
          (zau PP T.strings_span [(0, .int .i64 z), (1, .int .i64 (i : Nat))] fun v11 => zao 2 [.int .i64 0, .int .i64 0] 1 [(0, v11)] H7 fun v12 H13 => zaF 2 16 v v12 H13 fun v14 H15 => pUn .xor (.int .i64 z) fun v16 =>
            some (.next, [v14, v16, zcX l (i + (Utf8.decode (ba l) i).2)], H15))
          (some (.next, [v, .int .i64 z, zcX l (i + (Utf8.decode (ba l) i).2)], H7)))
        (pBin PP .lss T.int (.int .i64 z) (.int .i64 0) fun v17 => zaa v17 fun b18 => br b18
          (some (.next, [v, .int .i64 (i : Nat), zcX l (i + (Utf8.decode (ba l) i).2)], H7))
          (some (.next, [v, .int .i64 z, zcX l (i + (Utf8.decode (ba l) i).2)], H7))))
      (some (.exit 0, [v, .int .i64 z, zcX l i], H)) := rfl
  rcases Nat.lt_or_ge i l.length with hlt | hge
  · have hb : Nat.blt i (ba l).size = true := by rw [zb3, Nat.blt_eq]; exact hlt
    obtain ⟨d1, d2, d3⟩ := dec_sp l i hlt
    have hdrop : l.drop i = l.getD i 0 :: l.drop (i + 1) := by
      rw [List.drop_eq_getElem_cons hlt]
      simp [List.getD_eq_getElem?_getD, hlt]
    rw [hb] at step
    have hd : decide ((((32 : Nat) : Int)) = 32) = true := by decide
    rcases d3 with ⟨e1, e2, e3⟩ | ⟨e1, e2⟩
    · have h32 : (l.getD i 0 == 32) = true := by rw [e3]; rfl
      rw [e1, e2] at step
      cases st with
      | none =>
        have hz : ¬ (z ≥ 0) := by have : z < 0 := hst; omega
        have this : zaB RR spF [v, .int .i64 z, zcX l i] H = some (.next, [v, .int .i64 z, zcX l (i + 1)], H) := by
          rw [step]
          simp only [s_br, if_true, zhx, hd, zaf, zcb, hz, decide_false, Bool.false_eq_true, if_false]
        obtain ⟨H', done', st', z', v', g1, g2, g3⟩ := ih (l.length - (i + 1)) (by omega) (i + 1) done none z v H rfl (by omega) hst (fun a ha => by cases ha) (by omega) hv
        refine ⟨H', done', st', z', v', ?_, ?_, g3⟩
        · rw [zan, this]; exact g1
        · rw [hdrop, zhw h32]; exact g2
      | some a =>
        have hza : z = (a : Int) := hst
        have hai := hsti a rfl
        obtain ⟨x, hx0, hx⟩ := neg_xor a (by omega)
        obtain ⟨v2, H2, hpu, hv2, hf2, hid2, _⟩ := hv.push (bytes := 16) (zs := [.int .i64 0, .int .i64 0]) (x := .agg #[.int .i64 (a : Int), .int .i64 (i : Int)]) (by omega) (by omega) rfl rfl rfl (by omega)
        have hv3 : Vec H2 2 v2 (done ++ [(a, i)]).length ((done ++ [(a, i)]).flatMap zhT) := by
          rw [List.length_append, List.flatMap_append]
          exact hv2
        have hz : z ≥ 0 := by omega
        have this : zaB RR spF [v, .int .i64 z, zcX l i] H = some (.next, [v2, .int .i64 x, zcX l (i + 1)], H2) := by
          rw [step]
          simp only [s_br, if_true, zhx, hd, zaf, zcb, hz, decide_true, s_bspan]
          rw [hza, hpu, hx]
        obtain ⟨H', done', st', z', v', g1, g2, g3, g4, g5, g6, g7, g8⟩ := ih (l.length - (i + 1)) (by omega) (i + 1) (done ++ [(a, i)]) none x v2 H2 rfl (by omega) hx0 (fun a ha => by cases ha) (by simp; omega) hv3
        refine ⟨H', done', st', z', v', ?_, ?_, g3, g4, g5, g6, hf2.trans g7 hid2, fun j hj => ?_⟩
        · rw [zan, this]; exact g1
        · rw [hdrop, zj3 h32]; rw [← g2]; simp
        · rcases g8 j hj with q | q
          · exact hid2 j q
          · exact .inr (Nat.le_trans hf2.next q)
    · generalize hq : Utf8.decode (ba l) i = q at step d1 d2 e1 e2
      obtain ⟨r, w⟩ := q
      dsimp only at step d1 d2 e1 e2
      have hr : ¬ ((r : Int) = 32) := by omega
      have hsk : ∀ st, spn (l.drop i) i st = spn (l.drop (i + w)) (i + w) (some (st.getD i)) := fun st => by
        have hsp : l.drop i = (l.drop i).take w ++ l.drop (i + w) := by
          rw [← List.drop_drop]
          exact (List.take_append_drop w _).symm
        have hlen : ((l.drop i).take w).length = w := by rw [List.length_take, List.length_drop]; omega
        have := zm8 ((l.drop i).take w) (l.drop (i + w)) i st (fun b hb => by
          obtain ⟨j, hj, hjb⟩ := List.mem_iff_getElem.1 hb
          rw [hlen] at hj
          have h1 := e2 (i + j) (by omega) (by omega)
          rw [List.getElem_take, List.getElem_drop] at hjb
          rw [List.getD_eq_getElem?_getD, List.getElem?_eq_getElem (by omega), Option.getD_some, hjb] at h1
          exact h1) (fun h => by rw [h] at hlen; simp at hlen; omega)
        rw [← hsp, hlen] at this
        exact this
      have go : ∀ (z2 : Int) (st2 : Option Nat), st2 = some (st.getD i) → z2 = ((st.getD i : Nat) : Int) → st.getD i ≤ i → zaB RR spF [v, .int .i64 z, zcX l i] H = some (.next, [v, .int .i64 z2, zcX l (i + w)], H) →
          ∃ H' done' st' z' v', zaG (zaB RR spF) [v, .int .i64 z, zcX l i] H = some (.exit 0, [v', .int .i64 z', zcX l l.length], H') ∧
            done ++ spn (l.drop i) i st = done' ++ spn [] l.length st' ∧ stV st' z' ∧ (∀ a, st' = some a → a ≤ l.length) ∧ done'.length ≤ l.length ∧ Vec H' 2 v' done'.length (done'.flatMap zhT) ∧ Frm (Id v) H H' ∧ (∀ j, Id v' j → Id v j ∨ H.next ≤ j) := by
        intro z2 st2 hs2 hz2 hle this
        obtain ⟨H', done', st', z', v', g1, g2, g3⟩ := ih (l.length - (i + w)) (by omega) (i + w) done st2 z2 v H rfl (by omega) (by rw [hs2]; exact hz2) (fun a ha => by rw [hs2] at ha; cases ha; omega) (by omega) hv
        refine ⟨H', done', st', z', v', ?_, ?_, g3⟩
        · rw [zan, this]; exact g1
        · rw [hsk, ← hs2]; exact g2
      cases st with
      | none =>
        have hz : z < 0 := hst
        refine go (i : Nat) _ rfl rfl (Nat.le_refl _) ?_
        rw [step]
        simp only [s_br, if_true, zhx, zaf, hr, decide_false, Bool.false_eq_true, if_false, zaY, hz, decide_true]
      | some a =>
        have hza : z = (a : Int) := hst
        have hz : ¬ z < 0 := by omega
        refine go z _ rfl hza (hsti a rfl) ?_
        rw [step]
        simp only [s_br, if_true, zhx, zaf, hr, decide_false, Bool.false_eq_true, if_false, zaY, hz]
  · have hie : i = l.length := by omega
    subst hie
    have hb : Nat.blt l.length (ba l).size = false := by
      rw [zb3]
      cases h : Nat.blt l.length l.length with
      | false => rfl
      | true => rw [Nat.blt_eq] at h; exact absurd h (Nat.lt_irrefl _)
    rw [hb] at step
    refine ⟨H, done, st, z, v, ?_, ?_, hst, hsti, hdl, hv, Frm.refl _ _, fun j hj => .inl hj⟩
    · rw [zan, step]; rfl
    · rw [List.drop_length]
end Go.AM
namespace Go.AM
open Go
theorem zm9 : ∀ (l : List UInt8) (i : Nat) (st : Option Nat), (∀ a, st = some a → a ≤ i) → ∀ p ∈ spn l i st, p.1 ≤ p.2 ∧ p.2 ≤ i + l.length
  | [], i, none, h, p, hp => by cases hp
  | [], i, some a, h, p, hp => by
    have hp : p ∈ [(a, i)] := hp
    rw [List.mem_singleton] at hp
    subst hp
    exact ⟨h a rfl, by simp⟩
  | b :: r, i, st, h, p, hp => by
    cases hb : b == 32 with
    | true =>
      cases st with
      | none =>
        rw [zhw hb] at hp
        have := zm9 r (i + 1) none (fun a ha => by cases ha) p hp
        simp only [List.length_cons]; omega
      | some a =>
        rw [zj3 hb] at hp
        rcases List.mem_cons.1 hp with rfl | hp
        · exact ⟨h a rfl, by simp only [List.length_cons]; omega⟩
        · have := zm9 r (i + 1) none (fun a ha => by cases ha) p hp
          simp only [List.length_cons]; omega
    | false =>
      have e : spn (b :: r) i st = spn r (i + 1) (some (st.getD i)) := by
        conv => lhs; unfold spn
        rw [hb]
      rw [e] at hp
      have := zm9 r (i + 1) (some (st.getD i)) (fun a ha => by
        cases ha
        cases st with
        | none => simp
        | some a => have := h a rfl; simp; omega) p hp
      simp only [List.length_cons]; omega
def zc0 (l : List UInt8) (p : Nat × Nat) : List UInt8 := (l.take p.2).drop p.1
theorem s_cutL {α : Type} (l : List UInt8) {a e : Nat} (h : a ≤ e) (he : e ≤ l.length) (k : Value → Option α) : zaX (str l) (some (.int .i64 (a : Int))) (some (.int .i64 (e : Int))) k = k (str (zc0 l (a, e))) := by
  have := s_cut (ba l) .i64 .i64 a e h (by rw [zb3]; exact he) k
  have hx : (ba l).extract a e = ba (zc0 l (a, e)) := zfz (by
    simp only [ByteArray.data_extract, Array.toList_extract, List.extract_eq_take_drop, zc0]
    rw [List.drop_take])
  rw [hx] at this
  exact this
theorem span_at : ∀ (L : List (Nat × Nat)) (i : Nat) (p : Nat × Nat), L[i]? = some p → ((L.flatMap zhT).drop (i * 2)).take 2 = zhT p
  | q :: L, 0, p, h => by cases h; rfl
  | q :: L, i + 1, p, h => by
    have e : (i + 1) * 2 = i * 2 + 2 := by omega
    rw [e]
    show List.take 2 (List.drop (i * 2 + 2) (.int .i64 (q.1 : Int) :: .int .i64 (q.2 : Int) :: L.flatMap zhT)) = _
    exact span_at L i p h
theorem zkM (l : List UInt8) (hl : l.length ≤ 2 ^ 40) (L : List (Nat × Nat)) (hL : ∀ p ∈ L, p.1 ≤ p.2 ∧ p.2 ≤ l.length) (hn : L.length ≤ 2 ^ 41) (sv v : Value) (hne : ∀ j, Id v j → ¬ Id sv j) : ∀ (m i : Nat) (H : Hp), i + m = L.length → Vec H 2 sv L.length (L.flatMap zhT) → Vec H 1 v L.length (((L.take i).map (zc0 l)).map str ++ repl m [str []]) →
    ∃ H', zaG (zaN RR (str l) v (.int .i64 (L.length : Int)) [sv]) [.int .i64 (i : Int)] H = some (.exit 2, [.int .i64 (L.length : Int)], H') ∧ Vec H' 1 v L.length ((L.map (zc0 l)).map str) ∧ Frm (Id v) H H'
  | 0, i, H, hi, hs, hv => by
    have h1 : ¬ ((i : Int) < (L.length : Int)) := by omega
    have this : zaN RR (str l) v (.int .i64 (L.length : Int)) [sv] [.int .i64 (i : Int)] H = some (.exit 2, [.int .i64 (i : Int)], H) := by
      unfold zaN
      simp only [qg0, zaY, zaf, s_br, h1, decide_false, Bool.false_eq_true, if_false]
    have hil : i = L.length := by omega
    refine ⟨H, ?_, ?_, Frm.refl _ _⟩
    · rw [zan, this, hil]; rfl
    · rw [hil, List.take_length] at hv
      simpa [repl] using hv
  | m + 1, i, H, hi, hs, hv => by
    have hlt : i < L.length := by omega
    have hp : L[i]? = some L[i] := List.getElem?_eq_getElem hlt
    generalize L[i] = p at hp
    obtain ⟨a, e⟩ := p
    have hpl := hL (a, e) (List.mem_of_getElem? hp)
    obtain ⟨y, hy, ⟨rest, hg⟩, hix⟩ := hs.ix (i := i) hlt
    obtain ⟨y2, hy2, _, hix2⟩ := hv.ix (i := i) hlt
    have hsz := hv.size
    have hsz2 := hs.size
    obtain ⟨H1, hst, hv1, hf1, hnx⟩ := hv.set hy2 (o := i * 1) (m := 1) (x := str (zc0 l (a, e))) rfl (by rw [hsz]; omega) rfl
    have hspl := zj4 (((L.take i).map (zc0 l)).map str) (str []) (str (zc0 l (a, e))) (i := i) (n := L.length) (by simp; omega) m
    have hcl : zab (str (zc0 l (a, e))) = [str (zc0 l (a, e))] := rfl
    rw [hcl, hspl] at hv1
    have htk : L.take (i + 1) = L.take i ++ [(a, e)] := by rw [List.take_add_one, hp]; rfl
    have hv2 : Vec H1 1 v L.length (((L.take (i + 1)).map (zc0 l)).map str ++ repl m [str []]) := by rw [htk]; simpa using hv1
    have hs2 : Vec H1 2 sv L.length (L.flatMap zhT) := hs.keep hf1 fun j hj hj2 => hne j hj2 hj
    obtain ⟨H', g1, g2, g3⟩ := zkM l hl L hL hn sv v hne m (i + 1) H1 (by omega) hs2 hv2
    refine ⟨H', ?_, g2, hf1.trans g3 fun j hj => .inl hj⟩
    have q1 : ((i : Int) < (L.length : Int)) := by omega
    have hld := fun (α : Type) (k : Value → Option α) => ld_agg hg (o := i * 2) (m := 2) (by rw [hsz2]; omega) k
    rw [span_at L i (a, e) hp] at hld
    have e2 : (i : Int) + 1 = ((i + 1 : Nat) : Int) := by omega
    have this : zaN RR (str l) v (.int .i64 (L.length : Int)) [sv] [.int .i64 (i : Int)] H = some (.next, [.int .i64 ((i + 1 : Nat) : Int)], H1) := by
      unfold zaN
      simp only [qg0, zaY, zaf, s_br, q1, decide_true, if_true]
      rw [hix, hld]
      show (zaX (str l) (some (.int .i64 (a : Int))) (some (.int .i64 (e : Int))) fun v48 => _) = _
      rw [s_cutL l hpl.1 hpl.2, hix2, hst, zbb, e2, w64 (by omega) (by omega)]
    rw [zan, this]
    exact g1
end Go.AM
namespace Go.AM
open Go
theorem Vec.capS (H : Hp) {sz bytes : Nat} {zs : List Value} (hz : zs.length = sz) (h1 : zs.all one = true) {n : Nat} (hb : n * bytes ≤ 2 ^ 47) :
    ∃ v H', (∀ (α : Type) (k : Value → Hp → Option α), za1 sz bytes zs (.int .i64 0) (.int .i64 (n : Int)) H k = k v H') ∧ Vec H' sz v 0 [] ∧ Frm (fun _ => False) H H' ∧ (∀ j, Id v j → H.next ≤ j) := by
  have ra : ∀ n, (repl n zs).all one = true := fun n => by
    induction n with
    | zero => rfl
    | succ n ih => show (zs ++ repl n zs).all one = true; rw [List.all_append, h1, ih]; rfl
  refine ⟨.slice (some ⟨H.next, 0, some sz⟩) 0 n, H.new (.cells (repl n zs) true), fun α k => ?_, .inr ⟨H.next, n, repl n zs, rfl, Nat.zero_le _, ?_, by simp, by rw [zgd, hz]; rfl, by show H.next < H.next + 1; omega, ra n⟩, zc8 _ _ _, fun j hj => by cases hj; exact Nat.le_refl _⟩
  · have e : ((2 : Int) ^ 47) = ((2 ^ 47 : Nat) : Int) := by rfl
    have hb' : (n : Int) * (bytes : Int) ≤ 2 ^ 47 := by rw [e, ← Int.natCast_mul]; exact Int.ofNat_le.2 hb
    have : zcz sz bytes zs (.int .i64 0) (.int .i64 (n : Int)) H = some (.slice (some ⟨H.next, 0, some sz⟩) 0 n, H.new (.cells (repl n zs) true)) := by
      unfold zcz
      dsimp only
      rw [if_pos ⟨by omega, by omega, hb'⟩]
      rfl
    unfold za1
    rw [this]
  · rw [get_new, if_pos rfl, List.nil_append]
def zbJ (l : List UInt8) : List (List UInt8) := (spn l 0 none).map (zc0 l)
theorem zhS : ∀ (l : List UInt8) (i : Nat) (st : Option Nat), (spn l i st).length ≤ l.length + 1
  | [], i, none => by simp [spn]
  | [], i, some a => by simp [spn]
  | b :: r, i, st => by
    cases hb : b == 32 with
    | true =>
      cases st with
      | none => rw [zhw hb]; have := zhS r (i + 1) none; simp only [List.length_cons]; omega
      | some a => rw [zj3 hb]; have := zhS r (i + 1) none; simp only [List.length_cons]; omega
    | false =>
      have e : spn (b :: r) i st = spn r (i + 1) (some (st.getD i)) := by
        conv => lhs; unfold spn
        rw [hb]
      rw [e]; have := zhS r (i + 1) (some (st.getD i)); simp only [List.length_cons]; omega
theorem c_fields (l : List UInt8) (hl : l.length ≤ 2 ^ 40) (H : Hp) : ∃ v H', RR F.a12 [str l, spF] H = some (v, H') ∧ Vec H' 1 v (zbJ l).length ((zbJ l).map str) ∧ Frm (fun _ => False) H H' ∧ ∀ j, Id v j → H.next ≤ j := by
  obtain ⟨v1, H1, hmk, hv1, hf1, hid1⟩ := Vec.capS H (sz := 2) (bytes := 16) (zs := [.int .i64 0, .int .i64 0]) rfl rfl (n := 32) (by omega)
  obtain ⟨H2, done, st, z, v2, g1, g2, g3, g4, g5, g6, g7, g8⟩ := span_loop l hl (l.length - 0) 0 [] none (-1) v1 H1 rfl (Nat.zero_le _) (by show (-1 : Int) < 0; decide) (fun a ha => by cases ha) (Nat.le_refl _) hv1
  rw [List.nil_append, qd0] at g2
  have hid2 : ∀ j, Id v2 j → H.next ≤ j := fun j hj => by
    rcases g8 j hj with q | q
    · exact hid1 j q
    · exact Nat.le_trans hf1.next q
  have hf2 : Frm (fun _ => False) H H2 := hf1.trans g7 fun j hj => .inr (hid1 j hj)
  have last : ∃ H3 v3, (zav (pBin PP .geq T.int (.int .i64 z) (.int .i64 0) fun v23 => zaa v23 fun b24 => br b24
      (pLen .str (str l) H2 fun v25 => zau PP T.strings_span [(0, .int .i64 z), (1, v25)] fun v26 => zao 2 [.int .i64 0, .int .i64 0] 1 [(0, v26)] H2 fun v27 H28 => zaF 2 16 v2 v27 H28 fun v29 H30 => some (.next, [v29], H30))
      (some (.next, [v2], H2))) : (Ctl → List Value → Hp → Option (Value × Hp)) → Option (Value × Hp)) = (fun k => k .next [v3] H3) ∧
      Vec H3 2 v3 (spn l 0 none).length ((spn l 0 none).flatMap zhT) ∧ Frm (fun _ => False) H H3 ∧ ∀ j, Id v3 j → H.next ≤ j := by
    cases st with
    | none =>
      have hz : ¬ z ≥ 0 := by have : z < 0 := g3; omega
      have e : spn l 0 none = done := by rw [g2]; show done ++ [] = done; rw [List.append_nil]
      refine ⟨H2, v2, ?_, by rw [e]; exact g6, hf2, hid2⟩
      funext k
      simp only [zcb, zaf, s_br, hz, decide_false, Bool.false_eq_true, if_false, zaq]
    | some a =>
      have hza : z = (a : Int) := g3
      have hz : z ≥ 0 := by omega
      have e : spn l 0 none = done ++ [(a, l.length)] := g2
      obtain ⟨v3, H3, hpu, hv3, hf3, hid3, _⟩ := g6.push (bytes := 16) (zs := [.int .i64 0, .int .i64 0]) (x := .agg #[.int .i64 (a : Int), .int .i64 (l.length : Int)]) (by omega) (by omega) rfl rfl rfl (by omega)
      refine ⟨H3, v3, ?_, by rw [e, List.length_append, List.flatMap_append]; exact hv3, hf2.trans hf3 fun j hj => .inr (hid2 j hj), fun j hj => ?_⟩
      · funext k
        have e2 : ∀ {α : Type} (k : Value → Option α), pLen .str (str l) H2 k = k (.int .i64 (l.length : Int)) := fun k => by
          show k (.int .i64 ((ba l).size : Int)) = _
          rw [zb3]
        simp only [zcb, zaf, s_br, hz, decide_true, if_true, e2, s_bspan]
        rw [hza, hpu, zaq]
      · rcases hid3 j hj with q | q
        · exact hid2 j q
        · exact Nat.le_trans hf2.next q
  obtain ⟨H3, v3, hlast, hv3, hf3, hid3⟩ := last
  have hn := zhS l 0 none
  have hok := zm9 l 0 none (fun a ha => by cases ha)
  generalize hL : spn l 0 none = L at *
  obtain ⟨v4, hmk4, hv4, hid4⟩ := Vec.make H3 (sz := 1) (bytes := 16) (zs := [str []]) rfl (n := L.length) (by omega)
  have hs4 : Vec (H3.new (.cells (repl L.length [str []]) true)) 2 v3 L.length (L.flatMap zhT) := hv3.keep (zc8 _ _ (fun _ => False)) fun _ _ h => h
  obtain ⟨H5, w1, w2, w3⟩ := zkM l hl L (fun p hp => by have := hok p hp; omega) (by omega) v3 v4 (fun j hj hj3 => by have := hid4 j hj; have := hv3.lt hj3; omega) L.length 0 _ (by omega) hs4 (by simpa using hv4)
  have hw : zbJ l = L.map (zc0 l) := by unfold zbJ; rw [hL]
  refine ⟨v4, H5, ?_, by rw [hw, List.length_map]; exact w2, ?_, fun j hj => ?_⟩
  · refine (zfm E0 rfl _ _ H).trans ?_
    rw [zfr]
    have hmk' : ∀ (α : Type) (k : Value → Hp → Option α), za1 2 16 [.int .i64 0, .int .i64 0] (.int .i64 0) (.int .i64 32) H k = k v1 H1 := hmk
    have hmk4' : ∀ (α : Type) (k : Value → Hp → Option α), za1 1 16 [Value.string ⟨#[]⟩] (.int .i64 (L.length : Int)) (.int .i64 (L.length : Int)) H3 k = k v4 (H3.new (.cells (repl L.length [str []]) true)) := hmk4
    rw [hmk']
    show (zav (zaG (zaB RR spF) [v1, .int .i64 (-1), zcX l 0] H1) _) = _
    rw [g1, zaq, zbk, zaI]
    refine (congrFun hlast _).trans ?_
    rw [zaV]
    simp only [qg0]
    rw [hv3.len, hmk4', hv3.len]
    have w1' : zaG (zaN RR (str l) v4 (.int .i64 (L.length : Int)) [v3]) [.int .i64 0] (H3.new (.cells (repl L.length [str []]) true)) = some (.exit 2, [.int .i64 (L.length : Int)], H5) := w1
    rw [w1', zaq, zbk, zaI]
  · refine hf3.trans ((zc8 _ _ (fun _ => False)).trans w3 fun j hj => .inr (by rw [hid4 j hj]; exact Nat.le_refl _)) fun j hj => .inl hj
  · rw [hid4 j hj]; exact hf3.next
end Go.AM
namespace Go.AM
open Go
def Wds (H : Hp) (v : Value) (ws : List (List UInt8)) : Prop :=
  (ws = [] ∧ v = .slice none 0 0) ∨ ∃ y c pre rest own, v = .slice (some ⟨y, pre.length, some 1⟩) ws.length c ∧ ws.length ≤ c ∧ H.get y = some (.cells (pre ++ ws.map str ++ rest) own) ∧ y < H.next
theorem Vec.wds {H : Hp} {v : Value} {ws : List (List UInt8)} (h : Vec H 1 v ws.length (ws.map str)) : Wds H v ws := by
  rcases h with ⟨h1, h2, h3⟩ | ⟨y, c, rest, h1, h2, h3, h4, h5, h6, h7⟩
  · exact .inl ⟨List.length_eq_zero_iff.1 h1, h3⟩
  · exact .inr ⟨y, c, [], rest, true, h1, h2, by simpa using h3, h6⟩
theorem Wds.len {H : Hp} {v : Value} {ws : List (List UInt8)} (h : Wds H v ws) {α : Type} (H' : Hp) (k : Value → Option α) : pLen .sl v H' k = k (.int .i64 (ws.length : Int)) := by
  rcases h with ⟨rfl, rfl⟩ | ⟨y, c, pre, rest, own, rfl, _⟩ <;> rfl
theorem Wds.keep {M : Nat → Prop} {H H' : Hp} {v : Value} {ws : List (List UInt8)} (h : Wds H v ws) (k : Frm M H H') (hm : ∀ j, Id v j → ¬ M j) : Wds H' v ws := by
  rcases h with h | ⟨y, c, pre, rest, own, rfl, h1, h2, h3⟩
  · exact .inl h
  · exact .inr ⟨y, c, pre, rest, own, rfl, h1, by rw [k.same y h3 (hm y rfl)]; exact h2, Nat.lt_of_lt_of_le h3 k.next⟩
theorem Wds.head {H : Hp} {v : Value} {w : List UInt8} {ws : List (List UInt8)} (h : Wds H v (w :: ws)) : ∃ v', (∀ (α : Type) (k : Value → Option α), (pIdx 1 v (.int .i64 0) fun p => zaj 1 false H p k) = k (str w)) ∧ (∀ (α : Type) (k : Value → Option α), zc3 1 v (some (.int .i64 1)) none k = k v') ∧ Wds H v' ws ∧ (∀ j, Id v' j → Id v j) := by
  rcases h with ⟨h, _⟩ | ⟨y, c, pre, rest, own, rfl, h1, h2, h3⟩
  · cases h
  · rw [List.length_cons] at h1
    refine ⟨.slice (some ⟨y, pre.length + 1, some 1⟩) ws.length (c - 1), fun α k => ?_, fun α k => ?_, .inr ⟨y, c - 1, pre ++ [str w], rest, own, by simp, by omega, by simpa using h2, h3⟩, fun j hj => hj⟩
    · have e : idxV 1 (.slice (some ⟨y, pre.length, some 1⟩) (w :: ws).length c) (.int .i64 0) = some (.pointer (some ⟨y, pre.length, none⟩)) := by
        unfold idxV
        dsimp only
        rw [if_pos ⟨rfl, by omega, by rw [List.length_cons]; omega⟩]
        rfl
      unfold pIdx
      rw [e]
      dsimp only
      refine zbe h2 pre.length (str w) ?_ k
      simp
    · have e : zg3 1 (.slice (some ⟨y, pre.length, some 1⟩) (w :: ws).length c) (some (.int .i64 1)) none = some (.slice (some ⟨y, pre.length + 1, some 1⟩) ws.length (c - 1)) := by
        unfold zg3
        dsimp only [zcp]
        rw [if_pos ⟨rfl, by omega, by rw [List.length_cons]; omega, by rw [List.length_cons]; omega⟩]
        simp
      unfold zc3
      rw [e]
abbrev zbY (e : Int) : Value := .iface T.term_fault (.agg #[.int .i64 e])
theorem zbW {α : Type} (e : Int) (k : Value → Option α) : zau PP T.term_fault [(0, .int .i64 e)] k = k (.agg #[.int .i64 e]) := by
  have : zgC PP T.term_fault [(0, .int .i64 e)] = some (.agg #[.int .i64 e]) := by kernel_rfl
  unfold zau; rw [this]
theorem next_none {H : Hp} {p : Nat} {sp wv tv : Value} (hp : H.get p = some (.cells [sp, wv, tv] true)) (hw : Wds H wv []) : RR F.a3 [.pointer (some ⟨p, 0, none⟩)] H = some (W0 (zbY 3), H) := by
  refine (zdJ E0 rfl _ H).trans ?_
  unfold zce
  have hl := fun (α : Type) (k : Value → Option α) => zbe hp (0 + 1) wv rfl k
  simp only [zbm, zaE, hl, hw.len, za4, zaf, s_br, List.length_nil, Int.ofNat_zero, decide_true, if_true, zbW]
theorem next_some {H : Hp} {p : Nat} {sp wv tv : Value} (hp : H.get p = some (.cells [sp, wv, tv] true)) {w : List UInt8} {ws : List (List UInt8)} (hw : Wds H wv (w :: ws)) (hne : ¬ Id wv p) : ∃ H' wv', RR F.a3 [.pointer (some ⟨p, 0, none⟩)] H = some (W1 (str w), H') ∧ H'.get p = some (.cells [sp, wv', tv] true) ∧ Wds H' wv' ws ∧ (∀ j, Id wv' j → Id wv j) ∧ Frm (· = p) H H' ∧ H'.next = H.next := by
  obtain ⟨wv', h1, h2, h3, h4⟩ := hw.head
  have hwr : H.wr (.pointer (some ⟨p, 0 + 1, none⟩)) 1 wv' = some (H.set p (some (.cells [sp, wv', tv] true))) := by
    have hc : zab wv' = [wv'] := by
      rcases h3 with ⟨_, rfl⟩ | ⟨y, c, pre, rest, own, rfl, _⟩ <;> rfl
    have ho : one wv' = true := by
      rcases h3 with ⟨_, rfl⟩ | ⟨y, c, pre, rest, own, rfl, _⟩ <;> rfl
    have hw2 : za5 1 [sp, wv, tv] (0 + 1) wv' = some [sp, wv', tv] := by
      unfold za5
      rw [hc, if_pos ⟨rfl, by simp, by simp [ho]⟩]
      rfl
    show (match H.get p with | some (.cells cs true) => (match za5 1 cs (0 + 1) wv' with | some cs' => some (H.set p (some (.cells cs' true))) | none => none) | _ => none) = _
    rw [hp]; dsimp only; rw [hw2]
  have hfr : Frm (· = p) H (H.set p (some (.cells [sp, wv', tv] true))) := ze3 _ _ _ _ rfl
  refine ⟨_, wv', ?_, by rw [get_set, if_pos rfl], h3.keep hfr fun j hj e => hne (e ▸ h4 j hj), h4, hfr, rfl⟩
  refine (zdJ E0 rfl _ H).trans ?_
  unfold zce
  have hl := fun (α : Type) (k : Value → Option α) => zbe hp (0 + 1) wv rfl k
  have hz : ¬ (((w :: ws).length : Int) = 0) := by rw [List.length_cons]; omega
  simp only [zbm, zaE, hl, hw.len, za4, zaf, s_br, hz, decide_false, Bool.false_eq_true, if_false]
  rw [h1, h2]
  unfold zam
  rw [hwr]
end Go.AM
namespace Go.AM
open Go
def hexV (n : Nat) : Int := if 48 ≤ n ∧ n ≤ 57 then (n : Int) - 48 else if 97 ≤ n ∧ n ≤ 102 then (n : Int) - 87 else if 65 ≤ n ∧ n ≤ 70 then (n : Int) - 55 else -1
def digV (n base : Nat) : Int := if hexV n < 0 ∨ (base : Int) ≤ hexV n then -1 else hexV n
theorem hexV_lt (n : Nat) : -1 ≤ hexV n ∧ hexV n ≤ 15 := by
  unfold hexV
  split
  · omega
  · split
    · omega
    · split <;> omega
end Go.AM
namespace Go.AM
open Go
def numL (base : Nat) : List UInt8 → Nat → Option Nat
  | [], v => some v
  | b :: r, v => if digV b.toNat base < 0 then none else if v > (18446744073709551615 - (digV b.toNat base).toNat) / base then none else numL base r (v * base + (digV b.toNat base).toNat)
def badN : Value := .tuple #[.int .u64 0, .int .i64 10]
theorem digV_lt (n base : Nat) : digV n base = -1 ∨ (0 ≤ digV n base ∧ digV n base < base ∧ digV n base ≤ 15) := by
  have := hexV_lt n
  unfold digV
  split
  · exact .inl rfl
  · right; omega
theorem u64 {a : Int} (h0 : 0 ≤ a) (h1 : a ≤ 18446744073709551615) : IntKind.u64.wrap a = a := zdo (k := .u64) h0 h1
end Go.AM
namespace Go.AM
open Go
def numP (l : List UInt8) : Option Nat :=
  if l[0]? = some 48 ∧ l[1]? = some 120 then (if l.length = 2 then none else numL 16 (l.drop 2) 0) else (if l.length = 0 then none else numL 10 l 0)
def numV : Option Nat → Value
  | some x => .tuple #[.int .u64 (x : Int), .int .i64 0]
  | none => badN
end Go.AM
namespace Go.AM
open Go
def zbj (l : List UInt8) : Int :=
  match numP l with
  | some x => if x < 2147483648 then (x : Int) else -1
  | none => -1
end Go.AM
