/- Part of the proof of TermDumpsUptoCardSaid: see the last file.  -/
import Derived.Shelf.Strings.Builder1
import Derived.Shelf.Strconv.Itoa0
import Derived.Shelf.Strconv.Itoa1
import Derived.Shelf.LaysM
import Derived.Shelf.Strconv.Itoa2
import Derived.Shelf.Strconv.Itoa3
import Derived.Shelf.Strings.Fields
import Derived.Shelf.Strings.SplitShaped
import Derived.Shelf.Unicode.Latin
import Derived.Shelf.Unicode.Is16White
import Derived.Shelf.Unicode.IsSpaceAny
import Derived.Shelf.Unicode.Is16Any
import Derived.Shelf.Unicode.Is32Any
import Derived.Shelf.Unicode.ExclAny
import Derived.Test.YtkfhklmklhnfaaaDoorProg
import Derived.Laws.MathBits
import Derived.Test.YtkfhklmklhnfaaaDoorT0
import Derived.Test.YtkfhklmklhnfaaaDoorT1
import Derived.Test.YtkfhklmklhnfaaaDoorT2
import Derived.Test.YtkfhklmklhnfaaaDoorT3
set_option linter.unusedSimpArgs false
set_option linter.unusedVariables false
set_option linter.unusedSectionVars false
/- strings.Builder: as functions that are taken whole. -/
set_option linter.unusedVariables false
set_option linter.unusedSimpArgs false
namespace Go.AM
open Go
def ccB (i : Nat) (H : Hp) : Option AObj → Option (Value × Hp)
  | some (.cells [.pointer none, v] true) => if H.ty i = some T.strings_Builder then some (.tuple #[], H.set i (some (.cells [.pointer (some ⟨i, 0, none⟩), v] true))) else none
  | some (.cells [.pointer (some ⟨j, 0, none⟩), v] true) => if j = i ∧ H.ty i = some T.strings_Builder then some (.tuple #[], H) else none
  | _ => none
def extCC (l : List Value) (H : Hp) : Option (Value × Hp) :=
  match l with
  | [.pointer (some ⟨i, 0, none⟩)] => ccB i H (H.get i)
  | _ => none
/-- Bytes out of cells. -/
def bytesX : List Value → Option (List UInt8)
  | [] => some []
  | .int .u8 (.ofNat n) :: r => if n < 256 then (match bytesX r with
    | some l => some (UInt8.ofNat n :: l)
    | none => none) else none
  | _ => none
def strB2 (i j n : Nat) (H : Hp) : Option AObj → Option (Value × Hp)
  | some (.cells cs true) => if H.ty i = some T.strings_Builder ∧ H.ty j = some T.uint8 ∧ 0 < n ∧ n ≤ cs.length ∧ n ≤ 2 ^ 60 then (match bytesX (cs.take n) with
    | some l => some (.string ⟨l.toArray⟩, H.set j (some (.cells cs false)))
    | none => none) else none
  | _ => none
def strB (i : Nat) (H : Hp) : Option AObj → Option (Value × Hp)
  | some (.cells [_, .slice none 0 0] _) => if H.ty i = some T.strings_Builder then some (.string ⟨#[]⟩, H) else none
  | some (.cells [_, .slice (some ⟨j, 0, some 1⟩) n c] _) => strB2 i j n H (H.get j)
  | _ => none
def extStr (l : List Value) (H : Hp) : Option (Value × Hp) :=
  match l with
  | [.pointer (some ⟨i, 0, none⟩)] => strB i H (H.get i)
  | _ => none
theorem bytesX_cells : ∀ (cs : List Value) (l : List UInt8), bytesX cs = some l → cs = l.map fun b => Value.int .u8 (b.toNat : Int)
  | [], l, h => by cases h; rfl
  | v :: r, l, h => by
    unfold bytesX at h
    split at h
    · rename_i q; cases q
    · rename_i n r' q
      cases q
      split at h
      · rename_i hn
        split at h
        · rename_i l' hl
          cases h
          rw [List.map_cons, ← bytesX_cells _ _ hl]
          have : (UInt8.ofNat n).toNat = n := by simp [UInt8.toNat_ofNat]; omega
          rw [this]; rfl
        · cases h
      · cases h
    · cases h
theorem LRel.single {β : Bt} {a : Value} {l : List Value} (h : LRel β [a] l) : ∃ a', l = [a'] ∧ VRel β a a' := by
  obtain ⟨hl, hv⟩ := h
  match l, hl with
  | [x], _ => exact ⟨x, rfl, hv 0 _ _ rfl rfl⟩
theorem shape_of {w : World} {b : Nat} {arr : Array Value} {e : TypeId} {fz : Nat × Nat} (h : w.heap[b]? = some (.cells arr e fz)) : w.shape? b = some (e, arr.size) := by
  unfold World.shape?
  rw [h]
theorem freeze_facts (w : World) (b n : Nat) : (w.freeze ⟨b, 0, none⟩ n).heap.size = w.heap.size ∧ (∀ k, k ≠ b → (w.freeze ⟨b, 0, none⟩ n).heap[k]? = w.heap[k]?) ∧
    (∀ arr e fz, w.heap[b]? = some (.cells arr e fz) → ∃ fz', (w.freeze ⟨b, 0, none⟩ n).heap[b]? = some (.cells arr e fz')) ∧ (w.freeze ⟨b, 0, none⟩ n).os = w.os ∧ (w.freeze ⟨b, 0, none⟩ n).tape = w.tape ∧ (w.freeze ⟨b, 0, none⟩ n).output = w.output := by
  unfold World.freeze
  split
  · exact ⟨rfl, fun _ _ => rfl, fun arr e fz h => ⟨fz, h⟩, rfl, rfl, rfl⟩
  · refine ⟨by simp, fun k hk => ?_, fun arr e fz h => ?_, rfl, rfl, rfl⟩
    · simp only [Array.getElem?_modify]
      rw [if_neg (by omega)]
    · simp only [Array.getElem?_modify, if_true, h, Option.map_some]
      exact ⟨_, rfl⟩
theorem extCC_ok {args : List Value} {H : Hp} {v : Value} {H' : Hp} (he : extCC args H = some (v, H')) {args' : List Value} {w : World} {β : Bt} (hl : LRel β args args') (hR : Rel PP w H β) :
    Calls PP F.strings_Builder_copyCheck args'.toArray w fun x w' => ∃ v' β', x = .returned v' ∧ Rel PP w' H' β' ∧ Ext w.heap.size w H β w' H' β' ∧ VRel β' v v' := by
  have key : ∀ (i : Nat) (p u : Value), H.get i = some (.cells [p, u] true) → H.ty i = some T.strings_Builder → ∀ x, β i = some x → x.s = 0 ∧ ∃ arr fz, w.heap[x.b]? = some (.cells arr T.strings_Builder fz) ∧ arr.size = x.t ∧ 2 ≤ arr.size ∧ (∀ j, j < x.t → ¬ (fz.1 ≤ j ∧ j < fz.2)) ∧
      ∃ p', w.cell? ⟨x.b, 0, none⟩ = some p' ∧ VRel β p p' := by
    intro i p u hg hty x hx
    obtain ⟨x', hx', h1, h2⟩ := hR.cells i _ true hg
    rw [hx] at hx'; cases hx'
    obtain ⟨⟨arr, e, fz, g1, g2, g3⟩, g4⟩ := h2 rfl
    obtain ⟨x2, arr2, fz2, hx2, hs0, g5, g6⟩ := hR.tys i _ hty
    rw [hx] at hx2; cases hx2
    rw [g1] at g5; cases g5
    obtain ⟨p', a1, a2⟩ := h1 0 p rfl
    rw [hs0] at a1 g4
    have g4 : 0 + 2 ≤ x.t := g4
    exact ⟨hs0, arr, fz, g1, g2, by omega, g3, p', a1, a2⟩
  unfold extCC at he
  split at he
  · rename_i i
    obtain ⟨a', rfl, ha⟩ := hl.single
    cases ha with
    | ptr _ _ x hx =>
    unfold ccB at he
    split at he
    · rename_i u hg
      split at he
      · rename_i hty
        cases he
        obtain ⟨hs0, arr, fz, g1, g2, g3, g4, p', c0, r0⟩ := key i _ _ hg hty x hx
        cases r0
        have hput := setCell_put w x.b 0 (.pointer (some ⟨x.b, 0, none⟩)) arr _ fz g1 (by omega)
        have hfz : w.frozen? ⟨x.b, 0, none⟩ = false := frozen_false g1 (g4 0 (by omega))
        have hcall := cc_fresh x.b arr.size g3 w c0 (shape_of g1) hfz
        rw [hs0]
        refine hcall.mono fun e w' ⟨h1, h2⟩ => ?_
        subst h2
        have hv : LRel β [Value.pointer (some ⟨i, 0, none⟩)] [Value.pointer (some ⟨x.b, 0, none⟩)] := by
          have := VRel.ptr (β := β) i 0 x hx
          rw [hs0] at this
          exact LRel.cons this (LRel.nil _)
        obtain ⟨k1, k2⟩ := hR.write hg hx (off := 0) (vs := [Value.pointer (some ⟨i, 0, none⟩)]) (vs' := [Value.pointer (some ⟨x.b, 0, none⟩)]) (by simp) hv (by rw [hs0]; exact hput)
        exact ⟨_, β, h1, k1, k2, .tuple [] [] rfl (fun k v v' h => by cases h)⟩
      · cases he
    · rename_i j u hg
      split at he
      · rename_i hj
        cases he
        obtain ⟨rfl, hty⟩ := hj
        obtain ⟨hs0, arr, fz, g1, g2, g3, g4, p', c0, r0⟩ := key _ _ _ hg hty x hx
        cases r0 with
        | ptr _ _ y hy =>
        rw [hx] at hy; cases hy
        rw [hs0] at c0 ⊢
        refine (cc_used x.b w c0).mono fun e w' ⟨h1, h2⟩ => ?_
        subst h2
        exact ⟨_, β, h1, hR, Ext.refl _ _ _ _, .tuple [] [] rfl (fun k v v' h => by cases h)⟩
      · cases he
    · cases he
  · cases he
theorem extStr_ok {args : List Value} {H : Hp} {v : Value} {H' : Hp} (he : extStr args H = some (v, H')) {args' : List Value} {w : World} {β : Bt} (hl : LRel β args args') (hR : Rel PP w H β) :
    Calls PP F.strings_Builder_String args'.toArray w fun x w' => ∃ v' β', x = .returned v' ∧ Rel PP w' H' β' ∧ Ext w.heap.size w H β w' H' β' ∧ VRel β' v v' := by
  have zero : ∀ i x, H.ty i = some T.strings_Builder → β i = some x → x.s = 0 := fun i x hty hx => by
    obtain ⟨x2, arr2, fz2, hx2, hs0, _⟩ := hR.tys i _ hty
    rw [hx] at hx2; cases hx2; exact hs0
  unfold extStr at he
  split at he
  · rename_i i
    obtain ⟨a', rfl, ha⟩ := hl.single
    cases ha with
    | ptr _ _ x hx =>
    unfold strB at he
    split at he
    · rename_i p own hg
      split at he
      · rename_i hty
        cases he
        have hs0 := zero i x hty hx
        obtain ⟨x', hx', h1, _⟩ := hR.cells i _ _ hg
        rw [hx] at hx'; cases hx'
        obtain ⟨v', c1, r1⟩ := h1 1 _ rfl
        cases r1
        rw [hs0] at c1 ⊢
        refine (str_nil x.b w c1).mono fun e w' ⟨g1, g2, g3, g4, g5⟩ => ?_
        have hw : ∀ b : Nat, w'.heap[b]? = w.heap[b]? := fun b => by rw [g2]
        exact ⟨_, β, g1, hR.frame (by rw [g2]; exact Nat.le_refl _) (fun _ _ _ => hw _), ⟨g3, g4, g5, by rw [g2]; exact Nat.le_refl _, Bt.le_refl _, Nat.le_refl _, fun b _ _ => hw b, fun b q => .inr q, fun i x hx hn => by rw [hn] at hx; cases hx⟩, .string _⟩
      · cases he
    · rename_i p j n c own hg
      unfold strB2 at he
      split at he
      · rename_i cs hgj
        split at he
        · rename_i hc
          obtain ⟨hty, htj, hn0, hn, hn60⟩ := hc
          split at he
          · rename_i l hb
            cases he
            have hs0 := zero i x hty hx
            obtain ⟨x', hx', h1, _⟩ := hR.cells i _ _ hg
            rw [hx] at hx'; cases hx'
            obtain ⟨v', c1, r1⟩ := h1 1 _ rfl
            cases r1 with
            | slice _ _ _ _ _ y o' c' hy hnc hcc ht hoo =>
            obtain ⟨y2, arr, fz, hy2, ys0, k1, k2⟩ := hR.tys j _ htj
            rw [hy] at hy2; cases hy2
            have ho' : o' = 0 := by have := hoo (by omega); omega
            subst ho'
            have hcl := bytesX_cells _ _ hb
            have hlen : l.length = n := by
              have := congrArg List.length hcl
              rw [List.length_take, List.length_map] at this
              omega
            obtain ⟨y3, hy3, m1, m2⟩ := hR.cells j _ _ hgj
            rw [hy] at hy3; cases hy3
            obtain ⟨_, m3⟩ := m2 rfl
            have hcell : ∀ q b, l[q]? = some b → w.cell? ((⟨y.b, 0, none⟩ : Addr).add q) = some (.int .u8 b.toNat) := fun q b hq => by
              have hq' : cs[q]? = some (.int .u8 (b.toNat : Int)) := by
                have e1 : (cs.take n)[q]? = some (Value.int .u8 (b.toNat : Int)) := by rw [hcl, List.getElem?_map, hq]; rfl
                rw [List.getElem?_take] at e1
                split at e1
                · exact e1
                · cases e1
              obtain ⟨v2, d1, d2⟩ := m1 q _ hq'
              cases d2
              have ea : (⟨y.b, 0, none⟩ : Addr).add q = ⟨y.b, y.s + q, none⟩ := by
                rw [ys0]; unfold Addr.add; split <;> simp_all
              rw [ea]; exact d1
            rw [hs0] at c1 ⊢
            rw [← hlen] at c1
            have hne : l ≠ [] := fun q => by rw [q] at hlen; simp at hlen; omega
            refine (str_row x.b y.b c' arr.size l hne (by omega) (by omega) (by omega) w c1 (shape_of k1) hcell).mono fun e w' ⟨g1, w0, g2, g3, g4, g5, g6⟩ => ?_
            subst g6
            obtain ⟨f1, f2, f3, f4, f5, f6⟩ := freeze_facts w0 y.b l.length
            obtain ⟨q1, q2⟩ := hR.freeze (w' := w0.freeze ⟨y.b, 0, none⟩ l.length) hgj hy (f4.trans g3) (f5.trans g4) (f6.trans g5) (by rw [f1, g2]) (fun k hk => by rw [f2 k hk, g2]) (fun arr e fz hh => f3 arr e fz (by rw [g2]; exact hh))
            exact ⟨_, β, g1, q1, q2, .string _⟩
          · cases he
        · cases he
      · cases he
    · cases he
  · cases he
end Go.AM
/- The abstract machine: a start with package variables that are known, some of which may be read. -/
set_option linter.unusedVariables false
namespace Go.AM
open Go
/-- A start: what is known of each package variable. -/
def HS (P : Program) (F : Nat → Option AObj) : Hp := ⟨P.globals.size, fun i => if i < P.globals.size then F i else none, fun _ => none⟩
def isInt : Value → Bool
  | .int _ _ => true
  | _ => false
theorem isInt_rel {β : Bt} {v : Value} (h : isInt v = true) : VRel β v v := by
  unfold isInt at h
  split at h
  · exact .int _ _
  · cases h
theorem relStart {P : Program} {W : World} (h : P.globals.size ≤ W.heap.size) {F : Nat → Option AObj}
    (hF : ∀ i o, F i = some o → (∃ q, o = .fix q ∧ W.heap[i]? = some q) ∨ (∃ cs, o = .cells cs false ∧ ∀ (j : Nat) v, cs[j]? = some v → isInt v = true ∧ W.cell? ⟨i, j, none⟩ = some v)) :
    Rel P W (HS P F) (B00 P) ∧ (∀ i o, (HS P F).get i = some o → o.own = false) := by
  have key : ∀ i o, (HS P F).get i = some o → i < P.globals.size ∧ F i = some o := fun i o hi => by
    have hi : (if i < P.globals.size then F i else none) = some o := hi
    split at hi
    · exact ⟨by assumption, hi⟩
    · cases hi
  have hno : ∀ i o, (HS P F).get i = some o → o.own = false := fun i o hi => by
    rcases hF i o (key i o hi).2 with ⟨q, rfl, _⟩ | ⟨cs, rfl, _⟩ <;> rfl
  refine ⟨⟨fun i cs own hi => ?_, fun i kv hi => ?_, fun i j o o' x y _ hi _ ho => ?_, fun i hi => ⟨?_, by unfold B00; rw [if_neg (by have : P.globals.size ≤ i := hi; omega)]⟩,
    fun i x hx => (by unfold B00 at hx; split at hx <;> cases hx; show i < _; omega), fun g hg => ⟨0, by unfold B00; rw [if_pos hg]⟩, fun i o hi => ?_, fun i T hi => (by cases hi)⟩, hno⟩
  · obtain ⟨h1, h2⟩ := key i _ hi
    rcases hF i _ h2 with ⟨q, e, _⟩ | ⟨cs', e, hc⟩
    · cases e
    · cases e
      refine ⟨⟨i, 0, 0⟩, by unfold B00; rw [if_pos h1], fun j v hv => ?_, fun q => by cases q⟩
      obtain ⟨c1, c2⟩ := hc j v hv
      exact ⟨v, by rw [Nat.zero_add]; exact c2, isInt_rel c1⟩
  · obtain ⟨h1, h2⟩ := key i _ hi
    rcases hF i _ h2 with ⟨q, e, _⟩ | ⟨cs', e, hc⟩ <;> cases e
  · rw [hno i o hi] at ho; cases ho
  · show (if i < P.globals.size then F i else none) = none
    have : P.globals.size ≤ i := hi
    rw [if_neg (by omega)]
  · obtain ⟨h1, h2⟩ := key i _ hi
    rcases hF i _ h2 with ⟨q, e, hq⟩ | ⟨cs', e, hc⟩
    · cases e
      exact ⟨⟨i, 0, 0⟩, by unfold B00; rw [if_pos h1], rfl, hq⟩
    · cases e
end Go.AM
/-
  DERIVED: THE SHELF's CONTRACTS AT THIS DUMP, IN PLAIN WORDS (tools/lay-plain.mjs out of 'TrydShelf.lean', which tools/lay-shelf.mjs wrote): THE SAME DECLARATIONS UNDER THE SAME NAMES: 'import', 'namespace', 'open', 'def', 'theorem' AND NOTHING ELSE: no command of the shelf's: FOR A HAND-IN. Each laying: the table of numbers ('.._ren') and one theorem, a field a fact of the dump's own or the kernel's comparison; each contract: ONE APPLICATION.
-/
namespace Go.Proofs
open Go.Shelf
def Tryd.lays169_ren : Go.Shelf.Ren := ⟨fun | 169 => 19 | n => n, fun | 70 => 47 | 9 => 9 | 0 => 0 | 72 => 50 | 37 => 48 | 127 => 87 | 3 => 3 | 5 => 5 | n => n, fun | n => n⟩
theorem Tryd.lays169 : Go.Proofs.Lays.n169 Tryd.prog Tryd.lays169_ren := {
  mixed := by kernel_rfl
  f169 := Tryd.func19.trans (congrArg some (by kernel_rfl))
  t0 := Tryd.underlying0
  a0 := Tryd.isAgg0
  z0 := Tryd.sizeOf0
  v0 := Tryd.zeroValue0
  t3 := Tryd.underlying3
  a3 := Tryd.isAgg3
  z3 := Tryd.sizeOf3
  v3 := Tryd.zeroValue3
  t9 := Tryd.underlying9
  a9 := Tryd.isAgg9
  z9 := Tryd.sizeOf9
  v9 := Tryd.zeroValue9
  t37 := Tryd.underlying48
  a37 := Tryd.isAgg48
  z37 := Tryd.sizeOf48
  v37 := Tryd.zeroValue48
  t70 := Tryd.underlying47
  a70 := Tryd.isAgg47
  z70 := Tryd.sizeOf47
  v70 := Tryd.zeroValue47
  t72 := Tryd.underlying50
  a72 := Tryd.isAgg50
  z72 := Tryd.sizeOf50
  v72 := Tryd.zeroValue50
  t127 := Tryd.underlying87
  a127 := Tryd.isAgg87
  z127 := Tryd.sizeOf87
  v127 := Tryd.zeroValue87 }
theorem Tryd.Builder_Extra_169 : Builder.Extra Tryd.prog Tryd.lays169_ren := {
  sizeBuilder := by kernel_rfl
  liesBuilder := by kernel_rfl
  t5 := Tryd.underlying5
  a5 := Tryd.isAgg5
  z5 := Tryd.sizeOf5
  v5 := Tryd.zeroValue5
  infoByte := by kernel_rfl
  cellsByte := by kernel_rfl
  sizeByte := by kernel_rfl
  neB5 := by decide }
open Go.RowKit in
/-- (*strings.Builder).String: "String returns the accumulated string.": OF A BUILDER THAT HOLDS AT LEAST ONE BYTE. ✋ THE MODEL FREEZES THOSE BYTES IN THE BUFFER (unsafe.String): a later write INTO them ends the model's run without an answer; a later append BEHIND them goes on. The statement's order of evaluation is drawn: one draw. (LAID: no walk: one application.) -/
theorem Tryd.Builder_String (B b : Nat) (l : List UInt8) (w : World) (h : Lib.IsBuilder 50 5 B b (Lib.byteCells l) w) (h0 : l ≠ []) :
    Calls Tryd.prog 19 #[.pointer (some ⟨b, 0, none⟩)] w fun e w' => e = .returned (.string ⟨l.toArray⟩) ∧ Below B w w' := Any.Builder_String Tryd.lays169 Tryd.Builder_Extra_169 B b l w h h0
open Go.RowKit in
/-- (*strings.Builder).String OF A BUILDER THAT HOLDS NO BYTE: the empty string. (Its buffer is nil, or a row of which it has taken nothing yet; where that row has NO capacity the model lays one new block for unsafe.SliceData's 'some address'.) One draw. (LAID: no walk: one application.) -/
theorem Tryd.Builder_String_empty (B b : Nat) (w : World) (h : Lib.IsBuilder 50 5 B b [] w) (hBw : B ≤ w.heap.size) :
    Calls Tryd.prog 19 #[.pointer (some ⟨b, 0, none⟩)] w fun e w' => e = .returned (.string ⟨#[]⟩) ∧ Below B w w' := Any.Builder_String_empty Tryd.lays169 Tryd.Builder_Extra_169 B b w h hBw
open Go.RowKit in
/-- (*strings.Builder).String: "String returns the accumulated string.": WHATEVER THE BUILDER HOLDS. (LAID: no walk: one application.) -/
theorem Tryd.Builder_String_any (B b : Nat) (l : List UInt8) (w : World) (h : Lib.IsBuilder 50 5 B b (Lib.byteCells l) w) (hBw : B ≤ w.heap.size) :
    Calls Tryd.prog 19 #[.pointer (some ⟨b, 0, none⟩)] w fun e w' => e = .returned (.string ⟨l.toArray⟩) ∧ Below B w w' := Any.Builder_String_any Tryd.lays169 Tryd.Builder_Extra_169 B b l w h hBw
def Tryd.lays129_ren : Go.Shelf.Ren := ⟨fun | 129 => 78 | n => n, fun | 53 => 39 | 3 => 3 | 4 => 4 | 46 => 101 | 5 => 5 | 9 => 9 | n => n, fun | n => n⟩
theorem Tryd.lays129 : Go.Proofs.Lays.n129 Tryd.prog Tryd.lays129_ren := {
  mixed := by kernel_rfl
  f129 := Tryd.func78.trans (congrArg some (by kernel_rfl))
  t3 := Tryd.underlying3
  a3 := Tryd.isAgg3
  z3 := Tryd.sizeOf3
  v3 := Tryd.zeroValue3
  t4 := Tryd.underlying4
  a4 := Tryd.isAgg4
  z4 := Tryd.sizeOf4
  v4 := Tryd.zeroValue4
  t5 := Tryd.underlying5
  a5 := Tryd.isAgg5
  z5 := Tryd.sizeOf5
  v5 := Tryd.zeroValue5
  t9 := Tryd.underlying9
  a9 := Tryd.isAgg9
  z9 := Tryd.sizeOf9
  v9 := Tryd.zeroValue9
  t46 := Tryd.underlying101
  a46 := Tryd.isAgg101
  z46 := Tryd.sizeOf101
  v46 := Tryd.zeroValue101
  t53 := Tryd.underlying39
  a53 := Tryd.isAgg39
  z53 := Tryd.sizeOf39
  v53 := Tryd.zeroValue39 }
/-- bits.Len64: "Len64 returns the minimum number of bits required to represent x; the result is 0 for x == 0.": IT RETURNS 'Lib.bitLen x'; the world is as it was. ('h0', 'h1': x is a uint64.) (LAID: no walk: one application.) -/
theorem Tryd.bits_Len64 (x : Int) (w : World) (h0 : 0 ≤ x) (h1 : x ≤ 18446744073709551615) :
    Calls Tryd.prog 78 #[.int .u64 x] w fun e w' => e = .returned (.int .i64 (Lib.bitLen x.toNat)) ∧ w' = w := Any.bits_Len64 Tryd.lays129 x w h0 h1
def Tryd.lays317_ren : Go.Shelf.Ren := ⟨fun | 317 => 77 | n => n, fun | 3 => 3 | 46 => 101 | n => n, fun | n => n⟩
theorem Tryd.lays317 : Go.Proofs.Lays.n317 Tryd.prog Tryd.lays317_ren := {
  mixed := by kernel_rfl
  f317 := Tryd.func77.trans (congrArg some (by kernel_rfl))
  t3 := Tryd.underlying3
  a3 := Tryd.isAgg3
  z3 := Tryd.sizeOf3
  v3 := Tryd.zeroValue3
  t46 := Tryd.underlying101
  a46 := Tryd.isAgg101
  z46 := Tryd.sizeOf101
  v46 := Tryd.zeroValue101 }
open Go.Lib in
/-- internal/strconv.log10Pow2: "log10Pow2(x) returns ⌊log₁₀ 2**x⌋ = ⌊x * log₁₀ 2⌋.": '(x * 78913) >> 18', at an x up to 64 (a length in bits). The world is as it was. (LAID: no walk: one application.) -/
theorem Tryd.internal_strconv_log10Pow2 (x : Nat) (h : x ≤ 64) (w : World) :
    Calls Tryd.prog 77 #[.int .i64 x] w fun e w' => e = .returned (.int .i64 (Lib.l10 x)) ∧ w' = w := Any.internal_strconv_log10Pow2 Tryd.lays317 x h w
def Tryd.lays318_ren : Go.Shelf.Ren := ⟨fun | 318 => 79 | n => n, fun | 3 => 3 | 4 => 4 | n => n, fun | n => n⟩
theorem Tryd.lays318 : Go.Proofs.Lays.n318 Tryd.prog Tryd.lays318_ren := {
  mixed := by kernel_rfl
  f318 := Tryd.func79.trans (congrArg some (by kernel_rfl))
  t3 := Tryd.underlying3
  a3 := Tryd.isAgg3
  z3 := Tryd.sizeOf3
  v3 := Tryd.zeroValue3
  t4 := Tryd.underlying4
  a4 := Tryd.isAgg4
  z4 := Tryd.sizeOf4
  v4 := Tryd.zeroValue4 }
open Go.Lib in
/-- internal/strconv.bool2: "bool2 converts b to an integer: 1 for true, 0 for false." The world is as it was. (LAID: no walk: one application.) -/
theorem Tryd.internal_strconv_bool2_int (b : Bool) (w : World) :
    Calls Tryd.prog 79 #[.bool b] w fun e w' => e = .returned (.int .i64 (if b then 1 else 0)) ∧ w' = w := Any.internal_strconv_bool2_int Tryd.lays318 b w
def Tryd.lays283_ren : Go.Shelf.Ren := ⟨fun | 283 => 70 | n => n, fun | 3 => 3 | 9 => 9 | 4 => 4 | n => n, fun | n => n⟩
theorem Tryd.lays283 : Go.Proofs.Lays.n283 Tryd.prog Tryd.lays283_ren := {
  mixed := by kernel_rfl
  f283 := Tryd.func70.trans (congrArg some (by kernel_rfl))
  t3 := Tryd.underlying3
  a3 := Tryd.isAgg3
  z3 := Tryd.sizeOf3
  v3 := Tryd.zeroValue3
  t4 := Tryd.underlying4
  a4 := Tryd.isAgg4
  z4 := Tryd.sizeOf4
  v4 := Tryd.zeroValue4
  t9 := Tryd.underlying9
  a9 := Tryd.isAgg9
  z9 := Tryd.sizeOf9
  v9 := Tryd.zeroValue9 }
open Go.Lib in
/-- internal/strconv.small: "small returns the string for an i with 0 <= i < nSmalls.": i's decimal numeral. The world is as it was. (LAID: no walk: one application.) -/
theorem Tryd.internal_strconv_small (i : Nat) (h : i < 100) (w : World) :
    Calls Tryd.prog 70 #[.int .i64 i] w fun e w' => e = .returned (.string ⟨(Lib.decDigits i).toArray⟩) ∧ w' = w := Any.internal_strconv_small Tryd.lays283 i h w
def Tryd.laysM284_ren : Go.Shelf.Ren := ⟨fun | 284 => 71 | 129 => 78 | 317 => 77 | 318 => 79 | n => n, fun | 53 => 39 | 3 => 3 | 212 => 116 | 0 => 0 | 4 => 4 | 46 => 101 | 5 => 5 | 9 => 9 | n => n, fun | 17 => 2 | n => n⟩
theorem Tryd.laysM284 : Go.Proofs.LaysM.n284 Tryd.prog Tryd.laysM284_ren := {
  mixed := by kernel_rfl
  f129 := Tryd.func78.trans (congrArg some (by kernel_rfl))
  f284 := Tryd.func71.trans (congrArg some (by kernel_rfl))
  f317 := Tryd.func77.trans (congrArg some (by kernel_rfl))
  f318 := Tryd.func79.trans (congrArg some (by kernel_rfl))
  t0 := Tryd.underlying0
  a0 := Tryd.isAgg0
  z0 := Tryd.sizeOf0
  v0 := Tryd.zeroValue0
  t3 := Tryd.underlying3
  a3 := Tryd.isAgg3
  z3 := Tryd.sizeOf3
  v3 := Tryd.zeroValue3
  t4 := Tryd.underlying4
  a4 := Tryd.isAgg4
  z4 := Tryd.sizeOf4
  v4 := Tryd.zeroValue4
  t5 := Tryd.underlying5
  a5 := Tryd.isAgg5
  z5 := Tryd.sizeOf5
  v5 := Tryd.zeroValue5
  t9 := Tryd.underlying9
  a9 := Tryd.isAgg9
  z9 := Tryd.sizeOf9
  v9 := Tryd.zeroValue9
  t46 := Tryd.underlying101
  a46 := Tryd.isAgg101
  z46 := Tryd.sizeOf101
  v46 := Tryd.zeroValue101
  t53 := Tryd.underlying39
  a53 := Tryd.isAgg39
  z53 := Tryd.sizeOf39
  v53 := Tryd.zeroValue39
  t212 := Tryd.underlying116
  a212 := Tryd.isAgg116
  z212 := Tryd.sizeOf116
  v212 := Tryd.zeroValue116
  g17 := by kernel_rfl
  i0 := by kernel_rfl
  i3 := by kernel_rfl
  i4 := by kernel_rfl
  i5 := by kernel_rfl
  i9 := by kernel_rfl
  i46 := by kernel_rfl
  i53 := by kernel_rfl
  i212 := by kernel_rfl
  m17 := by kernel_rfl }
open Go.Lib in
/-- internal/strconv.numDigits, at a d that is not 0: THE NUMBER OF d's DECIMAL DIGITS. The world is as it was. (LAID: no walk: one application.) -/
theorem Tryd.internal_strconv_numDigits (u : Nat) (h1 : 1 ≤ u) (h2 : u < 18446744073709551616) (w : World) (htab : Lib.TabIs Tryd.prog w "internal/strconv.uint64pow10" .u64 Lib.pow10Tab) :
    Calls Tryd.prog 71 #[.int .u64 u] w fun e w' => e = .returned (.int .i64 (Lib.nDigits u)) ∧ w' = w := Any.internal_strconv_numDigits Tryd.laysM284 u h1 h2 w htab
def Tryd.lays285_ren : Go.Shelf.Ren := ⟨fun | 285 => 72 | n => n, fun | 37 => 48 | 53 => 39 | 3 => 3 | 4 => 4 | 51 => 111 | 9 => 9 | 5 => 5 | 0 => 0 | n => n, fun | n => n⟩
theorem Tryd.lays285 : Go.Proofs.Lays.n285 Tryd.prog Tryd.lays285_ren := {
  mixed := by kernel_rfl
  f285 := Tryd.func72.trans (congrArg some (by kernel_rfl))
  t0 := Tryd.underlying0
  a0 := Tryd.isAgg0
  z0 := Tryd.sizeOf0
  v0 := Tryd.zeroValue0
  t3 := Tryd.underlying3
  a3 := Tryd.isAgg3
  z3 := Tryd.sizeOf3
  v3 := Tryd.zeroValue3
  t4 := Tryd.underlying4
  a4 := Tryd.isAgg4
  z4 := Tryd.sizeOf4
  v4 := Tryd.zeroValue4
  t5 := Tryd.underlying5
  a5 := Tryd.isAgg5
  z5 := Tryd.sizeOf5
  v5 := Tryd.zeroValue5
  t9 := Tryd.underlying9
  a9 := Tryd.isAgg9
  z9 := Tryd.sizeOf9
  v9 := Tryd.zeroValue9
  t37 := Tryd.underlying48
  a37 := Tryd.isAgg48
  z37 := Tryd.sizeOf48
  v37 := Tryd.zeroValue48
  t51 := Tryd.underlying111
  a51 := Tryd.isAgg111
  z51 := Tryd.sizeOf111
  v51 := Tryd.zeroValue111
  t53 := Tryd.underlying39
  a53 := Tryd.isAgg39
  z53 := Tryd.sizeOf39
  v53 := Tryd.zeroValue39 }
open Go.RowKit Go.Sort Go.Lib in
/-- internal/strconv.formatBase10: "formatBase10 formats the decimal representation of u into a. The caller is responsible for ensuring that a is big enough to hold u. If a is too big, leading zeros will be filled in as needed.": THE ROW HOLDS u's DIGITS ('FmtInv .. 0 ..': every place t holds 'dg u (len - 1 - t)'); all else is as it was but for the count of draws. (LAID: no walk: one application.) -/
theorem Tryd.internal_strconv_formatBase10 (blk off cap : Nat) (u : Nat) (d : Array UInt8) (w : World) (hH : Holds (fun (b : UInt8) => Value.int .u8 (b.toNat : Int)) w blk off d) (hu : u < 10 ^ d.size) (hu64 : u < 18446744073709551616) (hsz : d.size < 4611686018427387904) :
    Calls Tryd.prog 72 #[.slice (some ⟨blk, off, none⟩) d.size cap, .int .u64 u] w fun e w' =>
      e = .returned (.tuple #[]) ∧ ∃ (n v' : Nat) (dk : Array UInt8), w' = (putRow (fun (b : UInt8) => Value.int .u8 (b.toNat : Int)) w blk off dk).drewN n ∧ FmtInv d.size u 0 v' dk := Any.internal_strconv_formatBase10 Tryd.lays285 blk off cap u d w hH hu hu64 hsz
def Tryd.laysM246_ren : Go.Shelf.Ren := ⟨fun | 246 => 62 | 283 => 70 | 284 => 71 | 285 => 72 | 286 => 73 | 129 => 78 | 317 => 77 | 318 => 79 | 319 => 80 | 320 => 81 | 337 => 84 | 338 => 85 | n => n, fun | 2 => 2 | 3 => 3 | 9 => 9 | 4 => 4 | 171 => 103 | 0 => 0 | 53 => 39 | 37 => 48 | 5 => 5 | 173 => 106 | 212 => 116 | 51 => 111 | 20 => 20 | 213 => 117 | 46 => 101 | 232 => 131 | 233 => 132 | n => n, fun | 17 => 2 | 18 => 3 | 19 => 4 | n => n⟩
theorem Tryd.laysM246 : Go.Proofs.LaysM.n246 Tryd.prog Tryd.laysM246_ren := {
  mixed := by kernel_rfl
  f129 := Tryd.func78.trans (congrArg some (by kernel_rfl))
  f246 := Tryd.func62.trans (congrArg some (by kernel_rfl))
  f283 := Tryd.func70.trans (congrArg some (by kernel_rfl))
  f284 := Tryd.func71.trans (congrArg some (by kernel_rfl))
  f285 := Tryd.func72.trans (congrArg some (by kernel_rfl))
  f286 := Tryd.func73.trans (congrArg some (by kernel_rfl))
  f317 := Tryd.func77.trans (congrArg some (by kernel_rfl))
  f318 := Tryd.func79.trans (congrArg some (by kernel_rfl))
  f319 := Tryd.func80.trans (congrArg some (by kernel_rfl))
  f320 := Tryd.func81.trans (congrArg some (by kernel_rfl))
  f337 := Tryd.func84.trans (congrArg some (by kernel_rfl))
  f338 := Tryd.func85.trans (congrArg some (by kernel_rfl))
  t0 := Tryd.underlying0
  a0 := Tryd.isAgg0
  z0 := Tryd.sizeOf0
  v0 := Tryd.zeroValue0
  t2 := Tryd.underlying2
  a2 := Tryd.isAgg2
  z2 := Tryd.sizeOf2
  v2 := Tryd.zeroValue2
  t3 := Tryd.underlying3
  a3 := Tryd.isAgg3
  z3 := Tryd.sizeOf3
  v3 := Tryd.zeroValue3
  t4 := Tryd.underlying4
  a4 := Tryd.isAgg4
  z4 := Tryd.sizeOf4
  v4 := Tryd.zeroValue4
  t5 := Tryd.underlying5
  a5 := Tryd.isAgg5
  z5 := Tryd.sizeOf5
  v5 := Tryd.zeroValue5
  t9 := Tryd.underlying9
  a9 := Tryd.isAgg9
  z9 := Tryd.sizeOf9
  v9 := Tryd.zeroValue9
  t20 := Tryd.underlying20
  a20 := Tryd.isAgg20
  z20 := Tryd.sizeOf20
  v20 := Tryd.zeroValue20
  t37 := Tryd.underlying48
  a37 := Tryd.isAgg48
  z37 := Tryd.sizeOf48
  v37 := Tryd.zeroValue48
  t46 := Tryd.underlying101
  a46 := Tryd.isAgg101
  z46 := Tryd.sizeOf101
  v46 := Tryd.zeroValue101
  t51 := Tryd.underlying111
  a51 := Tryd.isAgg111
  z51 := Tryd.sizeOf111
  v51 := Tryd.zeroValue111
  t53 := Tryd.underlying39
  a53 := Tryd.isAgg39
  z53 := Tryd.sizeOf39
  v53 := Tryd.zeroValue39
  t171 := Tryd.underlying103
  a171 := Tryd.isAgg103
  z171 := Tryd.sizeOf103
  v171 := Tryd.zeroValue103
  t173 := Tryd.underlying106
  a173 := Tryd.isAgg106
  z173 := Tryd.sizeOf106
  v173 := Tryd.zeroValue106
  t212 := Tryd.underlying116
  a212 := Tryd.isAgg116
  z212 := Tryd.sizeOf116
  v212 := Tryd.zeroValue116
  t213 := Tryd.underlying117
  a213 := Tryd.isAgg117
  z213 := Tryd.sizeOf117
  t232 := Tryd.underlying131
  a232 := Tryd.isAgg131
  z232 := Tryd.sizeOf131
  v232 := Tryd.zeroValue131
  t233 := Tryd.underlying132
  a233 := Tryd.isAgg132
  z233 := Tryd.sizeOf132
  v233 := Tryd.zeroValue132
  g17 := by kernel_rfl
  g18 := by kernel_rfl
  g19 := by kernel_rfl
  i0 := by kernel_rfl
  i2 := by kernel_rfl
  i3 := by kernel_rfl
  i4 := by kernel_rfl
  i5 := by kernel_rfl
  i9 := by kernel_rfl
  i20 := by kernel_rfl
  i37 := by kernel_rfl
  i46 := by kernel_rfl
  i51 := by kernel_rfl
  i53 := by kernel_rfl
  i171 := by kernel_rfl
  i173 := by kernel_rfl
  i212 := by kernel_rfl
  i232 := by kernel_rfl
  i233 := by kernel_rfl
  m17 := by kernel_rfl
  m18 := by kernel_rfl
  m19 := by kernel_rfl }
open Go.RowKit Go.Sort Go.Lib in
/-- internal/strconv.FormatInt: "FormatInt returns the string representation of i in the given base": AT BASE 10: i's decimal numeral, for every int64. The world behind the call: the world before it, new blocks behind the heap, draws. (LAID: no walk: one application.) -/
theorem Tryd.internal_strconv_FormatInt_10 (n : Int) (h0 : -9223372036854775808 ≤ n) (h1 : n ≤ 9223372036854775807) (w : World) (htab : Lib.TabIs Tryd.prog w "internal/strconv.uint64pow10" .u64 Lib.pow10Tab) :
    Calls Tryd.prog 62 #[.int .i64 n, .int .i64 10] w fun e w' => e = .returned (.string ⟨(Lib.itoa n).toArray⟩) ∧ ∃ k os, w' = grow (w.drewN k) os := Any.internal_strconv_FormatInt_10 Tryd.laysM246 n h0 h1 w htab
def Tryd.lays246_ren : Go.Shelf.Ren := ⟨fun | 246 => 62 | 283 => 70 | 284 => 71 | 285 => 72 | 286 => 73 | 129 => 78 | 317 => 77 | 318 => 79 | 319 => 80 | 320 => 81 | 337 => 84 | 338 => 85 | n => n, fun | 2 => 2 | 3 => 3 | 9 => 9 | 4 => 4 | 171 => 103 | 0 => 0 | 53 => 39 | 37 => 48 | 5 => 5 | 173 => 106 | 212 => 116 | 51 => 111 | 20 => 20 | 213 => 117 | 46 => 101 | 232 => 131 | 233 => 132 | n => n, fun | 17 => 2 | 18 => 3 | 19 => 4 | n => n⟩
theorem Tryd.lays246 : Go.Proofs.Lays.n246 Tryd.prog Tryd.lays246_ren := {
  mixed := by kernel_rfl
  f129 := Tryd.func78.trans (congrArg some (by kernel_rfl))
  f246 := Tryd.func62.trans (congrArg some (by kernel_rfl))
  f283 := Tryd.func70.trans (congrArg some (by kernel_rfl))
  f284 := Tryd.func71.trans (congrArg some (by kernel_rfl))
  f285 := Tryd.func72.trans (congrArg some (by kernel_rfl))
  f286 := Tryd.func73.trans (congrArg some (by kernel_rfl))
  f317 := Tryd.func77.trans (congrArg some (by kernel_rfl))
  f318 := Tryd.func79.trans (congrArg some (by kernel_rfl))
  f319 := Tryd.func80.trans (congrArg some (by kernel_rfl))
  f320 := Tryd.func81.trans (congrArg some (by kernel_rfl))
  f337 := Tryd.func84.trans (congrArg some (by kernel_rfl))
  f338 := Tryd.func85.trans (congrArg some (by kernel_rfl))
  t0 := Tryd.underlying0
  a0 := Tryd.isAgg0
  z0 := Tryd.sizeOf0
  v0 := Tryd.zeroValue0
  t2 := Tryd.underlying2
  a2 := Tryd.isAgg2
  z2 := Tryd.sizeOf2
  v2 := Tryd.zeroValue2
  t3 := Tryd.underlying3
  a3 := Tryd.isAgg3
  z3 := Tryd.sizeOf3
  v3 := Tryd.zeroValue3
  t4 := Tryd.underlying4
  a4 := Tryd.isAgg4
  z4 := Tryd.sizeOf4
  v4 := Tryd.zeroValue4
  t5 := Tryd.underlying5
  a5 := Tryd.isAgg5
  z5 := Tryd.sizeOf5
  v5 := Tryd.zeroValue5
  t9 := Tryd.underlying9
  a9 := Tryd.isAgg9
  z9 := Tryd.sizeOf9
  v9 := Tryd.zeroValue9
  t20 := Tryd.underlying20
  a20 := Tryd.isAgg20
  z20 := Tryd.sizeOf20
  v20 := Tryd.zeroValue20
  t37 := Tryd.underlying48
  a37 := Tryd.isAgg48
  z37 := Tryd.sizeOf48
  v37 := Tryd.zeroValue48
  t46 := Tryd.underlying101
  a46 := Tryd.isAgg101
  z46 := Tryd.sizeOf101
  v46 := Tryd.zeroValue101
  t51 := Tryd.underlying111
  a51 := Tryd.isAgg111
  z51 := Tryd.sizeOf111
  v51 := Tryd.zeroValue111
  t53 := Tryd.underlying39
  a53 := Tryd.isAgg39
  z53 := Tryd.sizeOf39
  v53 := Tryd.zeroValue39
  t171 := Tryd.underlying103
  a171 := Tryd.isAgg103
  z171 := Tryd.sizeOf103
  v171 := Tryd.zeroValue103
  t173 := Tryd.underlying106
  a173 := Tryd.isAgg106
  z173 := Tryd.sizeOf106
  v173 := Tryd.zeroValue106
  t212 := Tryd.underlying116
  a212 := Tryd.isAgg116
  z212 := Tryd.sizeOf116
  v212 := Tryd.zeroValue116
  t213 := Tryd.underlying117
  a213 := Tryd.isAgg117
  z213 := Tryd.sizeOf117
  t232 := Tryd.underlying131
  a232 := Tryd.isAgg131
  z232 := Tryd.sizeOf131
  v232 := Tryd.zeroValue131
  t233 := Tryd.underlying132
  a233 := Tryd.isAgg132
  z233 := Tryd.sizeOf132
  v233 := Tryd.zeroValue132
  g17 := by kernel_rfl
  g18 := by kernel_rfl
  g19 := by kernel_rfl }
open Go.RowKit Go.Sort Go.Lib in
/-- THE ROAD WITHOUT THE TABLE: 0 <= i < 100: two constants are read, nothing is laid: no premise on the world, and the world is as it was. (LAID: no walk: one application.) -/
theorem Tryd.internal_strconv_FormatInt_10_small (i : Nat) (hi : i < 100) (w : World) :
    Calls Tryd.prog 62 #[.int .i64 i, .int .i64 10] w fun e w' => e = .returned (.string ⟨(Lib.decDigits i).toArray⟩) ∧ w' = w := Any.internal_strconv_FormatInt_10_small Tryd.lays246 i hi w
def Tryd.laysM243_ren : Go.Shelf.Ren := ⟨fun | 243 => 44 | 246 => 62 | 283 => 70 | 284 => 71 | 285 => 72 | 286 => 73 | 129 => 78 | 317 => 77 | 318 => 79 | 319 => 80 | 320 => 81 | 337 => 84 | 338 => 85 | n => n, fun | 3 => 3 | 9 => 9 | 2 => 2 | 4 => 4 | 171 => 103 | 0 => 0 | 53 => 39 | 37 => 48 | 5 => 5 | 173 => 106 | 212 => 116 | 51 => 111 | 20 => 20 | 213 => 117 | 46 => 101 | 232 => 131 | 233 => 132 | n => n, fun | 17 => 2 | 18 => 3 | 19 => 4 | n => n⟩
theorem Tryd.laysM243 : Go.Proofs.LaysM.n243 Tryd.prog Tryd.laysM243_ren := {
  mixed := by kernel_rfl
  f129 := Tryd.func78.trans (congrArg some (by kernel_rfl))
  f243 := Tryd.func44.trans (congrArg some (by kernel_rfl))
  f246 := Tryd.func62.trans (congrArg some (by kernel_rfl))
  f283 := Tryd.func70.trans (congrArg some (by kernel_rfl))
  f284 := Tryd.func71.trans (congrArg some (by kernel_rfl))
  f285 := Tryd.func72.trans (congrArg some (by kernel_rfl))
  f286 := Tryd.func73.trans (congrArg some (by kernel_rfl))
  f317 := Tryd.func77.trans (congrArg some (by kernel_rfl))
  f318 := Tryd.func79.trans (congrArg some (by kernel_rfl))
  f319 := Tryd.func80.trans (congrArg some (by kernel_rfl))
  f320 := Tryd.func81.trans (congrArg some (by kernel_rfl))
  f337 := Tryd.func84.trans (congrArg some (by kernel_rfl))
  f338 := Tryd.func85.trans (congrArg some (by kernel_rfl))
  t0 := Tryd.underlying0
  a0 := Tryd.isAgg0
  z0 := Tryd.sizeOf0
  v0 := Tryd.zeroValue0
  t2 := Tryd.underlying2
  a2 := Tryd.isAgg2
  z2 := Tryd.sizeOf2
  v2 := Tryd.zeroValue2
  t3 := Tryd.underlying3
  a3 := Tryd.isAgg3
  z3 := Tryd.sizeOf3
  v3 := Tryd.zeroValue3
  t4 := Tryd.underlying4
  a4 := Tryd.isAgg4
  z4 := Tryd.sizeOf4
  v4 := Tryd.zeroValue4
  t5 := Tryd.underlying5
  a5 := Tryd.isAgg5
  z5 := Tryd.sizeOf5
  v5 := Tryd.zeroValue5
  t9 := Tryd.underlying9
  a9 := Tryd.isAgg9
  z9 := Tryd.sizeOf9
  v9 := Tryd.zeroValue9
  t20 := Tryd.underlying20
  a20 := Tryd.isAgg20
  z20 := Tryd.sizeOf20
  v20 := Tryd.zeroValue20
  t37 := Tryd.underlying48
  a37 := Tryd.isAgg48
  z37 := Tryd.sizeOf48
  v37 := Tryd.zeroValue48
  t46 := Tryd.underlying101
  a46 := Tryd.isAgg101
  z46 := Tryd.sizeOf101
  v46 := Tryd.zeroValue101
  t51 := Tryd.underlying111
  a51 := Tryd.isAgg111
  z51 := Tryd.sizeOf111
  v51 := Tryd.zeroValue111
  t53 := Tryd.underlying39
  a53 := Tryd.isAgg39
  z53 := Tryd.sizeOf39
  v53 := Tryd.zeroValue39
  t171 := Tryd.underlying103
  a171 := Tryd.isAgg103
  z171 := Tryd.sizeOf103
  v171 := Tryd.zeroValue103
  t173 := Tryd.underlying106
  a173 := Tryd.isAgg106
  z173 := Tryd.sizeOf106
  v173 := Tryd.zeroValue106
  t212 := Tryd.underlying116
  a212 := Tryd.isAgg116
  z212 := Tryd.sizeOf116
  v212 := Tryd.zeroValue116
  t213 := Tryd.underlying117
  a213 := Tryd.isAgg117
  z213 := Tryd.sizeOf117
  t232 := Tryd.underlying131
  a232 := Tryd.isAgg131
  z232 := Tryd.sizeOf131
  v232 := Tryd.zeroValue131
  t233 := Tryd.underlying132
  a233 := Tryd.isAgg132
  z233 := Tryd.sizeOf132
  v233 := Tryd.zeroValue132
  g17 := by kernel_rfl
  g18 := by kernel_rfl
  g19 := by kernel_rfl
  i0 := by kernel_rfl
  i2 := by kernel_rfl
  i3 := by kernel_rfl
  i4 := by kernel_rfl
  i5 := by kernel_rfl
  i9 := by kernel_rfl
  i20 := by kernel_rfl
  i37 := by kernel_rfl
  i46 := by kernel_rfl
  i51 := by kernel_rfl
  i53 := by kernel_rfl
  i171 := by kernel_rfl
  i173 := by kernel_rfl
  i212 := by kernel_rfl
  i232 := by kernel_rfl
  i233 := by kernel_rfl
  m17 := by kernel_rfl
  m18 := by kernel_rfl
  m19 := by kernel_rfl }
open Go.RowKit Go.Sort Go.Lib in
/-- internal/strconv.Itoa: "Itoa is equivalent to FormatInt(int64(i), 10).": i's decimal numeral, for every int. (LAID: no walk: one application.) -/
theorem Tryd.internal_strconv_Itoa (n : Int) (h0 : -9223372036854775808 ≤ n) (h1 : n ≤ 9223372036854775807) (w : World) (htab : Lib.TabIs Tryd.prog w "internal/strconv.uint64pow10" .u64 Lib.pow10Tab) :
    Calls Tryd.prog 44 #[.int .i64 n] w fun e w' => e = .returned (.string ⟨(Lib.itoa n).toArray⟩) ∧ ∃ k os, w' = grow (w.drewN k) os := Any.internal_strconv_Itoa Tryd.laysM243 n h0 h1 w htab
def Tryd.lays243_ren : Go.Shelf.Ren := ⟨fun | 243 => 44 | 246 => 62 | 283 => 70 | 284 => 71 | 285 => 72 | 286 => 73 | 129 => 78 | 317 => 77 | 318 => 79 | 319 => 80 | 320 => 81 | 337 => 84 | 338 => 85 | n => n, fun | 3 => 3 | 9 => 9 | 2 => 2 | 4 => 4 | 171 => 103 | 0 => 0 | 53 => 39 | 37 => 48 | 5 => 5 | 173 => 106 | 212 => 116 | 51 => 111 | 20 => 20 | 213 => 117 | 46 => 101 | 232 => 131 | 233 => 132 | n => n, fun | 17 => 2 | 18 => 3 | 19 => 4 | n => n⟩
theorem Tryd.lays243 : Go.Proofs.Lays.n243 Tryd.prog Tryd.lays243_ren := {
  mixed := by kernel_rfl
  f129 := Tryd.func78.trans (congrArg some (by kernel_rfl))
  f243 := Tryd.func44.trans (congrArg some (by kernel_rfl))
  f246 := Tryd.func62.trans (congrArg some (by kernel_rfl))
  f283 := Tryd.func70.trans (congrArg some (by kernel_rfl))
  f284 := Tryd.func71.trans (congrArg some (by kernel_rfl))
  f285 := Tryd.func72.trans (congrArg some (by kernel_rfl))
  f286 := Tryd.func73.trans (congrArg some (by kernel_rfl))
  f317 := Tryd.func77.trans (congrArg some (by kernel_rfl))
  f318 := Tryd.func79.trans (congrArg some (by kernel_rfl))
  f319 := Tryd.func80.trans (congrArg some (by kernel_rfl))
  f320 := Tryd.func81.trans (congrArg some (by kernel_rfl))
  f337 := Tryd.func84.trans (congrArg some (by kernel_rfl))
  f338 := Tryd.func85.trans (congrArg some (by kernel_rfl))
  t0 := Tryd.underlying0
  a0 := Tryd.isAgg0
  z0 := Tryd.sizeOf0
  v0 := Tryd.zeroValue0
  t2 := Tryd.underlying2
  a2 := Tryd.isAgg2
  z2 := Tryd.sizeOf2
  v2 := Tryd.zeroValue2
  t3 := Tryd.underlying3
  a3 := Tryd.isAgg3
  z3 := Tryd.sizeOf3
  v3 := Tryd.zeroValue3
  t4 := Tryd.underlying4
  a4 := Tryd.isAgg4
  z4 := Tryd.sizeOf4
  v4 := Tryd.zeroValue4
  t5 := Tryd.underlying5
  a5 := Tryd.isAgg5
  z5 := Tryd.sizeOf5
  v5 := Tryd.zeroValue5
  t9 := Tryd.underlying9
  a9 := Tryd.isAgg9
  z9 := Tryd.sizeOf9
  v9 := Tryd.zeroValue9
  t20 := Tryd.underlying20
  a20 := Tryd.isAgg20
  z20 := Tryd.sizeOf20
  v20 := Tryd.zeroValue20
  t37 := Tryd.underlying48
  a37 := Tryd.isAgg48
  z37 := Tryd.sizeOf48
  v37 := Tryd.zeroValue48
  t46 := Tryd.underlying101
  a46 := Tryd.isAgg101
  z46 := Tryd.sizeOf101
  v46 := Tryd.zeroValue101
  t51 := Tryd.underlying111
  a51 := Tryd.isAgg111
  z51 := Tryd.sizeOf111
  v51 := Tryd.zeroValue111
  t53 := Tryd.underlying39
  a53 := Tryd.isAgg39
  z53 := Tryd.sizeOf39
  v53 := Tryd.zeroValue39
  t171 := Tryd.underlying103
  a171 := Tryd.isAgg103
  z171 := Tryd.sizeOf103
  v171 := Tryd.zeroValue103
  t173 := Tryd.underlying106
  a173 := Tryd.isAgg106
  z173 := Tryd.sizeOf106
  v173 := Tryd.zeroValue106
  t212 := Tryd.underlying116
  a212 := Tryd.isAgg116
  z212 := Tryd.sizeOf116
  v212 := Tryd.zeroValue116
  t213 := Tryd.underlying117
  a213 := Tryd.isAgg117
  z213 := Tryd.sizeOf117
  t232 := Tryd.underlying131
  a232 := Tryd.isAgg131
  z232 := Tryd.sizeOf131
  v232 := Tryd.zeroValue131
  t233 := Tryd.underlying132
  a233 := Tryd.isAgg132
  z233 := Tryd.sizeOf132
  v233 := Tryd.zeroValue132
  g17 := by kernel_rfl
  g18 := by kernel_rfl
  g19 := by kernel_rfl }
open Go.RowKit Go.Sort Go.Lib in
/-- THE ROAD WITHOUT THE TABLE: 0 <= i < 100. (LAID: no walk: one application.) -/
theorem Tryd.internal_strconv_Itoa_small (i : Nat) (hi : i < 100) (w : World) :
    Calls Tryd.prog 44 #[.int .i64 i] w fun e w' => e = .returned (.string ⟨(Lib.decDigits i).toArray⟩) ∧ w' = w := Any.internal_strconv_Itoa_small Tryd.lays243 i hi w
def Tryd.laysM171_ren : Go.Shelf.Ren := ⟨fun | 171 => 14 | 243 => 44 | 246 => 62 | 283 => 70 | 284 => 71 | 285 => 72 | 286 => 73 | 129 => 78 | 317 => 77 | 318 => 79 | 319 => 80 | 320 => 81 | 337 => 84 | 338 => 85 | n => n, fun | 3 => 3 | 9 => 9 | 2 => 2 | 4 => 4 | 171 => 103 | 0 => 0 | 53 => 39 | 37 => 48 | 5 => 5 | 173 => 106 | 212 => 116 | 51 => 111 | 20 => 20 | 213 => 117 | 46 => 101 | 232 => 131 | 233 => 132 | n => n, fun | 17 => 2 | 18 => 3 | 19 => 4 | n => n⟩
theorem Tryd.laysM171 : Go.Proofs.LaysM.n171 Tryd.prog Tryd.laysM171_ren := {
  mixed := by kernel_rfl
  f129 := Tryd.func78.trans (congrArg some (by kernel_rfl))
  f171 := Tryd.func14.trans (congrArg some (by kernel_rfl))
  f243 := Tryd.func44.trans (congrArg some (by kernel_rfl))
  f246 := Tryd.func62.trans (congrArg some (by kernel_rfl))
  f283 := Tryd.func70.trans (congrArg some (by kernel_rfl))
  f284 := Tryd.func71.trans (congrArg some (by kernel_rfl))
  f285 := Tryd.func72.trans (congrArg some (by kernel_rfl))
  f286 := Tryd.func73.trans (congrArg some (by kernel_rfl))
  f317 := Tryd.func77.trans (congrArg some (by kernel_rfl))
  f318 := Tryd.func79.trans (congrArg some (by kernel_rfl))
  f319 := Tryd.func80.trans (congrArg some (by kernel_rfl))
  f320 := Tryd.func81.trans (congrArg some (by kernel_rfl))
  f337 := Tryd.func84.trans (congrArg some (by kernel_rfl))
  f338 := Tryd.func85.trans (congrArg some (by kernel_rfl))
  t0 := Tryd.underlying0
  a0 := Tryd.isAgg0
  z0 := Tryd.sizeOf0
  v0 := Tryd.zeroValue0
  t2 := Tryd.underlying2
  a2 := Tryd.isAgg2
  z2 := Tryd.sizeOf2
  v2 := Tryd.zeroValue2
  t3 := Tryd.underlying3
  a3 := Tryd.isAgg3
  z3 := Tryd.sizeOf3
  v3 := Tryd.zeroValue3
  t4 := Tryd.underlying4
  a4 := Tryd.isAgg4
  z4 := Tryd.sizeOf4
  v4 := Tryd.zeroValue4
  t5 := Tryd.underlying5
  a5 := Tryd.isAgg5
  z5 := Tryd.sizeOf5
  v5 := Tryd.zeroValue5
  t9 := Tryd.underlying9
  a9 := Tryd.isAgg9
  z9 := Tryd.sizeOf9
  v9 := Tryd.zeroValue9
  t20 := Tryd.underlying20
  a20 := Tryd.isAgg20
  z20 := Tryd.sizeOf20
  v20 := Tryd.zeroValue20
  t37 := Tryd.underlying48
  a37 := Tryd.isAgg48
  z37 := Tryd.sizeOf48
  v37 := Tryd.zeroValue48
  t46 := Tryd.underlying101
  a46 := Tryd.isAgg101
  z46 := Tryd.sizeOf101
  v46 := Tryd.zeroValue101
  t51 := Tryd.underlying111
  a51 := Tryd.isAgg111
  z51 := Tryd.sizeOf111
  v51 := Tryd.zeroValue111
  t53 := Tryd.underlying39
  a53 := Tryd.isAgg39
  z53 := Tryd.sizeOf39
  v53 := Tryd.zeroValue39
  t171 := Tryd.underlying103
  a171 := Tryd.isAgg103
  z171 := Tryd.sizeOf103
  v171 := Tryd.zeroValue103
  t173 := Tryd.underlying106
  a173 := Tryd.isAgg106
  z173 := Tryd.sizeOf106
  v173 := Tryd.zeroValue106
  t212 := Tryd.underlying116
  a212 := Tryd.isAgg116
  z212 := Tryd.sizeOf116
  v212 := Tryd.zeroValue116
  t213 := Tryd.underlying117
  a213 := Tryd.isAgg117
  z213 := Tryd.sizeOf117
  t232 := Tryd.underlying131
  a232 := Tryd.isAgg131
  z232 := Tryd.sizeOf131
  v232 := Tryd.zeroValue131
  t233 := Tryd.underlying132
  a233 := Tryd.isAgg132
  z233 := Tryd.sizeOf132
  v233 := Tryd.zeroValue132
  g17 := by kernel_rfl
  g18 := by kernel_rfl
  g19 := by kernel_rfl
  i0 := by kernel_rfl
  i2 := by kernel_rfl
  i3 := by kernel_rfl
  i4 := by kernel_rfl
  i5 := by kernel_rfl
  i9 := by kernel_rfl
  i20 := by kernel_rfl
  i37 := by kernel_rfl
  i46 := by kernel_rfl
  i51 := by kernel_rfl
  i53 := by kernel_rfl
  i171 := by kernel_rfl
  i173 := by kernel_rfl
  i212 := by kernel_rfl
  i232 := by kernel_rfl
  i233 := by kernel_rfl
  m17 := by kernel_rfl
  m18 := by kernel_rfl
  m19 := by kernel_rfl }
open Go.RowKit Go.Sort Go.Lib in
/-- strconv.Itoa: "Itoa is equivalent to FormatInt(int64(i), 10).": i's DECIMAL NUMERAL ('Lib.itoa': a '-' where i is negative, then the digits), FOR EVERY int. The world behind the call: the world before it, new blocks behind the heap (the library's 'var a [24]byte'), draws. (LAID: no walk: one application.) -/
theorem Tryd.strconv_Itoa (n : Int) (h0 : -9223372036854775808 ≤ n) (h1 : n ≤ 9223372036854775807) (w : World) (htab : Lib.TabIs Tryd.prog w "internal/strconv.uint64pow10" .u64 Lib.pow10Tab) :
    Calls Tryd.prog 14 #[.int .i64 n] w fun e w' => e = .returned (.string ⟨(Lib.itoa n).toArray⟩) ∧ ∃ k os, w' = grow (w.drewN k) os := Any.strconv_Itoa Tryd.laysM171 n h0 h1 w htab
def Tryd.lays171_ren : Go.Shelf.Ren := ⟨fun | 171 => 14 | 243 => 44 | 246 => 62 | 283 => 70 | 284 => 71 | 285 => 72 | 286 => 73 | 129 => 78 | 317 => 77 | 318 => 79 | 319 => 80 | 320 => 81 | 337 => 84 | 338 => 85 | n => n, fun | 3 => 3 | 9 => 9 | 2 => 2 | 4 => 4 | 171 => 103 | 0 => 0 | 53 => 39 | 37 => 48 | 5 => 5 | 173 => 106 | 212 => 116 | 51 => 111 | 20 => 20 | 213 => 117 | 46 => 101 | 232 => 131 | 233 => 132 | n => n, fun | 17 => 2 | 18 => 3 | 19 => 4 | n => n⟩
theorem Tryd.lays171 : Go.Proofs.Lays.n171 Tryd.prog Tryd.lays171_ren := {
  mixed := by kernel_rfl
  f129 := Tryd.func78.trans (congrArg some (by kernel_rfl))
  f171 := Tryd.func14.trans (congrArg some (by kernel_rfl))
  f243 := Tryd.func44.trans (congrArg some (by kernel_rfl))
  f246 := Tryd.func62.trans (congrArg some (by kernel_rfl))
  f283 := Tryd.func70.trans (congrArg some (by kernel_rfl))
  f284 := Tryd.func71.trans (congrArg some (by kernel_rfl))
  f285 := Tryd.func72.trans (congrArg some (by kernel_rfl))
  f286 := Tryd.func73.trans (congrArg some (by kernel_rfl))
  f317 := Tryd.func77.trans (congrArg some (by kernel_rfl))
  f318 := Tryd.func79.trans (congrArg some (by kernel_rfl))
  f319 := Tryd.func80.trans (congrArg some (by kernel_rfl))
  f320 := Tryd.func81.trans (congrArg some (by kernel_rfl))
  f337 := Tryd.func84.trans (congrArg some (by kernel_rfl))
  f338 := Tryd.func85.trans (congrArg some (by kernel_rfl))
  t0 := Tryd.underlying0
  a0 := Tryd.isAgg0
  z0 := Tryd.sizeOf0
  v0 := Tryd.zeroValue0
  t2 := Tryd.underlying2
  a2 := Tryd.isAgg2
  z2 := Tryd.sizeOf2
  v2 := Tryd.zeroValue2
  t3 := Tryd.underlying3
  a3 := Tryd.isAgg3
  z3 := Tryd.sizeOf3
  v3 := Tryd.zeroValue3
  t4 := Tryd.underlying4
  a4 := Tryd.isAgg4
  z4 := Tryd.sizeOf4
  v4 := Tryd.zeroValue4
  t5 := Tryd.underlying5
  a5 := Tryd.isAgg5
  z5 := Tryd.sizeOf5
  v5 := Tryd.zeroValue5
  t9 := Tryd.underlying9
  a9 := Tryd.isAgg9
  z9 := Tryd.sizeOf9
  v9 := Tryd.zeroValue9
  t20 := Tryd.underlying20
  a20 := Tryd.isAgg20
  z20 := Tryd.sizeOf20
  v20 := Tryd.zeroValue20
  t37 := Tryd.underlying48
  a37 := Tryd.isAgg48
  z37 := Tryd.sizeOf48
  v37 := Tryd.zeroValue48
  t46 := Tryd.underlying101
  a46 := Tryd.isAgg101
  z46 := Tryd.sizeOf101
  v46 := Tryd.zeroValue101
  t51 := Tryd.underlying111
  a51 := Tryd.isAgg111
  z51 := Tryd.sizeOf111
  v51 := Tryd.zeroValue111
  t53 := Tryd.underlying39
  a53 := Tryd.isAgg39
  z53 := Tryd.sizeOf39
  v53 := Tryd.zeroValue39
  t171 := Tryd.underlying103
  a171 := Tryd.isAgg103
  z171 := Tryd.sizeOf103
  v171 := Tryd.zeroValue103
  t173 := Tryd.underlying106
  a173 := Tryd.isAgg106
  z173 := Tryd.sizeOf106
  v173 := Tryd.zeroValue106
  t212 := Tryd.underlying116
  a212 := Tryd.isAgg116
  z212 := Tryd.sizeOf116
  v212 := Tryd.zeroValue116
  t213 := Tryd.underlying117
  a213 := Tryd.isAgg117
  z213 := Tryd.sizeOf117
  t232 := Tryd.underlying131
  a232 := Tryd.isAgg131
  z232 := Tryd.sizeOf131
  v232 := Tryd.zeroValue131
  t233 := Tryd.underlying132
  a233 := Tryd.isAgg132
  z233 := Tryd.sizeOf132
  v233 := Tryd.zeroValue132
  g17 := by kernel_rfl
  g18 := by kernel_rfl
  g19 := by kernel_rfl }
open Go.RowKit Go.Sort Go.Lib in
/-- THE ROAD WITHOUT THE TABLE: 0 <= i < 100: NO PREMISE ON THE WORLD, AND THE WORLD IS AS IT WAS: a row that keeps its argument in that range need list no table ('laid = []'). (LAID: no walk: one application.) -/
theorem Tryd.strconv_Itoa_small (i : Nat) (hi : i < 100) (w : World) :
    Calls Tryd.prog 14 #[.int .i64 i] w fun e w' => e = .returned (.string ⟨(Lib.decDigits i).toArray⟩) ∧ w' = w := Any.strconv_Itoa_small Tryd.lays171 i hi w
def Tryd.lays157_ren : Go.Shelf.Ren := ⟨fun | 157 => 45 | 229 => 63 | 199 => 64 | 261 => 74 | 311 => 82 | 312 => 83 | n => n, fun | 9 => 9 | 31 => 58 | 3 => 3 | 5 => 5 | 4 => 4 | 119 => 97 | 0 => 0 | 40 => 99 | 152 => 108 | 21 => 21 | 154 => 110 | 51 => 111 | 141 => 113 | 196 => 121 | 193 => 118 | 198 => 124 | 49 => 122 | 194 => 119 | 201 => 127 | 226 => 129 | 46 => 101 | 227 => 130 | n => n, fun | 0 => 0 | 6 => 1 | n => n⟩
theorem Tryd.lays157 : Go.Proofs.Lays.n157 Tryd.prog Tryd.lays157_ren := {
  mixed := by kernel_rfl
  f157 := Tryd.func45.trans (congrArg some (by kernel_rfl))
  f199 := Tryd.func64.trans (congrArg some (by kernel_rfl))
  f229 := Tryd.func63.trans (congrArg some (by kernel_rfl))
  f261 := Tryd.func74.trans (congrArg some (by kernel_rfl))
  f311 := Tryd.func82.trans (congrArg some (by kernel_rfl))
  f312 := Tryd.func83.trans (congrArg some (by kernel_rfl))
  t0 := Tryd.underlying0
  a0 := Tryd.isAgg0
  z0 := Tryd.sizeOf0
  v0 := Tryd.zeroValue0
  t3 := Tryd.underlying3
  a3 := Tryd.isAgg3
  z3 := Tryd.sizeOf3
  v3 := Tryd.zeroValue3
  t4 := Tryd.underlying4
  a4 := Tryd.isAgg4
  z4 := Tryd.sizeOf4
  v4 := Tryd.zeroValue4
  t5 := Tryd.underlying5
  a5 := Tryd.isAgg5
  z5 := Tryd.sizeOf5
  v5 := Tryd.zeroValue5
  t9 := Tryd.underlying9
  a9 := Tryd.isAgg9
  z9 := Tryd.sizeOf9
  v9 := Tryd.zeroValue9
  t21 := Tryd.underlying21
  a21 := Tryd.isAgg21
  z21 := Tryd.sizeOf21
  v21 := Tryd.zeroValue21
  t31 := Tryd.underlying58
  a31 := Tryd.isAgg58
  z31 := Tryd.sizeOf58
  v31 := Tryd.zeroValue58
  t40 := Tryd.underlying99
  a40 := Tryd.isAgg99
  z40 := Tryd.sizeOf99
  v40 := Tryd.zeroValue99
  t46 := Tryd.underlying101
  a46 := Tryd.isAgg101
  z46 := Tryd.sizeOf101
  v46 := Tryd.zeroValue101
  t49 := Tryd.underlying122
  a49 := Tryd.isAgg122
  z49 := Tryd.sizeOf122
  v49 := Tryd.zeroValue122
  t51 := Tryd.underlying111
  a51 := Tryd.isAgg111
  z51 := Tryd.sizeOf111
  v51 := Tryd.zeroValue111
  t119 := Tryd.underlying97
  a119 := Tryd.isAgg97
  z119 := Tryd.sizeOf97
  t141 := Tryd.underlying113
  a141 := Tryd.isAgg113
  z141 := Tryd.sizeOf113
  v141 := Tryd.zeroValue113
  t152 := Tryd.underlying108
  a152 := Tryd.isAgg108
  z152 := Tryd.sizeOf108
  v152 := Tryd.zeroValue108
  t154 := Tryd.underlying110
  a154 := Tryd.isAgg110
  z154 := Tryd.sizeOf110
  v154 := Tryd.zeroValue110
  t193 := Tryd.underlying118
  a193 := Tryd.isAgg118
  z193 := Tryd.sizeOf118
  v193 := Tryd.zeroValue118
  t194 := Tryd.underlying119
  a194 := Tryd.isAgg119
  z194 := Tryd.sizeOf119
  v194 := Tryd.zeroValue119
  t196 := Tryd.underlying121
  a196 := Tryd.isAgg121
  z196 := Tryd.sizeOf121
  v196 := Tryd.zeroValue121
  t198 := Tryd.underlying124
  a198 := Tryd.isAgg124
  z198 := Tryd.sizeOf124
  v198 := Tryd.zeroValue124
  t201 := Tryd.underlying127
  a201 := Tryd.isAgg127
  z201 := Tryd.sizeOf127
  v201 := Tryd.zeroValue127
  t226 := Tryd.underlying129
  a226 := Tryd.isAgg129
  z226 := Tryd.sizeOf129
  v226 := Tryd.zeroValue129
  t227 := Tryd.underlying130
  a227 := Tryd.isAgg130
  z227 := Tryd.sizeOf130
  v227 := Tryd.zeroValue130
  g0 := by kernel_rfl
  g6 := by kernel_rfl }
open Go.RowKit Go.Lib in
/-- strings.Fields, the table by 'Lib.TabIs' (as strings.TrimSpace's contract). 'hg': the table's number, by its name: at a dump 'by kernel_rfl'. (LAID: no walk: one application.) -/
theorem Tryd.strings_Fields (s : ByteArray) (w : World) (hs : s.size < 4294967281) (hascii : ∀ (j : Nat) b, s.data.toList[j]? = some b → b.toNat < 128) (htab : Lib.TabIs Tryd.prog w "strings.asciiSpace" .u8 Lib.asciiSpaceTab) :
    Calls Tryd.prog 45 #[.string s] w fun e w' =>
      e = .returned (.slice (some ⟨w.heap.size, 0, none⟩) (Lib.fields s.data.toList).length (Lib.fields s.data.toList).length) ∧ w' = w.alloc (.cells ((Lib.fields s.data.toList).map fun l => Value.string ⟨l.toArray⟩).toArray 9) := Any.strings_Fields Tryd.lays157 (by kernel_rfl) (by kernel_rfl) s w hs hascii htab
def Tryd.laysM157_ren : Go.Shelf.Ren := ⟨fun | 157 => 45 | 229 => 63 | 199 => 64 | 261 => 74 | 311 => 82 | 312 => 83 | n => n, fun | 9 => 9 | 31 => 58 | 3 => 3 | 5 => 5 | 4 => 4 | 119 => 97 | 0 => 0 | 40 => 99 | 152 => 108 | 21 => 21 | 154 => 110 | 51 => 111 | 141 => 113 | 196 => 121 | 193 => 118 | 198 => 124 | 49 => 122 | 194 => 119 | 201 => 127 | 226 => 129 | 46 => 101 | 227 => 130 | n => n, fun | 0 => 0 | 6 => 1 | n => n⟩
theorem Tryd.laysM157 : Go.Proofs.LaysM.n157 Tryd.prog Tryd.laysM157_ren := {
  mixed := by kernel_rfl
  f157 := Tryd.func45.trans (congrArg some (by kernel_rfl))
  f199 := Tryd.func64.trans (congrArg some (by kernel_rfl))
  f229 := Tryd.func63.trans (congrArg some (by kernel_rfl))
  f261 := Tryd.func74.trans (congrArg some (by kernel_rfl))
  f311 := Tryd.func82.trans (congrArg some (by kernel_rfl))
  f312 := Tryd.func83.trans (congrArg some (by kernel_rfl))
  t0 := Tryd.underlying0
  a0 := Tryd.isAgg0
  z0 := Tryd.sizeOf0
  v0 := Tryd.zeroValue0
  t3 := Tryd.underlying3
  a3 := Tryd.isAgg3
  z3 := Tryd.sizeOf3
  v3 := Tryd.zeroValue3
  t4 := Tryd.underlying4
  a4 := Tryd.isAgg4
  z4 := Tryd.sizeOf4
  v4 := Tryd.zeroValue4
  t5 := Tryd.underlying5
  a5 := Tryd.isAgg5
  z5 := Tryd.sizeOf5
  v5 := Tryd.zeroValue5
  t9 := Tryd.underlying9
  a9 := Tryd.isAgg9
  z9 := Tryd.sizeOf9
  v9 := Tryd.zeroValue9
  t21 := Tryd.underlying21
  a21 := Tryd.isAgg21
  z21 := Tryd.sizeOf21
  v21 := Tryd.zeroValue21
  t31 := Tryd.underlying58
  a31 := Tryd.isAgg58
  z31 := Tryd.sizeOf58
  v31 := Tryd.zeroValue58
  t40 := Tryd.underlying99
  a40 := Tryd.isAgg99
  z40 := Tryd.sizeOf99
  v40 := Tryd.zeroValue99
  t46 := Tryd.underlying101
  a46 := Tryd.isAgg101
  z46 := Tryd.sizeOf101
  v46 := Tryd.zeroValue101
  t49 := Tryd.underlying122
  a49 := Tryd.isAgg122
  z49 := Tryd.sizeOf122
  v49 := Tryd.zeroValue122
  t51 := Tryd.underlying111
  a51 := Tryd.isAgg111
  z51 := Tryd.sizeOf111
  v51 := Tryd.zeroValue111
  t119 := Tryd.underlying97
  a119 := Tryd.isAgg97
  z119 := Tryd.sizeOf97
  t141 := Tryd.underlying113
  a141 := Tryd.isAgg113
  z141 := Tryd.sizeOf113
  v141 := Tryd.zeroValue113
  t152 := Tryd.underlying108
  a152 := Tryd.isAgg108
  z152 := Tryd.sizeOf108
  v152 := Tryd.zeroValue108
  t154 := Tryd.underlying110
  a154 := Tryd.isAgg110
  z154 := Tryd.sizeOf110
  v154 := Tryd.zeroValue110
  t193 := Tryd.underlying118
  a193 := Tryd.isAgg118
  z193 := Tryd.sizeOf118
  v193 := Tryd.zeroValue118
  t194 := Tryd.underlying119
  a194 := Tryd.isAgg119
  z194 := Tryd.sizeOf119
  v194 := Tryd.zeroValue119
  t196 := Tryd.underlying121
  a196 := Tryd.isAgg121
  z196 := Tryd.sizeOf121
  v196 := Tryd.zeroValue121
  t198 := Tryd.underlying124
  a198 := Tryd.isAgg124
  z198 := Tryd.sizeOf124
  v198 := Tryd.zeroValue124
  t201 := Tryd.underlying127
  a201 := Tryd.isAgg127
  z201 := Tryd.sizeOf127
  v201 := Tryd.zeroValue127
  t226 := Tryd.underlying129
  a226 := Tryd.isAgg129
  z226 := Tryd.sizeOf129
  v226 := Tryd.zeroValue129
  t227 := Tryd.underlying130
  a227 := Tryd.isAgg130
  z227 := Tryd.sizeOf130
  v227 := Tryd.zeroValue130
  g0 := by kernel_rfl
  g6 := by kernel_rfl
  i0 := by kernel_rfl
  i3 := by kernel_rfl
  i4 := by kernel_rfl
  i5 := by kernel_rfl
  i9 := by kernel_rfl
  i21 := by kernel_rfl
  i31 := by kernel_rfl
  i40 := by kernel_rfl
  i46 := by kernel_rfl
  i49 := by kernel_rfl
  i51 := by kernel_rfl
  i141 := by kernel_rfl
  i152 := by kernel_rfl
  i154 := by kernel_rfl
  i193 := by kernel_rfl
  i194 := by kernel_rfl
  i196 := by kernel_rfl
  i198 := by kernel_rfl
  i201 := by kernel_rfl
  i226 := by kernel_rfl
  i227 := by kernel_rfl
  m0 := by kernel_rfl
  m6 := by kernel_rfl }
open Go.RowKit Go.Lib in
/-- strings.Fields on ASCII bytes. (The table: 'Lib.TabIs', as strings.TrimSpace's contract asks it.) (LAID: no walk: one application.) -/
theorem Tryd.strings_Fields_laid (s : ByteArray) (w : World) (hs : s.size < 4294967281) (hascii : ∀ (j : Nat) b, s.data.toList[j]? = some b → b.toNat < 128) (htab : Lib.TabIs Tryd.prog w "strings.asciiSpace" .u8 Lib.asciiSpaceTab) :
    Calls Tryd.prog 45 #[.string s] w fun e w' =>
      e = .returned (.slice (some ⟨w.heap.size, 0, none⟩) (Lib.fields s.data.toList).length (Lib.fields s.data.toList).length) ∧ w' = w.alloc (.cells ((Lib.fields s.data.toList).map fun l => Value.string ⟨l.toArray⟩).toArray 9) := Any.strings_Fields_laid Tryd.laysM157 s w hs hascii htab
def Tryd.lays199_ren : Go.Shelf.Ren := ⟨fun | 199 => 64 | 261 => 74 | 311 => 82 | 312 => 83 | n => n, fun | 21 => 21 | 4 => 4 | 51 => 111 | 141 => 113 | 0 => 0 | 196 => 121 | 193 => 118 | 3 => 3 | 198 => 124 | 49 => 122 | 194 => 119 | 201 => 127 | 226 => 129 | 46 => 101 | 227 => 130 | n => n, fun | 6 => 1 | n => n⟩
theorem Tryd.lays199 : Go.Proofs.Lays.n199 Tryd.prog Tryd.lays199_ren := {
  mixed := by kernel_rfl
  f199 := Tryd.func64.trans (congrArg some (by kernel_rfl))
  f261 := Tryd.func74.trans (congrArg some (by kernel_rfl))
  f311 := Tryd.func82.trans (congrArg some (by kernel_rfl))
  f312 := Tryd.func83.trans (congrArg some (by kernel_rfl))
  t0 := Tryd.underlying0
  a0 := Tryd.isAgg0
  z0 := Tryd.sizeOf0
  v0 := Tryd.zeroValue0
  t3 := Tryd.underlying3
  a3 := Tryd.isAgg3
  z3 := Tryd.sizeOf3
  v3 := Tryd.zeroValue3
  t4 := Tryd.underlying4
  a4 := Tryd.isAgg4
  z4 := Tryd.sizeOf4
  v4 := Tryd.zeroValue4
  t21 := Tryd.underlying21
  a21 := Tryd.isAgg21
  z21 := Tryd.sizeOf21
  v21 := Tryd.zeroValue21
  t46 := Tryd.underlying101
  a46 := Tryd.isAgg101
  z46 := Tryd.sizeOf101
  v46 := Tryd.zeroValue101
  t49 := Tryd.underlying122
  a49 := Tryd.isAgg122
  z49 := Tryd.sizeOf122
  v49 := Tryd.zeroValue122
  t51 := Tryd.underlying111
  a51 := Tryd.isAgg111
  z51 := Tryd.sizeOf111
  v51 := Tryd.zeroValue111
  t141 := Tryd.underlying113
  a141 := Tryd.isAgg113
  z141 := Tryd.sizeOf113
  v141 := Tryd.zeroValue113
  t193 := Tryd.underlying118
  a193 := Tryd.isAgg118
  z193 := Tryd.sizeOf118
  v193 := Tryd.zeroValue118
  t194 := Tryd.underlying119
  a194 := Tryd.isAgg119
  z194 := Tryd.sizeOf119
  v194 := Tryd.zeroValue119
  t196 := Tryd.underlying121
  a196 := Tryd.isAgg121
  z196 := Tryd.sizeOf121
  v196 := Tryd.zeroValue121
  t198 := Tryd.underlying124
  a198 := Tryd.isAgg124
  z198 := Tryd.sizeOf124
  v198 := Tryd.zeroValue124
  t201 := Tryd.underlying127
  a201 := Tryd.isAgg127
  z201 := Tryd.sizeOf127
  v201 := Tryd.zeroValue127
  t226 := Tryd.underlying129
  a226 := Tryd.isAgg129
  z226 := Tryd.sizeOf129
  v226 := Tryd.zeroValue129
  t227 := Tryd.underlying130
  a227 := Tryd.isAgg130
  z227 := Tryd.sizeOf130
  v227 := Tryd.zeroValue130
  g6 := by kernel_rfl }
open Go.RowKit Go.Lib in
theorem Tryd.unicode_IsSpace (r : Int) (w : World) (h0 : 0 ≤ r) (h : r ≤ 255) :
    Calls Tryd.prog 64 #[.int .i32 r] w fun e w' => e = .returned (.bool (Lib.isSpaceL r)) ∧ w' = w := Any.unicode_IsSpace Tryd.lays199 r w h0 h
def Tryd.lays311_ren : Go.Shelf.Ren := ⟨fun | 311 => 82 | n => n, fun | 193 => 118 | 49 => 122 | 4 => 4 | 3 => 3 | 0 => 0 | 226 => 129 | 198 => 124 | 46 => 101 | n => n, fun | n => n⟩
theorem Tryd.lays311 : Go.Proofs.Lays.n311 Tryd.prog Tryd.lays311_ren := {
  mixed := by kernel_rfl
  f311 := Tryd.func82.trans (congrArg some (by kernel_rfl))
  t0 := Tryd.underlying0
  a0 := Tryd.isAgg0
  z0 := Tryd.sizeOf0
  v0 := Tryd.zeroValue0
  t3 := Tryd.underlying3
  a3 := Tryd.isAgg3
  z3 := Tryd.sizeOf3
  v3 := Tryd.zeroValue3
  t4 := Tryd.underlying4
  a4 := Tryd.isAgg4
  z4 := Tryd.sizeOf4
  v4 := Tryd.zeroValue4
  t46 := Tryd.underlying101
  a46 := Tryd.isAgg101
  z46 := Tryd.sizeOf101
  v46 := Tryd.zeroValue101
  t49 := Tryd.underlying122
  a49 := Tryd.isAgg122
  z49 := Tryd.sizeOf122
  v49 := Tryd.zeroValue122
  t193 := Tryd.underlying118
  a193 := Tryd.isAgg118
  z193 := Tryd.sizeOf118
  v193 := Tryd.zeroValue118
  t198 := Tryd.underlying124
  a198 := Tryd.isAgg124
  z198 := Tryd.sizeOf124
  v198 := Tryd.zeroValue124
  t226 := Tryd.underlying129
  a226 := Tryd.isAgg129
  z226 := Tryd.sizeOf129
  v226 := Tryd.zeroValue129 }
open Go.RowKit Go.Lib in
theorem Tryd.unicode_is16_white (R oR : Nat) (z : Nat) (w : World) (hz : z < 65536) (hz0 : 255 < z) (c6 : w.cell? ⟨R, oR + 6, none⟩ = some (.int .u16 160)) (c7 : w.cell? ⟨R, oR + 7, none⟩ = some (.int .u16 5760)) (c8 : w.cell? ⟨R, oR + 8, none⟩ = some (.int .u16 5600)) (c9 : w.cell? ⟨R, oR + 9, none⟩ = some (.int .u16 8192)) (c10 : w.cell? ⟨R, oR + 10, none⟩ = some (.int .u16 8202)) (c11 : w.cell? ⟨R, oR + 11, none⟩ = some (.int .u16 1)) (c12 : w.cell? ⟨R, oR + 12, none⟩ = some (.int .u16 8232)) (c13 : w.cell? ⟨R, oR + 13, none⟩ = some (.int .u16 8233)) (c14 : w.cell? ⟨R, oR + 14, none⟩ = some (.int .u16 1)) (c15 : w.cell? ⟨R, oR + 15, none⟩ = some (.int .u16 8239)) (c16 : w.cell? ⟨R, oR + 16, none⟩ = some (.int .u16 8287)) (c17 : w.cell? ⟨R, oR + 17, none⟩ = some (.int .u16 48)) (c18 : w.cell? ⟨R, oR + 18, none⟩ = some (.int .u16 12288)) (c19 : w.cell? ⟨R, oR + 19, none⟩ = some (.int .u16 12288)) (c20 : w.cell? ⟨R, oR + 20, none⟩ = some (.int .u16 1)) :
    Calls Tryd.prog 82 #[.slice (some ⟨R, oR + 6, none⟩) 5 5, .int .u16 z] w fun e w' => e = .returned (.bool (Lib.isSpaceR z)) ∧ Below w.heap.size w w' := Any.unicode_is16_white Tryd.lays311 R oR z w hz hz0 c6 c7 c8 c9 c10 c11 c12 c13 c14 c15 c16 c17 c18 c19 c20
def Tryd.lays261_ren : Go.Shelf.Ren := ⟨fun | 261 => 74 | 311 => 82 | 312 => 83 | n => n, fun | 141 => 113 | 21 => 21 | 4 => 4 | 0 => 0 | 196 => 121 | 193 => 118 | 3 => 3 | 51 => 111 | 198 => 124 | 49 => 122 | 194 => 119 | 201 => 127 | 226 => 129 | 46 => 101 | 227 => 130 | n => n, fun | n => n⟩
theorem Tryd.lays261 : Go.Proofs.Lays.n261 Tryd.prog Tryd.lays261_ren := {
  mixed := by kernel_rfl
  f261 := Tryd.func74.trans (congrArg some (by kernel_rfl))
  f311 := Tryd.func82.trans (congrArg some (by kernel_rfl))
  f312 := Tryd.func83.trans (congrArg some (by kernel_rfl))
  t0 := Tryd.underlying0
  a0 := Tryd.isAgg0
  z0 := Tryd.sizeOf0
  v0 := Tryd.zeroValue0
  t3 := Tryd.underlying3
  a3 := Tryd.isAgg3
  z3 := Tryd.sizeOf3
  v3 := Tryd.zeroValue3
  t4 := Tryd.underlying4
  a4 := Tryd.isAgg4
  z4 := Tryd.sizeOf4
  v4 := Tryd.zeroValue4
  t21 := Tryd.underlying21
  a21 := Tryd.isAgg21
  z21 := Tryd.sizeOf21
  v21 := Tryd.zeroValue21
  t46 := Tryd.underlying101
  a46 := Tryd.isAgg101
  z46 := Tryd.sizeOf101
  v46 := Tryd.zeroValue101
  t49 := Tryd.underlying122
  a49 := Tryd.isAgg122
  z49 := Tryd.sizeOf122
  v49 := Tryd.zeroValue122
  t51 := Tryd.underlying111
  a51 := Tryd.isAgg111
  z51 := Tryd.sizeOf111
  v51 := Tryd.zeroValue111
  t141 := Tryd.underlying113
  a141 := Tryd.isAgg113
  z141 := Tryd.sizeOf113
  v141 := Tryd.zeroValue113
  t193 := Tryd.underlying118
  a193 := Tryd.isAgg118
  z193 := Tryd.sizeOf118
  v193 := Tryd.zeroValue118
  t194 := Tryd.underlying119
  a194 := Tryd.isAgg119
  z194 := Tryd.sizeOf119
  v194 := Tryd.zeroValue119
  t196 := Tryd.underlying121
  a196 := Tryd.isAgg121
  z196 := Tryd.sizeOf121
  v196 := Tryd.zeroValue121
  t198 := Tryd.underlying124
  a198 := Tryd.isAgg124
  z198 := Tryd.sizeOf124
  v198 := Tryd.zeroValue124
  t201 := Tryd.underlying127
  a201 := Tryd.isAgg127
  z201 := Tryd.sizeOf127
  v201 := Tryd.zeroValue127
  t226 := Tryd.underlying129
  a226 := Tryd.isAgg129
  z226 := Tryd.sizeOf129
  v226 := Tryd.zeroValue129
  t227 := Tryd.underlying130
  a227 := Tryd.isAgg130
  z227 := Tryd.sizeOf130
  v227 := Tryd.zeroValue130 }
open Go.RowKit Go.Lib in
/-- unicode.isExcludingLatin(White_Space, r), r beyond U+00FF or negative. (LAID: no walk: one application.) -/
theorem Tryd.unicode_isExcludingLatin_white (T oT R oR : Nat) (r : Int) (w : World) (hlo : -2147483648 ≤ r) (hhi : r ≤ 2147483647) (hr : r < 0 ∨ 255 < r) (h2 : w.cell? ⟨T, oT, none⟩ = some (.slice (some ⟨R, oR, none⟩) 7 7)) (h3 : w.cell? ⟨T, oT + 1, none⟩ = some (.slice none 0 0)) (h4 : w.cell? ⟨T, oT + 2, none⟩ = some (.int .i64 2)) (h5 : ∀ i, i < 21 → w.cell? ⟨R, oR + i, none⟩ = some (.int .u16 (whiteT.getD i 0))) :
    Calls Tryd.prog 74 #[.pointer (some ⟨T, oT, none⟩), .int .i32 r] w fun e w' => e = .returned (.bool (Lib.isSpaceZ r)) ∧ Below w.heap.size w w' := Any.unicode_isExcludingLatin_white Tryd.lays261 T oT R oR r w hlo hhi hr h2 h3 h4 h5
open Go.RowKit Go.Lib in
/-- **unicode.IsSpace AT EVERY int32.** (LAID: no walk: one application.) -/
theorem Tryd.unicode_IsSpace_any (r : Int) (w : World) (hlo : -2147483648 ≤ r) (hhi : r ≤ 2147483647) (hW : Lib.WhiteTab 1 w) :
    Calls Tryd.prog 64 #[.int .i32 r] w fun e w' => e = .returned (.bool (Lib.isSpaceZ r)) ∧ Below w.heap.size w w' := Any.unicode_IsSpace_any Tryd.lays199 r w hlo hhi hW
open Go.RowKit Go.Lib in
theorem Tryd.unicode_is16_any (T : Array Rg) (R oR cap : Nat) (z : Nat) (w : World) (hz : z < 65536) (hT : RgTab .u16 R oR T w) (hok : RgOk 65536 T) (hn : T.size ≤ 1000000000) :
    Calls Tryd.prog 82 #[.slice (some ⟨R, oR, none⟩) T.size cap, .int .u16 z] w fun e w' => e = .returned (.bool (is16Go T z)) ∧ ∃ q, w' = w.drewN q := Any.unicode_is16_any Tryd.lays311 T R oR cap z w hz hT hok hn
def Tryd.lays312_ren : Go.Shelf.Ren := ⟨fun | 312 => 83 | n => n, fun | 194 => 119 | 51 => 111 | 4 => 4 | 3 => 3 | 0 => 0 | 227 => 130 | 201 => 127 | 46 => 101 | n => n, fun | n => n⟩
theorem Tryd.lays312 : Go.Proofs.Lays.n312 Tryd.prog Tryd.lays312_ren := {
  mixed := by kernel_rfl
  f312 := Tryd.func83.trans (congrArg some (by kernel_rfl))
  t0 := Tryd.underlying0
  a0 := Tryd.isAgg0
  z0 := Tryd.sizeOf0
  v0 := Tryd.zeroValue0
  t3 := Tryd.underlying3
  a3 := Tryd.isAgg3
  z3 := Tryd.sizeOf3
  v3 := Tryd.zeroValue3
  t4 := Tryd.underlying4
  a4 := Tryd.isAgg4
  z4 := Tryd.sizeOf4
  v4 := Tryd.zeroValue4
  t46 := Tryd.underlying101
  a46 := Tryd.isAgg101
  z46 := Tryd.sizeOf101
  v46 := Tryd.zeroValue101
  t51 := Tryd.underlying111
  a51 := Tryd.isAgg111
  z51 := Tryd.sizeOf111
  v51 := Tryd.zeroValue111
  t194 := Tryd.underlying119
  a194 := Tryd.isAgg119
  z194 := Tryd.sizeOf119
  v194 := Tryd.zeroValue119
  t201 := Tryd.underlying127
  a201 := Tryd.isAgg127
  z201 := Tryd.sizeOf127
  v201 := Tryd.zeroValue127
  t227 := Tryd.underlying130
  a227 := Tryd.isAgg130
  z227 := Tryd.sizeOf130
  v227 := Tryd.zeroValue130 }
open Go.RowKit Go.Lib in
theorem Tryd.unicode_is32_any (T : Array Rg) (R oR cap : Nat) (z : Nat) (w : World) (hz : z < 4294967296) (hT : RgTab .u32 R oR T w) (hok : RgOk 4294967296 T) (hn : T.size ≤ 1000000000) :
    Calls Tryd.prog 83 #[.slice (some ⟨R, oR, none⟩) T.size cap, .int .u32 z] w fun e w' => e = .returned (.bool (is32Go T z)) ∧ Below w.heap.size w w' := Any.unicode_is32_any Tryd.lays312 T R oR cap z w hz hT hok hn
open Go.RowKit Go.Lib in
theorem Tryd.unicode_isExcludingLatin_any (Tb oT : Nat) (T : RTab) (r : Int) (w : World) (hlo : -2147483648 ≤ r) (hhi : r ≤ 2147483647) (hA : RTabAt Tb oT T w) (hok : RTabOk T) :
    Calls Tryd.prog 74 #[.pointer (some ⟨Tb, oT, none⟩), .int .i32 r] w fun e w' => e = .returned (.bool (exclGo T r)) ∧ Below w.heap.size w w' := Any.unicode_isExcludingLatin_any Tryd.lays261 Tb oT T r w hlo hhi hA hok
end Go.Proofs
/- The library's functions that are taken whole. -/
set_option linter.unusedVariables false
set_option linter.unusedSimpArgs false
namespace Go.AM
open Go
def tabOk (k : IntKind) : List Value → List Int → Bool
  | [], [] => true
  | .int k' a :: r, b :: s => decide (k' = k) && decide (a = b) && tabOk k r s
  | _, _ => false
theorem tabOk_eq {k : IntKind} : ∀ (l : List Value) (s : List Int), tabOk k l s = true → l = s.map fun z => Value.int k z
  | [], [], _ => rfl
  | [], _ :: _, h => by cases h
  | _ :: _, [], h => by unfold tabOk at h; split at h <;> simp_all
  | v :: r, b :: s, h => by
    unfold tabOk at h
    split at h
    · rename_i e1 e2; cases e1
    · rename_i k' a r' b' s' e1 e2
      cases e1; cases e2
      rw [Bool.and_eq_true, Bool.and_eq_true, decide_eq_true_eq, decide_eq_true_eq] at h
      rw [tabOk_eq r s h.2, h.1.1, h.1.2]; rfl
    · cases h
def pow10 : List Int := Go.Lib.pow10Tab
def spaces : List Int := Go.Lib.asciiSpaceTab
def extFmt (args : List Value) (H : Hp) : Option (Value × Hp) :=
  match args with
  | [.int .i64 n, .int .i64 10] => if -9223372036854775808 ≤ n ∧ n ≤ 9223372036854775807 then
      match H.get G.internal_strconv_uint64pow10 with
      | some (.fix (.cells cs _ _)) => match tabOk .u64 cs.toList pow10 with
        | true => some (.string ⟨(Go.Lib.itoa n).toArray⟩, H)
        | false => none
      | _ => none
    else none
  | _ => none
def extFlds (args : List Value) (H : Hp) : Option (Value × Hp) :=
  match args with
  | [.string s] => if s.size < 4294967281 ∧ s.data.toList.all (fun b => decide (b.toNat < 128)) = true then
      match H.get G.strings_asciiSpace with
      | some (.fix (.cells cs _ _)) => match tabOk .u8 cs.toList spaces with
        | true => some (.slice (some ⟨H.next, 0, some 1⟩) (Go.Lib.fields s.data.toList).length (Go.Lib.fields s.data.toList).length, H.new (.cells ((Go.Lib.fields s.data.toList).map fun l => Value.string ⟨l.toArray⟩) true))
        | false => none
      | _ => none
    else none
  | _ => none
def E0 : FuncId → Option (List Value → Hp → Option (Value × Hp)) := fun f =>
  if f = F.internal_strconv_FormatInt then some extFmt else if f = F.strings_Fields then some extFlds else if f = F.strings_Builder_copyCheck then some extCC else if f = F.strings_Builder_String then some extStr else none
noncomputable abbrev RR : Handler := run PP orc E0
theorem rel_grown {P : Program} {w w' : World} {H : Hp} {β : Bt} (h : Rel P w H β) (ho : w'.os = w.os) (ht : w'.tape = w.tape) (hu : w'.output = w.output) (hs : w.heap.size ≤ w'.heap.size) (hp : ∀ b, b < w.heap.size → w'.heap[b]? = w.heap[b]?) :
    Rel P w' H β ∧ Ext w.heap.size w H β w' H β :=
  ⟨h.frame hs fun i x hx => hp _ (h.lt i x hx), ho, ht, hu, hs, Bt.le_refl _, Nat.le_refl _, fun b hb _ => hp b hb, fun b q => .inr q, fun i x hx e => by rw [hx] at e; cases e⟩
theorem LRel.two {β : Bt} {a b : Value} {l : List Value} (h : LRel β [a, b] l) : ∃ a' b', l = [a', b'] ∧ VRel β a a' ∧ VRel β b b' := by
  obtain ⟨hl, hv⟩ := h
  match l, hl with
  | [x, y], _ => exact ⟨x, y, rfl, hv 0 _ _ rfl rfl, hv 1 _ _ rfl rfl⟩
theorem tabIs {w : World} {H : Hp} {β : Bt} (hR : Rel PP w H β) {name : String} {g : Nat} (hg : PP.globalNamed name = some g) (hlt : g < PP.globals.size) {cs : Array Value} {e : TypeId} {fz : Nat × Nat} (h : H.get g = some (.fix (.cells cs e fz))) {k : IntKind} {zs : List Int}
    (ht : tabOk k cs.toList zs = true) : Go.Lib.TabIs PP w name k zs := by
  obtain ⟨x, hx, _, hx2⟩ := hR.fix g _ h
  obtain ⟨t, ht2⟩ := hR.glob g hlt
  rw [hx] at ht2
  cases ht2
  unfold Go.Lib.TabIs World.var?
  rw [hg]
  have hx2 : w.heap[g]? = some (.cells cs e fz) := hx2
  show (match w.heap[g]? with | some (.cells cs _ _) => some cs | _ => none) = _
  rw [hx2]
  dsimp only
  congr 1
  apply Array.ext'
  rw [tabOk_eq _ _ ht]
theorem nglob : PP.globals.size = 6 := by kernel_rfl
theorem named_pow : PP.globalNamed "internal/strconv.uint64pow10" = some G.internal_strconv_uint64pow10 := by kernel_rfl
theorem named_spc : PP.globalNamed "strings.asciiSpace" = some G.strings_asciiSpace := by kernel_rfl
theorem extE0 : ExtC PP E0 := by
  intro f e hf args H v H' he args' w β hl hR
  unfold E0 at hf
  split at hf
  · rename_i hf1
    subst hf1
    cases hf
    unfold extFmt at he
    split at he
    · rename_i n
      split at he
      · rename_i hn
        split at he
        · rename_i cs ty fz hg
          split at he
          · rename_i hok
            cases he
            obtain ⟨a', b', rfl, ha, hb⟩ := hl.two
            cases ha
            cases hb
            have hT := tabIs hR named_pow (by rw [nglob]; decide) hg hok
            refine (Go.Proofs.Tryd.internal_strconv_FormatInt_10 n hn.1 hn.2 w hT).mono fun x w' ⟨h1, k, os, h2⟩ => ?_
            subst h2
            obtain ⟨r1, r2⟩ := rel_grown hR (w' := Go.Sort.grow (w.drewN k) os) rfl rfl rfl (by show w.heap.size ≤ (w.heap ++ os).size; rw [Array.size_append]; omega) (fun b hb => by
              show (w.heap ++ os)[b]? = _
              rw [Array.getElem?_append_left hb])
            exact ⟨_, β, h1, r1, r2, .string _⟩
          · cases he
        · cases he
      · cases he
    · cases he
  · split at hf
    · rename_i hf2
      subst hf2
      cases hf
      unfold extFlds at he
      split at he
      · rename_i s
        split at he
        · rename_i hs
          split at he
          · rename_i cs ty fz hg
            split at he
            · rename_i hok
              cases he
              obtain ⟨a', rfl, ha⟩ := hl.single
              cases ha
              have hT := tabIs hR named_spc (by rw [nglob]; decide) hg hok
              refine (Go.Proofs.Tryd.strings_Fields_laid s w hs.1 (fun j b hb => of_decide_eq_true (List.all_eq_true.1 hs.2 b (List.mem_of_getElem? hb))) hT).mono fun x w' ⟨h1, h2⟩ => ?_
              subst h2
              subst h1
              have hlr : LRel β ((Go.Lib.fields s.data.toList).map fun l => Value.string ⟨l.toArray⟩) ((((Go.Lib.fields s.data.toList).map fun l => Value.string ⟨l.toArray⟩).toArray).toList.take ((Go.Lib.fields s.data.toList).length)) := by
                have e : (((Go.Lib.fields s.data.toList).map fun l => Value.string ⟨l.toArray⟩).toArray).toList.take ((Go.Lib.fields s.data.toList).length) = (Go.Lib.fields s.data.toList).map fun l => Value.string ⟨l.toArray⟩ := by
                  rw [List.take_of_length_le (by simp)]
                rw [e]
                refine ⟨rfl, fun k v v' h1 h2 => ?_⟩
                rw [h1] at h2; cases h2
                rw [List.getElem?_map] at h1
                cases q : (Go.Lib.fields s.data.toList)[k]? with
                | none => rw [q] at h1; cases h1
                | some l => rw [q] at h1; cases h1; exact .string _
              obtain ⟨g1, g2⟩ := hR.new_cells _ (((Go.Lib.fields s.data.toList).map fun l => Value.string ⟨l.toArray⟩).toArray) 9 (0, 0) _ hlr (by intro j hj; simp)
              refine ⟨_, _, rfl, g1, g2, ?_⟩
              have := VRel.slice (β := β.set H.next ⟨w.heap.size, 0, (((Go.Lib.fields s.data.toList).map fun l => Value.string ⟨l.toArray⟩).toArray).size⟩) H.next 0 1 (Go.Lib.fields s.data.toList).length (Go.Lib.fields s.data.toList).length _ 0 (Go.Lib.fields s.data.toList).length (Bt.set_same _ _ _) (Nat.le_refl _) (Nat.le_refl _) (by simp) (by intro; rfl)
              exact this
            · cases he
          · cases he
        · cases he
      · cases he
    · split at hf
      · rename_i hf3
        subst hf3
        cases hf
        exact extCC_ok he hl hR
      · split at hf
        · rename_i hf4
          subst hf4
          cases hf
          exact extStr_ok he hl hR
        · cases hf
end Go.AM
set_option linter.unusedVariables false
namespace Go.AM
open Go Go.AM
set_option maxRecDepth 100000
noncomputable def s_cadencelaw07_Both_1 (R : Handler) (x1 : Value) (v3 : Value) (v7 : Value) (l21 : List Value) (H22 : Hp) : Option Outc :=
 pLen .sl x1 H22 fun v23 =>
 pBin PP .lss T.int (l21.getD 0 undef) v23 fun v24 =>
 pBool v24 fun b25 => br b25
 (pIdx 16 x1 (l21.getD 0 undef) fun p26 =>
 pLoad 16 true H22 p26 fun v27 =>
 pCallF R F.cadencelaw07_Ask [v3, v27] H22 fun r28 H29 =>
 pExtract r28 0 fun v30 =>
 pExtract r28 1 fun v31 =>
 pIdx 16 x1 (l21.getD 0 undef) fun p32 =>
 pLoad 16 true H29 p32 fun v33 =>
 pCallF R F.cadencelaw07_Also [v7, v33] H29 fun r34 H35 =>
 pExtract r34 0 fun v36 =>
 pExtract r34 1 fun v37 =>
 pBin PP .neq T.int v30 v36 fun v38 =>
 pBool v38 fun b39 => br b39
 (some (.ret, [(.tuple #[(.pointer none), (.pointer none), (.bool false)])], H35))
 (pBin PP .neq T.api_Errno v31 v37 fun v40 =>
 pBool v40 fun b41 => br b41
 (some (.ret, [(.tuple #[(.pointer none), (.pointer none), (.bool false)])], H35))
 (pBin PP .add T.int (l21.getD 0 undef) (.int .i64 1) fun v42 =>
 some (.next, [v42], H35))))
 (some (.exit 0, [(l21.getD 0 undef)], H22))
theorem k_cadencelaw07_Both (R : Handler) (x0 x1 : Value) (H0 : Hp) : m_cadencelaw07_Both R x0 x1 H0 =
pCallF R F.term_New [x0] H0 fun r1 H2 =>
 pExtract r1 0 fun v3 =>
 pExtract r1 1 fun v4 =>
 pCallF R F.cadenceref07_New [x0] H2 fun r5 H6 =>
 pExtract r5 0 fun v7 =>
 pExtract r5 1 fun v8 =>
 bindO (
 pBin PP .neq T.api_Errno v4 v8 fun v9 =>
 pBool v9 fun b10 => br b10
 (some (.ret, [(.tuple #[(.pointer none), (.pointer none), (.bool false)])], H6))
 (pBin PP .eql T.p_term_Store v3 (.pointer none) fun v11 =>
 pBin PP .eql T.p_cadenceref07_Store v7 (.pointer none) fun v12 =>
 pBin PP .neq T.bool v11 v12 fun v13 =>
 pBool v13 fun b14 => br b14
 (some (.ret, [(.tuple #[(.pointer none), (.pointer none), (.bool false)])], H6))
 (some (.next, [], H6)))) fun q15 l16 H17 => onCtl q15
 (pBin PP .eql T.p_term_Store v3 (.pointer none) fun v19 =>
 pBool v19 fun b20 => br b20
 (some ((.tuple #[(.pointer none), (.pointer none), (.bool true)]), H17))
 (bindO (loopD (s_cadencelaw07_Both_1 R x1 v3 v7) [(.int .i64 0)] H17) fun q43 l44 H45 => onCtl q43 none
 (fun i46 => onExit i46 0 (
 some ((.tuple #[v3, v7, (.bool true)]), H45)) (
 none))
 (some ((l44.headD undef), H45))))
 (fun i18 => none)
 (some ((l16.headD undef), H17)) := rfl
noncomputable def s_term_Store_Dump_1 (R : Handler) (v9 : Value) (r64 : Value) (p7 : Value) (c27 : List Value) (l66 : List Value) (H67 : Hp) : Option Outc :=
 pBin PP .lss T.int (l66.getD 0 undef) r64 fun v68 =>
 pBool v68 fun b69 => br b69
 (pCell 1 false c27 2 fun v70 =>
 pCell 1 false c27 3 fun v71 =>
 pCell 1 false c27 4 fun v72 =>
 pBuild PP T.a3_int [(0, v70), (1, v71), (2, v72)] fun v73 =>
 pAtArr 3 false 1 v73 (l66.getD 0 undef) fun v74 =>
 pLook PP T.int (.int .i64 0) v9 v74 false H67 fun v75 =>
 pCallF R F.term_Store_Dump_1 [v75, p7] H67 fun r76 H77 =>
 pBin PP .add T.int (l66.getD 0 undef) (.int .i64 1) fun v78 =>
 some (.next, [v78], H77))
 (some (.exit 3, [(l66.getD 0 undef)], H67))
noncomputable def s_term_Store_Dump_2 (R : Handler) (x0 : Value) (v3 : Value) (v9 : Value) (v13 : Value) (r11 : Value) (p7 : Value) (l14 : List Value) (H15 : Hp) : Option Outc :=
 pBin PP .lss T.int (l14.getD 0 undef) v13 fun v16 =>
 pBool v16 fun b17 => br b17
 (pIdx 1 v3 (l14.getD 0 undef) fun p18 =>
 pLoad 1 false H15 p18 fun v19 =>
 pBin PP .add T.int (l14.getD 0 undef) (.int .i64 1) fun v20 =>
 pUpd PP T.int v9 v19 v20 H15 fun H21 =>
 pNil x0 (
 pOffs 1 x0 fun p22 =>
 pLoad 1 false H21 p22 fun v23 =>
 pBin PP .sub T.int v19 (.int .i64 1) fun v24 =>
 pIdx 7 v23 v24 fun p25 =>
 pLoad 7 true H21 p25 fun v26 =>
 pSplice 7 [.int .i64 0, .int .i64 0, .int .i64 0, .int .i64 0, .int .i64 0, .int .u64 0, .string ⟨#[]⟩] 0 v26 fun c27 =>
 pBin PP .add T.int (l14.getD 0 undef) (.int .i64 1) fun v28 =>
 pCallF R F.strconv_Itoa [v28] H21 fun r29 H30 =>
 pBin PP .add T.string r29 (.string ⟨#[32]⟩) fun v31 =>
 pCell 1 false c27 0 fun v32 =>
 pIdx 1 r11 v32 fun p33 =>
 pLoad 1 false H30 p33 fun v34 =>
 chk (Hp.rdP H21 p33 1 false = some v34) (
 pBin PP .add T.string v31 v34 fun v35 =>
 pCallF R F.strings_Builder_WriteString [p7, v35] H30 fun r36 H37 =>
 bindO (
 pCell 1 false c27 0 fun v38 =>
 pBin PP .eql T.int v38 (.int .i64 3) fun v39 =>
 pBool v39 fun b40 => br b40
 (pCell 1 false c27 1 fun v41 =>
 pCallF R F.term_Store_Dump_1 [v41, p7] H37 fun r42 H43 =>
 pCell 1 false c27 5 fun v44 =>
 pCallF R F.bits_Text [v44] H43 fun r45 H46 =>
 pBin PP .add T.string (.string ⟨#[32]⟩) r45 fun v47 =>
 pCallF R F.strings_Builder_WriteString [p7, v47] H46 fun r48 H49 =>
 some (.next, [], H49))
 (pBin PP .eql T.int v38 (.int .i64 4) fun v50 =>
 pBool v50 fun b51 => br b51
 (pCell 1 false c27 6 fun v52 =>
 pBin PP .add T.string (.string ⟨#[32]⟩) v52 fun v53 =>
 pCallF R F.strings_Builder_WriteString [p7, v53] H37 fun r54 H55 =>
 pCell 1 false c27 1 fun v56 =>
 pCallF R F.term_Store_Dump_1 [v56, p7] H55 fun r57 H58 =>
 some (.next, [], H58))
 (some (.next, [], H37)))) fun q59 l60 H61 => onCtl q59
 (pCell 1 false c27 0 fun v63 =>
 pCallF R F.term_parts [v63] H61 fun r64 H65 =>
 bindO (loopD (s_term_Store_Dump_1 R v9 r64 p7 c27) [(.int .i64 0)] H65) fun q79 l80 H81 => onCtl q79 none
 (fun i82 => onExit i82 3 (
 pCell 1 false c27 0 fun v83 =>
 pBin PP .eql T.int v83 (.int .i64 31) fun v84 =>
 pBool v84 fun b85 => br b85
 (pCell 1 false c27 5 fun v86 =>
 pConvInt .i64 v86 fun v87 =>
 pCallF R F.term_Store_Dump_1 [v87, p7] H81 fun r88 H89 =>
 pCell 1 false c27 1 fun v90 =>
 pCallF R F.term_Store_Dump_1 [v90, p7] H89 fun r91 H92 =>
 pCallF R F.strings_Builder_WriteByte [p7, (.int .u8 10)] H92 fun r93 H94 =>
 pBin PP .add T.int (l14.getD 0 undef) (.int .i64 1) fun v95 =>
 some (.next, [v95], H94))
 (pBin PP .eql T.int v83 (.int .i64 32) fun v96 =>
 pBool v96 fun b97 => br b97
 (pBool v96 fun b98 => br b98
 (pCell 1 false c27 1 fun v99 =>
 pCallF R F.term_Store_Dump_1 [v99, p7] H81 fun r100 H101 =>
 pCallF R F.strings_Builder_WriteByte [p7, (.int .u8 10)] H101 fun r102 H103 =>
 pBin PP .add T.int (l14.getD 0 undef) (.int .i64 1) fun v104 =>
 some (.next, [v104], H103))
 (pCallF R F.strings_Builder_WriteByte [p7, (.int .u8 10)] H81 fun r105 H106 =>
 pBin PP .add T.int (l14.getD 0 undef) (.int .i64 1) fun v107 =>
 some (.next, [v107], H106)))
 (pBin PP .eql T.int v83 (.int .i64 33) fun v108 =>
 pBool v108 fun b109 => br b109
 (pCell 1 false c27 1 fun v110 =>
 pCallF R F.term_Store_Dump_1 [v110, p7] H81 fun r111 H112 =>
 pCallF R F.strings_Builder_WriteByte [p7, (.int .u8 10)] H112 fun r113 H114 =>
 pBin PP .add T.int (l14.getD 0 undef) (.int .i64 1) fun v115 =>
 some (.next, [v115], H114))
 (pCallF R F.strings_Builder_WriteByte [p7, (.int .u8 10)] H81 fun r116 H117 =>
 pBin PP .add T.int (l14.getD 0 undef) (.int .i64 1) fun v118 =>
 some (.next, [v118], H117))))) (
 onExit i82 1 (
 pBin PP .add T.int (l14.getD 0 undef) (.int .i64 1) fun v119 =>
 some (.next, [v119], H81)) (
 some (.exit i82, [(l14.getD 0 undef)], H81))))
 (some (.ret, [(l80.headD undef)], H81)))
 (fun i62 => onExit i62 1 (
 pBin PP .add T.int (l14.getD 0 undef) (.int .i64 1) fun v120 =>
 some (.next, [v120], H61)) (
 some (.exit i62, [(l14.getD 0 undef)], H61)))
 (some (.ret, [(l60.headD undef)], H61)))))
 (some (.exit 0, [(l14.getD 0 undef)], H15))
noncomputable def s_term_Store_Dump_3 (R : Handler) (x1 : Value) (v9 : Value) (v127 : Value) (p7 : Value) (l128 : List Value) (H129 : Hp) : Option Outc :=
 pBin PP .lss T.int (l128.getD 0 undef) v127 fun v130 =>
 pBool v130 fun b131 => br b131
 (pIdx 1 x1 (l128.getD 0 undef) fun p132 =>
 pLoad 1 false H129 p132 fun v133 =>
 pLook PP T.int (.int .i64 0) v9 v133 false H129 fun v134 =>
 pCallF R F.term_Store_Dump_1 [v134, p7] H129 fun r135 H136 =>
 pBin PP .add T.int (l128.getD 0 undef) (.int .i64 1) fun v137 =>
 some (.next, [v137], H136))
 (some (.exit 6, [(l128.getD 0 undef)], H129))
theorem k_term_Store_Dump (R : Handler) (x0 x1 : Value) (H0 : Hp) : m_term_Store_Dump R x0 x1 H0 =
pCallF R F.term_Store_Order [x0, x1] H0 fun r1 H2 =>
 pExtract r1 0 fun v3 =>
 pExtract r1 1 fun v4 =>
 pBin PP .neq T.api_Errno v4 (.int .i64 0) fun v5 =>
 pBool v5 fun b6 => br b6
 (some ((.tuple #[(.string ⟨#[]⟩), v4]), H2))
 (pAllocT T.strings_Builder [.pointer none, .slice none 0 0] H2 fun p7 H8 =>
 pNewMap H8 fun v9 H10 =>
 pCallF R F.term_names [] H10 fun r11 H12 =>
 pLen .sl v3 H12 fun v13 =>
 bindO (loopD (s_term_Store_Dump_2 R x0 v3 v9 v13 r11 p7) [(.int .i64 0)] H12) fun q121 l122 H123 => onCtl q121 none
 (fun i124 => onExit i124 0 (
 pCallF R F.strings_Builder_WriteString [p7, (.string ⟨#[114, 111, 111, 116, 115]⟩)] H123 fun r125 H126 =>
 pLen .sl x1 H126 fun v127 =>
 bindO (loopD (s_term_Store_Dump_3 R x1 v9 v127 p7) [(.int .i64 0)] H126) fun q138 l139 H140 => onCtl q138 none
 (fun i141 => onExit i141 6 (
 pCallF R F.strings_Builder_WriteByte [p7, (.int .u8 10)] H140 fun r142 H143 =>
 pCallF R F.strings_Builder_String [p7] H143 fun r144 H145 =>
 some ((.tuple #[r144, (.int .i64 0)]), H145)) (
 none))
 (some ((l139.headD undef), H140))) (
 none))
 (some ((l122.headD undef), H123))) := rfl
noncomputable def s_cadenceref07_Store_Dump_1 (R : Handler) (v11 : Value) (r47 : Value) (c30 : List Value) (c45 : List Value) (l49 : List Value) (H50 : Hp) : Option Outc :=
 pLen .str r47 H50 fun v51 =>
 pBin PP .lss T.int (l49.getD 2 undef) v51 fun v52 =>
 pBool v52 fun b53 => br b53
 (pAtStr r47 (l49.getD 2 undef) fun v54 =>
 pBin PP .eql T.uint8 v54 (.int .u8 112) fun v55 =>
 pBool v55 fun b56 => br b56
 (pIdxLoc 3 (l49.getD 1 undef) fun j57 =>
 pCell 1 false c45 (0 + j57 * 1) fun v58 =>
 pIdx 1 v11 v58 fun p59 =>
 pLoad 1 false H50 p59 fun v60 =>
 pCallF R F.strconv_Itoa [v60] H50 fun r61 H62 =>
 pBin PP .add T.string (.string ⟨#[32]⟩) r61 fun v63 =>
 pAppendT T.uint8 1 1 (l49.getD 0 undef) v63 H62 fun v64 H65 =>
 pBin PP .add T.int (l49.getD 1 undef) (.int .i64 1) fun v66 =>
 pBin PP .add T.int (l49.getD 2 undef) (.int .i64 1) fun v67 =>
 some (.next, [v64, v66, v67], H65))
 (pBin PP .eql T.uint8 v54 (.int .u8 110) fun v68 =>
 pBool v68 fun b69 => br b69
 (pCell 1 false c30 5 fun v70 =>
 pCallF R F.cadenceref01_Text [v70] H50 fun r71 H72 =>
 pBin PP .add T.string (.string ⟨#[32]⟩) r71 fun v73 =>
 pAppendT T.uint8 1 1 (l49.getD 0 undef) v73 H72 fun v74 H75 =>
 pBin PP .add T.int (l49.getD 2 undef) (.int .i64 1) fun v76 =>
 some (.next, [v74, (l49.getD 1 undef), v76], H75))
 (pBin PP .eql T.uint8 v54 (.int .u8 119) fun v77 =>
 pBool v77 fun b78 => br b78
 (pCell 1 false c30 1 fun v79 =>
 pCallF R F.strconv_Itoa [v79] H50 fun r80 H81 =>
 pBin PP .add T.string (.string ⟨#[32]⟩) r80 fun v82 =>
 pAppendT T.uint8 1 1 (l49.getD 0 undef) v82 H81 fun v83 H84 =>
 pBin PP .add T.int (l49.getD 2 undef) (.int .i64 1) fun v85 =>
 some (.next, [v83, (l49.getD 1 undef), v85], H84))
 (pBin PP .eql T.uint8 v54 (.int .u8 115) fun v86 =>
 pBool v86 fun b87 => br b87
 (pCell 1 false c30 6 fun v88 =>
 pBin PP .add T.string (.string ⟨#[32]⟩) v88 fun v89 =>
 pAppendT T.uint8 1 1 (l49.getD 0 undef) v89 H50 fun v90 H91 =>
 pBin PP .add T.int (l49.getD 2 undef) (.int .i64 1) fun v92 =>
 some (.next, [v90, (l49.getD 1 undef), v92], H91))
 (pBin PP .add T.int (l49.getD 2 undef) (.int .i64 1) fun v93 =>
 some (.next, [(l49.getD 0 undef), (l49.getD 1 undef), v93], H50))))))
 (some (.exit 2, [(l49.getD 0 undef), (l49.getD 1 undef), (l49.getD 2 undef)], H50))
noncomputable def s_cadenceref07_Store_Dump_2 (R : Handler) (x0 : Value) (v3 : Value) (v11 : Value) (l13 : List Value) (H14 : Hp) : Option Outc :=
 pLen .sl v3 H14 fun v15 =>
 pBin PP .lss T.int (l13.getD 1 undef) v15 fun v16 =>
 pBool v16 fun b17 => br b17
 (pIdx 1 v3 (l13.getD 1 undef) fun p18 =>
 pLoad 1 false H14 p18 fun v19 =>
 pBin PP .add T.int (l13.getD 1 undef) (.int .i64 1) fun v20 =>
 pIdx 1 v11 v19 fun p21 =>
 pStore 1 H14 p21 v20 fun H22 =>
 pNil x0 (
 pOffs 1 x0 fun p23 =>
 pLoad 1 false H22 p23 fun v24 =>
 pIdx 1 v3 (l13.getD 1 undef) fun p25 =>
 pLoad 1 false H22 p25 fun v26 =>
 pBin PP .sub T.int v26 (.int .i64 1) fun v27 =>
 pIdx 7 v24 v27 fun p28 =>
 pLoad 7 true H22 p28 fun v29 =>
 pSplice 7 [.int .i64 0, .int .i64 0, .int .i64 0, .int .i64 0, .int .i64 0, .int .u64 0, .string ⟨#[]⟩] 0 v29 fun c30 =>
 pBin PP .add T.int (l13.getD 1 undef) (.int .i64 1) fun v31 =>
 pCallF R F.strconv_Itoa [v31] H22 fun r32 H33 =>
 pBin PP .add T.string r32 (.string ⟨#[32]⟩) fun v34 =>
 pCell 1 false c30 0 fun v35 =>
 pCallF R F.cadenceref07_Word [v35] H33 fun r36 H37 =>
 pBin PP .add T.string v34 r36 fun v38 =>
 pAppendT T.uint8 1 1 (l13.getD 0 undef) v38 H37 fun v39 H40 =>
 pCell 1 false c30 2 fun v41 =>
 pCell 1 false c30 3 fun v42 =>
 pCell 1 false c30 4 fun v43 =>
 pBuild PP T.a3_int [(0, v41), (1, v42), (2, v43)] fun v44 =>
 pSplice 3 [.int .i64 0, .int .i64 0, .int .i64 0] 0 v44 fun c45 =>
 pCell 1 false c30 0 fun v46 =>
 pCallF R F.cadenceref07_fields [v46] H40 fun r47 H48 =>
 bindO (loopD (s_cadenceref07_Store_Dump_1 R v11 r47 c30 c45) [v39, (.int .i64 0), (.int .i64 0)] H48) fun q94 l95 H96 => onCtl q94 none
 (fun i97 => onExit i97 2 (
 pBuildSlice 1 [.int .u8 0] 1 [(0, (.int .u8 10))] H96 fun v98 H99 =>
 pAppendT T.uint8 1 1 (l95.getD 0 undef) v98 H99 fun v100 H101 =>
 pBin PP .add T.int (l13.getD 1 undef) (.int .i64 1) fun v102 =>
 some (.next, [v100, v102], H101)) (
 onExit i97 1 (
 pBin PP .add T.int (l13.getD 1 undef) (.int .i64 1) fun v103 =>
 some (.next, [(l95.getD 0 undef), v103], H96)) (
 some (.exit i97, [(l95.getD 0 undef), (l13.getD 1 undef)], H96))))
 (some (.ret, [(l95.headD undef)], H96))))
 (some (.exit 0, [(l13.getD 0 undef), (l13.getD 1 undef)], H14))
noncomputable def s_cadenceref07_Store_Dump_3 (R : Handler) (x1 : Value) (v11 : Value) (l110 : List Value) (H111 : Hp) : Option Outc :=
 pLen .sl x1 H111 fun v112 =>
 pBin PP .lss T.int (l110.getD 1 undef) v112 fun v113 =>
 pBool v113 fun b114 => br b114
 (pIdx 1 x1 (l110.getD 1 undef) fun p115 =>
 pLoad 1 false H111 p115 fun v116 =>
 pIdx 1 v11 v116 fun p117 =>
 pLoad 1 false H111 p117 fun v118 =>
 pCallF R F.strconv_Itoa [v118] H111 fun r119 H120 =>
 pBin PP .add T.string (.string ⟨#[32]⟩) r119 fun v121 =>
 pAppendT T.uint8 1 1 (l110.getD 0 undef) v121 H120 fun v122 H123 =>
 pBin PP .add T.int (l110.getD 1 undef) (.int .i64 1) fun v124 =>
 some (.next, [v122, v124], H123))
 (some (.exit 5, [(l110.getD 0 undef), (l110.getD 1 undef)], H111))
theorem k_cadenceref07_Store_Dump (R : Handler) (x0 x1 : Value) (H0 : Hp) : m_cadenceref07_Store_Dump R x0 x1 H0 =
pCallF R F.cadenceref07_Store_Order [x0, x1] H0 fun r1 H2 =>
 pExtract r1 0 fun v3 =>
 pExtract r1 1 fun v4 =>
 pBin PP .neq T.api_Errno v4 (.int .i64 0) fun v5 =>
 pBool v5 fun b6 => br b6
 (some ((.tuple #[(.string ⟨#[]⟩), v4]), H2))
 (pNil x0 (
 pOffs 1 x0 fun p7 =>
 pLoad 1 false H2 p7 fun v8 =>
 pLen .sl v8 H2 fun v9 =>
 pBin PP .add T.int v9 (.int .i64 1) fun v10 =>
 pMakeSlice 1 8 [.int .i64 0] v10 v10 H2 fun v11 H12 =>
 bindO (loopD (s_cadenceref07_Store_Dump_2 R x0 v3 v11) [(.slice none 0 0), (.int .i64 0)] H12) fun q104 l105 H106 => onCtl q104 none
 (fun i107 => onExit i107 0 (
 pAppendT T.uint8 1 1 (l105.getD 0 undef) (.string ⟨#[114, 111, 111, 116, 115]⟩) H106 fun v108 H109 =>
 bindO (loopD (s_cadenceref07_Store_Dump_3 R x1 v11) [v108, (.int .i64 0)] H109) fun q125 l126 H127 => onCtl q125 none
 (fun i128 => onExit i128 5 (
 pBuildSlice 1 [.int .u8 0] 1 [(0, (.int .u8 10))] H127 fun v129 H130 =>
 pAppendT T.uint8 1 1 (l126.getD 0 undef) v129 H130 fun v131 H132 =>
 pToStr v131 H132 fun v133 =>
 some ((.tuple #[v133, (.int .i64 0)]), H132)) (
 none))
 (some ((l126.headD undef), H127))) (
 none))
 (some ((l105.headD undef), H106)))) := rfl
noncomputable def s_term_Store_Order_1 (R : Handler) (x0 : Value) (x1 : Value) (v1 : Value) (l2 : List Value) (H3 : Hp) : Option Outc :=
 pBin PP .lss T.int (l2.getD 0 undef) v1 fun v4 =>
 pBool v4 fun b5 => br b5
 (pIdx 1 x1 (l2.getD 0 undef) fun p6 =>
 pLoad 1 false H3 p6 fun v7 =>
 pCallF R F.term_Store_is [x0, v7] H3 fun r8 H9 =>
 pUn .not r8 fun v10 =>
 pBool v10 fun b11 => br b11
 (some (.ret, [(.tuple #[(.slice none 0 0), (.int .i64 70)])], H9))
 (pBin PP .add T.int (l2.getD 0 undef) (.int .i64 1) fun v12 =>
 some (.next, [v12], H9)))
 (some (.exit 0, [(l2.getD 0 undef)], H3))
noncomputable def s_term_Store_Order_2 (R : Handler) (x0 : Value) (v21 : Value) (l41 : List Value) (H42 : Hp) : Option Outc :=
 pLen .sl (l41.getD 1 undef) H42 fun v43 =>
 pBin PP .gtr T.int v43 (.int .i64 0) fun v44 =>
 pBool v44 fun b45 => br b45
 (pLen .sl (l41.getD 1 undef) H42 fun v46 =>
 pBin PP .sub T.int v46 (.int .i64 1) fun v47 =>
 pIdx 2 (l41.getD 1 undef) v47 fun p48 =>
 pNil x0 (
 pOffs 1 x0 fun p49 =>
 pLoad 1 false H42 p49 fun v50 =>
 pNil p48 (
 pOffs 0 p48 fun p51 =>
 pLoad 1 false H42 p51 fun v52 =>
 pBin PP .sub T.int v52 (.int .i64 1) fun v53 =>
 pIdx 7 v50 v53 fun p54 =>
 pLoad 7 true H42 p54 fun v55 =>
 pSplice 7 [.int .i64 0, .int .i64 0, .int .i64 0, .int .i64 0, .int .i64 0, .int .u64 0, .string ⟨#[]⟩] 0 v55 fun c56 =>
 pNil p48 (
 pOffs 1 p48 fun p57 =>
 pLoad 1 false H42 p57 fun v58 =>
 pCell 1 false c56 0 fun v59 =>
 pCallF R F.term_parts [v59] H42 fun r60 H61 =>
 chk (Hp.rdP H61 p57 1 false = some v58) (
 pBin PP .eql T.int v58 r60 fun v62 =>
 pBool v62 fun b63 => br b63
 (pNil p48 (
 pOffs 0 p48 fun p64 =>
 pLoad 1 false H61 p64 fun v65 =>
 pBuildSlice 1 [.int .i64 0] 1 [(0, v65)] H61 fun v66 H67 =>
 pAppend 1 8 (l41.getD 0 undef) v66 H67 fun v68 H69 =>
 pLen .sl (l41.getD 1 undef) H69 fun v70 =>
 pBin PP .sub T.int v70 (.int .i64 1) fun v71 =>
 pSlice 2 (l41.getD 1 undef) none (some v71) fun v72 =>
 some (.next, [v68, v72], H69)))
 (pCell 1 false c56 2 fun v73 =>
 pCell 1 false c56 3 fun v74 =>
 pCell 1 false c56 4 fun v75 =>
 pBuild PP T.a3_int [(0, v73), (1, v74), (2, v75)] fun v76 =>
 pNil p48 (
 pOffs 1 p48 fun p77 =>
 pLoad 1 false H61 p77 fun v78 =>
 pAtArr 3 false 1 v76 v78 fun v79 =>
 pNil p48 (
 pOffs 1 p48 fun p80 =>
 pLoad 1 false H61 p80 fun v81 =>
 pBin PP .add T.int v81 (.int .i64 1) fun v82 =>
 pNil p48 (
 pOffs 1 p48 fun p83 =>
 pStore 1 H61 p83 v82 fun H84 =>
 pIdx 1 v21 v79 fun p85 =>
 pLoad 1 false H84 p85 fun v86 =>
 pUn .not v86 fun v87 =>
 pBool v87 fun b88 => br b88
 (pIdx 1 v21 v79 fun p89 =>
 pStore 1 H84 p89 (.bool true) fun H90 =>
 pBuild PP T.term_place [(0, v79), (1, (.int .i64 0))] fun v91 =>
 pBuildSlice 2 [.int .i64 0, .int .i64 0] 1 [(0, v91)] H90 fun v92 H93 =>
 pAppend 2 16 (l41.getD 1 undef) v92 H93 fun v94 H95 =>
 some (.next, [(l41.getD 0 undef), v94], H95))
 (some (.next, [(l41.getD 0 undef), (l41.getD 1 undef)], H84)))))))))))
 (some (.exit 4, [(l41.getD 0 undef), (l41.getD 1 undef)], H42))
noncomputable def s_term_Store_Order_3 (R : Handler) (x0 : Value) (x1 : Value) (v21 : Value) (v23 : Value) (l24 : List Value) (H25 : Hp) : Option Outc :=
 pBin PP .lss T.int (l24.getD 2 undef) v23 fun v26 =>
 pBool v26 fun b27 => br b27
 (pIdx 1 x1 (l24.getD 2 undef) fun p28 =>
 pLoad 1 false H25 p28 fun v29 =>
 pIdx 1 v21 v29 fun p30 =>
 pLoad 1 false H25 p30 fun v31 =>
 pBool v31 fun b32 => br b32
 (pBin PP .add T.int (l24.getD 2 undef) (.int .i64 1) fun v33 =>
 some (.next, [(l24.getD 0 undef), (l24.getD 1 undef), v33], H25))
 (pIdx 1 v21 v29 fun p34 =>
 pStore 1 H25 p34 (.bool true) fun H35 =>
 pBuild PP T.term_place [(0, v29), (1, (.int .i64 0))] fun v36 =>
 pBuildSlice 2 [.int .i64 0, .int .i64 0] 1 [(0, v36)] H35 fun v37 H38 =>
 pAppend 2 16 (l24.getD 1 undef) v37 H38 fun v39 H40 =>
 bindO (loopD (s_term_Store_Order_2 R x0 v21) [(l24.getD 0 undef), v39] H40) fun q96 l97 H98 => onCtl q96 none
 (fun i99 => onExit i99 4 (
 pBin PP .add T.int (l24.getD 2 undef) (.int .i64 1) fun v100 =>
 some (.next, [(l97.getD 0 undef), (l97.getD 1 undef), v100], H98)) (
 onExit i99 3 (
 pBin PP .add T.int (l24.getD 2 undef) (.int .i64 1) fun v101 =>
 some (.next, [(l97.getD 0 undef), (l97.getD 1 undef), v101], H98)) (
 some (.exit i99, [(l97.getD 0 undef), (l97.getD 1 undef), (l24.getD 2 undef)], H98))))
 (some (.ret, [(l97.headD undef)], H98))))
 (some (.exit 2, [(l24.getD 0 undef), (l24.getD 1 undef), (l24.getD 2 undef)], H25))
theorem k_term_Store_Order (R : Handler) (x0 x1 : Value) (H0 : Hp) : m_term_Store_Order R x0 x1 H0 =
pLen .sl x1 H0 fun v1 =>
 bindO (loopD (s_term_Store_Order_1 R x0 x1 v1) [(.int .i64 0)] H0) fun q13 l14 H15 => onCtl q13 none
 (fun i16 => onExit i16 0 (
 pNil x0 (
 pOffs 1 x0 fun p17 =>
 pLoad 1 false H15 p17 fun v18 =>
 pLen .sl v18 H15 fun v19 =>
 pBin PP .add T.int v19 (.int .i64 1) fun v20 =>
 pMakeSlice 1 1 [.bool false] v20 v20 H15 fun v21 H22 =>
 pLen .sl x1 H22 fun v23 =>
 bindO (loopD (s_term_Store_Order_3 R x0 x1 v21 v23) [(.slice none 0 0), (.slice none 0 0), (.int .i64 0)] H22) fun q102 l103 H104 => onCtl q102 none
 (fun i105 => onExit i105 2 (
 some ((.tuple #[(l103.getD 0 undef), (.int .i64 0)]), H104)) (
 none))
 (some ((l103.headD undef), H104)))) (
 none))
 (some ((l14.headD undef), H15)) := rfl
noncomputable def s_cadenceref07_Store_Order_1 (R : Handler) (x0 : Value) (x1 : Value) (l1 : List Value) (H2 : Hp) : Option Outc :=
 pLen .sl x1 H2 fun v3 =>
 pBin PP .lss T.int (l1.getD 0 undef) v3 fun v4 =>
 pBool v4 fun b5 => br b5
 (pIdx 1 x1 (l1.getD 0 undef) fun p6 =>
 pLoad 1 false H2 p6 fun v7 =>
 pCallF R F.cadenceref07_Store_is [x0, v7] H2 fun r8 H9 =>
 pUn .not r8 fun v10 =>
 pBool v10 fun b11 => br b11
 (some (.ret, [(.tuple #[(.slice none 0 0), (.int .i64 70)])], H9))
 (pBin PP .add T.int (l1.getD 0 undef) (.int .i64 1) fun v12 =>
 some (.next, [v12], H9)))
 (some (.exit 0, [(l1.getD 0 undef)], H2))
noncomputable def s_cadenceref07_Store_Order_2 (R : Handler) (v21 : Value) (c51 : List Value) (l52 : List Value) (H53 : Hp) : Option Outc :=
 pBin PP .geq T.int (l52.getD 1 undef) (.int .i64 0) fun v54 =>
 pBool v54 fun b55 => br b55
 (pIdxLoc 3 (l52.getD 1 undef) fun j56 =>
 pCell 1 false c51 (0 + j56 * 1) fun v57 =>
 pBin PP .gtr T.int v57 (.int .i64 0) fun v58 =>
 pBool v58 fun b59 => br b59
 (pIdxLoc 3 (l52.getD 1 undef) fun j60 =>
 pCell 1 false c51 (0 + j60 * 1) fun v61 =>
 pIdx 1 v21 v61 fun p62 =>
 pLoad 1 false H53 p62 fun v63 =>
 pUn .not v63 fun v64 =>
 pBool v64 fun b65 => br b65
 (pIdxLoc 3 (l52.getD 1 undef) fun j66 =>
 pCell 1 false c51 (0 + j66 * 1) fun v67 =>
 pBin PP .sub T.int (l52.getD 1 undef) (.int .i64 1) fun v68 =>
 some (.next, [v67, v68], H53))
 (pBin PP .sub T.int (l52.getD 1 undef) (.int .i64 1) fun v69 =>
 some (.next, [(l52.getD 0 undef), v69], H53)))
 (pBin PP .sub T.int (l52.getD 1 undef) (.int .i64 1) fun v70 =>
 some (.next, [(l52.getD 0 undef), v70], H53)))
 (some (.exit 6, [(l52.getD 0 undef), (l52.getD 1 undef)], H53))
noncomputable def s_cadenceref07_Store_Order_3 (R : Handler) (x0 : Value) (v21 : Value) (l32 : List Value) (H33 : Hp) : Option Outc :=
 pLen .sl (l32.getD 1 undef) H33 fun v34 =>
 pBin PP .gtr T.int v34 (.int .i64 0) fun v35 =>
 pBool v35 fun b36 => br b36
 (pLen .sl (l32.getD 1 undef) H33 fun v37 =>
 pBin PP .sub T.int v37 (.int .i64 1) fun v38 =>
 pIdx 1 (l32.getD 1 undef) v38 fun p39 =>
 pLoad 1 false H33 p39 fun v40 =>
 pNil x0 (
 pOffs 1 x0 fun p41 =>
 pLoad 1 false H33 p41 fun v42 =>
 pBin PP .sub T.int v40 (.int .i64 1) fun v43 =>
 pIdx 7 v42 v43 fun p44 =>
 pLoad 7 true H33 p44 fun v45 =>
 pSplice 7 [.int .i64 0, .int .i64 0, .int .i64 0, .int .i64 0, .int .i64 0, .int .u64 0, .string ⟨#[]⟩] 0 v45 fun c46 =>
 pCell 1 false c46 2 fun v47 =>
 pCell 1 false c46 3 fun v48 =>
 pCell 1 false c46 4 fun v49 =>
 pBuild PP T.a3_int [(0, v47), (1, v48), (2, v49)] fun v50 =>
 pSplice 3 [.int .i64 0, .int .i64 0, .int .i64 0] 0 v50 fun c51 =>
 bindO (loopD (s_cadenceref07_Store_Order_2 R v21 c51) [(.int .i64 0), (.int .i64 2)] H33) fun q71 l72 H73 => onCtl q71 none
 (fun i74 => onExit i74 6 (
 pBin PP .gtr T.int (l72.getD 0 undef) (.int .i64 0) fun v75 =>
 pBool v75 fun b76 => br b76
 (pIdx 1 v21 v40 fun p77 =>
 pLoad 1 false H73 p77 fun v78 =>
 pUn .not v78 fun v79 =>
 pBool v79 fun b80 => br b80
 (pBuildSlice 1 [.int .i64 0] 1 [(0, (l72.getD 0 undef))] H73 fun v81 H82 =>
 pAppend 1 8 (l32.getD 1 undef) v81 H82 fun v83 H84 =>
 some (.next, [(l32.getD 0 undef), v83], H84))
 (pIdx 1 v21 v40 fun p85 =>
 pLoad 1 false H73 p85 fun v86 =>
 pUn .not v86 fun v87 =>
 pBool v87 fun b88 => br b88
 (pIdx 1 v21 v40 fun p89 =>
 pStore 1 H73 p89 (.bool true) fun H90 =>
 pBuildSlice 1 [.int .i64 0] 1 [(0, v40)] H90 fun v91 H92 =>
 pAppend 1 8 (l32.getD 0 undef) v91 H92 fun v93 H94 =>
 pLen .sl (l32.getD 1 undef) H94 fun v95 =>
 pBin PP .sub T.int v95 (.int .i64 1) fun v96 =>
 pSlice 1 (l32.getD 1 undef) none (some v96) fun v97 =>
 some (.next, [v93, v97], H94))
 (pLen .sl (l32.getD 1 undef) H73 fun v98 =>
 pBin PP .sub T.int v98 (.int .i64 1) fun v99 =>
 pSlice 1 (l32.getD 1 undef) none (some v99) fun v100 =>
 some (.next, [(l32.getD 0 undef), v100], H73))))
 (pIdx 1 v21 v40 fun p101 =>
 pLoad 1 false H73 p101 fun v102 =>
 pUn .not v102 fun v103 =>
 pBool v103 fun b104 => br b104
 (pIdx 1 v21 v40 fun p105 =>
 pStore 1 H73 p105 (.bool true) fun H106 =>
 pBuildSlice 1 [.int .i64 0] 1 [(0, v40)] H106 fun v107 H108 =>
 pAppend 1 8 (l32.getD 0 undef) v107 H108 fun v109 H110 =>
 pLen .sl (l32.getD 1 undef) H110 fun v111 =>
 pBin PP .sub T.int v111 (.int .i64 1) fun v112 =>
 pSlice 1 (l32.getD 1 undef) none (some v112) fun v113 =>
 some (.next, [v109, v113], H110))
 (pLen .sl (l32.getD 1 undef) H73 fun v114 =>
 pBin PP .sub T.int v114 (.int .i64 1) fun v115 =>
 pSlice 1 (l32.getD 1 undef) none (some v115) fun v116 =>
 some (.next, [(l32.getD 0 undef), v116], H73)))) (
 onExit i74 5 (
 some (.next, [(l32.getD 0 undef), (l32.getD 1 undef)], H73)) (
 some (.exit i74, [(l32.getD 0 undef), (l32.getD 1 undef)], H73))))
 (some (.ret, [(l72.headD undef)], H73))))
 (some (.exit 4, [(l32.getD 0 undef), (l32.getD 1 undef)], H33))
noncomputable def s_cadenceref07_Store_Order_4 (R : Handler) (x0 : Value) (x1 : Value) (v21 : Value) (l23 : List Value) (H24 : Hp) : Option Outc :=
 pLen .sl x1 H24 fun v25 =>
 pBin PP .lss T.int (l23.getD 1 undef) v25 fun v26 =>
 pBool v26 fun b27 => br b27
 (pIdx 1 x1 (l23.getD 1 undef) fun p28 =>
 pLoad 1 false H24 p28 fun v29 =>
 pBuildSlice 1 [.int .i64 0] 1 [(0, v29)] H24 fun v30 H31 =>
 bindO (loopD (s_cadenceref07_Store_Order_3 R x0 v21) [(l23.getD 0 undef), v30] H31) fun q117 l118 H119 => onCtl q117 none
 (fun i120 => onExit i120 4 (
 pBin PP .add T.int (l23.getD 1 undef) (.int .i64 1) fun v121 =>
 some (.next, [(l118.getD 0 undef), v121], H119)) (
 onExit i120 3 (
 pBin PP .add T.int (l23.getD 1 undef) (.int .i64 1) fun v122 =>
 some (.next, [(l118.getD 0 undef), v122], H119)) (
 some (.exit i120, [(l118.getD 0 undef), (l23.getD 1 undef)], H119))))
 (some (.ret, [(l118.headD undef)], H119)))
 (some (.exit 2, [(l23.getD 0 undef), (l23.getD 1 undef)], H24))
theorem k_cadenceref07_Store_Order (R : Handler) (x0 x1 : Value) (H0 : Hp) : m_cadenceref07_Store_Order R x0 x1 H0 =
bindO (loopD (s_cadenceref07_Store_Order_1 R x0 x1) [(.int .i64 0)] H0) fun q13 l14 H15 => onCtl q13 none
 (fun i16 => onExit i16 0 (
 pNil x0 (
 pOffs 1 x0 fun p17 =>
 pLoad 1 false H15 p17 fun v18 =>
 pLen .sl v18 H15 fun v19 =>
 pBin PP .add T.int v19 (.int .i64 1) fun v20 =>
 pMakeSlice 1 1 [.bool false] v20 v20 H15 fun v21 H22 =>
 bindO (loopD (s_cadenceref07_Store_Order_4 R x0 x1 v21) [(.slice none 0 0), (.int .i64 0)] H22) fun q123 l124 H125 => onCtl q123 none
 (fun i126 => onExit i126 2 (
 some ((.tuple #[(l124.getD 0 undef), (.int .i64 0)]), H125)) (
 none))
 (some ((l124.headD undef), H125)))) (
 none))
 (some ((l14.headD undef), H15)) := rfl
noncomputable def s_cadenceref01_Text_1 (R : Handler) (l4 : List Value) (l7 : List Value) (H8 : Hp) : Option Outc :=
 pBin PP .rem T.uint64 (l7.getD 0 undef) (l4.getD 0 undef) fun v9 =>
 pBin PP .add T.uint64 v9 (.int .u64 1) fun v10 =>
 pSliceS (.string ⟨#[48, 49, 50, 51, 52, 53, 54, 55, 56, 57, 97, 98, 99, 100, 101, 102]⟩) (some v9) (some v10) fun v11 =>
 pBin PP .add T.string v11 (l7.getD 1 undef) fun v12 =>
 pBin PP .quo T.uint64 (l7.getD 0 undef) (l4.getD 0 undef) fun v13 =>
 pBin PP .eql T.uint64 v13 (.int .u64 0) fun v14 =>
 pBool v14 fun b15 => br b15
 (pBin PP .add T.string (l4.getD 1 undef) v12 fun v16 =>
 some (.ret, [v16], H8))
 (some (.next, [v13, v12], H8))
theorem k_cadenceref01_Text (R : Handler) (x0 : Value) (H0 : Hp) : m_cadenceref01_Text R x0 H0 =
bindO (
 pBin PP .geq T.uint64 x0 (.int .u64 1000) fun v1 =>
 pBool v1 fun b2 => br b2
 (some (.next, [(.int .u64 16), (.string ⟨#[48, 120]⟩)], H0))
 (some (.next, [(.int .u64 10), (.string ⟨#[]⟩)], H0))) fun q3 l4 H5 => onCtl q3
 (bindO (loopD (s_cadenceref01_Text_1 R l4) [x0, (.string ⟨#[]⟩)] H5) fun q17 l18 H19 => onCtl q17 none
 (fun i20 => onExit i20 0 (
 none) (
 none))
 (some ((l18.headD undef), H19)))
 (fun i6 => none)
 (some ((l4.headD undef), H5)) := rfl
noncomputable def s_term_Store_Make_1 (R : Handler) (x0 : Value) (x1 : Value) (v24 : Value) (l25 : List Value) (H26 : Hp) : Option Outc :=
 pBin PP .lss T.int (l25.getD 0 undef) (.int .i64 3) fun v27 =>
 pBool v27 fun b28 => br b28
 (pAtArr 3 false 1 v24 (l25.getD 0 undef) fun v29 =>
 pCell 1 false (cellsL x1) 0 fun v30 =>
 pCallF R F.term_parts [v30] H26 fun r31 H32 =>
 pBin PP .lss T.int (l25.getD 0 undef) r31 fun v33 =>
 pBool v33 fun b34 => br b34
 (pCallF R F.term_Store_is [x0, v29] H32 fun r35 H36 =>
 pUn .not r35 fun v37 =>
 pBool v37 fun b38 => br b38
 (some (.ret, [(.tuple #[(.int .i64 0), (.int .i64 70)])], H36))
 (pBin PP .add T.int (l25.getD 0 undef) (.int .i64 1) fun v39 =>
 some (.next, [v39], H36)))
 (pBin PP .add T.int (l25.getD 0 undef) (.int .i64 1) fun v40 =>
 some (.next, [v40], H32)))
 (some (.exit 0, [(l25.getD 0 undef)], H26))
theorem k_term_Store_Make (R : Handler) (x0 x1 : Value) (H0 : Hp) : m_term_Store_Make R x0 x1 H0 =
bindO (
 pCell 1 false (cellsL x1) 0 fun v1 =>
 pBin PP .lss T.int v1 (.int .i64 1) fun v2 =>
 pBool v2 fun b3 => br b3
 (some (.ret, [(.tuple #[(.int .i64 0), (.int .i64 73)])], H0))
 (pCell 1 false (cellsL x1) 0 fun v4 =>
 pBin PP .gtr T.int v4 (.int .i64 33) fun v5 =>
 pBool v5 fun b6 => br b6
 (some (.ret, [(.tuple #[(.int .i64 0), (.int .i64 73)])], H0))
 (some (.next, [], H0)))) fun q7 l8 H9 => onCtl q7
 (bindO (
 pCell 1 false (cellsL x1) 1 fun v11 =>
 pBin PP .lss T.int v11 (.int .i64 0) fun v12 =>
 pBool v12 fun b13 => br b13
 (some (.ret, [(.tuple #[(.int .i64 0), (.int .i64 5)])], H9))
 (pCell 1 false (cellsL x1) 1 fun v14 =>
 pBin PP .gtr T.int v14 (.int .i64 64) fun v15 =>
 pBool v15 fun b16 => br b16
 (some (.ret, [(.tuple #[(.int .i64 0), (.int .i64 5)])], H9))
 (some (.next, [], H9)))) fun q17 l18 H19 => onCtl q17
 (pCell 1 false (cellsL x1) 2 fun v21 =>
 pCell 1 false (cellsL x1) 3 fun v22 =>
 pCell 1 false (cellsL x1) 4 fun v23 =>
 pBuild PP T.a3_int [(0, v21), (1, v22), (2, v23)] fun v24 =>
 bindO (loopD (s_term_Store_Make_1 R x0 x1 v24) [(.int .i64 0)] H19) fun q41 l42 H43 => onCtl q41 none
 (fun i44 => onExit i44 0 (
 pCell 7 true (cellsL x1) 0 fun v45 =>
 pCallF R F.term_spare [v45] H43 fun r46 H47 =>
 pBool r46 fun b48 => br b48
 (some ((.tuple #[(.int .i64 0), (.int .i64 1)]), H47))
 (pCell 7 true (cellsL x1) 0 fun v49 =>
 pCallF R F.term_Store_sorted [x0, v49] H47 fun r50 H51 =>
 pUn .not r50 fun v52 =>
 pBool v52 fun b53 => br b53
 (some ((.tuple #[(.int .i64 0), (.int .i64 71)]), H51))
 (pCell 7 true (cellsL x1) 0 fun v54 =>
 pCallF R F.term_Store_wide [x0, v54] H51 fun r55 H56 =>
 pUn .not r55 fun v57 =>
 pBool v57 fun b58 => br b58
 (some ((.tuple #[(.int .i64 0), (.int .i64 5)]), H56))
 (bindO (
 pCell 1 false (cellsL x1) 0 fun v59 =>
 pBin PP .eql T.int v59 (.int .i64 4) fun v60 =>
 pBool v60 fun b61 => br b61
 (pNil x0 (
 pOffs 3 x0 fun p62 =>
 pLoad 1 false H56 p62 fun v63 =>
 pCell 1 false (cellsL x1) 6 fun v64 =>
 pLook PP T.string (.int .i64 0) v63 v64 true H56 fun v65 =>
 pExtract v65 0 fun v66 =>
 pExtract v65 1 fun v67 =>
 pCell 1 false (cellsL x1) 6 fun v68 =>
 pCallF R F.bits_Name [v68] H56 fun r69 H70 =>
 pUn .not r69 fun v71 =>
 pBool v71 fun b72 => br b72
 (some (.ret, [(.tuple #[(.int .i64 0), (.int .i64 72)])], H70))
 (pBool v67 fun b73 => br b73
 (pCell 1 false (cellsL x1) 1 fun v74 =>
 pBin PP .neq T.int v66 v74 fun v75 =>
 pBool v75 fun b76 => br b76
 (some (.ret, [(.tuple #[(.int .i64 0), (.int .i64 72)])], H70))
 (some (.next, [], H70)))
 (some (.next, [], H70)))))
 (some (.next, [], H56))) fun q77 l78 H79 => onCtl q77
 (pNil x0 (
 pOffs 2 x0 fun p81 =>
 pLoad 1 false H79 p81 fun v82 =>
 pCell 7 true (cellsL x1) 0 fun v83 =>
 pLook PP T.api_Node (.int .i64 0) v82 v83 true H79 fun v84 =>
 pExtract v84 0 fun v85 =>
 pExtract v84 1 fun v86 =>
 pBool v86 fun b87 => br b87
 (some ((.tuple #[v85, (.int .i64 0)]), H79))
 (bindO (
 pNil x0 (
 pOffs 0 x0 fun p88 =>
 pLoad 1 false H79 p88 fun v89 =>
 pBin PP .gtr T.int v89 (.int .i64 0) fun v90 =>
 pBool v90 fun b91 => br b91
 (pNil x0 (
 pOffs 1 x0 fun p92 =>
 pLoad 1 false H79 p92 fun v93 =>
 pLen .sl v93 H79 fun v94 =>
 pNil x0 (
 pOffs 0 x0 fun p95 =>
 pLoad 1 false H79 p95 fun v96 =>
 pBin PP .geq T.int v94 v96 fun v97 =>
 pBool v97 fun b98 => br b98
 (some (.ret, [(.tuple #[(.int .i64 0), (.int .i64 4)])], H79))
 (some (.next, [], H79)))))
 (some (.next, [], H79)))) fun q99 l100 H101 => onCtl q99
 (pNil x0 (
 pOffs 1 x0 fun p103 =>
 pLoad 1 false H101 p103 fun v104 =>
 pCell 7 true (cellsL x1) 0 fun v105 =>
 pBuildSlice 7 [.int .i64 0, .int .i64 0, .int .i64 0, .int .i64 0, .int .i64 0, .int .u64 0, .string ⟨#[]⟩] 1 [(0, v105)] H101 fun v106 H107 =>
 chk (Hp.rdP H107 p103 1 false = some v104) (
 pAppend 7 64 v104 v106 H107 fun v108 H109 =>
 pNil x0 (
 pOffs 1 x0 fun p110 =>
 pStore 1 H109 p110 v108 fun H111 =>
 pNil x0 (
 pOffs 2 x0 fun p112 =>
 pLoad 1 false H111 p112 fun v113 =>
 pCell 7 true (cellsL x1) 0 fun v114 =>
 pNil x0 (
 pOffs 1 x0 fun p115 =>
 pLoad 1 false H111 p115 fun v116 =>
 pLen .sl v116 H111 fun v117 =>
 pUpd PP T.api_Node v113 v114 v117 H111 fun H118 =>
 pCell 1 false (cellsL x1) 0 fun v119 =>
 pBin PP .eql T.int v119 (.int .i64 4) fun v120 =>
 pBool v120 fun b121 => br b121
 (pNil x0 (
 pOffs 3 x0 fun p122 =>
 pLoad 1 false H118 p122 fun v123 =>
 pCell 1 false (cellsL x1) 6 fun v124 =>
 pCell 1 false (cellsL x1) 1 fun v125 =>
 pUpd PP T.string v123 v124 v125 H118 fun H126 =>
 pNil x0 (
 pOffs 1 x0 fun p127 =>
 pLoad 1 false H126 p127 fun v128 =>
 pLen .sl v128 H126 fun v129 =>
 some ((.tuple #[v129, (.int .i64 0)]), H126))))
 (pNil x0 (
 pOffs 1 x0 fun p130 =>
 pLoad 1 false H118 p130 fun v131 =>
 pLen .sl v131 H118 fun v132 =>
 some ((.tuple #[v132, (.int .i64 0)]), H118)))))))))
 (fun i102 => none)
 (some ((l100.headD undef), H101)))))
 (fun i80 => none)
 (some ((l78.headD undef), H79)))))) (
 none))
 (some ((l42.headD undef), H43)))
 (fun i20 => none)
 (some ((l18.headD undef), H19)))
 (fun i10 => none)
 (some ((l8.headD undef), H9)) := rfl
noncomputable def s_strings_Fields_1 (R : Handler) (x0 : Value) (l1 : List Value) (H2 : Hp) : Option Outc :=
 pLen .str x0 H2 fun v3 =>
 pBin PP .lss T.int (l1.getD 3 undef) v3 fun v4 =>
 pBool v4 fun b5 => br b5
 (pAtStr x0 (l1.getD 3 undef) fun v6 =>
 pBin PP .or T.uint8 (l1.getD 2 undef) v6 fun v7 =>
 pIdxArr 256 1 (.pointer (some ⟨G.strings_asciiSpace, 0, none⟩)) v6 fun p8 =>
 pLoad 1 false H2 p8 fun v9 =>
 pConvInt .i64 v9 fun v10 =>
 pUn .xor v10 fun v11 =>
 pBin PP .and T.int (l1.getD 1 undef) v11 fun v12 =>
 pBin PP .add T.int (l1.getD 0 undef) v12 fun v13 =>
 pBin PP .add T.int (l1.getD 3 undef) (.int .i64 1) fun v14 =>
 some (.next, [v13, v10, v7, v14], H2))
 (some (.exit 0, [(l1.getD 0 undef), (l1.getD 1 undef), (l1.getD 2 undef), (l1.getD 3 undef)], H2))
noncomputable def s_strings_Fields_2 (R : Handler) (x0 : Value) (l25 : List Value) (H26 : Hp) : Option Outc :=
 pLen .str x0 H26 fun v27 =>
 pBin PP .lss T.int (l25.getD 0 undef) v27 fun v28 =>
 pBool v28 fun b29 => br b29
 (pAtStr x0 (l25.getD 0 undef) fun v30 =>
 pIdxArr 256 1 (.pointer (some ⟨G.strings_asciiSpace, 0, none⟩)) v30 fun p31 =>
 pLoad 1 false H26 p31 fun v32 =>
 pBin PP .neq T.uint8 v32 (.int .u8 0) fun v33 =>
 pBool v33 fun b34 => br b34
 (pBin PP .add T.int (l25.getD 0 undef) (.int .i64 1) fun v35 =>
 some (.next, [v35], H26))
 (some (.exit 2, [(l25.getD 0 undef)], H26)))
 (some (.exit 2, [(l25.getD 0 undef)], H26))
noncomputable def s_strings_Fields_3 (R : Handler) (x0 : Value) (l56 : List Value) (H57 : Hp) : Option Outc :=
 pLen .str x0 H57 fun v58 =>
 pBin PP .lss T.int (l56.getD 0 undef) v58 fun v59 =>
 pBool v59 fun b60 => br b60
 (pAtStr x0 (l56.getD 0 undef) fun v61 =>
 pIdxArr 256 1 (.pointer (some ⟨G.strings_asciiSpace, 0, none⟩)) v61 fun p62 =>
 pLoad 1 false H57 p62 fun v63 =>
 pBin PP .neq T.uint8 v63 (.int .u8 0) fun v64 =>
 pBool v64 fun b65 => br b65
 (pBin PP .add T.int (l56.getD 0 undef) (.int .i64 1) fun v66 =>
 some (.next, [v66], H57))
 (some (.exit 6, [(l56.getD 0 undef)], H57)))
 (some (.exit 6, [(l56.getD 0 undef)], H57))
noncomputable def s_strings_Fields_4 (R : Handler) (x0 : Value) (v23 : Value) (l40 : List Value) (H41 : Hp) : Option Outc :=
 pLen .str x0 H41 fun v42 =>
 pBin PP .lss T.int (l40.getD 2 undef) v42 fun v43 =>
 pBool v43 fun b44 => br b44
 (pAtStr x0 (l40.getD 2 undef) fun v45 =>
 pIdxArr 256 1 (.pointer (some ⟨G.strings_asciiSpace, 0, none⟩)) v45 fun p46 =>
 pLoad 1 false H41 p46 fun v47 =>
 pBin PP .eql T.uint8 v47 (.int .u8 0) fun v48 =>
 pBool v48 fun b49 => br b49
 (pBin PP .add T.int (l40.getD 2 undef) (.int .i64 1) fun v50 =>
 some (.next, [(l40.getD 0 undef), (l40.getD 1 undef), v50], H41))
 (pSliceS x0 (some (l40.getD 1 undef)) (some (l40.getD 2 undef)) fun v51 =>
 pIdx 1 v23 (l40.getD 0 undef) fun p52 =>
 pStore 1 H41 p52 v51 fun H53 =>
 pBin PP .add T.int (l40.getD 0 undef) (.int .i64 1) fun v54 =>
 pBin PP .add T.int (l40.getD 2 undef) (.int .i64 1) fun v55 =>
 bindO (loopD (s_strings_Fields_3 R x0) [v55] H53) fun q67 l68 H69 => onCtl q67 none
 (fun i70 => onExit i70 6 (
 some (.next, [v54, (l68.getD 0 undef), (l68.getD 0 undef)], H69)) (
 onExit i70 5 (
 some (.next, [v54, (l40.getD 1 undef), (l68.getD 0 undef)], H69)) (
 some (.exit i70, [v54, (l40.getD 1 undef), (l68.getD 0 undef)], H69))))
 (some (.ret, [(l68.headD undef)], H69))))
 (some (.exit 4, [(l40.getD 0 undef), (l40.getD 1 undef), (l40.getD 2 undef)], H41))
theorem k_strings_Fields (R : Handler) (x0 : Value) (H0 : Hp) : m_strings_Fields R x0 H0 =
bindO (loopD (s_strings_Fields_1 R x0) [(.int .i64 0), (.int .i64 1), (.int .u8 0), (.int .i64 0)] H0) fun q15 l16 H17 => onCtl q15 none
 (fun i18 => onExit i18 0 (
 pBin PP .geq T.uint8 (l16.getD 2 undef) (.int .u8 128) fun v19 =>
 pBool v19 fun b20 => br b20
 (pCallF R F.strings_FieldsFunc [x0, (.func (.func F.unicode_IsSpace) #[] #[])] H17 fun r21 H22 =>
 some (r21, H22))
 (pMakeSlice 1 16 [.string ⟨#[]⟩] (l16.getD 0 undef) (l16.getD 0 undef) H17 fun v23 H24 =>
 bindO (loopD (s_strings_Fields_2 R x0) [(.int .i64 0)] H24) fun q36 l37 H38 => onCtl q36 none
 (fun i39 => onExit i39 2 (
 bindO (loopD (s_strings_Fields_4 R x0 v23) [(.int .i64 0), (l37.getD 0 undef), (l37.getD 0 undef)] H38) fun q71 l72 H73 => onCtl q71 none
 (fun i74 => onExit i74 4 (
 pLen .str x0 H73 fun v75 =>
 pBin PP .lss T.int (l72.getD 1 undef) v75 fun v76 =>
 pBool v76 fun b77 => br b77
 (pSliceS x0 (some (l72.getD 1 undef)) none fun v78 =>
 pIdx 1 v23 (l72.getD 0 undef) fun p79 =>
 pStore 1 H73 p79 v78 fun H80 =>
 some (v23, H80))
 (some (v23, H73))) (
 none))
 (some ((l72.headD undef), H73))) (
 none))
 (some ((l37.headD undef), H38)))) (
 none))
 (some ((l16.headD undef), H17)) := rfl
noncomputable def s_bits_Name_1 (R : Handler) (l12 : List Value) (H13 : Hp) : Option Outc :=
 br (Nat.blt (posOf ((l12.drop 0).getD 0 undef)) (strOf ((l12.drop 0).getD 0 undef)).size)
 (bindO (
 pBin PP .geq T.int32 (.int .i32 (Utf8.decode (strOf ((l12.drop 0).getD 0 undef)) (posOf ((l12.drop 0).getD 0 undef))).1) (.int .i32 97) fun v14 =>
 pBool v14 fun b15 => br b15
 (pBin PP .leq T.int32 (.int .i32 (Utf8.decode (strOf ((l12.drop 0).getD 0 undef)) (posOf ((l12.drop 0).getD 0 undef))).1) (.int .i32 122) fun v16 =>
 pBool v16 fun b17 => br b17
 (some (.next, [(.bool true)], H13))
 (pBin PP .geq T.int32 (.int .i32 (Utf8.decode (strOf ((l12.drop 0).getD 0 undef)) (posOf ((l12.drop 0).getD 0 undef))).1) (.int .i32 65) fun v18 =>
 pBool v18 fun b19 => br b19
 (pBin PP .leq T.int32 (.int .i32 (Utf8.decode (strOf ((l12.drop 0).getD 0 undef)) (posOf ((l12.drop 0).getD 0 undef))).1) (.int .i32 90) fun v20 =>
 pBool v20 fun b21 => br b21
 (some (.next, [(.bool true)], H13))
 (pBin PP .eql T.int32 (.int .i32 (Utf8.decode (strOf ((l12.drop 0).getD 0 undef)) (posOf ((l12.drop 0).getD 0 undef))).1) (.int .i32 95) fun v22 =>
 some (.next, [v22], H13)))
 (pBin PP .eql T.int32 (.int .i32 (Utf8.decode (strOf ((l12.drop 0).getD 0 undef)) (posOf ((l12.drop 0).getD 0 undef))).1) (.int .i32 95) fun v23 =>
 some (.next, [v23], H13))))
 (pBin PP .geq T.int32 (.int .i32 (Utf8.decode (strOf ((l12.drop 0).getD 0 undef)) (posOf ((l12.drop 0).getD 0 undef))).1) (.int .i32 65) fun v24 =>
 pBool v24 fun b25 => br b25
 (pBin PP .leq T.int32 (.int .i32 (Utf8.decode (strOf ((l12.drop 0).getD 0 undef)) (posOf ((l12.drop 0).getD 0 undef))).1) (.int .i32 90) fun v26 =>
 pBool v26 fun b27 => br b27
 (some (.next, [(.bool true)], H13))
 (pBin PP .eql T.int32 (.int .i32 (Utf8.decode (strOf ((l12.drop 0).getD 0 undef)) (posOf ((l12.drop 0).getD 0 undef))).1) (.int .i32 95) fun v28 =>
 some (.next, [v28], H13)))
 (pBin PP .eql T.int32 (.int .i32 (Utf8.decode (strOf ((l12.drop 0).getD 0 undef)) (posOf ((l12.drop 0).getD 0 undef))).1) (.int .i32 95) fun v29 =>
 some (.next, [v29], H13)))) fun q30 l31 H32 => onCtl q30
 (pUn .not (l31.getD 0 undef) fun v34 =>
 pBool v34 fun b35 => br b35
 (pBin PP .eql T.int (.int .i64 ((posOf ((l12.drop 0).getD 0 undef)) : Nat)) (.int .i64 0) fun v36 =>
 pBool v36 fun b37 => br b37
 (some (.ret, [(.bool false)], H32))
 (pBin PP .lss T.int32 (.int .i32 (Utf8.decode (strOf ((l12.drop 0).getD 0 undef)) (posOf ((l12.drop 0).getD 0 undef))).1) (.int .i32 48) fun v38 =>
 pBool v38 fun b39 => br b39
 (some (.ret, [(.bool false)], H32))
 (pBin PP .gtr T.int32 (.int .i32 (Utf8.decode (strOf ((l12.drop 0).getD 0 undef)) (posOf ((l12.drop 0).getD 0 undef))).1) (.int .i32 57) fun v40 =>
 pBool v40 fun b41 => br b41
 (some (.ret, [(.bool false)], H32))
 (some (.next, [(.tuple #[.string (strOf ((l12.drop 0).getD 0 undef)), .int .i64 (((posOf ((l12.drop 0).getD 0 undef)) + (Utf8.decode (strOf ((l12.drop 0).getD 0 undef)) (posOf ((l12.drop 0).getD 0 undef))).2) : Nat)])], H32)))))
 (some (.next, [(.tuple #[.string (strOf ((l12.drop 0).getD 0 undef)), .int .i64 (((posOf ((l12.drop 0).getD 0 undef)) + (Utf8.decode (strOf ((l12.drop 0).getD 0 undef)) (posOf ((l12.drop 0).getD 0 undef))).2) : Nat)])], H32)))
 (fun i33 => onExit i33 1 (
 some (.next, [(.tuple #[.string (strOf ((l12.drop 0).getD 0 undef)), .int .i64 (((posOf ((l12.drop 0).getD 0 undef)) + (Utf8.decode (strOf ((l12.drop 0).getD 0 undef)) (posOf ((l12.drop 0).getD 0 undef))).2) : Nat)])], H32)) (
 some (.exit i33, [(.tuple #[.string (strOf ((l12.drop 0).getD 0 undef)), .int .i64 (((posOf ((l12.drop 0).getD 0 undef)) + (Utf8.decode (strOf ((l12.drop 0).getD 0 undef)) (posOf ((l12.drop 0).getD 0 undef))).2) : Nat)])], H32)))
 (some (.ret, [(l31.headD undef)], H32)))
 (some (.exit 0, [(.tuple #[.string (strOf ((l12.drop 0).getD 0 undef)), .int .i64 ((posOf ((l12.drop 0).getD 0 undef)) : Nat)])], H13))
theorem k_bits_Name (R : Handler) (x0 : Value) (H0 : Hp) : m_bits_Name R x0 H0 =
bindO (
 pLen .str x0 H0 fun v1 =>
 pBin PP .lss T.int v1 (.int .i64 1) fun v2 =>
 pBool v2 fun b3 => br b3
 (some (.ret, [(.bool false)], H0))
 (pLen .str x0 H0 fun v4 =>
 pBin PP .gtr T.int v4 (.int .i64 24) fun v5 =>
 pBool v5 fun b6 => br b6
 (some (.ret, [(.bool false)], H0))
 (some (.next, [], H0)))) fun q7 l8 H9 => onCtl q7
 (pStrC x0 fun s11 =>
 bindO (loopD (s_bits_Name_1 R) [(.tuple #[.string s11, .int .i64 (0 : Nat)])] H9) fun q42 l43 H44 => onCtl q42 none
 (fun i45 => onExit i45 0 (
 some ((.bool true), H44)) (
 none))
 (some ((l43.headD undef), H44)))
 (fun i10 => none)
 (some ((l8.headD undef), H9)) := rfl
noncomputable def s_cadenceref01_Name_1 (R : Handler) (x0 : Value) (l16 : List Value) (H17 : Hp) : Option Outc :=
 pLen .str x0 H17 fun v18 =>
 pBin PP .lss T.int (l16.getD 0 undef) v18 fun v19 =>
 pBool v19 fun b20 => br b20
 (pAtStr x0 (l16.getD 0 undef) fun v21 =>
 pCallF R F.cadenceref01_Letter [v21] H17 fun r22 H23 =>
 pUn .not r22 fun v24 =>
 pBool v24 fun b25 => br b25
 (pAtStr x0 (l16.getD 0 undef) fun v26 =>
 pBin PP .lss T.uint8 v26 (.int .u8 48) fun v27 =>
 pBool v27 fun b28 => br b28
 (some (.ret, [(.bool false)], H23))
 (pAtStr x0 (l16.getD 0 undef) fun v29 =>
 pBin PP .gtr T.uint8 v29 (.int .u8 57) fun v30 =>
 pBool v30 fun b31 => br b31
 (some (.ret, [(.bool false)], H23))
 (pBin PP .add T.int (l16.getD 0 undef) (.int .i64 1) fun v32 =>
 some (.next, [v32], H23))))
 (pBin PP .add T.int (l16.getD 0 undef) (.int .i64 1) fun v33 =>
 some (.next, [v33], H23)))
 (some (.exit 0, [(l16.getD 0 undef)], H17))
theorem k_cadenceref01_Name (R : Handler) (x0 : Value) (H0 : Hp) : m_cadenceref01_Name R x0 H0 =
bindO (
 pLen .str x0 H0 fun v1 =>
 pBin PP .lss T.int v1 (.int .i64 1) fun v2 =>
 pBool v2 fun b3 => br b3
 (some (.ret, [(.bool false)], H0))
 (pLen .str x0 H0 fun v4 =>
 pBin PP .gtr T.int v4 (.int .i64 24) fun v5 =>
 pBool v5 fun b6 => br b6
 (some (.ret, [(.bool false)], H0))
 (pAtStr x0 (.int .i64 0) fun v7 =>
 pCallF R F.cadenceref01_Letter [v7] H0 fun r8 H9 =>
 pUn .not r8 fun v10 =>
 pBool v10 fun b11 => br b11
 (some (.ret, [(.bool false)], H9))
 (some (.next, [], H9))))) fun q12 l13 H14 => onCtl q12
 (bindO (loopD (s_cadenceref01_Name_1 R x0) [(.int .i64 1)] H14) fun q34 l35 H36 => onCtl q34 none
 (fun i37 => onExit i37 0 (
 some ((.bool true), H36)) (
 none))
 (some ((l35.headD undef), H36)))
 (fun i15 => none)
 (some ((l13.headD undef), H14)) := rfl
noncomputable def s_strings_FieldsFunc_1 (R : Handler) (x1 : Value) (l4 : List Value) (H5 : Hp) : Option Outc :=
 br (Nat.blt (posOf ((l4.drop 2).getD 0 undef)) (strOf ((l4.drop 2).getD 0 undef)).size)
 (pCall R x1 [(.int .i32 (Utf8.decode (strOf ((l4.drop 2).getD 0 undef)) (posOf ((l4.drop 2).getD 0 undef))).1)] H5 fun r6 H7 =>
 pBool r6 fun b8 => br b8
 (pBin PP .geq T.int (l4.getD 1 undef) (.int .i64 0) fun v9 =>
 pBool v9 fun b10 => br b10
 (pBuild PP T.strings_span [(0, (l4.getD 1 undef)), (1, (.int .i64 ((posOf ((l4.drop 2).getD 0 undef)) : Nat)))] fun v11 =>
 pBuildSlice 2 [.int .i64 0, .int .i64 0] 1 [(0, v11)] H7 fun v12 H13 =>
 pAppend 2 16 (l4.getD 0 undef) v12 H13 fun v14 H15 =>
 pUn .xor (l4.getD 1 undef) fun v16 =>
 some (.next, [v14, v16, (.tuple #[.string (strOf ((l4.drop 2).getD 0 undef)), .int .i64 (((posOf ((l4.drop 2).getD 0 undef)) + (Utf8.decode (strOf ((l4.drop 2).getD 0 undef)) (posOf ((l4.drop 2).getD 0 undef))).2) : Nat)])], H15))
 (some (.next, [(l4.getD 0 undef), (l4.getD 1 undef), (.tuple #[.string (strOf ((l4.drop 2).getD 0 undef)), .int .i64 (((posOf ((l4.drop 2).getD 0 undef)) + (Utf8.decode (strOf ((l4.drop 2).getD 0 undef)) (posOf ((l4.drop 2).getD 0 undef))).2) : Nat)])], H7)))
 (pBin PP .lss T.int (l4.getD 1 undef) (.int .i64 0) fun v17 =>
 pBool v17 fun b18 => br b18
 (some (.next, [(l4.getD 0 undef), (.int .i64 ((posOf ((l4.drop 2).getD 0 undef)) : Nat)), (.tuple #[.string (strOf ((l4.drop 2).getD 0 undef)), .int .i64 (((posOf ((l4.drop 2).getD 0 undef)) + (Utf8.decode (strOf ((l4.drop 2).getD 0 undef)) (posOf ((l4.drop 2).getD 0 undef))).2) : Nat)])], H7))
 (some (.next, [(l4.getD 0 undef), (l4.getD 1 undef), (.tuple #[.string (strOf ((l4.drop 2).getD 0 undef)), .int .i64 (((posOf ((l4.drop 2).getD 0 undef)) + (Utf8.decode (strOf ((l4.drop 2).getD 0 undef)) (posOf ((l4.drop 2).getD 0 undef))).2) : Nat)])], H7))))
 (some (.exit 0, [(l4.getD 0 undef), (l4.getD 1 undef), (.tuple #[.string (strOf ((l4.drop 2).getD 0 undef)), .int .i64 ((posOf ((l4.drop 2).getD 0 undef)) : Nat)])], H5))
noncomputable def s_strings_FieldsFunc_2 (R : Handler) (x0 : Value) (v36 : Value) (v38 : Value) (l32 : List Value) (l39 : List Value) (H40 : Hp) : Option Outc :=
 pBin PP .lss T.int (l39.getD 0 undef) v38 fun v41 =>
 pBool v41 fun b42 => br b42
 (pIdx 2 (l32.getD 0 undef) (l39.getD 0 undef) fun p43 =>
 pLoad 2 true H40 p43 fun v44 =>
 pSplice 2 [.int .i64 0, .int .i64 0] 0 v44 fun c45 =>
 pCell 1 false c45 0 fun v46 =>
 pCell 1 false c45 1 fun v47 =>
 pSliceS x0 (some v46) (some v47) fun v48 =>
 pIdx 1 v36 (l39.getD 0 undef) fun p49 =>
 pStore 1 H40 p49 v48 fun H50 =>
 pBin PP .add T.int (l39.getD 0 undef) (.int .i64 1) fun v51 =>
 some (.next, [v51], H50))
 (some (.exit 2, [(l39.getD 0 undef)], H40))
theorem k_strings_FieldsFunc (R : Handler) (x0 x1 : Value) (H0 : Hp) : m_strings_FieldsFunc R x0 x1 H0 =
pMakeSlice 2 16 [.int .i64 0, .int .i64 0] (.int .i64 0) (.int .i64 32) H0 fun v1 H2 =>
 pStrC x0 fun s3 =>
 bindO (loopD (s_strings_FieldsFunc_1 R x1) [v1, (.int .i64 (-1)), (.tuple #[.string s3, .int .i64 (0 : Nat)])] H2) fun q19 l20 H21 => onCtl q19 none
 (fun i22 => onExit i22 0 (
 bindO (
 pBin PP .geq T.int (l20.getD 1 undef) (.int .i64 0) fun v23 =>
 pBool v23 fun b24 => br b24
 (pLen .str x0 H21 fun v25 =>
 pBuild PP T.strings_span [(0, (l20.getD 1 undef)), (1, v25)] fun v26 =>
 pBuildSlice 2 [.int .i64 0, .int .i64 0] 1 [(0, v26)] H21 fun v27 H28 =>
 pAppend 2 16 (l20.getD 0 undef) v27 H28 fun v29 H30 =>
 some (.next, [v29], H30))
 (some (.next, [(l20.getD 0 undef)], H21))) fun q31 l32 H33 => onCtl q31
 (pLen .sl (l32.getD 0 undef) H33 fun v35 =>
 pMakeSlice 1 16 [.string ⟨#[]⟩] v35 v35 H33 fun v36 H37 =>
 pLen .sl (l32.getD 0 undef) H37 fun v38 =>
 bindO (loopD (s_strings_FieldsFunc_2 R x0 v36 v38 l32) [(.int .i64 0)] H37) fun q52 l53 H54 => onCtl q52 none
 (fun i55 => onExit i55 2 (
 some (v36, H54)) (
 none))
 (some ((l53.headD undef), H54)))
 (fun i34 => none)
 (some ((l32.headD undef), H33))) (
 none))
 (some ((l20.headD undef), H21)) := rfl
noncomputable def s_cadenceref01_Shifts_1 (R : Handler) (x0 : Value) (l1 : List Value) (H2 : Hp) : Option Outc :=
 pBin PP .leq T.int (l1.getD 0 undef) (.int .i64 64) fun v3 =>
 pBool v3 fun b4 => br b4
 (pBin PP .eql T.int x0 (l1.getD 0 undef) fun v5 =>
 pBool v5 fun b6 => br b6
 (some (.ret, [(.bool true)], H2))
 (pBin PP .mul T.int (.int .i64 2) (l1.getD 0 undef) fun v7 =>
 some (.next, [v7], H2)))
 (some (.exit 0, [(l1.getD 0 undef)], H2))
theorem k_cadenceref01_Shifts (R : Handler) (x0 : Value) (H0 : Hp) : m_cadenceref01_Shifts R x0 H0 =
bindO (loopD (s_cadenceref01_Shifts_1 R x0) [(.int .i64 1)] H0) fun q8 l9 H10 => onCtl q8 none
 (fun i11 => onExit i11 0 (
 some ((.bool false), H10)) (
 none))
 (some ((l9.headD undef), H10)) := rfl
noncomputable def s_internal_strconv_formatBase10_1 (R : Handler) (x0 : Value) (l2 : List Value) (H3 : Hp) : Option Outc :=
 pBin PP .geq T.int (l2.getD 1 undef) (.int .i64 8) fun v4 =>
 pBool v4 fun b5 => br b5
 (pBin PP .rem T.uint64 (l2.getD 0 undef) (.int .u64 100000000) fun v6 =>
 pConvInt .u32 v6 fun v7 =>
 pBin PP .quo T.uint64 (l2.getD 0 undef) (.int .u64 100000000) fun v8 =>
 pBin PP .quo T.uint32 v7 (.int .u32 10000) fun v9 =>
 pBin PP .rem T.uint32 v7 (.int .u32 10000) fun v10 =>
 pBin PP .quo T.uint32 v10 (.int .u32 100) fun v11 =>
 pBin PP .mul T.uint32 v11 (.int .u32 2) fun v12 =>
 pBin PP .rem T.uint32 v10 (.int .u32 100) fun v13 =>
 pBin PP .mul T.uint32 v13 (.int .u32 2) fun v14 =>
 pBin PP .quo T.uint32 v9 (.int .u32 100) fun v15 =>
 pBin PP .mul T.uint32 v15 (.int .u32 2) fun v16 =>
 pBin PP .rem T.uint32 v9 (.int .u32 100) fun v17 =>
 pBin PP .mul T.uint32 v17 (.int .u32 2) fun v18 =>
 pBin PP .sub T.int (l2.getD 1 undef) (.int .i64 1) fun v19 =>
 pBin PP .sub T.int (l2.getD 1 undef) (.int .i64 2) fun v20 =>
 pBin PP .add T.uint32 v14 (.int .u32 1) fun v21 =>
 pAtStr (.string ⟨#[48, 48, 48, 49, 48, 50, 48, 51, 48, 52, 48, 53, 48, 54, 48, 55, 48, 56, 48, 57, 49, 48, 49, 49, 49, 50, 49, 51, 49, 52, 49, 53, 49, 54, 49, 55, 49, 56, 49, 57, 50, 48, 50, 49, 50, 50, 50, 51, 50, 52, 50, 53, 50, 54, 50, 55, 50, 56, 50, 57, 51, 48, 51, 49, 51, 50, 51, 51, 51, 52, 51, 53, 51, 54, 51, 55, 51, 56, 51, 57, 52, 48, 52, 49, 52, 50, 52, 51, 52, 52, 52, 53, 52, 54, 52, 55, 52, 56, 52, 57, 53, 48, 53, 49, 53, 50, 53, 51, 53, 52, 53, 53, 53, 54, 53, 55, 53, 56, 53, 57, 54, 48, 54, 49, 54, 50, 54, 51, 54, 52, 54, 53, 54, 54, 54, 55, 54, 56, 54, 57, 55, 48, 55, 49, 55, 50, 55, 51, 55, 52, 55, 53, 55, 54, 55, 55, 55, 56, 55, 57, 56, 48, 56, 49, 56, 50, 56, 51, 56, 52, 56, 53, 56, 54, 56, 55, 56, 56, 56, 57, 57, 48, 57, 49, 57, 50, 57, 51, 57, 52, 57, 53, 57, 54, 57, 55, 57, 56, 57, 57]⟩) v21 fun v22 =>
 pAtStr (.string ⟨#[48, 48, 48, 49, 48, 50, 48, 51, 48, 52, 48, 53, 48, 54, 48, 55, 48, 56, 48, 57, 49, 48, 49, 49, 49, 50, 49, 51, 49, 52, 49, 53, 49, 54, 49, 55, 49, 56, 49, 57, 50, 48, 50, 49, 50, 50, 50, 51, 50, 52, 50, 53, 50, 54, 50, 55, 50, 56, 50, 57, 51, 48, 51, 49, 51, 50, 51, 51, 51, 52, 51, 53, 51, 54, 51, 55, 51, 56, 51, 57, 52, 48, 52, 49, 52, 50, 52, 51, 52, 52, 52, 53, 52, 54, 52, 55, 52, 56, 52, 57, 53, 48, 53, 49, 53, 50, 53, 51, 53, 52, 53, 53, 53, 54, 53, 55, 53, 56, 53, 57, 54, 48, 54, 49, 54, 50, 54, 51, 54, 52, 54, 53, 54, 54, 54, 55, 54, 56, 54, 57, 55, 48, 55, 49, 55, 50, 55, 51, 55, 52, 55, 53, 55, 54, 55, 55, 55, 56, 55, 57, 56, 48, 56, 49, 56, 50, 56, 51, 56, 52, 56, 53, 56, 54, 56, 55, 56, 56, 56, 57, 57, 48, 57, 49, 57, 50, 57, 51, 57, 52, 57, 53, 57, 54, 57, 55, 57, 56, 57, 57]⟩) v14 fun v23 =>
 pIdx 1 x0 v19 fun p24 =>
 pStore 1 H3 p24 v22 fun H25 =>
 pIdx 1 x0 v20 fun p26 =>
 pStore 1 H25 p26 v23 fun H27 =>
 pBin PP .sub T.int (l2.getD 1 undef) (.int .i64 3) fun v28 =>
 pBin PP .sub T.int (l2.getD 1 undef) (.int .i64 4) fun v29 =>
 pBin PP .add T.uint32 v12 (.int .u32 1) fun v30 =>
 pAtStr (.string ⟨#[48, 48, 48, 49, 48, 50, 48, 51, 48, 52, 48, 53, 48, 54, 48, 55, 48, 56, 48, 57, 49, 48, 49, 49, 49, 50, 49, 51, 49, 52, 49, 53, 49, 54, 49, 55, 49, 56, 49, 57, 50, 48, 50, 49, 50, 50, 50, 51, 50, 52, 50, 53, 50, 54, 50, 55, 50, 56, 50, 57, 51, 48, 51, 49, 51, 50, 51, 51, 51, 52, 51, 53, 51, 54, 51, 55, 51, 56, 51, 57, 52, 48, 52, 49, 52, 50, 52, 51, 52, 52, 52, 53, 52, 54, 52, 55, 52, 56, 52, 57, 53, 48, 53, 49, 53, 50, 53, 51, 53, 52, 53, 53, 53, 54, 53, 55, 53, 56, 53, 57, 54, 48, 54, 49, 54, 50, 54, 51, 54, 52, 54, 53, 54, 54, 54, 55, 54, 56, 54, 57, 55, 48, 55, 49, 55, 50, 55, 51, 55, 52, 55, 53, 55, 54, 55, 55, 55, 56, 55, 57, 56, 48, 56, 49, 56, 50, 56, 51, 56, 52, 56, 53, 56, 54, 56, 55, 56, 56, 56, 57, 57, 48, 57, 49, 57, 50, 57, 51, 57, 52, 57, 53, 57, 54, 57, 55, 57, 56, 57, 57]⟩) v30 fun v31 =>
 pAtStr (.string ⟨#[48, 48, 48, 49, 48, 50, 48, 51, 48, 52, 48, 53, 48, 54, 48, 55, 48, 56, 48, 57, 49, 48, 49, 49, 49, 50, 49, 51, 49, 52, 49, 53, 49, 54, 49, 55, 49, 56, 49, 57, 50, 48, 50, 49, 50, 50, 50, 51, 50, 52, 50, 53, 50, 54, 50, 55, 50, 56, 50, 57, 51, 48, 51, 49, 51, 50, 51, 51, 51, 52, 51, 53, 51, 54, 51, 55, 51, 56, 51, 57, 52, 48, 52, 49, 52, 50, 52, 51, 52, 52, 52, 53, 52, 54, 52, 55, 52, 56, 52, 57, 53, 48, 53, 49, 53, 50, 53, 51, 53, 52, 53, 53, 53, 54, 53, 55, 53, 56, 53, 57, 54, 48, 54, 49, 54, 50, 54, 51, 54, 52, 54, 53, 54, 54, 54, 55, 54, 56, 54, 57, 55, 48, 55, 49, 55, 50, 55, 51, 55, 52, 55, 53, 55, 54, 55, 55, 55, 56, 55, 57, 56, 48, 56, 49, 56, 50, 56, 51, 56, 52, 56, 53, 56, 54, 56, 55, 56, 56, 56, 57, 57, 48, 57, 49, 57, 50, 57, 51, 57, 52, 57, 53, 57, 54, 57, 55, 57, 56, 57, 57]⟩) v12 fun v32 =>
 pIdx 1 x0 v28 fun p33 =>
 pStore 1 H27 p33 v31 fun H34 =>
 pIdx 1 x0 v29 fun p35 =>
 pStore 1 H34 p35 v32 fun H36 =>
 pBin PP .sub T.int (l2.getD 1 undef) (.int .i64 5) fun v37 =>
 pBin PP .sub T.int (l2.getD 1 undef) (.int .i64 6) fun v38 =>
 pBin PP .add T.uint32 v18 (.int .u32 1) fun v39 =>
 pAtStr (.string ⟨#[48, 48, 48, 49, 48, 50, 48, 51, 48, 52, 48, 53, 48, 54, 48, 55, 48, 56, 48, 57, 49, 48, 49, 49, 49, 50, 49, 51, 49, 52, 49, 53, 49, 54, 49, 55, 49, 56, 49, 57, 50, 48, 50, 49, 50, 50, 50, 51, 50, 52, 50, 53, 50, 54, 50, 55, 50, 56, 50, 57, 51, 48, 51, 49, 51, 50, 51, 51, 51, 52, 51, 53, 51, 54, 51, 55, 51, 56, 51, 57, 52, 48, 52, 49, 52, 50, 52, 51, 52, 52, 52, 53, 52, 54, 52, 55, 52, 56, 52, 57, 53, 48, 53, 49, 53, 50, 53, 51, 53, 52, 53, 53, 53, 54, 53, 55, 53, 56, 53, 57, 54, 48, 54, 49, 54, 50, 54, 51, 54, 52, 54, 53, 54, 54, 54, 55, 54, 56, 54, 57, 55, 48, 55, 49, 55, 50, 55, 51, 55, 52, 55, 53, 55, 54, 55, 55, 55, 56, 55, 57, 56, 48, 56, 49, 56, 50, 56, 51, 56, 52, 56, 53, 56, 54, 56, 55, 56, 56, 56, 57, 57, 48, 57, 49, 57, 50, 57, 51, 57, 52, 57, 53, 57, 54, 57, 55, 57, 56, 57, 57]⟩) v39 fun v40 =>
 pAtStr (.string ⟨#[48, 48, 48, 49, 48, 50, 48, 51, 48, 52, 48, 53, 48, 54, 48, 55, 48, 56, 48, 57, 49, 48, 49, 49, 49, 50, 49, 51, 49, 52, 49, 53, 49, 54, 49, 55, 49, 56, 49, 57, 50, 48, 50, 49, 50, 50, 50, 51, 50, 52, 50, 53, 50, 54, 50, 55, 50, 56, 50, 57, 51, 48, 51, 49, 51, 50, 51, 51, 51, 52, 51, 53, 51, 54, 51, 55, 51, 56, 51, 57, 52, 48, 52, 49, 52, 50, 52, 51, 52, 52, 52, 53, 52, 54, 52, 55, 52, 56, 52, 57, 53, 48, 53, 49, 53, 50, 53, 51, 53, 52, 53, 53, 53, 54, 53, 55, 53, 56, 53, 57, 54, 48, 54, 49, 54, 50, 54, 51, 54, 52, 54, 53, 54, 54, 54, 55, 54, 56, 54, 57, 55, 48, 55, 49, 55, 50, 55, 51, 55, 52, 55, 53, 55, 54, 55, 55, 55, 56, 55, 57, 56, 48, 56, 49, 56, 50, 56, 51, 56, 52, 56, 53, 56, 54, 56, 55, 56, 56, 56, 57, 57, 48, 57, 49, 57, 50, 57, 51, 57, 52, 57, 53, 57, 54, 57, 55, 57, 56, 57, 57]⟩) v18 fun v41 =>
 pIdx 1 x0 v37 fun p42 =>
 pStore 1 H36 p42 v40 fun H43 =>
 pIdx 1 x0 v38 fun p44 =>
 pStore 1 H43 p44 v41 fun H45 =>
 pBin PP .sub T.int (l2.getD 1 undef) (.int .i64 7) fun v46 =>
 pBin PP .sub T.int (l2.getD 1 undef) (.int .i64 8) fun v47 =>
 pBin PP .add T.uint32 v16 (.int .u32 1) fun v48 =>
 pAtStr (.string ⟨#[48, 48, 48, 49, 48, 50, 48, 51, 48, 52, 48, 53, 48, 54, 48, 55, 48, 56, 48, 57, 49, 48, 49, 49, 49, 50, 49, 51, 49, 52, 49, 53, 49, 54, 49, 55, 49, 56, 49, 57, 50, 48, 50, 49, 50, 50, 50, 51, 50, 52, 50, 53, 50, 54, 50, 55, 50, 56, 50, 57, 51, 48, 51, 49, 51, 50, 51, 51, 51, 52, 51, 53, 51, 54, 51, 55, 51, 56, 51, 57, 52, 48, 52, 49, 52, 50, 52, 51, 52, 52, 52, 53, 52, 54, 52, 55, 52, 56, 52, 57, 53, 48, 53, 49, 53, 50, 53, 51, 53, 52, 53, 53, 53, 54, 53, 55, 53, 56, 53, 57, 54, 48, 54, 49, 54, 50, 54, 51, 54, 52, 54, 53, 54, 54, 54, 55, 54, 56, 54, 57, 55, 48, 55, 49, 55, 50, 55, 51, 55, 52, 55, 53, 55, 54, 55, 55, 55, 56, 55, 57, 56, 48, 56, 49, 56, 50, 56, 51, 56, 52, 56, 53, 56, 54, 56, 55, 56, 56, 56, 57, 57, 48, 57, 49, 57, 50, 57, 51, 57, 52, 57, 53, 57, 54, 57, 55, 57, 56, 57, 57]⟩) v48 fun v49 =>
 pAtStr (.string ⟨#[48, 48, 48, 49, 48, 50, 48, 51, 48, 52, 48, 53, 48, 54, 48, 55, 48, 56, 48, 57, 49, 48, 49, 49, 49, 50, 49, 51, 49, 52, 49, 53, 49, 54, 49, 55, 49, 56, 49, 57, 50, 48, 50, 49, 50, 50, 50, 51, 50, 52, 50, 53, 50, 54, 50, 55, 50, 56, 50, 57, 51, 48, 51, 49, 51, 50, 51, 51, 51, 52, 51, 53, 51, 54, 51, 55, 51, 56, 51, 57, 52, 48, 52, 49, 52, 50, 52, 51, 52, 52, 52, 53, 52, 54, 52, 55, 52, 56, 52, 57, 53, 48, 53, 49, 53, 50, 53, 51, 53, 52, 53, 53, 53, 54, 53, 55, 53, 56, 53, 57, 54, 48, 54, 49, 54, 50, 54, 51, 54, 52, 54, 53, 54, 54, 54, 55, 54, 56, 54, 57, 55, 48, 55, 49, 55, 50, 55, 51, 55, 52, 55, 53, 55, 54, 55, 55, 55, 56, 55, 57, 56, 48, 56, 49, 56, 50, 56, 51, 56, 52, 56, 53, 56, 54, 56, 55, 56, 56, 56, 57, 57, 48, 57, 49, 57, 50, 57, 51, 57, 52, 57, 53, 57, 54, 57, 55, 57, 56, 57, 57]⟩) v16 fun v50 =>
 pIdx 1 x0 v46 fun p51 =>
 pStore 1 H45 p51 v49 fun H52 =>
 pIdx 1 x0 v47 fun p53 =>
 pStore 1 H52 p53 v50 fun H54 =>
 pBin PP .sub T.int (l2.getD 1 undef) (.int .i64 8) fun v55 =>
 some (.next, [v8, v55], H54))
 (some (.exit 0, [(l2.getD 0 undef), (l2.getD 1 undef)], H3))
theorem k_internal_strconv_formatBase10 (R : Handler) (x0 x1 : Value) (H0 : Hp) : m_internal_strconv_formatBase10 R x0 x1 H0 =
pLen .sl x0 H0 fun v1 =>
 bindO (loopD (s_internal_strconv_formatBase10_1 R x0) [x1, v1] H0) fun q56 l57 H58 => onCtl q56 none
 (fun i59 => onExit i59 0 (
 pConvInt .u32 (l57.getD 0 undef) fun v60 =>
 bindO (
 pBin PP .geq T.int (l57.getD 1 undef) (.int .i64 4) fun v61 =>
 pBool v61 fun b62 => br b62
 (pBin PP .rem T.uint32 v60 (.int .u32 10000) fun v63 =>
 pBin PP .quo T.uint32 v60 (.int .u32 10000) fun v64 =>
 pBin PP .quo T.uint32 v63 (.int .u32 100) fun v65 =>
 pBin PP .mul T.uint32 v65 (.int .u32 2) fun v66 =>
 pBin PP .rem T.uint32 v63 (.int .u32 100) fun v67 =>
 pBin PP .mul T.uint32 v67 (.int .u32 2) fun v68 =>
 pBin PP .sub T.int (l57.getD 1 undef) (.int .i64 1) fun v69 =>
 pBin PP .sub T.int (l57.getD 1 undef) (.int .i64 2) fun v70 =>
 pBin PP .add T.uint32 v68 (.int .u32 1) fun v71 =>
 pAtStr (.string ⟨#[48, 48, 48, 49, 48, 50, 48, 51, 48, 52, 48, 53, 48, 54, 48, 55, 48, 56, 48, 57, 49, 48, 49, 49, 49, 50, 49, 51, 49, 52, 49, 53, 49, 54, 49, 55, 49, 56, 49, 57, 50, 48, 50, 49, 50, 50, 50, 51, 50, 52, 50, 53, 50, 54, 50, 55, 50, 56, 50, 57, 51, 48, 51, 49, 51, 50, 51, 51, 51, 52, 51, 53, 51, 54, 51, 55, 51, 56, 51, 57, 52, 48, 52, 49, 52, 50, 52, 51, 52, 52, 52, 53, 52, 54, 52, 55, 52, 56, 52, 57, 53, 48, 53, 49, 53, 50, 53, 51, 53, 52, 53, 53, 53, 54, 53, 55, 53, 56, 53, 57, 54, 48, 54, 49, 54, 50, 54, 51, 54, 52, 54, 53, 54, 54, 54, 55, 54, 56, 54, 57, 55, 48, 55, 49, 55, 50, 55, 51, 55, 52, 55, 53, 55, 54, 55, 55, 55, 56, 55, 57, 56, 48, 56, 49, 56, 50, 56, 51, 56, 52, 56, 53, 56, 54, 56, 55, 56, 56, 56, 57, 57, 48, 57, 49, 57, 50, 57, 51, 57, 52, 57, 53, 57, 54, 57, 55, 57, 56, 57, 57]⟩) v71 fun v72 =>
 pAtStr (.string ⟨#[48, 48, 48, 49, 48, 50, 48, 51, 48, 52, 48, 53, 48, 54, 48, 55, 48, 56, 48, 57, 49, 48, 49, 49, 49, 50, 49, 51, 49, 52, 49, 53, 49, 54, 49, 55, 49, 56, 49, 57, 50, 48, 50, 49, 50, 50, 50, 51, 50, 52, 50, 53, 50, 54, 50, 55, 50, 56, 50, 57, 51, 48, 51, 49, 51, 50, 51, 51, 51, 52, 51, 53, 51, 54, 51, 55, 51, 56, 51, 57, 52, 48, 52, 49, 52, 50, 52, 51, 52, 52, 52, 53, 52, 54, 52, 55, 52, 56, 52, 57, 53, 48, 53, 49, 53, 50, 53, 51, 53, 52, 53, 53, 53, 54, 53, 55, 53, 56, 53, 57, 54, 48, 54, 49, 54, 50, 54, 51, 54, 52, 54, 53, 54, 54, 54, 55, 54, 56, 54, 57, 55, 48, 55, 49, 55, 50, 55, 51, 55, 52, 55, 53, 55, 54, 55, 55, 55, 56, 55, 57, 56, 48, 56, 49, 56, 50, 56, 51, 56, 52, 56, 53, 56, 54, 56, 55, 56, 56, 56, 57, 57, 48, 57, 49, 57, 50, 57, 51, 57, 52, 57, 53, 57, 54, 57, 55, 57, 56, 57, 57]⟩) v68 fun v73 =>
 pIdx 1 x0 v69 fun p74 =>
 pStore 1 H58 p74 v72 fun H75 =>
 pIdx 1 x0 v70 fun p76 =>
 pStore 1 H75 p76 v73 fun H77 =>
 pBin PP .sub T.int (l57.getD 1 undef) (.int .i64 3) fun v78 =>
 pBin PP .sub T.int (l57.getD 1 undef) (.int .i64 4) fun v79 =>
 pBin PP .add T.uint32 v66 (.int .u32 1) fun v80 =>
 pAtStr (.string ⟨#[48, 48, 48, 49, 48, 50, 48, 51, 48, 52, 48, 53, 48, 54, 48, 55, 48, 56, 48, 57, 49, 48, 49, 49, 49, 50, 49, 51, 49, 52, 49, 53, 49, 54, 49, 55, 49, 56, 49, 57, 50, 48, 50, 49, 50, 50, 50, 51, 50, 52, 50, 53, 50, 54, 50, 55, 50, 56, 50, 57, 51, 48, 51, 49, 51, 50, 51, 51, 51, 52, 51, 53, 51, 54, 51, 55, 51, 56, 51, 57, 52, 48, 52, 49, 52, 50, 52, 51, 52, 52, 52, 53, 52, 54, 52, 55, 52, 56, 52, 57, 53, 48, 53, 49, 53, 50, 53, 51, 53, 52, 53, 53, 53, 54, 53, 55, 53, 56, 53, 57, 54, 48, 54, 49, 54, 50, 54, 51, 54, 52, 54, 53, 54, 54, 54, 55, 54, 56, 54, 57, 55, 48, 55, 49, 55, 50, 55, 51, 55, 52, 55, 53, 55, 54, 55, 55, 55, 56, 55, 57, 56, 48, 56, 49, 56, 50, 56, 51, 56, 52, 56, 53, 56, 54, 56, 55, 56, 56, 56, 57, 57, 48, 57, 49, 57, 50, 57, 51, 57, 52, 57, 53, 57, 54, 57, 55, 57, 56, 57, 57]⟩) v80 fun v81 =>
 pAtStr (.string ⟨#[48, 48, 48, 49, 48, 50, 48, 51, 48, 52, 48, 53, 48, 54, 48, 55, 48, 56, 48, 57, 49, 48, 49, 49, 49, 50, 49, 51, 49, 52, 49, 53, 49, 54, 49, 55, 49, 56, 49, 57, 50, 48, 50, 49, 50, 50, 50, 51, 50, 52, 50, 53, 50, 54, 50, 55, 50, 56, 50, 57, 51, 48, 51, 49, 51, 50, 51, 51, 51, 52, 51, 53, 51, 54, 51, 55, 51, 56, 51, 57, 52, 48, 52, 49, 52, 50, 52, 51, 52, 52, 52, 53, 52, 54, 52, 55, 52, 56, 52, 57, 53, 48, 53, 49, 53, 50, 53, 51, 53, 52, 53, 53, 53, 54, 53, 55, 53, 56, 53, 57, 54, 48, 54, 49, 54, 50, 54, 51, 54, 52, 54, 53, 54, 54, 54, 55, 54, 56, 54, 57, 55, 48, 55, 49, 55, 50, 55, 51, 55, 52, 55, 53, 55, 54, 55, 55, 55, 56, 55, 57, 56, 48, 56, 49, 56, 50, 56, 51, 56, 52, 56, 53, 56, 54, 56, 55, 56, 56, 56, 57, 57, 48, 57, 49, 57, 50, 57, 51, 57, 52, 57, 53, 57, 54, 57, 55, 57, 56, 57, 57]⟩) v66 fun v82 =>
 pIdx 1 x0 v78 fun p83 =>
 pStore 1 H77 p83 v81 fun H84 =>
 pIdx 1 x0 v79 fun p85 =>
 pStore 1 H84 p85 v82 fun H86 =>
 pBin PP .sub T.int (l57.getD 1 undef) (.int .i64 4) fun v87 =>
 some (.next, [v87, v64], H86))
 (some (.next, [(l57.getD 1 undef), v60], H58))) fun q88 l89 H90 => onCtl q88
 (pBin PP .geq T.int (l89.getD 0 undef) (.int .i64 2) fun v92 =>
 pBool v92 fun b93 => br b93
 (pBin PP .rem T.uint32 (l89.getD 1 undef) (.int .u32 100) fun v94 =>
 pBin PP .mul T.uint32 v94 (.int .u32 2) fun v95 =>
 pBin PP .quo T.uint32 (l89.getD 1 undef) (.int .u32 100) fun v96 =>
 pBin PP .sub T.int (l89.getD 0 undef) (.int .i64 1) fun v97 =>
 pBin PP .sub T.int (l89.getD 0 undef) (.int .i64 2) fun v98 =>
 pBin PP .add T.uint32 v95 (.int .u32 1) fun v99 =>
 pAtStr (.string ⟨#[48, 48, 48, 49, 48, 50, 48, 51, 48, 52, 48, 53, 48, 54, 48, 55, 48, 56, 48, 57, 49, 48, 49, 49, 49, 50, 49, 51, 49, 52, 49, 53, 49, 54, 49, 55, 49, 56, 49, 57, 50, 48, 50, 49, 50, 50, 50, 51, 50, 52, 50, 53, 50, 54, 50, 55, 50, 56, 50, 57, 51, 48, 51, 49, 51, 50, 51, 51, 51, 52, 51, 53, 51, 54, 51, 55, 51, 56, 51, 57, 52, 48, 52, 49, 52, 50, 52, 51, 52, 52, 52, 53, 52, 54, 52, 55, 52, 56, 52, 57, 53, 48, 53, 49, 53, 50, 53, 51, 53, 52, 53, 53, 53, 54, 53, 55, 53, 56, 53, 57, 54, 48, 54, 49, 54, 50, 54, 51, 54, 52, 54, 53, 54, 54, 54, 55, 54, 56, 54, 57, 55, 48, 55, 49, 55, 50, 55, 51, 55, 52, 55, 53, 55, 54, 55, 55, 55, 56, 55, 57, 56, 48, 56, 49, 56, 50, 56, 51, 56, 52, 56, 53, 56, 54, 56, 55, 56, 56, 56, 57, 57, 48, 57, 49, 57, 50, 57, 51, 57, 52, 57, 53, 57, 54, 57, 55, 57, 56, 57, 57]⟩) v99 fun v100 =>
 pAtStr (.string ⟨#[48, 48, 48, 49, 48, 50, 48, 51, 48, 52, 48, 53, 48, 54, 48, 55, 48, 56, 48, 57, 49, 48, 49, 49, 49, 50, 49, 51, 49, 52, 49, 53, 49, 54, 49, 55, 49, 56, 49, 57, 50, 48, 50, 49, 50, 50, 50, 51, 50, 52, 50, 53, 50, 54, 50, 55, 50, 56, 50, 57, 51, 48, 51, 49, 51, 50, 51, 51, 51, 52, 51, 53, 51, 54, 51, 55, 51, 56, 51, 57, 52, 48, 52, 49, 52, 50, 52, 51, 52, 52, 52, 53, 52, 54, 52, 55, 52, 56, 52, 57, 53, 48, 53, 49, 53, 50, 53, 51, 53, 52, 53, 53, 53, 54, 53, 55, 53, 56, 53, 57, 54, 48, 54, 49, 54, 50, 54, 51, 54, 52, 54, 53, 54, 54, 54, 55, 54, 56, 54, 57, 55, 48, 55, 49, 55, 50, 55, 51, 55, 52, 55, 53, 55, 54, 55, 55, 55, 56, 55, 57, 56, 48, 56, 49, 56, 50, 56, 51, 56, 52, 56, 53, 56, 54, 56, 55, 56, 56, 56, 57, 57, 48, 57, 49, 57, 50, 57, 51, 57, 52, 57, 53, 57, 54, 57, 55, 57, 56, 57, 57]⟩) v95 fun v101 =>
 pIdx 1 x0 v97 fun p102 =>
 pStore 1 H90 p102 v100 fun H103 =>
 pIdx 1 x0 v98 fun p104 =>
 pStore 1 H103 p104 v101 fun H105 =>
 pBin PP .sub T.int (l89.getD 0 undef) (.int .i64 2) fun v106 =>
 pBin PP .gtr T.int v106 (.int .i64 0) fun v107 =>
 pBool v107 fun b108 => br b108
 (pBin PP .add T.uint32 (.int .u32 48) v96 fun v109 =>
 pConvInt .u8 v109 fun v110 =>
 pIdx 1 x0 (.int .i64 0) fun p111 =>
 pStore 1 H105 p111 v110 fun H112 =>
 some ((.tuple #[]), H112))
 (some ((.tuple #[]), H105)))
 (pBin PP .gtr T.int (l89.getD 0 undef) (.int .i64 0) fun v113 =>
 pBool v113 fun b114 => br b114
 (pBin PP .add T.uint32 (.int .u32 48) (l89.getD 1 undef) fun v115 =>
 pConvInt .u8 v115 fun v116 =>
 pIdx 1 x0 (.int .i64 0) fun p117 =>
 pStore 1 H90 p117 v116 fun H118 =>
 some ((.tuple #[]), H118))
 (some ((.tuple #[]), H90))))
 (fun i91 => none)
 (some ((l89.headD undef), H90))) (
 none))
 (some ((l57.headD undef), H58)) := rfl
noncomputable def s_internal_strconv_formatBits_1 (R : Handler) (v25 : Value) (v26 : Value) (v28 : Value) (p11 : Value) (l29 : List Value) (H30 : Hp) : Option Outc :=
 pBin PP .geq T.uint64 (l29.getD 0 undef) v26 fun v31 =>
 pBool v31 fun b32 => br b32
 (pBin PP .sub T.int (l29.getD 1 undef) (.int .i64 1) fun v33 =>
 pBin PP .and T.uint (l29.getD 0 undef) v28 fun v34 =>
 pAtStr (.string ⟨#[48, 49, 50, 51, 52, 53, 54, 55, 56, 57, 97, 98, 99, 100, 101, 102, 103, 104, 105, 106, 107, 108, 109, 110, 111, 112, 113, 114, 115, 116, 117, 118, 119, 120, 121, 122]⟩) v34 fun v35 =>
 pIdxArr 65 1 p11 v33 fun p36 =>
 pStore 1 H30 p36 v35 fun H37 =>
 pBin PP .shr T.uint64 (l29.getD 0 undef) v25 fun v38 =>
 some (.next, [v38, v33], H37))
 (some (.exit 0, [(l29.getD 0 undef), (l29.getD 1 undef)], H30))
noncomputable def s_internal_strconv_formatBits_2 (R : Handler) (v63 : Value) (p11 : Value) (l64 : List Value) (H65 : Hp) : Option Outc :=
 pBin PP .geq T.uint64 (l64.getD 0 undef) v63 fun v66 =>
 pBool v66 fun b67 => br b67
 (pBin PP .sub T.int (l64.getD 1 undef) (.int .i64 1) fun v68 =>
 pBin PP .quo T.uint64 (l64.getD 0 undef) v63 fun v69 =>
 pBin PP .mul T.uint64 v69 v63 fun v70 =>
 pBin PP .sub T.uint64 (l64.getD 0 undef) v70 fun v71 =>
 pAtStr (.string ⟨#[48, 49, 50, 51, 52, 53, 54, 55, 56, 57, 97, 98, 99, 100, 101, 102, 103, 104, 105, 106, 107, 108, 109, 110, 111, 112, 113, 114, 115, 116, 117, 118, 119, 120, 121, 122]⟩) v71 fun v72 =>
 pIdxArr 65 1 p11 v68 fun p73 =>
 pStore 1 H65 p73 v72 fun H74 =>
 some (.next, [v69, v68], H74))
 (some (.exit 2, [(l64.getD 0 undef), (l64.getD 1 undef)], H65))
theorem k_internal_strconv_formatBits (R : Handler) (x0 x1 x2 x3 x4 : Value) (H0 : Hp) : m_internal_strconv_formatBits R x0 x1 x2 x3 x4 H0 =
bindO (
 pBin PP .lss T.int x2 (.int .i64 2) fun v1 =>
 pBool v1 fun b2 => br b2
 (none)
 (pBin PP .eql T.int x2 (.int .i64 10) fun v3 =>
 pBool v3 fun b4 => br b4
 (none)
 (pBin PP .gtr T.int x2 (.int .i64 36) fun v5 =>
 pBool v5 fun b6 => br b6
 (none)
 (some (.next, [], H0))))) fun q7 l8 H9 => onCtl q7
 (pAlloc [.int .u8 0, .int .u8 0, .int .u8 0, .int .u8 0, .int .u8 0, .int .u8 0, .int .u8 0, .int .u8 0, .int .u8 0, .int .u8 0, .int .u8 0, .int .u8 0, .int .u8 0, .int .u8 0, .int .u8 0, .int .u8 0, .int .u8 0, .int .u8 0, .int .u8 0, .int .u8 0, .int .u8 0, .int .u8 0, .int .u8 0, .int .u8 0, .int .u8 0, .int .u8 0, .int .u8 0, .int .u8 0, .int .u8 0, .int .u8 0, .int .u8 0, .int .u8 0, .int .u8 0, .int .u8 0, .int .u8 0, .int .u8 0, .int .u8 0, .int .u8 0, .int .u8 0, .int .u8 0, .int .u8 0, .int .u8 0, .int .u8 0, .int .u8 0, .int .u8 0, .int .u8 0, .int .u8 0, .int .u8 0, .int .u8 0, .int .u8 0, .int .u8 0, .int .u8 0, .int .u8 0, .int .u8 0, .int .u8 0, .int .u8 0, .int .u8 0, .int .u8 0, .int .u8 0, .int .u8 0, .int .u8 0, .int .u8 0, .int .u8 0, .int .u8 0, .int .u8 0] H9 fun p11 H12 =>
 bindO (
 pBool x3 fun b13 => br b13
 (pUn .neg x1 fun v14 =>
 some (.next, [v14], H12))
 (some (.next, [x1], H12))) fun q15 l16 H17 => onCtl q15
 (pCallF R F.internal_strconv_isPowerOfTwo [x2] H17 fun r19 H20 =>
 pBool r19 fun b21 => br b21
 (pConvInt .u64 x2 fun v22 =>
 pCallF R F.bits_TrailingZeros [v22] H20 fun r23 H24 =>
 pConvInt .u64 r23 fun v25 =>
 pConvInt .u64 x2 fun v26 =>
 pConvInt .u64 x2 fun v27 =>
 pBin PP .sub T.uint v27 (.int .u64 1) fun v28 =>
 bindO (loopD (s_internal_strconv_formatBits_1 R v25 v26 v28 p11) [(l16.getD 0 undef), (.int .i64 65)] H24) fun q39 l40 H41 => onCtl q39 none
 (fun i42 => onExit i42 0 (
 pBin PP .sub T.int (l40.getD 1 undef) (.int .i64 1) fun v43 =>
 pAtStr (.string ⟨#[48, 49, 50, 51, 52, 53, 54, 55, 56, 57, 97, 98, 99, 100, 101, 102, 103, 104, 105, 106, 107, 108, 109, 110, 111, 112, 113, 114, 115, 116, 117, 118, 119, 120, 121, 122]⟩) (l40.getD 0 undef) fun v44 =>
 pIdxArr 65 1 p11 v43 fun p45 =>
 pStore 1 H41 p45 v44 fun H46 =>
 pBool x3 fun b47 => br b47
 (pBin PP .sub T.int v43 (.int .i64 1) fun v48 =>
 pIdxArr 65 1 p11 v48 fun p49 =>
 pStore 1 H46 p49 (.int .u8 45) fun H50 =>
 pBool x4 fun b51 => br b51
 (pSliceA 65 1 p11 (some v48) none H50 fun v52 =>
 pAppendT T.uint8 1 1 x0 v52 H50 fun v53 H54 =>
 some ((.tuple #[v53, (.string ⟨#[]⟩)]), H54))
 (pSliceA 65 1 p11 (some v48) none H50 fun v55 =>
 pToStr v55 H50 fun v56 =>
 some ((.tuple #[(.slice none 0 0), v56]), H50)))
 (pBool x4 fun b57 => br b57
 (pSliceA 65 1 p11 (some v43) none H46 fun v58 =>
 pAppendT T.uint8 1 1 x0 v58 H46 fun v59 H60 =>
 some ((.tuple #[v59, (.string ⟨#[]⟩)]), H60))
 (pSliceA 65 1 p11 (some v43) none H46 fun v61 =>
 pToStr v61 H46 fun v62 =>
 some ((.tuple #[(.slice none 0 0), v62]), H46)))) (
 none))
 (some ((l40.headD undef), H41)))
 (pConvInt .u64 x2 fun v63 =>
 bindO (loopD (s_internal_strconv_formatBits_2 R v63 p11) [(l16.getD 0 undef), (.int .i64 65)] H20) fun q75 l76 H77 => onCtl q75 none
 (fun i78 => onExit i78 2 (
 pBin PP .sub T.int (l76.getD 1 undef) (.int .i64 1) fun v79 =>
 pAtStr (.string ⟨#[48, 49, 50, 51, 52, 53, 54, 55, 56, 57, 97, 98, 99, 100, 101, 102, 103, 104, 105, 106, 107, 108, 109, 110, 111, 112, 113, 114, 115, 116, 117, 118, 119, 120, 121, 122]⟩) (l76.getD 0 undef) fun v80 =>
 pIdxArr 65 1 p11 v79 fun p81 =>
 pStore 1 H77 p81 v80 fun H82 =>
 pBool x3 fun b83 => br b83
 (pBin PP .sub T.int v79 (.int .i64 1) fun v84 =>
 pIdxArr 65 1 p11 v84 fun p85 =>
 pStore 1 H82 p85 (.int .u8 45) fun H86 =>
 pBool x4 fun b87 => br b87
 (pSliceA 65 1 p11 (some v84) none H86 fun v88 =>
 pAppendT T.uint8 1 1 x0 v88 H86 fun v89 H90 =>
 some ((.tuple #[v89, (.string ⟨#[]⟩)]), H90))
 (pSliceA 65 1 p11 (some v84) none H86 fun v91 =>
 pToStr v91 H86 fun v92 =>
 some ((.tuple #[(.slice none 0 0), v92]), H86)))
 (pBool x4 fun b93 => br b93
 (pSliceA 65 1 p11 (some v79) none H82 fun v94 =>
 pAppendT T.uint8 1 1 x0 v94 H82 fun v95 H96 =>
 some ((.tuple #[v95, (.string ⟨#[]⟩)]), H96))
 (pSliceA 65 1 p11 (some v79) none H82 fun v97 =>
 pToStr v97 H82 fun v98 =>
 some ((.tuple #[(.slice none 0 0), v98]), H82)))) (
 none))
 (some ((l76.headD undef), H77))))
 (fun i18 => none)
 (some ((l16.headD undef), H17)))
 (fun i10 => none)
 (some ((l8.headD undef), H9)) := rfl
end Go.AM
/- Numbers as texts: the document's. -/
set_option linter.unusedVariables false
set_option linter.unusedSimpArgs false
set_option maxRecDepth 100000
namespace Go.AM
open Go
def dig (d : Nat) : UInt8 := UInt8.ofNat (if d < 10 then 48 + d else 87 + d)
/-- A number's digits. -/
def dgt (b x : Nat) : List UInt8 := if h : x < b ∨ b < 2 then [dig x] else dgt b (x / b) ++ [dig (x % b)]
termination_by x
decreasing_by exact Nat.div_lt_self (by omega) (by omega)
theorem dgt_lt {b x : Nat} (h : x < b) : dgt b x = [dig x] := by rw [dgt, dif_pos (.inl h)]
theorem dgt_ge {b x : Nat} (hb : 2 ≤ b) (h : b ≤ x) : dgt b x = dgt b (x / b) ++ [dig (x % b)] := by rw [dgt, dif_neg (by omega)]
theorem dgt_len {b : Nat} (hb : 2 ≤ b) : ∀ (n x : Nat), x < b ^ n → 0 < n → (dgt b x).length ≤ n
  | 0, x, h, h0 => by omega
  | n + 1, x, h, _ => by
    by_cases hx : x < b
    · rw [dgt_lt hx]; simp
    · rw [dgt_ge hb (by omega), List.length_append]
      have hn : 0 < n := by
        rcases Nat.eq_zero_or_pos n with q | q
        · subst q; simp at h; omega
        · exact q
      have : x / b < b ^ n := Nat.div_lt_of_lt_mul (by rw [Nat.pow_succ, Nat.mul_comm] at h; exact h)
      have := dgt_len hb n (x / b) this hn
      simp; omega
/-- A text of a list. -/
abbrev ba (l : List UInt8) : ByteArray := ⟨l.toArray⟩
theorem ba_size (l : List UInt8) : (ba l).size = l.length := by simp [ba, ByteArray.size]
theorem ba_list (l : List UInt8) : (ba l).data.toList = l := by simp [ba]
theorem fba_eq {s : ByteArray} {l : List UInt8} (h : s.data.toList = l) : s = ba l := by
  cases s; subst h; simp [ba]
theorem app_list (a b : ByteArray) : (a ++ b).data.toList = a.data.toList ++ b.data.toList := by simp
theorem ba_app (l m : List UInt8) : ba l ++ ba m = ba (l ++ m) := fba_eq (by rw [app_list, ba_list, ba_list])
theorem size_list (s : ByteArray) : s.size = s.data.toList.length := (Array.length_toList (xs := s.data)).symm
section
variable {α : Type} {P : Program}
theorem s_cat (T : TypeId) (a b : ByteArray) (h : a.size + b.size ≤ 2 ^ 60) (k : Value → Option α) : pBin P .add T (.string a) (.string b) k = k (.string (a ++ b)) := by
  have h1 : ¬ ((a.size + b.size : Nat) : Int) > IntKind.i64.max := by
    have : IntKind.i64.max = 9223372036854775807 := rfl
    omega
  have : strOp .add a b = some (.string (a ++ b)) := if_neg h1
  unfold pBin binV
  dsimp only
  rw [this]
theorem s_catL (T : TypeId) (a b : List UInt8) (h : a.length + b.length ≤ 2 ^ 60) (k : Value → Option α) : pBin P .add T (.string (ba a)) (.string (ba b)) k = k (.string (ba (a ++ b))) := by
  rw [s_cat T _ _ (by rw [ba_size, ba_size]; exact h), ba_app]
theorem s_cut (s : ByteArray) (k1 k2 : IntKind) (i j : Nat) (h : i ≤ j) (hj : j ≤ s.size) (k : Value → Option α) : pSliceS (.string s) (some (.int k1 (i : Int))) (some (.int k2 (j : Int))) k = k (.string (s.extract i j)) := by
  have : sliceS (.string s) (some (.int k1 (i : Int))) (some (.int k2 (j : Int))) = some (.string (s.extract i j)) := by
    unfold sliceS
    dsimp only [optInt]
    rw [if_pos ⟨by omega, by omega, by omega⟩]
    simp
  unfold pSliceS; rw [this]
theorem f_at (s : ByteArray) (kd : IntKind) (i : Nat) (b : UInt8) (h : s.data.toList[i]? = some b) (k : Value → Option α) : pAtStr (.string s) (.int kd (i : Int)) k = k (.int .u8 (b.toNat : Int)) := q_at s i b h k
end
abbrev hexS : ByteArray := ⟨#[48, 49, 50, 51, 52, 53, 54, 55, 56, 57, 97, 98, 99, 100, 101, 102]⟩
theorem hex_all : (List.range 16).all (fun d => decide ((hexS.extract d (d + 1)).data.toList = [dig d])) = true := by kernel_rfl
theorem hex_cut (d : Nat) (hd : d < 16) : hexS.extract d (d + 1) = ba [dig d] :=
  fba_eq (of_decide_eq_true (List.all_eq_true.1 hex_all d (List.mem_range.2 hd)))
theorem text_loop {b : Nat} (hb : 2 ≤ b) (hb16 : b ≤ 16) (pre : List UInt8) (hp : pre.length ≤ 10) (H : Hp) : ∀ (n x : Nat) (out : List UInt8), x < b ^ n → 0 < n → x < 18446744073709551616 → n + out.length ≤ 100 →
    loopD (s_cadenceref01_Text_1 RR [.int .u64 (b : Int), .string (ba pre)]) [.int .u64 (x : Int), .string (ba out)] H = some (.ret, [.string (ba (pre ++ (dgt b x ++ out)))], H)
  | 0, x, out, h, h0, _, _ => by omega
  | n + 1, x, out, h, _, hx, hl => by
    have hd : x % b < 16 := Nat.lt_of_lt_of_le (Nat.mod_lt _ (by omega)) hb16
    have hstep : s_cadenceref01_Text_1 RR [.int .u64 (b : Int), .string (ba pre)] [.int .u64 (x : Int), .string (ba out)] H =
        if x / b = 0 then some (.ret, [.string (ba (pre ++ ([dig (x % b)] ++ out)))], H) else some (.next, [.int .u64 ((x / b : Nat) : Int), .string (ba ([dig (x % b)] ++ out))], H) := by
      unfold s_cadenceref01_Text_1
      simp only [List.getD_cons_zero, List.getD_cons_succ]
      rw [q_rem _ _ _ _ (by omega), show (Value.int .u64 1) = .int .u64 ((1 : Nat) : Int) from rfl, q_add _ _ _ (by omega), s_cut _ _ _ _ _ (by omega) (by show x % b + 1 ≤ 16; omega), hex_cut _ hd, s_catL _ _ _ (by simp; omega), q_quo _ _ _ (by omega) hx, s_eql, s_bool, s_br]
      by_cases h0 : x / b = 0
      · rw [if_pos (by simp [h0]), if_pos h0, s_catL _ _ _ (by simp; omega)]
      · rw [if_neg (fun e => h0 (Int.natCast_eq_zero.1 (of_decide_eq_true e))), if_neg h0]
    rw [loopD_eq, hstep]
    by_cases h0 : x / b = 0
    · rw [if_pos h0]
      have hxb : x < b := by
        rcases Nat.lt_or_ge x b with q | q
        · exact q
        · have := Nat.div_pos q (by omega); omega
      rw [dgt_lt hxb, Nat.mod_eq_of_lt hxb]; rfl
    · rw [if_neg h0]
      have hxb : b ≤ x := by
        rcases Nat.lt_or_ge x b with q | q
        · exact absurd (Nat.div_eq_of_lt q) h0
        · exact q
      have hn : 0 < n := by
        rcases Nat.eq_zero_or_pos n with q | q
        · subst q; simp at h; omega
        · exact q
      have hlt : x / b < b ^ n := Nat.div_lt_of_lt_mul (by rw [Nat.pow_succ, Nat.mul_comm] at h; exact h)
      have hle := Nat.div_le_self x b
      have := text_loop hb hb16 pre hp H n (x / b) ([dig (x % b)] ++ out) hlt hn (by omega) (by simp; omega)
      rw [dgt_ge hb hxb, List.append_assoc]
      exact this
/-- A number's text. -/
def numT (x : Nat) : List UInt8 := if x < 1000 then dgt 10 x else [48, 120] ++ dgt 16 x
theorem numT_len {x : Nat} (h : x < 18446744073709551616) : (numT x).length ≤ 18 := by
  unfold numT
  split
  · have := dgt_len (b := 10) (by decide) 3 x (by omega) (by decide); omega
  · have := dgt_len (b := 16) (by decide) 16 x (by omega) (by decide); simp; omega
theorem c_refText (x : Nat) (hx : x < 18446744073709551616) (H : Hp) : RR F.cadenceref01_Text [.int .u64 (x : Int)] H = some (.string (ba (numT x)), H) := by
  refine (r_cadenceref01_Text E0 rfl _ _).trans ((k_cadenceref01_Text _ _ _).trans ?_)
  rw [s_geq, s_bool, s_br]
  unfold numT
  by_cases h : x < 1000
  · rw [if_neg (by simp; omega), if_pos h, s_bind, s_next]
    have := text_loop (b := 10) (by decide) (by decide) [] (by decide) H 20 x [] (by omega) (by decide) hx (by decide)
    have this : loopD (s_cadenceref01_Text_1 RR [.int .u64 10, .string ⟨#[]⟩]) [.int .u64 (x : Int), .string ⟨#[]⟩] H = _ := this
    rw [this, s_bind, s_ret, List.append_nil]; rfl
  · rw [if_pos (by simp; omega), if_neg h, s_bind, s_next]
    have := text_loop (b := 16) (by decide) (by decide) [48, 120] (by decide) H 16 x [] (by omega) (by decide) hx (by decide)
    have this : loopD (s_cadenceref01_Text_1 RR [.int .u64 16, .string ⟨#[48, 120]⟩]) [.int .u64 (x : Int), .string ⟨#[]⟩] H = _ := this
    rw [this, s_bind, s_ret, List.append_nil]; rfl
end Go.AM
/- Len64. -/
set_option linter.unusedVariables false
set_option linter.unusedSimpArgs false
namespace Go.AM
open Go
abbrev W64 := BitVec 64
theorem u_0 : Value.int .u64 0 = wv 0#64 := rfl
theorem u_1 : Value.int .u64 1 = wv 1#64 := rfl
section
variable {α : Type}
theorem at8 (s : ByteArray) (i : Nat) (hs : i < s.size) (k : Value → Option α) : pAtStr (.string s) (.int .u8 (i : Int)) k = k (.int .u8 ((s[i]'hs).toNat : Int)) := by
  refine (q_at s i (s[i]'hs) ?_ k)
  rw [Array.getElem?_toList]
  exact Array.getElem?_eq_getElem (xs := s.data) hs
set_option maxRecDepth 100000 in
theorem at_len8 (i : Nat) (h : i < 256) (k : Value → Option α) : pAtStr (.string ⟨#[0, 1, 2, 2, 3, 3, 3, 3, 4, 4, 4, 4, 4, 4, 4, 4, 5, 5, 5, 5, 5, 5, 5, 5, 5, 5, 5, 5, 5, 5, 5, 5, 6, 6, 6, 6, 6, 6, 6, 6, 6, 6, 6, 6, 6, 6, 6, 6, 6, 6, 6, 6, 6, 6, 6, 6, 6, 6, 6, 6, 6, 6, 6, 6, 7, 7, 7, 7, 7, 7, 7, 7, 7, 7, 7, 7, 7, 7, 7, 7, 7, 7, 7, 7, 7, 7, 7, 7, 7, 7, 7, 7, 7, 7, 7, 7, 7, 7, 7, 7, 7, 7, 7, 7, 7, 7, 7, 7, 7, 7, 7, 7, 7, 7, 7, 7, 7, 7, 7, 7, 7, 7, 7, 7, 7, 7, 7, 7, 8, 8, 8, 8, 8, 8, 8, 8, 8, 8, 8, 8, 8, 8, 8, 8, 8, 8, 8, 8, 8, 8, 8, 8, 8, 8, 8, 8, 8, 8, 8, 8, 8, 8, 8, 8, 8, 8, 8, 8, 8, 8, 8, 8, 8, 8, 8, 8, 8, 8, 8, 8, 8, 8, 8, 8, 8, 8, 8, 8, 8, 8, 8, 8, 8, 8, 8, 8, 8, 8, 8, 8, 8, 8, 8, 8, 8, 8, 8, 8, 8, 8, 8, 8, 8, 8, 8, 8, 8, 8, 8, 8, 8, 8, 8, 8, 8, 8, 8, 8, 8, 8, 8, 8, 8, 8, 8, 8, 8, 8, 8, 8, 8, 8, 8, 8, 8, 8, 8, 8, 8, 8, 8, 8, 8, 8, 8, 8]⟩) (.int .u8 (i : Int)) k = k (.int .u8 ((bitLen i : Nat) : Int)) := by
  have hs : i < (⟨#[0, 1, 2, 2, 3, 3, 3, 3, 4, 4, 4, 4, 4, 4, 4, 4, 5, 5, 5, 5, 5, 5, 5, 5, 5, 5, 5, 5, 5, 5, 5, 5, 6, 6, 6, 6, 6, 6, 6, 6, 6, 6, 6, 6, 6, 6, 6, 6, 6, 6, 6, 6, 6, 6, 6, 6, 6, 6, 6, 6, 6, 6, 6, 6, 7, 7, 7, 7, 7, 7, 7, 7, 7, 7, 7, 7, 7, 7, 7, 7, 7, 7, 7, 7, 7, 7, 7, 7, 7, 7, 7, 7, 7, 7, 7, 7, 7, 7, 7, 7, 7, 7, 7, 7, 7, 7, 7, 7, 7, 7, 7, 7, 7, 7, 7, 7, 7, 7, 7, 7, 7, 7, 7, 7, 7, 7, 7, 7, 8, 8, 8, 8, 8, 8, 8, 8, 8, 8, 8, 8, 8, 8, 8, 8, 8, 8, 8, 8, 8, 8, 8, 8, 8, 8, 8, 8, 8, 8, 8, 8, 8, 8, 8, 8, 8, 8, 8, 8, 8, 8, 8, 8, 8, 8, 8, 8, 8, 8, 8, 8, 8, 8, 8, 8, 8, 8, 8, 8, 8, 8, 8, 8, 8, 8, 8, 8, 8, 8, 8, 8, 8, 8, 8, 8, 8, 8, 8, 8, 8, 8, 8, 8, 8, 8, 8, 8, 8, 8, 8, 8, 8, 8, 8, 8, 8, 8, 8, 8, 8, 8, 8, 8, 8, 8, 8, 8, 8, 8, 8, 8, 8, 8, 8, 8, 8, 8, 8, 8, 8, 8, 8, 8, 8, 8, 8, 8]⟩ : ByteArray).size := h
  rw [at8 _ i hs k, len8tab_get i hs]
end
theorem conv8 (y : W64) (h : y.toNat < 256) {α : Type} (k : Value → Option α) : pConvInt .u8 (wv y) k = k (.int .u8 (y.toNat : Int)) := by
  unfold wv
  rw [q_conv, q_u8 (by omega) (by omega)]
theorem shr_nat (x : W64) (n : Nat) : (x >>> n).toNat = x.toNat / 2 ^ n := by rw [BitVec.toNat_ushiftRight, Nat.shiftRight_eq_div_pow]
theorem c80 (x : W64) (H : Hp) : RR F.bits_Len64 [wv x] H = some (.int .i64 ((bitLen x.toNat : Nat) : Int), H) := by
  refine (r_bits_Len64 E0 rfl _ H).trans ?_
  unfold m_bits_Len64
  have n1 : Value.int .u64 4294967296 = wv 4294967296#64 := rfl
  have n2 : Value.int .u64 65536 = wv 65536#64 := rfl
  have n3 : Value.int .u64 256 = wv 256#64 := rfl
  have n4 : ∀ n : Nat, Value.int .u64 (n : Int) = .int .u64 (n : Int) := fun _ => rfl
  have s32 : ∀ (a : W64) {α : Type} (k : Value → Option α), pBin PP .shr T.uint64 (wv a) (.int .u64 32) k = k (wv (a >>> 32)) := fun a _ k => b_shr T.uint64 a k .u64 32
  have s16 : ∀ (a : W64) {α : Type} (k : Value → Option α), pBin PP .shr T.uint64 (wv a) (.int .u64 16) k = k (wv (a >>> 16)) := fun a _ k => b_shr T.uint64 a k .u64 16
  have s8 : ∀ (a : W64) {α : Type} (k : Value → Option α), pBin PP .shr T.uint64 (wv a) (.int .u64 8) k = k (wv (a >>> 8)) := fun a _ k => b_shr T.uint64 a k .u64 8
  have tail : ∀ (y : W64) (n : Nat), n ≤ 64 → y.toNat < 2 ^ 16 → ∀ G : Option (Value × Hp), G = some (.int .i64 ((n + bitLen y.toNat : Nat) : Int), H) →
    (pBin PP .geq T.uint64 (wv y) (.int .u64 256) fun v24 => pBool v24 fun b25 => br b25
      (pBin PP .shr T.uint64 (wv y) (.int .u64 8) fun v26 => pBin PP .add T.int (.int .i64 (n : Int)) (.int .i64 8) fun v27 => pConvInt .u8 v26 fun v28 =>
        pAtStr (.string ⟨#[0, 1, 2, 2, 3, 3, 3, 3, 4, 4, 4, 4, 4, 4, 4, 4, 5, 5, 5, 5, 5, 5, 5, 5, 5, 5, 5, 5, 5, 5, 5, 5, 6, 6, 6, 6, 6, 6, 6, 6, 6, 6, 6, 6, 6, 6, 6, 6, 6, 6, 6, 6, 6, 6, 6, 6, 6, 6, 6, 6, 6, 6, 6, 6, 7, 7, 7, 7, 7, 7, 7, 7, 7, 7, 7, 7, 7, 7, 7, 7, 7, 7, 7, 7, 7, 7, 7, 7, 7, 7, 7, 7, 7, 7, 7, 7, 7, 7, 7, 7, 7, 7, 7, 7, 7, 7, 7, 7, 7, 7, 7, 7, 7, 7, 7, 7, 7, 7, 7, 7, 7, 7, 7, 7, 7, 7, 7, 7, 8, 8, 8, 8, 8, 8, 8, 8, 8, 8, 8, 8, 8, 8, 8, 8, 8, 8, 8, 8, 8, 8, 8, 8, 8, 8, 8, 8, 8, 8, 8, 8, 8, 8, 8, 8, 8, 8, 8, 8, 8, 8, 8, 8, 8, 8, 8, 8, 8, 8, 8, 8, 8, 8, 8, 8, 8, 8, 8, 8, 8, 8, 8, 8, 8, 8, 8, 8, 8, 8, 8, 8, 8, 8, 8, 8, 8, 8, 8, 8, 8, 8, 8, 8, 8, 8, 8, 8, 8, 8, 8, 8, 8, 8, 8, 8, 8, 8, 8, 8, 8, 8, 8, 8, 8, 8, 8, 8, 8, 8, 8, 8, 8, 8, 8, 8, 8, 8, 8, 8, 8, 8, 8, 8, 8, 8, 8, 8]⟩) v28 fun v29 => pConvInt .i64 v29 fun v30 => pBin PP .add T.int v27 v30 fun v31 => some (v31, H))
      (pConvInt .u8 (wv y) fun v32 => pAtStr (.string ⟨#[0, 1, 2, 2, 3, 3, 3, 3, 4, 4, 4, 4, 4, 4, 4, 4, 5, 5, 5, 5, 5, 5, 5, 5, 5, 5, 5, 5, 5, 5, 5, 5, 6, 6, 6, 6, 6, 6, 6, 6, 6, 6, 6, 6, 6, 6, 6, 6, 6, 6, 6, 6, 6, 6, 6, 6, 6, 6, 6, 6, 6, 6, 6, 6, 7, 7, 7, 7, 7, 7, 7, 7, 7, 7, 7, 7, 7, 7, 7, 7, 7, 7, 7, 7, 7, 7, 7, 7, 7, 7, 7, 7, 7, 7, 7, 7, 7, 7, 7, 7, 7, 7, 7, 7, 7, 7, 7, 7, 7, 7, 7, 7, 7, 7, 7, 7, 7, 7, 7, 7, 7, 7, 7, 7, 7, 7, 7, 7, 8, 8, 8, 8, 8, 8, 8, 8, 8, 8, 8, 8, 8, 8, 8, 8, 8, 8, 8, 8, 8, 8, 8, 8, 8, 8, 8, 8, 8, 8, 8, 8, 8, 8, 8, 8, 8, 8, 8, 8, 8, 8, 8, 8, 8, 8, 8, 8, 8, 8, 8, 8, 8, 8, 8, 8, 8, 8, 8, 8, 8, 8, 8, 8, 8, 8, 8, 8, 8, 8, 8, 8, 8, 8, 8, 8, 8, 8, 8, 8, 8, 8, 8, 8, 8, 8, 8, 8, 8, 8, 8, 8, 8, 8, 8, 8, 8, 8, 8, 8, 8, 8, 8, 8, 8, 8, 8, 8, 8, 8, 8, 8, 8, 8, 8, 8, 8, 8, 8, 8, 8, 8, 8, 8, 8, 8, 8, 8]⟩) v32 fun v33 => pConvInt .i64 v33 fun v34 => pBin PP .add T.int (.int .i64 (n : Int)) v34 fun v35 => some (v35, H))) = G := by
    intro y n hn hy G hG
    rw [hG, n3, b_geq, s_bool, s_br, show (256#64).toNat = 256 from rfl]
    by_cases h : 256 ≤ y.toNat
    · rw [if_pos (decide_eq_true h), s8]
      have e := shr_nat y 8
      have hlt : (y >>> 8).toNat < 256 := by omega
      have hb := bitLen_le8 _ hlt
      have hne : y.toNat / 2 ^ 8 ≠ 0 := by omega
      have hl := bitLen_shift y.toNat 8 hne
      rw [← e] at hl
      rw [s_add, conv8 _ hlt, at_len8 _ hlt, q_conv, s_add, q_i64 (x := (n : Int) + 8) (by omega) (by omega), q_i64 (x := ((bitLen (y >>> 8).toNat : Nat) : Int)) (by omega) (by omega), q_i64 (by omega) (by omega), hl]
      congr 3; omega
    · rw [if_neg (by simpa using h)]
      have hlt : y.toNat < 256 := by omega
      have hb := bitLen_le8 _ hlt
      rw [conv8 _ hlt, at_len8 _ hlt, q_conv, s_add, q_i64 (x := ((bitLen y.toNat : Nat) : Int)) (by omega) (by omega), q_i64 (by omega) (by omega)]
      congr 3
  have mid : ∀ (y : W64) (n : Nat), n ≤ 32 → y.toNat < 2 ^ 32 → ∀ G : Option (Value × Hp), G = some (.int .i64 ((n + bitLen y.toNat : Nat) : Int), H) → (onCtl (α := Value × Hp) .next
 (pBin PP .geq T.uint64 (wv y) (.int .u64 65536) fun v8 =>
 pBool v8 fun b9 => br b9
 (pBin PP .shr T.uint64 (wv y) (.int .u64 16) fun v10 =>
 pBin PP .add T.int (.int .i64 (n : Int)) (.int .i64 16) fun v11 =>
 pBin PP .geq T.uint64 v10 (.int .u64 256) fun v12 =>
 pBool v12 fun b13 => br b13
 (pBin PP .shr T.uint64 v10 (.int .u64 8) fun v14 =>
 pBin PP .add T.int v11 (.int .i64 8) fun v15 =>
 pConvInt .u8 v14 fun v16 =>
 pAtStr (.string ⟨#[0, 1, 2, 2, 3, 3, 3, 3, 4, 4, 4, 4, 4, 4, 4, 4, 5, 5, 5, 5, 5, 5, 5, 5, 5, 5, 5, 5, 5, 5, 5, 5, 6, 6, 6, 6, 6, 6, 6, 6, 6, 6, 6, 6, 6, 6, 6, 6, 6, 6, 6, 6, 6, 6, 6, 6, 6, 6, 6, 6, 6, 6, 6, 6, 7, 7, 7, 7, 7, 7, 7, 7, 7, 7, 7, 7, 7, 7, 7, 7, 7, 7, 7, 7, 7, 7, 7, 7, 7, 7, 7, 7, 7, 7, 7, 7, 7, 7, 7, 7, 7, 7, 7, 7, 7, 7, 7, 7, 7, 7, 7, 7, 7, 7, 7, 7, 7, 7, 7, 7, 7, 7, 7, 7, 7, 7, 7, 7, 8, 8, 8, 8, 8, 8, 8, 8, 8, 8, 8, 8, 8, 8, 8, 8, 8, 8, 8, 8, 8, 8, 8, 8, 8, 8, 8, 8, 8, 8, 8, 8, 8, 8, 8, 8, 8, 8, 8, 8, 8, 8, 8, 8, 8, 8, 8, 8, 8, 8, 8, 8, 8, 8, 8, 8, 8, 8, 8, 8, 8, 8, 8, 8, 8, 8, 8, 8, 8, 8, 8, 8, 8, 8, 8, 8, 8, 8, 8, 8, 8, 8, 8, 8, 8, 8, 8, 8, 8, 8, 8, 8, 8, 8, 8, 8, 8, 8, 8, 8, 8, 8, 8, 8, 8, 8, 8, 8, 8, 8, 8, 8, 8, 8, 8, 8, 8, 8, 8, 8, 8, 8, 8, 8, 8, 8, 8, 8]⟩) v16 fun v17 =>
 pConvInt .i64 v17 fun v18 =>
 pBin PP .add T.int v15 v18 fun v19 =>
 some (v19, H))
 (pConvInt .u8 v10 fun v20 =>
 pAtStr (.string ⟨#[0, 1, 2, 2, 3, 3, 3, 3, 4, 4, 4, 4, 4, 4, 4, 4, 5, 5, 5, 5, 5, 5, 5, 5, 5, 5, 5, 5, 5, 5, 5, 5, 6, 6, 6, 6, 6, 6, 6, 6, 6, 6, 6, 6, 6, 6, 6, 6, 6, 6, 6, 6, 6, 6, 6, 6, 6, 6, 6, 6, 6, 6, 6, 6, 7, 7, 7, 7, 7, 7, 7, 7, 7, 7, 7, 7, 7, 7, 7, 7, 7, 7, 7, 7, 7, 7, 7, 7, 7, 7, 7, 7, 7, 7, 7, 7, 7, 7, 7, 7, 7, 7, 7, 7, 7, 7, 7, 7, 7, 7, 7, 7, 7, 7, 7, 7, 7, 7, 7, 7, 7, 7, 7, 7, 7, 7, 7, 7, 8, 8, 8, 8, 8, 8, 8, 8, 8, 8, 8, 8, 8, 8, 8, 8, 8, 8, 8, 8, 8, 8, 8, 8, 8, 8, 8, 8, 8, 8, 8, 8, 8, 8, 8, 8, 8, 8, 8, 8, 8, 8, 8, 8, 8, 8, 8, 8, 8, 8, 8, 8, 8, 8, 8, 8, 8, 8, 8, 8, 8, 8, 8, 8, 8, 8, 8, 8, 8, 8, 8, 8, 8, 8, 8, 8, 8, 8, 8, 8, 8, 8, 8, 8, 8, 8, 8, 8, 8, 8, 8, 8, 8, 8, 8, 8, 8, 8, 8, 8, 8, 8, 8, 8, 8, 8, 8, 8, 8, 8, 8, 8, 8, 8, 8, 8, 8, 8, 8, 8, 8, 8, 8, 8, 8, 8, 8, 8]⟩) v20 fun v21 =>
 pConvInt .i64 v21 fun v22 =>
 pBin PP .add T.int v11 v22 fun v23 =>
 some (v23, H)))
 (pBin PP .geq T.uint64 (wv y) (.int .u64 256) fun v24 =>
 pBool v24 fun b25 => br b25
 (pBin PP .shr T.uint64 (wv y) (.int .u64 8) fun v26 =>
 pBin PP .add T.int (.int .i64 (n : Int)) (.int .i64 8) fun v27 =>
 pConvInt .u8 v26 fun v28 =>
 pAtStr (.string ⟨#[0, 1, 2, 2, 3, 3, 3, 3, 4, 4, 4, 4, 4, 4, 4, 4, 5, 5, 5, 5, 5, 5, 5, 5, 5, 5, 5, 5, 5, 5, 5, 5, 6, 6, 6, 6, 6, 6, 6, 6, 6, 6, 6, 6, 6, 6, 6, 6, 6, 6, 6, 6, 6, 6, 6, 6, 6, 6, 6, 6, 6, 6, 6, 6, 7, 7, 7, 7, 7, 7, 7, 7, 7, 7, 7, 7, 7, 7, 7, 7, 7, 7, 7, 7, 7, 7, 7, 7, 7, 7, 7, 7, 7, 7, 7, 7, 7, 7, 7, 7, 7, 7, 7, 7, 7, 7, 7, 7, 7, 7, 7, 7, 7, 7, 7, 7, 7, 7, 7, 7, 7, 7, 7, 7, 7, 7, 7, 7, 8, 8, 8, 8, 8, 8, 8, 8, 8, 8, 8, 8, 8, 8, 8, 8, 8, 8, 8, 8, 8, 8, 8, 8, 8, 8, 8, 8, 8, 8, 8, 8, 8, 8, 8, 8, 8, 8, 8, 8, 8, 8, 8, 8, 8, 8, 8, 8, 8, 8, 8, 8, 8, 8, 8, 8, 8, 8, 8, 8, 8, 8, 8, 8, 8, 8, 8, 8, 8, 8, 8, 8, 8, 8, 8, 8, 8, 8, 8, 8, 8, 8, 8, 8, 8, 8, 8, 8, 8, 8, 8, 8, 8, 8, 8, 8, 8, 8, 8, 8, 8, 8, 8, 8, 8, 8, 8, 8, 8, 8, 8, 8, 8, 8, 8, 8, 8, 8, 8, 8, 8, 8, 8, 8, 8, 8, 8, 8]⟩) v28 fun v29 =>
 pConvInt .i64 v29 fun v30 =>
 pBin PP .add T.int v27 v30 fun v31 =>
 some (v31, H))
 (pConvInt .u8 (wv y) fun v32 =>
 pAtStr (.string ⟨#[0, 1, 2, 2, 3, 3, 3, 3, 4, 4, 4, 4, 4, 4, 4, 4, 5, 5, 5, 5, 5, 5, 5, 5, 5, 5, 5, 5, 5, 5, 5, 5, 6, 6, 6, 6, 6, 6, 6, 6, 6, 6, 6, 6, 6, 6, 6, 6, 6, 6, 6, 6, 6, 6, 6, 6, 6, 6, 6, 6, 6, 6, 6, 6, 7, 7, 7, 7, 7, 7, 7, 7, 7, 7, 7, 7, 7, 7, 7, 7, 7, 7, 7, 7, 7, 7, 7, 7, 7, 7, 7, 7, 7, 7, 7, 7, 7, 7, 7, 7, 7, 7, 7, 7, 7, 7, 7, 7, 7, 7, 7, 7, 7, 7, 7, 7, 7, 7, 7, 7, 7, 7, 7, 7, 7, 7, 7, 7, 8, 8, 8, 8, 8, 8, 8, 8, 8, 8, 8, 8, 8, 8, 8, 8, 8, 8, 8, 8, 8, 8, 8, 8, 8, 8, 8, 8, 8, 8, 8, 8, 8, 8, 8, 8, 8, 8, 8, 8, 8, 8, 8, 8, 8, 8, 8, 8, 8, 8, 8, 8, 8, 8, 8, 8, 8, 8, 8, 8, 8, 8, 8, 8, 8, 8, 8, 8, 8, 8, 8, 8, 8, 8, 8, 8, 8, 8, 8, 8, 8, 8, 8, 8, 8, 8, 8, 8, 8, 8, 8, 8, 8, 8, 8, 8, 8, 8, 8, 8, 8, 8, 8, 8, 8, 8, 8, 8, 8, 8, 8, 8, 8, 8, 8, 8, 8, 8, 8, 8, 8, 8, 8, 8, 8, 8, 8, 8]⟩) v32 fun v33 =>
 pConvInt .i64 v33 fun v34 =>
 pBin PP .add T.int (.int .i64 (n : Int)) v34 fun v35 =>
 some (v35, H)))) (fun i7 => none) none) = G := by
    intro y n hn hy G hG
    rw [s_next, n2, b_geq, s_bool, s_br, show (65536#64).toNat = 65536 from rfl]
    by_cases h : 65536 ≤ y.toNat
    · rw [if_pos (decide_eq_true h), s16, s_add, q_i64 (by omega) (by omega)]
      have e := shr_nat y 16
      have hne : y.toNat / 2 ^ 16 ≠ 0 := by omega
      have hl := bitLen_shift y.toNat 16 hne
      rw [← e] at hl
      have e2 : ((n : Int) + 16) = ((n + 16 : Nat) : Int) := by omega
      rw [e2]
      refine tail (y >>> 16) (n + 16) (by omega) (by omega) G ?_
      rw [hG, hl]
      congr 3; omega
    · rw [if_neg (by simpa using h)]
      exact tail y n (by omega) (by omega) G hG
  rw [n1, b_geq, s_bool, s_br, show (4294967296#64).toNat = 4294967296 from rfl]
  by_cases h : 4294967296 ≤ x.toNat
  · rw [if_pos (decide_eq_true h), s32]
    have e := shr_nat x 32
    have hx := x.isLt
    have hne : x.toNat / 2 ^ 32 ≠ 0 := by omega
    have hl := bitLen_shift x.toNat 32 hne
    rw [← e] at hl
    refine mid (x >>> 32) 32 (by omega) (by omega) _ ?_
    rw [hl]
  · rw [if_neg (by simpa using h)]
    refine mid x 0 (by omega) (by omega) _ ?_
    rw [Nat.zero_add]
end Go.AM
/- strings.Builder: what is written. -/
set_option linter.unusedVariables false
set_option linter.unusedSimpArgs false
namespace Go.AM
open Go
theorem run_ext {P : Program} {O : Orc} {ext : FuncId → Option (List Value → Hp → Option (Value × Hp))} {g : FuncId} {fn : Func} {e : List Value → Hp → Option (Value × Hp)} (hf : P.funcs[g]? = some fn) (hn : (fn.name == "runtime.NumGoroutine") = false) (hb : fn.body.isSome = true) (hx : ext g = some e) (xs : List Value) (H : Hp) :
    run P O ext g xs H = e xs H := by
  rw [run_eq]
  unfold callF
  rw [hf]
  dsimp only
  rw [hn]
  dsimp only
  obtain ⟨c, hc⟩ := Option.isSome_iff_exists.1 hb
  rw [hc]
  dsimp only
  rw [hx]
theorem x_cc (xs : List Value) (H : Hp) : RR F.strings_Builder_copyCheck xs H = extCC xs H := run_ext Go.Proofs.Tryd.func43 (by kernel_rfl) (by kernel_rfl) rfl _ _
theorem x_str (xs : List Value) (H : Hp) : RR F.strings_Builder_String xs H = extStr xs H := run_ext Go.Proofs.Tryd.func19 (by kernel_rfl) (by kernel_rfl) rfl _ _
/-- Bytes as cells. -/
def bv (l : List UInt8) : List Value := l.map fun b => Value.int .u8 (b.toNat : Int)
theorem bv_len (l : List UInt8) : (bv l).length = l.length := by simp [bv]
theorem bv_app (l m : List UInt8) : bv (l ++ m) = bv l ++ bv m := by simp [bv]
theorem bv_one (l : List UInt8) : (bv l).all one = true := by
  unfold bv; rw [List.all_map]; exact List.all_eq_true.2 fun _ _ => rfl
theorem bytesX_bv : ∀ l : List UInt8, bytesX (bv l) = some l
  | [] => rfl
  | b :: l => by
    have hb : b.toNat < 256 := b.toNat_lt
    show (if b.toNat < 256 then (match bytesX (bv l) with | some l => some (UInt8.ofNat b.toNat :: l) | none => none) else none) = _
    rw [if_pos hb, bytesX_bv l]
    simp
/-- A builder. -/
structure Bld (H : Hp) (i : Nat) (s : List UInt8) (j : Option Nat) : Prop where
  ty : H.ty i = some T.strings_Builder
  lt : i < H.next
  ex : ∃ a buf, H.get i = some (.cells [a, buf] true) ∧ (a = .pointer none ∨ a = .pointer (some ⟨i, 0, none⟩)) ∧
    ((j = none ∧ s = [] ∧ buf = .slice none 0 0) ∨ ∃ y, j = some y ∧ y ≠ i ∧ y < H.next ∧ s ≠ [] ∧ buf = .slice (some ⟨y, 0, some 1⟩) s.length s.length ∧ H.get y = some (.cells (bv s) true) ∧ H.ty y = some T.uint8)
/-- What writing into a builder leaves alone. -/
structure BF (i : Nat) (H : Hp) (j : Option Nat) (H' : Hp) (j' : Option Nat) : Prop where
  next : H.next ≤ H'.next
  get : ∀ k, k < H.next → k ≠ i → j ≠ some k → H'.get k = H.get k
  ty : ∀ k, k < H.next → H'.ty k = H.ty k
  foot : ∀ y, j' = some y → j = some y ∨ H.next ≤ y
theorem BF.refl (i : Nat) (H : Hp) (j : Option Nat) : BF i H j H j := ⟨Nat.le_refl _, fun _ _ _ _ => rfl, fun _ _ => rfl, fun _ h => .inl h⟩
theorem BF.trans {i : Nat} {H H1 H2 : Hp} {j j1 j2 : Option Nat} (h : BF i H j H1 j1) (k : BF i H1 j1 H2 j2) : BF i H j H2 j2 where
  next := Nat.le_trans h.next k.next
  get := fun q hq hi hj => by
    rw [k.get q (Nat.lt_of_lt_of_le hq h.next) hi (fun e => by rcases h.foot q e with e | e; exact hj e; omega), h.get q hq hi hj]
  ty := fun q hq => by rw [k.ty q (Nat.lt_of_lt_of_le hq h.next), h.ty q hq]
  foot := fun y hy => by
    rcases k.foot y hy with e | e
    · exact h.foot y e
    · exact .inr (Nat.le_trans h.next e)
theorem get_mark (H : Hp) (i : Nat) (T : TypeId) (k : Nat) : (H.mark i T).get k = H.get k := rfl
theorem ty_set (H : Hp) (i : Nat) (o : Option AObj) : (H.set i o).ty = H.ty := rfl
theorem ty_new (H : Hp) (o : AObj) : (H.new o).ty = H.ty := rfl
theorem st_cell1 {α : Type} {H : Hp} {i : Nat} {a b v : Value} (hg : H.get i = some (.cells [a, b] true)) (hc : cellsL v = [v]) (h1 : one v = true) (k : Hp → Option α) : pStore 1 H (.pointer (some ⟨i, 1, none⟩)) v k = k (H.set i (some (.cells [a, v] true))) := by
  have hw : wrCells 1 [a, b] 1 v = some [a, v] := by
    unfold wrCells
    rw [hc, if_pos ⟨rfl, by simp, by simp [h1]⟩]
    rfl
  unfold pStore Hp.wr
  dsimp only
  rw [hg]
  dsimp only
  rw [hw]
/-- The append of bytes to a builder's buffer. -/
theorem app_buf {H : Hp} {i : Nat} {s : List UInt8} {j : Option Nat} {buf : Value} (hi : i < H.next) (hb : (j = none ∧ s = [] ∧ buf = .slice none 0 0) ∨ ∃ y, j = some y ∧ y ≠ i ∧ y < H.next ∧ s ≠ [] ∧ buf = .slice (some ⟨y, 0, some 1⟩) s.length s.length ∧ H.get y = some (.cells (bv s) true) ∧ H.ty y = some T.uint8)
    {x : Value} {t : List UInt8} (hx : srcCells 1 x H = some (t.length, bv t)) (hl : s.length + t.length ≤ 2 ^ 46) :
    ∃ buf' H' j', (∀ (α : Type) (k : Value → Hp → Option α), pAppendT T.uint8 1 1 buf x H k = k buf' H') ∧ cellsL buf' = [buf'] ∧ one buf' = true ∧ H.next ≤ H'.next ∧ (∀ k, k < H.next → j ≠ some k → H'.get k = H.get k) ∧ (∀ k, k < H.next → H'.ty k = H.ty k) ∧
      (∀ y, j' = some y → j = some y ∨ H.next ≤ y) ∧
      ((j' = none ∧ s ++ t = [] ∧ buf' = .slice none 0 0) ∨ ∃ y, j' = some y ∧ y ≠ i ∧ y < H'.next ∧ s ++ t ≠ [] ∧ buf' = .slice (some ⟨y, 0, some 1⟩) (s ++ t).length (s ++ t).length ∧ H'.get y = some (.cells (bv (s ++ t)) true) ∧ H'.ty y = some T.uint8) := by
  have hone := bv_one t
  rcases hb with ⟨rfl, rfl, rfl⟩ | ⟨y, rfl, hyi, hyn, hs, rfl, hg, hty⟩
  · by_cases h0 : t.length = 0
    · have : t = [] := List.length_eq_zero_iff.1 h0
      subst this
      refine ⟨.slice none 0 0, H, none, fun α k => ?_, rfl, rfl, Nat.le_refl _, fun _ _ _ => rfl, fun _ _ => rfl, (fun y h => by cases h), .inl ⟨rfl, rfl, rfl⟩⟩
      have ha : appendV 1 1 (.slice none 0 0) x H = some (.slice none 0 0, H) := by unfold appendV; rw [hx]; rfl
      unfold pAppendT
      rw [ha]
      dsimp only
      unfold markA
      have : Nat.beq H.next (H.next + 1) = false := by
        cases q : Nat.beq H.next (H.next + 1) with
        | false => rfl
        | true => have := Nat.eq_of_beq_eq_true q; omega
      rw [this]; rfl
    · refine ⟨.slice (some ⟨H.next, 0, some 1⟩) t.length t.length, (H.new (.cells (bv t) true)).mark H.next T.uint8, some H.next, fun α k => ?_, rfl, rfl, Nat.le_succ _, fun k hk _ => ?_, fun k hk => ?_, (fun y h => by cases h; exact .inr (Nat.le_refl _)), .inr ⟨H.next, rfl, by omega, Nat.lt_succ_self _, ?_, ?_, ?_, ?_⟩⟩
      · have ha : appendV 1 1 (.slice none 0 0) x H = some (.slice (some ⟨H.next, 0, some 1⟩) t.length t.length, H.new (.cells (bv t) true)) := by
          unfold appendV; rw [hx]
          dsimp only
          rw [if_neg h0, if_pos ⟨by have : ([] : List UInt8).length = 0 := rfl; omega, hone⟩]
          rfl
        unfold pAppendT
        rw [ha]
        dsimp only
        unfold markA
        have : Nat.beq (H.new (.cells (bv t) true)).next (H.next + 1) = true := Nat.beq_refl _
        rw [this]; rfl
      · rw [get_mark, get_new, if_neg (by omega)]
      · show (if k = H.next then _ else H.ty k) = _
        rw [if_neg (by omega)]
      · intro q; rw [List.nil_append] at q; rw [q] at h0; exact h0 rfl
      · rfl
      · rw [get_mark, get_new, if_pos rfl, List.nil_append]
      · show (if H.next = H.next then _ else _) = _
        rw [if_pos rfl]
  · have hsl : 0 < s.length := List.length_pos_iff.2 hs
    by_cases h0 : t.length = 0
    · have : t = [] := List.length_eq_zero_iff.1 h0
      subst this
      refine ⟨.slice (some ⟨y, 0, some 1⟩) s.length s.length, H, some y, fun α k => ?_, rfl, rfl, Nat.le_refl _, fun _ _ _ => rfl, fun _ _ => rfl, fun y h => .inl h, .inr ⟨y, rfl, hyi, hyn, by simpa using hs, by simp, by simpa using hg, hty⟩⟩
      have ha : appendV 1 1 (.slice (some ⟨y, 0, some 1⟩) s.length s.length) x H = some (.slice (some ⟨y, 0, some 1⟩) s.length s.length, H) := by
        unfold appendV; rw [hx]
        dsimp only
        rw [if_neg (by decide), if_pos ⟨rfl, Nat.le_refl _⟩]
      unfold pAppendT
      rw [ha]
      dsimp only
      unfold markA
      have : Nat.beq H.next (H.next + 1) = false := by
        cases q : Nat.beq H.next (H.next + 1) with
        | false => rfl
        | true => have := Nat.eq_of_beq_eq_true q; omega
      rw [this]; rfl
    · refine ⟨.slice (some ⟨H.next, 0, some 1⟩) (s.length + t.length) (s.length + t.length), ((H.set y none).new (.cells (bv s ++ bv t) true)).mark H.next T.uint8, some H.next, fun α k => ?_, rfl, rfl, Nat.le_succ _, fun k hk hj => ?_, fun k hk => ?_, (fun y h => by cases h; exact .inr (Nat.le_refl _)), .inr ⟨H.next, rfl, by omega, Nat.lt_succ_self _, ?_, ?_, ?_, ?_⟩⟩
      · have ha : appendV 1 1 (.slice (some ⟨y, 0, some 1⟩) s.length s.length) x H = some (.slice (some ⟨H.next, 0, some 1⟩) (s.length + t.length) (s.length + t.length), (H.set y none).new (.cells (bv s ++ bv t) true)) := by
          unfold appendV; rw [hx]
          dsimp only
          rw [if_neg (by decide), if_neg (by omega), hg]
          dsimp only
          rw [if_neg (by omega), if_pos ⟨by rw [bv_len]; omega, by omega, hone⟩]
          congr 4
          rw [List.drop_zero, List.take_of_length_le (by rw [bv_len]; omega)]
        unfold pAppendT
        rw [ha]
        dsimp only
        unfold markA
        have e1 : Nat.beq ((H.set y none).new (.cells (bv s ++ bv t) true)).next (H.next + 1) = true := Nat.beq_refl _
        have e2 : canMark T.uint8 (.slice (some ⟨y, 0, some 1⟩) s.length s.length) H = true := by
          obtain ⟨q, hq⟩ : ∃ q, s.length = q + 1 := ⟨s.length - 1, by omega⟩
          rw [hq]
          show (match H.ty y with | some T => Nat.beq T _ | none => false) = true
          rw [hty]; exact Nat.beq_refl _
        rw [e1, e2]; rfl
      · rw [get_mark, get_new, if_neg (show ¬ k = (H.set y none).next by show ¬ k = H.next; omega), Hp.get_set, if_neg (fun e => hj (by rw [e]))]
      · show (if k = H.next then _ else H.ty k) = _
        rw [if_neg (by omega)]
      · intro q
        have := congrArg List.length q
        rw [List.length_append] at this
        simp at this; exact h0 (by rw [this.2]; rfl)
      · rw [List.length_append]
      · rw [get_mark, get_new, if_pos (show H.next = (H.set y none).next from rfl), bv_app]
      · show (if H.next = H.next then _ else _) = _
        rw [if_pos rfl]
theorem Bld.copy {H : Hp} {i : Nat} {s : List UInt8} {j : Option Nat} (h : Bld H i s j) : ∃ H1 buf, extCC [.pointer (some ⟨i, 0, none⟩)] H = some (.tuple #[], H1) ∧ H1.get i = some (.cells [.pointer (some ⟨i, 0, none⟩), buf] true) ∧ H1.next = H.next ∧ H1.ty = H.ty ∧ (∀ k, k ≠ i → H1.get k = H.get k) ∧
    ((j = none ∧ s = [] ∧ buf = .slice none 0 0) ∨ ∃ y, j = some y ∧ y ≠ i ∧ y < H1.next ∧ s ≠ [] ∧ buf = .slice (some ⟨y, 0, some 1⟩) s.length s.length ∧ H1.get y = some (.cells (bv s) true) ∧ H1.ty y = some T.uint8) := by
  obtain ⟨a, buf, hg, ha, hb⟩ := h.ex
  rcases ha with rfl | rfl
  · refine ⟨H.set i (some (.cells [.pointer (some ⟨i, 0, none⟩), buf] true)), buf, ?_, ?_, rfl, rfl, fun k hk => ?_, ?_⟩
    · show ccB i H (H.get i) = _
      rw [hg]
      exact if_pos h.ty
    · rw [Hp.get_set, if_pos rfl]
    · rw [Hp.get_set, if_neg hk]
    · rcases hb with hb | ⟨y, h1, h2, h3, h4, h5, h6, h7⟩
      · exact .inl hb
      · exact .inr ⟨y, h1, h2, h3, h4, h5, by rw [Hp.get_set, if_neg h2]; exact h6, h7⟩
  · refine ⟨H, buf, ?_, hg, rfl, rfl, fun k hk => rfl, hb⟩
    show ccB i H (H.get i) = _
    rw [hg]
    exact if_pos ⟨rfl, h.ty⟩
theorem Bld.ws {H : Hp} {i : Nat} {s : List UInt8} {j : Option Nat} (h : Bld H i s j) (t : ByteArray) (hl : s.length + t.data.toList.length ≤ 2 ^ 46) :
    ∃ H' j', RR F.strings_Builder_WriteString [.pointer (some ⟨i, 0, none⟩), .string t] H = some (.tuple #[.int .i64 (t.size : Int), .nilIface], H') ∧ Bld H' i (s ++ t.data.toList) j' ∧ BF i H j H' j' := by
  obtain ⟨H1, buf, e1, g1, n1, t1, f1, b1⟩ := h.copy
  have hx : srcCells 1 (.string t) H1 = some (t.data.toList.length, bv t.data.toList) := by
    have : t.size = t.data.toList.length := (Array.length_toList (xs := t.data)).symm
    show some (t.size, _) = _
    rw [this]; rfl
  obtain ⟨buf', H2, j', e2, c2, o2, n2, f2, y2, ft2, b2⟩ := app_buf (i := i) (by rw [n1]; exact h.lt) b1 hx hl
  have hlt : i < H1.next := by rw [n1]; exact h.lt
  have hji : j ≠ some i := fun q => by
    rcases b1 with ⟨q1, _⟩ | ⟨y, q1, q2, _⟩
    · rw [q1] at q; cases q
    · rw [q1] at q; cases q; exact q2 rfl
  have hgi : H2.get i = some (.cells [.pointer (some ⟨i, 0, none⟩), buf] true) := by rw [f2 i hlt hji]; exact g1
  refine ⟨H2.set i (some (.cells [.pointer (some ⟨i, 0, none⟩), buf'] true)), j', ?_, ⟨?_, ?_, ?_⟩, ⟨?_, fun k hk hi hj => ?_, fun k hk => ?_, fun y hy => ?_⟩⟩
  · refine (r_strings_Builder_WriteString E0 rfl _ _ _).trans ?_
    unfold m_strings_Builder_WriteString
    rw [s_call ((x_cc _ _).trans e1), s_nil, s_offs, s_load g1 _ buf rfl, e2, s_nil, s_offs]
    rw [show (0 + 1 : Nat) = 1 from rfl, st_cell1 hgi c2 o2]
    rfl
  · show H2.ty i = _
    rw [y2 i hlt, t1]; exact h.ty
  · show i < H2.next
    omega
  · refine ⟨_, buf', by rw [Hp.get_set, if_pos rfl], .inr rfl, ?_⟩
    rcases b2 with hb | ⟨y, h1, h2, h3, h4, h5, h6, h7⟩
    · exact .inl hb
    · exact .inr ⟨y, h1, h2, h3, h4, h5, by rw [Hp.get_set, if_neg h2]; exact h6, h7⟩
  · show H.next ≤ H2.next
    omega
  · rw [Hp.get_set, if_neg hi, f2 k (by omega) hj, f1 k hi]
  · show H2.ty k = _
    rw [y2 k (by omega), t1]
  · rw [← n1]; exact ft2 y hy
theorem Bld.wb {H : Hp} {i : Nat} {s : List UInt8} {j : Option Nat} (h : Bld H i s j) (b : UInt8) (hl : s.length + 1 ≤ 2 ^ 46) :
    ∃ H' j', RR F.strings_Builder_WriteByte [.pointer (some ⟨i, 0, none⟩), .int .u8 (b.toNat : Int)] H = some (.nilIface, H') ∧ Bld H' i (s ++ [b]) j' ∧ BF i H j H' j' := by
  obtain ⟨H1, buf, e1, g1, n1, t1, f1, b1⟩ := h.copy
  have hbs : ∀ (α : Type) (k : Value → Hp → Option α), pBuildSlice 1 [.int .u8 0] 1 [(0, .int .u8 (b.toNat : Int))] H1 k = k (.slice (some ⟨H1.next, 0, some 1⟩) 1 1) (H1.new (.cells (bv [b]) true)) := fun α k => rfl
  have hlt : i < H1.next := by rw [n1]; exact h.lt
  have hji : j ≠ some i := fun q => by
    rcases b1 with ⟨q1, _⟩ | ⟨y, q1, q2, _⟩
    · rw [q1] at q; cases q
    · rw [q1] at q; cases q; exact q2 rfl
  have b1' : (j = none ∧ s = [] ∧ buf = .slice none 0 0) ∨ ∃ y, j = some y ∧ y ≠ i ∧ y < (H1.new (.cells (bv [b]) true)).next ∧ s ≠ [] ∧ buf = .slice (some ⟨y, 0, some 1⟩) s.length s.length ∧ (H1.new (.cells (bv [b]) true)).get y = some (.cells (bv s) true) ∧ (H1.new (.cells (bv [b]) true)).ty y = some T.uint8 := by
    rcases b1 with hb | ⟨y, h1, h2, h3, h4, h5, h6, h7⟩
    · exact .inl hb
    · exact .inr ⟨y, h1, h2, Nat.lt_succ_of_lt h3, h4, h5, by rw [get_new, if_neg (by omega)]; exact h6, h7⟩
  have hx : srcCells 1 (.slice (some ⟨H1.next, 0, some 1⟩) 1 1) (H1.new (.cells (bv [b]) true)) = some ([b].length, bv [b]) := by
    unfold srcCells
    dsimp only
    rw [if_pos rfl, get_new, if_pos rfl]
    rfl
  obtain ⟨buf', H2, j', e2, c2, o2, n2, f2, y2, ft2, b2⟩ := app_buf (i := i) (Nat.lt_succ_of_lt hlt) b1' hx hl
  have n2 : H1.next + 1 ≤ H2.next := n2
  have hgi : H2.get i = some (.cells [.pointer (some ⟨i, 0, none⟩), buf] true) := by rw [f2 i (Nat.lt_succ_of_lt hlt) hji, get_new, if_neg (by omega)]; exact g1
  refine ⟨H2.set i (some (.cells [.pointer (some ⟨i, 0, none⟩), buf'] true)), j', ?_, ⟨?_, ?_, ?_⟩, ⟨?_, fun k hk hi hj => ?_, fun k hk => ?_, fun y hy => ?_⟩⟩
  · refine (r_strings_Builder_WriteByte E0 rfl _ _ _).trans ?_
    unfold m_strings_Builder_WriteByte
    rw [s_call ((x_cc _ _).trans e1), s_nil, s_offs, s_load g1 _ buf rfl, hbs, e2, s_nil, s_offs]
    rw [show (0 + 1 : Nat) = 1 from rfl, st_cell1 hgi c2 o2]
  · show H2.ty i = _
    rw [y2 i (Nat.lt_succ_of_lt hlt), ty_new, t1]; exact h.ty
  · show i < H2.next
    omega
  · refine ⟨_, buf', by rw [Hp.get_set, if_pos rfl], .inr rfl, ?_⟩
    rcases b2 with hb | ⟨y, h1, h2, h3, h4, h5, h6, h7⟩
    · exact .inl hb
    · exact .inr ⟨y, h1, h2, h3, h4, h5, by rw [Hp.get_set, if_neg h2]; exact h6, h7⟩
  · show H.next ≤ H2.next
    omega
  · rw [Hp.get_set, if_neg hi, f2 k (by show k < H1.next + 1; omega) hj, get_new, if_neg (by omega), f1 k hi]
  · show H2.ty k = _
    rw [y2 k (by show k < H1.next + 1; omega), ty_new, t1]
  · rcases ft2 y hy with q | q
    · exact .inl q
    · have q : H1.next + 1 ≤ y := q
      exact .inr (by omega)
theorem Bld.text {H : Hp} {i : Nat} {s : List UInt8} {j : Option Nat} (h : Bld H i s j) (hl : s.length ≤ 2 ^ 46) :
    ∃ H', RR F.strings_Builder_String [.pointer (some ⟨i, 0, none⟩)] H = some (.string ⟨s.toArray⟩, H') ∧ BF i H j H' j := by
  obtain ⟨a, buf, hg, ha, hb⟩ := h.ex
  rcases hb with ⟨rfl, rfl, rfl⟩ | ⟨y, rfl, h2, h3, h4, rfl, h6, h7⟩
  · refine ⟨H, (x_str _ _).trans ?_, BF.refl _ _ _⟩
    show strB i H (H.get i) = _
    rw [hg]
    exact if_pos h.ty
  · refine ⟨H.set y (some (.cells (bv s) false)), (x_str _ _).trans ?_, ⟨Nat.le_refl _, fun k hk hi hj => by rw [Hp.get_set, if_neg (fun e => hj (by rw [e]))], fun _ _ => rfl, fun _ q => .inl q⟩⟩
    show strB i H (H.get i) = _
    rw [hg]
    show strB2 i y s.length H (H.get y) = _
    rw [h6]
    have hsl : 0 < s.length := List.length_pos_iff.2 h4
    have hb : bytesX ((bv s).take s.length) = some s := by rw [List.take_of_length_le (by rw [bv_len]; exact Nat.le_refl _), bytesX_bv]
    refine (if_pos ⟨h.ty, h7, hsl, by rw [bv_len]; exact Nat.le_refl _, by omega⟩).trans ?_
    rw [hb]
end Go.AM
/- Numbers as texts: the program's. -/
set_option linter.unusedVariables false
set_option linter.unusedSimpArgs false
set_option maxRecDepth 100000
namespace Go.AM
open Go
section
variable {α : Type} {P : Program}
theorem q_u32 {x : Int} (h1 : 0 ≤ x) (h2 : x ≤ 4294967295) : IntKind.u32.wrap x = x := q_wrap (by have : IntKind.u32.min = 0 := rfl; omega) (by have : IntKind.u32.max = 4294967295 := rfl; omega)
theorem t_quo (T : TypeId) (a b : Nat) (hb : b ≠ 0) (ha : a < 4294967296) (k : Value → Option α) : pBin P .quo T (.int .u32 (a : Int)) (.int .u32 (b : Int)) k = k (.int .u32 ((a / b : Nat) : Int)) := by
  have hb' : ¬ (b : Int) = 0 := by omega
  have h1 : ((a : Int).tdiv (b : Int)) = ((a / b : Nat) : Int) := rfl
  have h2 : a / b ≤ a := Nat.div_le_self a b
  have h3 : IntKind.u32.wrap ((a / b : Nat) : Int) = ((a / b : Nat) : Int) := by
    clear h1
    generalize a / b = q at h2
    exact q_u32 (by omega) (by omega)
  have : binV P .quo T (.int .u32 (a : Int)) (.int .u32 (b : Int)) = some (.int .u32 ((a / b : Nat) : Int)) := by
    show (if IntKind.u32 = IntKind.u32 then intOp .quo .u32 (a : Int) (b : Int) else none) = _
    rw [if_pos rfl]
    unfold intOp
    dsimp only
    rw [if_neg hb', h1, h3]
  unfold pBin; rw [this]
theorem t_mul (T : TypeId) (a b : Nat) (h : a * b < 4294967296) (k : Value → Option α) : pBin P .mul T (.int .u32 (a : Int)) (.int .u32 (b : Int)) k = k (.int .u32 ((a * b : Nat) : Int)) := by
  rw [s_mul, ← Int.natCast_mul, q_u32 (by omega) (by omega)]
theorem t_add (T : TypeId) (a b : Nat) (h : a + b < 4294967296) (k : Value → Option α) : pBin P .add T (.int .u32 (a : Int)) (.int .u32 (b : Int)) k = k (.int .u32 ((a + b : Nat) : Int)) := by
  rw [s_add, q_u32 (by omega) (by omega)]; rfl
theorem i_sub (T : TypeId) (a b : Nat) (h : b ≤ a) (ha : a < 2 ^ 60) (k : Value → Option α) : pBin P .sub T (.int .i64 (a : Int)) (.int .i64 (b : Int)) k = k (.int .i64 ((a - b : Nat) : Int)) := by
  rw [s_sub, q_i64 (by omega) (by omega), Int.ofNat_sub h]
theorem idx_arr {n sz : Nat} {a o j : Nat} {kd : IntKind} (h : j < n) (k : Value → Option α) : pIdxArr n sz (.pointer (some ⟨a, o, none⟩)) (.int kd (j : Int)) k = k (.pointer (some ⟨a, o + j * sz, none⟩)) := by
  have : (0 : Int) ≤ j ∧ (j : Int) < n := by omega
  unfold pIdxArr
  simp [this.1, h]
/-- A byte of an object of its own is written. -/
theorem st_byte {H : Hp} {a : Nat} {l : List UInt8} (hg : H.get a = some (.cells (bv l) true)) {i : Nat} (hi : i < l.length) (b : UInt8) (k : Hp → Option α) :
    pStore 1 H (.pointer (some ⟨a, i, none⟩)) (.int .u8 (b.toNat : Int)) k = k (H.set a (some (.cells (bv (l.set i b)) true))) := by
  have hw : wrCells 1 (bv l) i (.int .u8 (b.toNat : Int)) = some (bv (l.set i b)) := by
    unfold wrCells
    rw [if_pos ⟨rfl, by rw [bv_len]; omega, rfl⟩]
    congr 1
    have := spl_set (fun b : UInt8 => Value.int .u8 (b.toNat : Int)) l hi b
    rw [Nat.mul_one] at this
    exact this
  unfold pStore Hp.wr
  dsimp only
  rw [hg]
  dsimp only
  rw [hw]
end
theorem set_pre (l : List UInt8) (b : UInt8) (m : List UInt8) : (l ++ b :: m).set l.length b = l ++ b :: m := by simp
def smallsB : ByteArray := ⟨#[48, 48, 48, 49, 48, 50, 48, 51, 48, 52, 48, 53, 48, 54, 48, 55, 48, 56, 48, 57, 49, 48, 49, 49, 49, 50, 49, 51, 49, 52, 49, 53, 49, 54, 49, 55, 49, 56, 49, 57, 50, 48, 50, 49, 50, 50, 50, 51, 50, 52, 50, 53, 50, 54, 50, 55, 50, 56, 50, 57, 51, 48, 51, 49, 51, 50, 51, 51, 51, 52, 51, 53, 51, 54, 51, 55, 51, 56, 51, 57, 52, 48, 52, 49, 52, 50, 52, 51, 52, 52, 52, 53, 52, 54, 52, 55, 52, 56, 52, 57, 53, 48, 53, 49, 53, 50, 53, 51, 53, 52, 53, 53, 53, 54, 53, 55, 53, 56, 53, 57, 54, 48, 54, 49, 54, 50, 54, 51, 54, 52, 54, 53, 54, 54, 54, 55, 54, 56, 54, 57, 55, 48, 55, 49, 55, 50, 55, 51, 55, 52, 55, 53, 55, 54, 55, 55, 55, 56, 55, 57, 56, 48, 56, 49, 56, 50, 56, 51, 56, 52, 56, 53, 56, 54, 56, 55, 56, 56, 56, 57, 57, 48, 57, 49, 57, 50, 57, 51, 57, 52, 57, 53, 57, 54, 57, 55, 57, 56, 57, 57]⟩
def digitB : ByteArray := ⟨#[48, 49, 50, 51, 52, 53, 54, 55, 56, 57, 97, 98, 99, 100, 101, 102, 103, 104, 105, 106, 107, 108, 109, 110, 111, 112, 113, 114, 115, 116, 117, 118, 119, 120, 121, 122]⟩
theorem smalls_all : (List.range 100).all (fun d => decide (smallsB.data.toList[d * 2]? = some (dig (d / 10))) && decide (smallsB.data.toList[d * 2 + 1]? = some (dig (d % 10))) && decide ((smallsB.extract (d * 2) (d * 2 + 2)).data.toList = [dig (d / 10), dig (d % 10)])) = true := by kernel_rfl
theorem smalls_at {d : Nat} (h : d < 100) : smallsB.data.toList[d * 2]? = some (dig (d / 10)) ∧ smallsB.data.toList[d * 2 + 1]? = some (dig (d % 10)) ∧ smallsB.extract (d * 2) (d * 2 + 2) = ba [dig (d / 10), dig (d % 10)] := by
  have := List.all_eq_true.1 smalls_all d (List.mem_range.2 h)
  rw [Bool.and_eq_true, Bool.and_eq_true, decide_eq_true_eq, decide_eq_true_eq, decide_eq_true_eq] at this
  exact ⟨this.1.1, this.1.2, fba_eq this.2⟩
theorem digit_all : (List.range 36).all (fun d => decide (digitB.data.toList[d]? = some (dig d)) && decide ((digitB.extract d (d + 1)).data.toList = [dig d])) = true := by kernel_rfl
theorem digit_at {d : Nat} (h : d < 36) : digitB.data.toList[d]? = some (dig d) ∧ digitB.extract d (d + 1) = ba [dig d] := by
  have := List.all_eq_true.1 digit_all d (List.mem_range.2 h)
  rw [Bool.and_eq_true, decide_eq_true_eq, decide_eq_true_eq] at this
  exact ⟨this.1, fba_eq this.2⟩
/-- Numbers below 100. -/
theorem c_small {x : Nat} (hx : x < 100) (H : Hp) : RR F.internal_strconv_small [.int .i64 (x : Int)] H = some (.string (ba (dgt 10 x)), H) := by
  refine (r_internal_strconv_small E0 rfl _ _).trans ?_
  show (pBin PP .lss T.int (.int .i64 (x : Int)) (.int .i64 10) fun v1 => pBool v1 fun b2 => br b2
     (pBin PP .add T.int (.int .i64 (x : Int)) (.int .i64 1) fun v3 => pSliceS (.string digitB) (some (.int .i64 (x : Int))) (some v3) fun v4 => some (v4, H))
     (pBin PP .mul T.int (.int .i64 (x : Int)) (.int .i64 2) fun v5 => pBin PP .mul T.int (.int .i64 (x : Int)) (.int .i64 2) fun v6 => pBin PP .add T.int v6 (.int .i64 2) fun v7 => pSliceS (.string smallsB) (some v5) (some v7) fun v8 => some (v8, H))) = _
  have d1 : digitB.size = 36 := rfl
  have d2 : smallsB.size = 200 := rfl
  rw [s_lss, s_bool, s_br]
  by_cases h : x < 10
  · rw [if_pos (by simp; omega), s_add, q_i64 (by omega) (by omega), show ((x : Int) + 1) = ((x + 1 : Nat) : Int) from rfl, s_cut _ _ _ _ _ (by omega) (by omega), (digit_at (by omega)).2, dgt_lt h]
  · rw [if_neg (by simp; omega), s_mul, s_mul, s_add, q_i64 (by omega) (by omega), q_i64 (by omega) (by omega), show ((x : Int) * 2) = ((x * 2 : Nat) : Int) from (Int.natCast_mul x 2).symm, show (((x * 2 : Nat) : Int) + 2) = ((x * 2 + 2 : Nat) : Int) from rfl, s_cut _ _ _ _ _ (by omega) (by omega), (smalls_at hx).2.2,
      dgt_ge (by decide) (by omega), dgt_lt (show x / 10 < 10 by omega)]
    rfl
end Go.AM
/- Numbers as texts: FormatUint, base 10, below 1000. -/
set_option linter.unusedVariables false
set_option linter.unusedSimpArgs false
set_option maxRecDepth 100000
namespace Go.AM
open Go
/-- The tables that are read. -/
structure Tabs (H : Hp) : Prop where
  pow : ∃ cs e fz, H.get G.internal_strconv_uint64pow10 = some (.fix (.cells cs e fz)) ∧ tabOk .u64 cs.toList pow10 = true
  spc : ∃ cs e fz, H.get G.strings_asciiSpace = some (.fix (.cells cs e fz)) ∧ tabOk .u8 cs.toList spaces = true
  bru : ∃ cs e fz, H.get G.bits_deBruijn64tab = some (.fix (.cells cs e fz)) ∧ cs.toList[15]? = some (.int .u8 4)
theorem ld_fix {α : Type} {H : Hp} {g : Nat} {cs : Array Value} {e : TypeId} {fz : Nat × Nat} (h : H.get g = some (.fix (.cells cs e fz))) {off : Nat} {kd : IntKind} {z : Int} (hc : cs.toList[off]? = some (.int kd z)) (k : Value → Option α) :
    pLoad 1 false H (.pointer (some ⟨g, off, none⟩)) k = k (.int kd z) := by
  have : H.rdP (.pointer (some ⟨g, off, none⟩)) 1 false = some (.int kd z) := by
    unfold Hp.rdP Hp.rd
    dsimp only
    rw [h]
    dsimp only
    rw [hc]
  unfold pLoad; rw [this]
theorem c_itoa {H : Hp} (hT : Tabs H) {n : Int} (h0 : -9223372036854775808 ≤ n) (h1 : n ≤ 9223372036854775807) : RR F.strconv_Itoa [.int .i64 n] H = some (.string (ba (Go.Lib.itoa n)), H) := by
  obtain ⟨cs, e, fz, hg, ht⟩ := hT.pow
  have hx : RR F.internal_strconv_FormatInt [.int .i64 n, .int .i64 10] H = some (.string (ba (Go.Lib.itoa n)), H) := by
    refine (run_ext (O := orc) Go.Proofs.Tryd.func62 (by kernel_rfl) (by kernel_rfl) (show E0 F.internal_strconv_FormatInt = some extFmt from rfl) _ H).trans ?_
    show (if _ then _ else none) = _
    rw [if_pos ⟨h0, h1⟩, hg]
    dsimp only
    rw [ht]
  refine (r_strconv_Itoa E0 rfl _ _).trans ?_
  unfold m_strconv_Itoa
  rw [s_call ((r_internal_strconv_Itoa E0 rfl _ _).trans (by unfold m_internal_strconv_Itoa; rw [s_call hx]))]
theorem lens : (List.range 900).all (fun d => (decide (bitLen (100 + d) * 78913 / 262144 = 2) || (decide (bitLen (100 + d) * 78913 / 262144 = 3))) && decide (bitLen (100 + d) ≤ 64)) = true := by kernel_rfl
theorem c_numDigits {H : Hp} (hT : Tabs H) {x : Nat} (h0 : 100 ≤ x) (h1 : x < 1000) : RR F.internal_strconv_numDigits [.int .u64 (x : Int)] H = some (.int .i64 3, H) := by
  obtain ⟨cs, e, fz, hg, ht⟩ := hT.pow
  have hcs := tabOk_eq _ _ ht
  have hw : Value.int .u64 (x : Int) = wv (BitVec.ofNat 64 x) := by
    unfold wv
    rw [BitVec.toNat_ofNat, Nat.mod_eq_of_lt (by omega)]
  have e1 : RR F.bits_Len64 [.int .u64 (x : Int)] H = some (.int .i64 ((bitLen x : Nat) : Int), H) := by
    rw [hw, c80, BitVec.toNat_ofNat, Nat.mod_eq_of_lt (by omega)]
  have hl := List.all_eq_true.1 lens (x - 100) (List.mem_range.2 (by omega))
  rw [show 100 + (x - 100) = x by omega, Bool.and_eq_true, Bool.or_eq_true, decide_eq_true_eq, decide_eq_true_eq, decide_eq_true_eq] at hl
  generalize hK : bitLen x = K at e1 hl
  have e2 : RR F.internal_strconv_log10Pow2 [.int .i64 (K : Int)] H = some (.int .i64 ((K * 78913 / 262144 : Nat) : Int), H) := by
    refine (r_internal_strconv_log10Pow2 E0 rfl _ _).trans ?_
    unfold m_internal_strconv_log10Pow2
    have hm : ((K : Int) * 78913) = ((K * 78913 : Nat) : Int) := (Int.natCast_mul K 78913).symm
    rw [s_mul, q_i64 (by omega) (by omega), hm]
    have hs : binV PP .shr T.int (.int .i64 ((K * 78913 : Nat) : Int)) (.int .u64 18) = some (.int .i64 ((K * 78913 / 262144 : Nat) : Int)) := by
      show (if (18 : Int) < 0 then none else some (Value.int .i64 (((K * 78913 : Nat) : Int).fdiv (2 ^ (min (18 : Int).toNat IntKind.i64.bits))))) = _
      rw [if_neg (by decide)]
      have : (2 : Int) ^ (min (18 : Int).toNat IntKind.i64.bits) = ((262144 : Nat) : Int) := rfl
      rw [this, Int.fdiv_eq_ediv_of_nonneg _ (by omega)]
      congr 2
    unfold pBin
    rw [hs]
  refine (r_internal_strconv_numDigits E0 rfl _ _).trans ?_
  unfold m_internal_strconv_numDigits
  rw [s_call e1, s_call e2]
  have b1 : ∀ v : Bool, RR F.internal_strconv_bool2_int [.bool v] H = some (.int .i64 (if v = true then 1 else 0), H) := fun v => by
    refine (r_internal_strconv_bool2_int E0 rfl _ _).trans ?_
    cases v <;> rfl
  rcases hl.1 with h | h
  · rw [h, idx_arr (by decide), ld_fix hg (kd := .u64) (z := 100) (by rw [hcs]; rfl), s_geq, s_call (b1 _), if_pos (by simp; omega), s_add]
    rfl
  · rw [h, idx_arr (by decide), ld_fix hg (kd := .u64) (z := 1000) (by rw [hcs]; rfl), s_geq, s_call (b1 _), if_neg (by simp; omega), s_add]
    rfl
end Go.AM
/- Numbers as texts: FormatUint. -/
set_option linter.unusedVariables false
set_option linter.unusedSimpArgs false
set_option maxRecDepth 100000
namespace Go.AM
open Go
section
variable {α : Type}
theorem sl_arr {H : Hp} {a n sz i j : Nat} {cs : List Value} (hg : H.get a = some (.cells cs true)) (hn : n * sz ≤ cs.length) (hi : i ≤ j) (hj : j ≤ n) {lo hi' : Option Value} (hlo : optInt 0 lo = some (i : Int)) (hhi : optInt n hi' = some (j : Int)) (k : Value → Option α) :
    pSliceA n sz (.pointer (some ⟨a, 0, none⟩)) lo hi' H k = k (.slice (some ⟨a, i * sz, some sz⟩) (j - i) (n - i)) := by
  have : sliceAV n sz (.pointer (some ⟨a, 0, none⟩)) lo hi' H = some (.slice (some ⟨a, i * sz, some sz⟩) (j - i) (n - i)) := by
    unfold sliceAV
    dsimp only
    rw [hg]
    dsimp only
    rw [hlo, hhi]
    dsimp only
    rw [if_pos ⟨by omega, by omega, by omega, by omega⟩]
    have e1 : ((j : Int) - (i : Int)).toNat = j - i := by omega
    rw [e1, Int.toNat_natCast, Nat.zero_add]
  unfold pSliceA; rw [this]
theorem bytesOf_bv : ∀ l : List UInt8, bytesOf (bv l) = some l
  | [] => rfl
  | b :: l => by
    show (match bytesOf (bv l) with | some l => some (UInt8.ofNat ((b.toNat : Int)).toNat :: l) | none => none) = _
    rw [bytesOf_bv l]
    simp
theorem to_str {H : Hp} {a i n c : Nat} {l : List UInt8} {own : Bool} (hg : H.get a = some (.cells (bv l) own)) (hn : i + n ≤ l.length) (k : Value → Option α) :
    pToStr (.slice (some ⟨a, i, some 1⟩) n c) H k = k (.string (ba ((l.drop i).take n))) := by
  have hs : srcCells 1 (.slice (some ⟨a, i, some 1⟩) n c) H = some (n, bv ((l.drop i).take n)) := by
    unfold srcCells
    dsimp only
    rw [if_pos rfl, hg]
    dsimp only
    rw [if_pos (by rw [bv_len]; omega), Nat.mul_one]
    congr 2
    unfold bv
    rw [List.map_take, List.map_drop]
  have : toStrV (.slice (some ⟨a, i, some 1⟩) n c) H = some (.string (ba ((l.drop i).take n))) := by
    unfold toStrV
    dsimp only
    rw [hs]
    dsimp only
    rw [bytesOf_bv]
  unfold pToStr; rw [this]
theorem ix_byte {a o n c i : Nat} (h : i < n) (k : Value → Option α) : pIdx 1 (.slice (some ⟨a, o, some 1⟩) n c) (.int .i64 (i : Int)) k = k (.pointer (some ⟨a, o + i, none⟩)) := by
  have : idxV 1 (.slice (some ⟨a, o, some 1⟩) n c) (.int .i64 (i : Int)) = some (.pointer (some ⟨a, o + i, none⟩)) := by
    unfold idxV
    dsimp only
    rw [if_pos ⟨rfl, by omega, by omega⟩, Int.toNat_natCast, Nat.mul_one]
  unfold pIdx; rw [this]
end
theorem dig_dec {d : Nat} (h : d < 10) : (dig d).toNat = 48 + d := by
  unfold dig
  rw [if_pos h]
  simp [UInt8.toNat_ofNat]; omega
theorem c_base10 {H : Hp} {a : Nat} {l : List UInt8} (hg : H.get a = some (.cells (bv l) true)) (hl : l.length = 24) {x : Nat} (h0 : 100 ≤ x) (h1 : x < 1000) :
    ∃ r H', RR F.internal_strconv_formatBase10 [.slice (some ⟨a, 0, some 1⟩) 3 24, .int .u64 (x : Int)] H = some (r, H') ∧ H'.get a = some (.cells (bv (((l.set 2 (dig (x % 100 % 10))).set 1 (dig (x % 100 / 10))).set 0 (dig (x / 100)))) true) ∧ H'.next = H.next ∧ H'.ty = H.ty ∧ ∀ k, k ≠ a → H'.get k = H.get k := by
  have hd : x % 100 < 100 := Nat.mod_lt _ (by decide)
  obtain ⟨p1, p2, _⟩ := smalls_at hd
  have hr := (r_internal_strconv_formatBase10 E0 rfl (.slice (some ⟨a, 0, some 1⟩) 3 24) (.int .u64 (x : Int)) H).trans (k_internal_strconv_formatBase10 _ _ _ _)
  have hloop : loopD (s_internal_strconv_formatBase10_1 RR (.slice (some ⟨a, 0, some 1⟩) 3 24)) [.int .u64 (x : Int), .int .i64 3] H = some (.exit 0, [.int .u64 (x : Int), .int .i64 3], H) := by
    rw [loopD_eq]
    have : s_internal_strconv_formatBase10_1 RR (.slice (some ⟨a, 0, some 1⟩) 3 24) [.int .u64 (x : Int), .int .i64 3] H = some (.exit 0, [.int .u64 (x : Int), .int .i64 3], H) := by
      unfold s_internal_strconv_formatBase10_1
      simp only [List.getD_cons_zero, List.getD_cons_succ]
      rw [s_geq, s_bool, s_br, if_neg (by decide)]
    rw [this]; rfl
  have hlen : pLen (α := Value × Hp) .sl (.slice (some ⟨a, 0, some 1⟩) 3 24) H = fun k => k (.int .i64 3) := rfl
  rw [hlen] at hr
  dsimp only at hr
  rw [hloop, s_bind, s_exit, s_onExit] at hr
  simp only [List.getD_cons_zero, List.getD_cons_succ] at hr
  have n2 : ∀ (T : TypeId) {α : Type} (k : Value → Option α), pBin PP .sub T (.int .i64 3) (.int .i64 1) k = k (.int .i64 ((2 : Nat) : Int)) := fun T _ k => rfl
  have n1 : ∀ (T : TypeId) {α : Type} (k : Value → Option α), pBin PP .sub T (.int .i64 3) (.int .i64 2) k = k (.int .i64 ((1 : Nat) : Int)) := fun T _ k => rfl
  rw [q_conv, q_u32 (by omega) (by omega), s_geq, s_bool, s_br, if_neg (by decide), s_bind, s_next] at hr
  simp only [List.getD_cons_zero, List.getD_cons_succ] at hr
  rw [s_geq, s_bool, s_br, if_pos (by decide), show (Value.int .u32 100) = .int .u32 ((100 : Nat) : Int) from rfl, q_rem _ _ _ _ (by decide), show (Value.int .u32 2) = .int .u32 ((2 : Nat) : Int) from rfl, t_mul _ _ _ (by omega), t_quo _ _ _ (by decide) (by omega), n2, n1,
    show (Value.int .u32 1) = .int .u32 ((1 : Nat) : Int) from rfl, t_add _ _ _ (by omega)] at hr
  have q1 := f_at smallsB .u32 _ _ p2 (α := Value × Hp)
  have q2 := f_at smallsB .u32 _ _ p1 (α := Value × Hp)
  unfold smallsB at q1 q2
  rw [q1, q2, ix_byte (by decide), Nat.zero_add, st_byte hg (by omega), ix_byte (by decide), Nat.zero_add] at hr
  have hg2 : (H.set a (some (.cells (bv (l.set 2 (dig (x % 100 % 10)))) true))).get a = some (.cells (bv (l.set 2 (dig (x % 100 % 10)))) true) := by rw [Hp.get_set, if_pos rfl]
  rw [st_byte hg2 (by simp; omega)] at hr
  have hg3 : ((H.set a (some (.cells (bv (l.set 2 (dig (x % 100 % 10)))) true))).set a (some (.cells (bv ((l.set 2 (dig (x % 100 % 10))).set 1 (dig (x % 100 / 10)))) true))).get a = some (.cells (bv ((l.set 2 (dig (x % 100 % 10))).set 1 (dig (x % 100 / 10)))) true) := by rw [Hp.get_set, if_pos rfl]
  have hq : x / 100 < 10 := by omega
  rw [n1, s_gtr, s_bool, s_br, if_pos (by decide), show (Value.int .u32 48) = .int .u32 ((48 : Nat) : Int) from rfl, t_add _ _ _ (by omega), q_conv, q_u8 (by omega) (by omega), ← dig_dec hq,
    show (Value.int .i64 0) = .int .i64 ((0 : Nat) : Int) from rfl, ix_byte (by decide), Nat.zero_add, st_byte hg3 (by simp; omega)] at hr
  refine ⟨_, _, hr, ?_, rfl, rfl, fun k hk => ?_⟩
  · rw [Hp.get_set, if_pos rfl]
  · rw [Hp.get_set, if_neg hk, Hp.get_set, if_neg hk, Hp.get_set, if_neg hk]
/-- New things alone. -/
structure New (H H' : Hp) : Prop where
  next : H.next ≤ H'.next
  get : ∀ k, k < H.next → H'.get k = H.get k
  ty : ∀ k, k < H.next → H'.ty k = H.ty k
theorem New.refl (H : Hp) : New H H := ⟨Nat.le_refl _, fun _ _ => rfl, fun _ _ => rfl⟩
theorem New.trans {H H1 H2 : Hp} (h : New H H1) (k : New H1 H2) : New H H2 :=
  ⟨Nat.le_trans h.next k.next, fun q hq => (k.get q (Nat.lt_of_lt_of_le hq h.next)).trans (h.get q hq), fun q hq => (k.ty q (Nat.lt_of_lt_of_le hq h.next)).trans (h.ty q hq)⟩
theorem new_new (H : Hp) (o : AObj) : New H (H.new o) := ⟨Nat.le_succ _, fun k hk => by rw [get_new, if_neg (by omega)], fun _ _ => rfl⟩
theorem Tabs.new {H H' : Hp} (h : Tabs H) (k : New H H') (hn : PP.globals.size ≤ H.next) : Tabs H' := by
  have e : ∀ g, g < 6 → H'.get g = H.get g := fun g hg => k.get g (by rw [nglob] at hn; omega)
  exact ⟨by rw [e _ (by decide)]; exact h.pow, by rw [e _ (by decide)]; exact h.spc, by rw [e _ (by decide)]; exact h.bru⟩
theorem c_fmt10 {H : Hp} (hT : Tabs H) (hn : PP.globals.size ≤ H.next) {x : Nat} (h1 : x < 1000) : ∃ H', RR F.strconv_FormatUint [.int .u64 (x : Int), .int .i64 10] H = some (.string (ba (dgt 10 x)), H') ∧ New H H' := by
  have key : ∃ H', RR F.internal_strconv_FormatUint [.int .u64 (x : Int), .int .i64 10] H = some (.string (ba (dgt 10 x)), H') ∧ New H H' := by
    have hr := r_internal_strconv_FormatUint E0 rfl (.int .u64 (x : Int)) (.int .i64 10) H
    unfold m_internal_strconv_FormatUint at hr
    rw [s_eql, s_bool, s_br, if_pos (by decide), s_lss, s_bool, s_br] at hr
    by_cases h : x < 100
    · rw [if_pos (by simp; omega), q_conv, q_i64 (by omega) (by omega), s_call (c_small h H)] at hr
      exact ⟨H, hr, New.refl _⟩
    · rw [if_neg (by simp; omega)] at hr
      have ha : ∀ {α : Type} (k : Value → Hp → Option α), pAlloc [.int .u8 0, .int .u8 0, .int .u8 0, .int .u8 0, .int .u8 0, .int .u8 0, .int .u8 0, .int .u8 0, .int .u8 0, .int .u8 0, .int .u8 0, .int .u8 0, .int .u8 0, .int .u8 0, .int .u8 0, .int .u8 0, .int .u8 0, .int .u8 0, .int .u8 0, .int .u8 0, .int .u8 0, .int .u8 0, .int .u8 0, .int .u8 0] H k = k (.pointer (some ⟨H.next, 0, none⟩)) (H.new (.cells (bv (List.replicate 24 0)) true)) := fun k => rfl
      have hg : (H.new (.cells (bv (List.replicate 24 0)) true)).get H.next = some (.cells (bv (List.replicate 24 0)) true) := by rw [get_new, if_pos rfl]
      have hT1 := hT.new (new_new H (.cells (bv (List.replicate 24 0)) true)) hn
      obtain ⟨r, H2, e2, g2, n2, y2, f2⟩ := c_base10 hg (by simp) (show 100 ≤ x by omega) h1
      rw [ha, s_call (c_numDigits hT1 (by omega) h1), sl_arr hg (i := 0) (j := 3) (by rw [bv_len]; simp) (by decide) (by decide) rfl rfl] at hr
      have e2' : RR F.internal_strconv_formatBase10 [.slice (some ⟨H.next, 0 * 1, some 1⟩) (3 - 0) (24 - 0), .int .u64 (x : Int)] (H.new (.cells (bv (List.replicate 24 0)) true)) = some (r, H2) := e2
      rw [s_call e2', sl_arr g2 (i := 0) (j := 3) (by rw [bv_len]; simp) (by decide) (by decide) rfl rfl, to_str g2 (by simp)] at hr
      refine ⟨H2, hr.trans ?_, ⟨by rw [n2]; exact Nat.le_succ _, fun k hk => by rw [f2 k (by omega), get_new, if_neg (by omega)], fun k hk => by rw [y2]; rfl⟩⟩
      have e3 : dgt 10 x = [dig (x / 100), dig (x % 100 / 10), dig (x % 100 % 10)] := by
        rw [dgt_ge (by decide) (by omega), dgt_ge (by decide) (show 10 ≤ x / 10 by omega), dgt_lt (show x / 10 / 10 < 10 by omega)]
        rw [show x / 10 / 10 = x / 100 by omega, show x / 10 % 10 = x % 100 / 10 by omega, show x % 100 % 10 = x % 10 by omega]; rfl
      rw [e3]; rfl
  obtain ⟨H', e, f⟩ := key
  exact ⟨H', (r_strconv_FormatUint E0 rfl _ _ _).trans (by unfold m_strconv_FormatUint; rw [s_call e]), f⟩
end Go.AM
/- Numbers as texts: base 16. -/
set_option linter.unusedVariables false
set_option linter.unusedSimpArgs false
set_option maxRecDepth 100000
namespace Go.AM
open Go
theorem wv_nat {u : Nat} (h : u < 18446744073709551616) : Value.int .u64 (u : Int) = wv (BitVec.ofNat 64 u) := by
  unfold wv
  rw [BitVec.toNat_ofNat, Nat.mod_eq_of_lt h]
theorem and15 {α : Type} (T : TypeId) {u : Nat} (h : u < 18446744073709551616) (k : Value → Option α) : pBin PP .and T (.int .u64 (u : Int)) (.int .u64 15) k = k (.int .u64 ((u % 16 : Nat) : Int)) := by
  have e : (BitVec.ofNat 64 u &&& 15#64) = BitVec.ofNat 64 (u % 16) := BitVec.eq_of_toNat_eq (by
    rw [BitVec.toNat_and]
    simp only [BitVec.toNat_ofNat]
    rw [Nat.mod_eq_of_lt h, Nat.mod_eq_of_lt (show u % 16 < 2 ^ 64 by omega), show 15 % 2 ^ 64 = 15 from rfl]
    exact Nat.and_two_pow_sub_one_eq_mod u 4)
  rw [wv_nat h, show (Value.int .u64 15) = wv 15#64 from rfl, b_and, e, ← wv_nat (by omega)]
theorem shr4 {α : Type} (T : TypeId) {u : Nat} (h : u < 18446744073709551616) (k : Value → Option α) : pBin PP .shr T (.int .u64 (u : Int)) (.int .u64 4) k = k (.int .u64 ((u / 16 : Nat) : Int)) := by
  have e : (BitVec.ofNat 64 u) >>> 4 = BitVec.ofNat 64 (u / 16) := BitVec.eq_of_toNat_eq (by
    rw [shr_nat, BitVec.toNat_ofNat, BitVec.toNat_ofNat, Nat.mod_eq_of_lt h, Nat.mod_eq_of_lt (show u / 16 < 2 ^ 64 by omega)])
  rw [wv_nat h, show (Value.int .u64 4) = .int .u64 ((4 : Nat) : Int) from rfl, b_shr, e, ← wv_nat (by omega)]
theorem set_drop {l : List UInt8} {i : Nat} (hi : i < l.length) (d : UInt8) : (l.set i d).drop i = d :: l.drop (i + 1) := by
  apply List.ext_getElem?
  intro j
  rw [List.getElem?_drop, List.getElem?_set]
  cases j with
  | zero => simp [hi]
  | succ j => rw [if_neg (by omega), List.getElem?_cons_succ, List.getElem?_drop]; congr 1; omega
theorem fb_loop {A : Nat} {g : List UInt8} : ∀ (n u i : Nat) (l : List UInt8) (H : Hp), u < 16 ^ n → 0 < n → u < 18446744073709551616 → n ≤ i → i ≤ 65 → l.length = 65 → H.get A = some (.cells (bv l) true) → dgt 16 u ++ l.drop i = g →
    ∃ u' i' l' H', loopD (s_internal_strconv_formatBits_1 RR (.int .u64 4) (.int .u64 16) (.int .u64 15) (.pointer (some ⟨A, 0, none⟩))) [.int .u64 (u : Int), .int .i64 (i : Int)] H = some (.exit 0, [.int .u64 (u' : Nat), .int .i64 ((i' : Nat) : Int)], H') ∧
      u' < 16 ∧ 1 ≤ i' ∧ i' ≤ 65 ∧ l'.length = 65 ∧ H'.get A = some (.cells (bv l') true) ∧ [dig u'] ++ l'.drop i' = g ∧ H'.next = H.next ∧ H'.ty = H.ty ∧ ∀ k, k ≠ A → H'.get k = H.get k
  | 0, u, i, l, H, h, h0, _, _, _, _, _, _ => by omega
  | n + 1, u, i, l, H, h, _, hu, hni, hi, hl, hg, hd => by
    rw [loopD_eq]
    by_cases hb : u < 16
    · have : s_internal_strconv_formatBits_1 RR (.int .u64 4) (.int .u64 16) (.int .u64 15) (.pointer (some ⟨A, 0, none⟩)) [.int .u64 (u : Int), .int .i64 (i : Int)] H = some (.exit 0, [.int .u64 (u : Int), .int .i64 (i : Int)], H) := by
        unfold s_internal_strconv_formatBits_1
        simp only [List.getD_cons_zero, List.getD_cons_succ]
        rw [s_geq, s_bool, s_br, if_neg (by simp; omega)]
      rw [this]
      rw [dgt_lt hb] at hd
      exact ⟨u, i, l, H, rfl, hb, by omega, hi, hl, hg, hd, rfl, rfl, fun _ _ => rfl⟩
    · have hm : u % 16 < 36 := by omega
      have q1 := f_at digitB .u64 _ _ (digit_at hm).1 (α := Outc)
      unfold digitB at q1
      have : s_internal_strconv_formatBits_1 RR (.int .u64 4) (.int .u64 16) (.int .u64 15) (.pointer (some ⟨A, 0, none⟩)) [.int .u64 (u : Int), .int .i64 (i : Int)] H = some (.next, [.int .u64 ((u / 16 : Nat) : Int), .int .i64 ((i - 1 : Nat) : Int)], H.set A (some (.cells (bv (l.set (i - 1) (dig (u % 16)))) true))) := by
        unfold s_internal_strconv_formatBits_1
        simp only [List.getD_cons_zero, List.getD_cons_succ]
        rw [s_geq, s_bool, s_br, if_pos (by simp; omega), show (Value.int .i64 1) = .int .i64 ((1 : Nat) : Int) from rfl, i_sub _ _ _ (by omega) (by omega), and15 _ hu, q1, idx_arr (by omega), Nat.zero_add, Nat.mul_one, st_byte hg (by omega), shr4 _ hu]
      rw [this]
      have hn : 0 < n := by
        rcases Nat.eq_zero_or_pos n with q | q
        · subst q; simp at h; omega
        · exact q
      have hlt : u / 16 < 16 ^ n := Nat.div_lt_of_lt_mul (by rw [Nat.pow_succ, Nat.mul_comm] at h; exact h)
      obtain ⟨u', i', l', H', e, f1, f2, f3, f4, f5, f6, f7, f8, f9⟩ := fb_loop (g := g) n (u / 16) (i - 1) (l.set (i - 1) (dig (u % 16))) (H.set A (some (.cells (bv (l.set (i - 1) (dig (u % 16)))) true))) hlt hn (by omega) (by omega) (by omega) (by simp [hl]) (by rw [Hp.get_set, if_pos rfl])
        (by rw [set_drop (by omega), show i - 1 + 1 = i by omega, ← hd, dgt_ge (by decide) (show 16 ≤ u by omega), List.append_assoc]; rfl)
      exact ⟨u', i', l', H', e, f1, f2, f3, f4, f5, f6, f7, f8, fun k hk => by rw [f9 k hk, Hp.get_set, if_neg hk]⟩
theorem c_tz {H : Hp} (hT : Tabs H) : RR F.bits_TrailingZeros [.int .u64 16] H = some (.int .i64 4, H) := by
  obtain ⟨cs, e, fz, hg, hc⟩ := hT.bru
  have h64 : RR F.bits_TrailingZeros64 [.int .u64 16] H = some (.int .i64 4, H) := by
    refine (r_bits_TrailingZeros64 E0 rfl _ _).trans ?_
    have hx : m_bits_TrailingZeros64 RR (.int .u64 16) H = (pIdxArr 64 1 (.pointer (some ⟨G.bits_deBruijn64tab, 0, none⟩)) (.int .u64 15) fun p7 => pLoad 1 false H p7 fun v8 => pConvInt .i64 v8 fun v9 => some (v9, H)) := by kernel_rfl
    rw [hx, show (Value.int .u64 15) = .int .u64 ((15 : Nat) : Int) from rfl, idx_arr (by decide), ld_fix hg hc]
    rfl
  refine (r_bits_TrailingZeros E0 rfl _ _).trans ?_
  unfold m_bits_TrailingZeros
  rw [s_call h64]
theorem c_bits16 {H : Hp} (hT : Tabs H) (hn : PP.globals.size ≤ H.next) {x : Nat} (hx : x < 18446744073709551616) : ∃ H', RR F.internal_strconv_formatBits [.slice none 0 0, .int .u64 (x : Int), .int .i64 16, .bool false, .bool false] H = some (.tuple #[.slice none 0 0, .string (ba (dgt 16 x))], H') ∧ New H H' := by
  have hr := (r_internal_strconv_formatBits E0 rfl (.slice none 0 0) (.int .u64 (x : Int)) (.int .i64 16) (.bool false) (.bool false) H).trans (k_internal_strconv_formatBits _ _ _ _ _ _ _)
  rw [s_lss, s_bool, s_br, if_neg (by decide), s_eql, s_bool, s_br, if_neg (by decide), s_gtr, s_bool, s_br, if_neg (by decide), s_bind, s_next] at hr
  have ha : ∀ {α : Type} (k : Value → Hp → Option α), pAlloc [.int .u8 0, .int .u8 0, .int .u8 0, .int .u8 0, .int .u8 0, .int .u8 0, .int .u8 0, .int .u8 0, .int .u8 0, .int .u8 0, .int .u8 0, .int .u8 0, .int .u8 0, .int .u8 0, .int .u8 0, .int .u8 0, .int .u8 0, .int .u8 0, .int .u8 0, .int .u8 0, .int .u8 0, .int .u8 0, .int .u8 0, .int .u8 0, .int .u8 0, .int .u8 0, .int .u8 0, .int .u8 0, .int .u8 0, .int .u8 0, .int .u8 0, .int .u8 0, .int .u8 0, .int .u8 0, .int .u8 0, .int .u8 0, .int .u8 0, .int .u8 0, .int .u8 0, .int .u8 0, .int .u8 0, .int .u8 0, .int .u8 0, .int .u8 0, .int .u8 0, .int .u8 0, .int .u8 0, .int .u8 0, .int .u8 0, .int .u8 0, .int .u8 0, .int .u8 0, .int .u8 0, .int .u8 0, .int .u8 0, .int .u8 0, .int .u8 0, .int .u8 0, .int .u8 0, .int .u8 0, .int .u8 0, .int .u8 0, .int .u8 0, .int .u8 0, .int .u8 0] H k = k (.pointer (some ⟨H.next, 0, none⟩)) (H.new (.cells (bv (List.replicate 65 0)) true)) := fun k => rfl
  have hg : (H.new (.cells (bv (List.replicate 65 0)) true)).get H.next = some (.cells (bv (List.replicate 65 0)) true) := by rw [get_new, if_pos rfl]
  have hT1 := hT.new (new_new H (.cells (bv (List.replicate 65 0)) true)) hn
  have hp2 : RR F.internal_strconv_isPowerOfTwo [.int .i64 16] (H.new (.cells (bv (List.replicate 65 0)) true)) = some (.bool true, H.new (.cells (bv (List.replicate 65 0)) true)) := (r_internal_strconv_isPowerOfTwo E0 rfl _ _).trans (by kernel_rfl)
  have hc : ∀ {α : Type} (k : Value → Option α), pConvInt .u64 (.int .i64 16) k = k (.int .u64 16) := fun k => rfl
  have hc4 : ∀ {α : Type} (k : Value → Option α), pConvInt .u64 (.int .i64 4) k = k (.int .u64 4) := fun k => rfl
  have hm : ∀ {α : Type} (k : Value → Option α), pBin PP .sub T.uint (.int .u64 16) (.int .u64 1) k = k (.int .u64 15) := fun k => rfl
  obtain ⟨u', i', l', H2, e2, f1, f2, f3, f4, f5, f6, f7, f8, f9⟩ := fb_loop (g := dgt 16 x) 64 x 65 (List.replicate 65 0) _ (by omega) (by decide) hx (by decide) (by decide) (by simp) hg (by simp)
  have e2 : loopD (s_internal_strconv_formatBits_1 RR (.int .u64 4) (.int .u64 16) (.int .u64 15) (.pointer (some ⟨H.next, 0, none⟩))) [.int .u64 (x : Int), .int .i64 65] (H.new (.cells (bv (List.replicate 65 0)) true)) = _ := e2
  have q1 := f_at digitB .u64 _ _ (digit_at (show u' < 36 by omega)).1 (α := Value × Hp)
  unfold digitB at q1
  rw [ha, s_bool, q_brf, s_bind, s_next, s_call hp2, s_bool, q_brt, hc, s_call (c_tz hT1), hc4, hc, hc, hm] at hr
  simp only [List.getD_cons_zero] at hr
  rw [e2, s_bind, s_exit, s_onExit] at hr
  simp only [List.getD_cons_zero, List.getD_cons_succ] at hr
  have hg3 : (H2.set H.next (some (.cells (bv (l'.set (i' - 1) (dig u'))) true))).get H.next = some (.cells (bv (l'.set (i' - 1) (dig u'))) true) := by rw [Hp.get_set, if_pos rfl]
  rw [show (Value.int .i64 1) = .int .i64 ((1 : Nat) : Int) from rfl, i_sub _ _ _ (by omega) (by omega), q1, idx_arr (by omega), Nat.zero_add, Nat.mul_one, st_byte f5 (by omega), s_bool, q_brf, s_bool, q_brf,
    sl_arr hg3 (i := i' - 1) (j := 65) (by rw [bv_len]; simp; omega) (by omega) (by decide) rfl rfl, Nat.mul_one, to_str hg3 (by simp; omega)] at hr
  refine ⟨H2.set H.next (some (.cells (bv (l'.set (i' - 1) (dig u'))) true)), hr.trans ?_, ⟨by show H.next ≤ H2.next; rw [f7]; exact Nat.le_succ _, fun k hk => by rw [Hp.get_set, if_neg (by omega), f9 k (by omega), get_new, if_neg (by omega)], fun k hk => by show H2.ty k = _; rw [f8]; rfl⟩⟩
  rw [set_drop (by omega), show i' - 1 + 1 = i' by omega, List.take_of_length_le (by simp; omega), ← f6]; rfl
theorem c_fmt16 {H : Hp} (hT : Tabs H) (hn : PP.globals.size ≤ H.next) {x : Nat} (hx : x < 18446744073709551616) : ∃ H', RR F.strconv_FormatUint [.int .u64 (x : Int), .int .i64 16] H = some (.string (ba (dgt 16 x)), H') ∧ New H H' := by
  obtain ⟨H', e, f⟩ := c_bits16 hT hn hx
  have key : RR F.internal_strconv_FormatUint [.int .u64 (x : Int), .int .i64 16] H = some (.string (ba (dgt 16 x)), H') := by
    refine (r_internal_strconv_FormatUint E0 rfl _ _ _).trans ?_
    unfold m_internal_strconv_FormatUint
    rw [s_eql, s_bool, s_br, if_neg (by decide), s_call e, q_ext0, q_ext1]
  exact ⟨H', (r_strconv_FormatUint E0 rfl _ _ _).trans (by unfold m_strconv_FormatUint; rw [s_call key]), f⟩
/-- The program's Text. -/
theorem c_text {H : Hp} (hT : Tabs H) (hn : PP.globals.size ≤ H.next) {x : Nat} (hx : x < 18446744073709551616) : ∃ H', RR F.bits_Text [.int .u64 (x : Int)] H = some (.string (ba (numT x)), H') ∧ New H H' := by
  have hr := r_bits_Text E0 rfl (.int .u64 (x : Int)) H
  unfold m_bits_Text at hr
  rw [s_lss, s_bool, s_br] at hr
  unfold numT
  by_cases h : x < 1000
  · obtain ⟨H', e, f⟩ := c_fmt10 hT hn h
    rw [if_pos (by simp; omega), s_call e] at hr
    rw [if_pos h]
    exact ⟨H', hr, f⟩
  · obtain ⟨H', e, f⟩ := c_fmt16 hT hn hx
    rw [if_neg (by simp; omega), s_call e] at hr
    rw [if_neg h]
    have hl := dgt_len (b := 16) (by decide) 16 x (by omega) (by decide)
    have hcat : pBin (α := Value × Hp) PP .add T.string (.string ⟨#[48, 120]⟩) (.string (ba (dgt 16 x))) = fun k => k (.string (ba ([48, 120] ++ dgt 16 x))) := funext fun k => s_catL _ [48, 120] _ (by simp; omega) k
    rw [hcat] at hr
    exact ⟨H', hr, f⟩
end Go.AM
/- The Term seat: small functions. -/
set_option linter.unusedVariables false
set_option maxRecDepth 100000
namespace Go.AM
open Go

def partsT (op : Int) : Int := if op = 1 ∨ op = 2 ∨ op = 3 ∨ op = 4 then 0 else if op = 5 ∨ op = 15 ∨ op = 16 ∨ op = 31 ∨ op = 32 ∨ op = 33 then 1 else if op = 14 then 3 else 2
theorem c29 (op : Int) (H : Hp) : RR F.term_parts [.int .i64 op] H = some (.int .i64 (partsT op), H) := by
  refine (r_term_parts E0 rfl _ _).trans ?_
  unfold m_term_parts
  simp only [s_bool, s_br, s_eql, s_bind, s_bind_ite, s_next, s_exit, s_ret, s_onExit, decide_eq_true_eq, List.getD_cons_zero]
  unfold partsT
  by_cases h1 : op = 1
  · simp [h1]
  by_cases h2 : op = 2
  · simp [h2]
  by_cases h3 : op = 3
  · simp [h3]
  by_cases h4 : op = 4
  · simp [h4]
  simp only [h1, h2, h3, h4, if_false, s_bind, s_next, s_bool, List.getD_cons_zero, decide_false, Bool.false_eq_true, or_self, false_or]
  by_cases h5 : op = 5
  · simp [h5]
  by_cases h6 : op = 15
  · simp [h6]
  by_cases h7 : op = 16
  · simp [h7]
  by_cases h8 : op = 31
  · simp [h8]
  by_cases h9 : op = 32
  · simp [h9]
  by_cases h10 : op = 33
  · simp [h10]
  by_cases h11 : op = 14
  · simp [h11]
  simp [h5, h6, h7, h8, h9, h10, h11]
end Go.AM
/- The Term seat: the stores. -/
set_option linter.unusedVariables false
set_option maxRecDepth 100000
set_option linter.unusedSimpArgs false
namespace Go.AM
open Go

structure Nd where
  op : Int
  w : Int
  a : Int
  b : Int
  c : Int
  num : Int
  name : ByteArray
def Nd.cells (n : Nd) : List Value := [.int .i64 n.op, .int .i64 n.w, .int .i64 n.a, .int .i64 n.b, .int .i64 n.c, .int .u64 n.num, .string n.name]
def Nd.val (n : Nd) : Value := .agg n.cells.toArray

def SlR (H : Hp) (sl : Value) (L : List Nd) : Prop :=
  (L = [] ∧ sl = .slice none 0 0) ∨ ∃ i, sl = .slice (some ⟨i, 0, some 7⟩) L.length L.length ∧ H.get i = some (.cells (L.flatMap Nd.cells) true)
structure StR (H : Hp) (p : Nat) (lim : Int) (L : List Nd) (sl : Value) (f g : Nat) : Prop where
  obj : H.get p = some (.cells [.int .i64 lim, sl, .map (some f), .map (some g)] true)
  all : SlR H sl L

section
variable {H : Hp} {p f g : Nat} {lim : Int} {L : List Nd} {sl : Value} (hs : StR H p lim L sl f g) {α : Type} (k : Value → Option α)
include hs
theorem StR.l0 : pLoad 1 false H (.pointer (some ⟨p, 0, none⟩)) k = k (.int .i64 lim) := s_load hs.obj 0 _ rfl k
theorem StR.l1 : pLoad 1 false H (.pointer (some ⟨p, 1, none⟩)) k = k sl := s_load hs.obj 1 _ rfl k
theorem StR.l2 : pLoad 1 false H (.pointer (some ⟨p, 2, none⟩)) k = k (.map (some f)) := s_load hs.obj 2 _ rfl k
theorem StR.l3 : pLoad 1 false H (.pointer (some ⟨p, 3, none⟩)) k = k (.map (some g)) := s_load hs.obj 3 _ rfl k
end
theorem SlR.len {H : Hp} {sl : Value} {L : List Nd} (h : SlR H sl L) {α : Type} (k : Value → Option α) : pLen .sl sl H k = k (.int .i64 L.length) := by
  rcases h with ⟨rfl, rfl⟩ | ⟨i, rfl, _⟩ <;> rfl
theorem cells_flat (L : List Nd) (i j : Nat) (hj : j < 7) : (L.flatMap Nd.cells)[i * 7 + j]? = L[i]?.bind fun n => n.cells[j]? := by
  induction L generalizing i with
  | nil => simp
  | cons n L ih =>
    rw [List.flatMap_cons]
    cases i with
    | zero => rw [Nat.zero_mul, Nat.zero_add, List.getElem?_append_left (by simp [Nd.cells]; omega)]; rfl
    | succ i =>
      have h7 : n.cells.length = 7 := rfl
      rw [List.getElem?_append_right (by omega), h7, show (i + 1) * 7 + j - 7 = i * 7 + j by omega]
      exact ih i
theorem flat_len (L : List Nd) : (L.flatMap Nd.cells).length = L.length * 7 := by
  induction L with
  | nil => rfl
  | cons n L ih =>
    have h7 : n.cells.length = 7 := rfl
    rw [List.flatMap_cons, List.length_append, ih, List.length_cons, h7]; omega

def isT (L : List Nd) (t : Int) : Bool := decide (t ≥ 1) && decide (t ≤ L.length)
theorem c19 {H : Hp} {p f g : Nat} {lim t : Int} {L : List Nd} {sl : Value} (hs : StR H p lim L sl f g) : RR F.term_Store_is [.pointer (some ⟨p, 0, none⟩), .int .i64 t] H = some (.bool (isT L t), H) := by
  refine (r_term_Store_is E0 rfl _ _ _).trans ?_
  unfold m_term_Store_is
  simp only [s_bool, s_br, s_geq, s_nil, s_offs, s_leq, Nat.zero_add, hs.l1, hs.all.len, decide_eq_true_eq]
  unfold isT
  by_cases h : t ≥ 1 <;> simp [h]
theorem c30 {H : Hp} {p f g : Nat} {lim t : Int} {L : List Nd} {sl : Value} (hs : StR H p lim L sl f g) : RR F.cadenceref07_Store_is [.pointer (some ⟨p, 0, none⟩), .int .i64 t] H = some (.bool (isT L t), H) := by
  refine (r_cadenceref07_Store_is E0 rfl _ _ _).trans ?_
  unfold m_cadenceref07_Store_is
  simp only [s_bool, s_br, s_geq, s_nil, s_offs, s_leq, Nat.zero_add, hs.l1, hs.all.len, decide_eq_true_eq]
  unfold isT
  by_cases h : t ≥ 1 <;> simp [h]

theorem wrap_id {k : IntKind} {n : Int} (h1 : k.min ≤ n) (h2 : n ≤ k.max) : k.wrap n = n := by
  cases k <;> simp [IntKind.wrap, IntKind.min, IntKind.max, IntKind.signed, IntKind.bits] at * <;> omega
/-- The width of a term; 'd' where it is none. -/
def wT (L : List Nd) (d t : Int) : Int := if isT L t then (L[(t - 1).toNat]?.map Nd.w).getD d else d
theorem isT_iff {L : List Nd} {t : Int} : isT L t = true ↔ 1 ≤ t ∧ t ≤ L.length := by unfold isT; simp
theorem s_idx {H : Hp} {L : List Nd} {sl : Value} (h : SlR H sl L) {t : Int} (ht : isT L t = true) (hL : (L.length : Int) ≤ 4611686018427387904) {α : Type} (k : Value → Option α) :
    ∃ i n, L[(t - 1).toNat]? = some n ∧ H.get i = some (.cells (L.flatMap Nd.cells) true) ∧ pIdx 7 sl (.int .i64 (IntKind.i64.wrap (t - 1))) k = k (.pointer (some ⟨i, (t - 1).toNat * 7, none⟩)) := by
  obtain ⟨h1, h2⟩ := isT_iff.1 ht
  have hw : IntKind.i64.wrap (t - 1) = t - 1 := wrap_id (by simp [IntKind.min, IntKind.signed, IntKind.bits]; omega) (by simp [IntKind.max, IntKind.signed, IntKind.bits]; omega)
  rcases h with ⟨rfl, rfl⟩ | ⟨i, rfl, hi⟩
  · simp at h2; omega
  · have hlt : (t - 1).toNat < L.length := by omega
    refine ⟨i, L[(t - 1).toNat], by simp [hlt], hi, ?_⟩
    rw [hw]
    unfold pIdx idxV
    have : (7 : Nat) = 7 ∧ 0 ≤ t - 1 ∧ t - 1 < (L.length : Int) := ⟨rfl, by omega, by omega⟩
    simp only [this, and_self, if_true, Nat.zero_add]
theorem c40 {H : Hp} {p f g : Nat} {lim t : Int} {L : List Nd} {sl : Value} (hs : StR H p lim L sl f g) (hL : (L.length : Int) ≤ 4611686018427387904) : RR F.term_Store_w [.pointer (some ⟨p, 0, none⟩), .int .i64 t] H = some (.int .i64 (wT L (-1) t), H) := by
  refine (r_term_Store_w E0 rfl _ _ _).trans ?_
  unfold m_term_Store_w
  simp only [s_call (c19 hs), s_bool, s_br, s_not, s_nil, s_offs, s_sub, Nat.zero_add, hs.l1]
  unfold wT
  cases ht : isT L t with
  | false => simp
  | true =>
    obtain ⟨i, n, hn, hi, hx⟩ := s_idx hs.all ht hL (fun p8 => pOffs 1 p8 fun p9 => pLoad 1 false H p9 fun v10 => some (v10, H))
    simp only [Bool.not_true, Bool.false_eq_true, if_false, if_true]
    rw [hx, s_offs, s_load hi _ (.int .i64 n.w) (by rw [cells_flat _ _ _ (by omega), hn]; rfl), hn]
    rfl
theorem c54 {H : Hp} {p f g : Nat} {lim t : Int} {L : List Nd} {sl : Value} (hs : StR H p lim L sl f g) (hL : (L.length : Int) ≤ 4611686018427387904) (ht : isT L t = true) (d : Int) : RR F.cadenceref07_Store_W [.pointer (some ⟨p, 0, none⟩), .int .i64 t] H = some (.int .i64 (wT L d t), H) := by
  refine (r_cadenceref07_Store_W E0 rfl _ _ _).trans ?_
  unfold m_cadenceref07_Store_W
  simp only [s_nil, s_offs, s_sub, Nat.zero_add, hs.l1]
  obtain ⟨i, n, hn, hi, hx⟩ := s_idx hs.all ht hL (fun p8 => pOffs 1 p8 fun p9 => pLoad 1 false H p9 fun v10 => some (v10, H))
  rw [hx, s_offs, s_load hi _ (.int .i64 n.w) (by rw [cells_flat _ _ _ (by omega), hn]; rfl)]
  unfold wT
  rw [ht, hn]
  rfl
theorem c52 {H : Hp} {p f g : Nat} {lim t : Int} {L : List Nd} {sl : Value} (hs : StR H p lim L sl f g) (hL : (L.length : Int) ≤ 4611686018427387904) : RR F.cadenceref07_Store_wide [.pointer (some ⟨p, 0, none⟩), .int .i64 t] H = some (.int .i64 (wT L 0 t), H) := by
  refine (r_cadenceref07_Store_wide E0 rfl _ _ _).trans ?_
  unfold m_cadenceref07_Store_wide
  simp only [s_call (c30 hs), s_bool, s_br, s_not]
  cases ht : isT L t with
  | false => simp [wT, ht]
  | true =>
    simp only [Bool.not_true, Bool.false_eq_true, if_false]
    rw [s_call (c54 hs hL ht 0)]
end Go.AM
/- The Term seat: nodes. -/
set_option linter.unusedVariables false
set_option maxRecDepth 100000
set_option linter.unusedSimpArgs false
namespace Go.AM
open Go

section
variable {α : Type} {P : Program} (n : Nd) (k : Value → Option α)
theorem n0 : pCell 1 false (cellsL n.val) 0 k = k (.int .i64 n.op) := s_cell _ 0 _ rfl k
theorem n1 : pCell 1 false (cellsL n.val) 1 k = k (.int .i64 n.w) := s_cell _ 1 _ rfl k
theorem n2 : pCell 1 false (cellsL n.val) 2 k = k (.int .i64 n.a) := s_cell _ 2 _ rfl k
theorem n3 : pCell 1 false (cellsL n.val) 3 k = k (.int .i64 n.b) := s_cell _ 3 _ rfl k
theorem n4 : pCell 1 false (cellsL n.val) 4 k = k (.int .i64 n.c) := s_cell _ 4 _ rfl k
theorem n5 : pCell 1 false (cellsL n.val) 5 k = k (.int .u64 n.num) := s_cell _ 5 _ rfl k
theorem n6 : pCell 1 false (cellsL n.val) 6 k = k (.string n.name) := s_cell _ 6 _ rfl k
theorem n07 : pCell 7 true (cellsL n.val) 0 k = k n.val := rfl
theorem s_sneq (T : TypeId) (a b : ByteArray) (k : Value → Option α) : pBin P .neq T (.string a) (.string b) k = k (.bool !(a.toList == b.toList)) := rfl
end
theorem s_ite (p : Prop) [Decidable p] (x y : Bool) (H : Hp) : (if p then some (Value.bool x, H) else some (Value.bool y, H)) = some (Value.bool (bif decide p then x else y), H) := by
  by_cases h : p <;> simp [h]

def named (n : Nd) : Bool := !(n.name.toList == (⟨#[]⟩ : ByteArray).toList)
/-- Is something set that an operation with 'k' parts has not? -/
def spareK (k : Int) (n : Nd) : Bool :=
  (decide (k < 1) && decide (n.a ≠ 0)) || (decide (k < 2) && decide (n.b ≠ 0)) || (decide (k < 3) && decide (n.c ≠ 0)) ||
  (decide (n.num ≠ 0) && decide (n.op ≠ 3) && decide (n.op ≠ 31)) || (named n && decide (n.op ≠ 4))
theorem c41 (n : Nd) (H : Hp) : RR F.term_spare [n.val] H = some (.bool (spareK (partsT n.op) n), H) := by
  refine (r_term_spare E0 rfl _ _).trans ?_
  unfold m_term_spare
  simp only [n0, n2, n3, n4, n5, n6, s_call (c29 _ _), s_lss, s_neq, s_sneq, s_bool, s_br, s_ite]
  unfold spareK named
  generalize partsT n.op = k
  congr 2
  congr 1
  generalize decide (k < 1) = b1
  generalize decide (n.a ≠ 0) = b2
  generalize decide (k < 2) = b3
  generalize decide (n.b ≠ 0) = b4
  generalize decide (k < 3) = b5
  generalize decide (n.c ≠ 0) = b6
  generalize decide (n.num ≠ 0) = b7
  generalize decide (n.op ≠ 3) = b8
  generalize decide (n.op ≠ 31) = b9
  generalize (!(n.name.toList == (⟨#[]⟩ : ByteArray).toList)) = b10
  generalize decide (n.op ≠ 4) = b11
  simp only [Bool.decide_eq_true]
  cases b1 <;> cases b2 <;> cases b3 <;> cases b4 <;> cases b5 <;> cases b6 <;> simp <;> cases b7 <;> cases b8 <;> cases b9 <;> simp <;> cases b10 <;> simp
end Go.AM
/- The Term seat: nodes, II. -/
set_option linter.unusedVariables false
set_option maxRecDepth 100000
set_option linter.unusedSimpArgs false
namespace Go.AM
open Go
theorem s_head (v : Value) (l : List Value) : (v :: l).headD undef = v := rfl
theorem c47 (n : Nd) (k : Int) (H : Hp) : RR F.cadenceref07_extra [n.val, .int .i64 k] H = some (.bool (spareK k n), H) := by
  refine (r_cadenceref07_extra E0 rfl _ _ _).trans ?_
  unfold m_cadenceref07_extra
  simp only [n0, n2, n3, n4, n5, n6, s_lss, s_neq, s_sneq, s_bool, s_br, s_bind, s_bind_ite, s_next, s_ret, s_head, s_ite]
  unfold spareK named
  congr 2
  congr 1
  generalize decide (k < 1) = b1
  generalize decide (n.a ≠ 0) = b2
  generalize decide (k < 2) = b3
  generalize decide (n.b ≠ 0) = b4
  generalize decide (k < 3) = b5
  generalize decide (n.c ≠ 0) = b6
  generalize decide (n.num ≠ 0) = b7
  generalize decide (n.op ≠ 3) = b8
  generalize decide (n.op ≠ 31) = b9
  generalize (!(n.name.toList == (⟨#[]⟩ : ByteArray).toList)) = b10
  generalize decide (n.op ≠ 4) = b11
  simp only [Bool.decide_eq_true]
  cases b1 <;> cases b2 <;> cases b3 <;> cases b4 <;> cases b5 <;> cases b6 <;> simp <;> cases b7 <;> cases b8 <;> cases b9 <;> simp <;> cases b10 <;> simp

/-- The document's count of parts; -1: no operation. -/
def partsR (op : Int) : Int := if op < 1 ∨ op > 33 then -1 else partsT op
theorem s_iteI (p : Prop) [Decidable p] (x y : Int) (H : Hp) : (if p then some (Value.int .i64 x, H) else some (Value.int .i64 y, H)) = some (Value.int .i64 (if p then x else y), H) := by
  split <;> rfl
theorem c46 (op : Int) (H : Hp) : RR F.cadenceref07_Parts [.int .i64 op] H = some (.int .i64 (partsR op), H) := by
  refine (r_cadenceref07_Parts E0 rfl _ _).trans ?_
  unfold m_cadenceref07_Parts
  simp only [s_lss, s_leq, s_gtr, s_geq, s_eql, s_bool, s_br, s_bind, s_bind_ite, s_next, s_exit, s_ret, s_onExit, s_head, decide_eq_true_eq, List.getD_cons_zero, s_iteI, if_true]
  congr 2
  congr 1
  unfold partsR partsT
  by_cases h1 : op < 1
  · simp [h1]
  by_cases h2 : op > 33
  · simp [h1, h2]
  simp only [h1, h2, if_false, or_self]
  by_cases h3 : op ≤ 4
  · have : op = 1 ∨ op = 2 ∨ op = 3 ∨ op = 4 := by omega
    simp [h3, this]
  · have : ¬ (op = 1 ∨ op = 2 ∨ op = 3 ∨ op = 4) := by omega
    simp only [this, h3, if_false]
    by_cases h5 : op = 5
    · simp [h5]
    by_cases h6 : op = 15
    · simp [h6]
    by_cases h7 : op = 16
    · simp [h7]
    by_cases h8 : op ≥ 31
    · have : op = 5 ∨ op = 15 ∨ op = 16 ∨ op = 31 ∨ op = 32 ∨ op = 33 := by omega
      simp [h5, h6, h7, h8, this]
      intros; omega
    · have : ¬ (op = 5 ∨ op = 15 ∨ op = 16 ∨ op = 31 ∨ op = 32 ∨ op = 33) := by omega
      simp [h5, h6, h7, h8, this]
      intros; omega
end Go.AM
