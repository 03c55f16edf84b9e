/- Part of the proof of TermOrdersUptoSaid: see the last file.  -/
import Derived.Test.YtkfhklmklhnfaaaRows
import Derived.KernelRfl
import Derived.Test.YtkfhklmklhnfaaaT0
import Derived.Test.YtkfhklmklhnfaaaT1
import Derived.Test.YtkfhklmklhnfaaaT2
import Derived.Test.YtkfhklmklhnfaaaT3
set_option linter.unusedSimpArgs false
set_option linter.unusedVariables false
set_option linter.unusedSectionVars false
/- The abstract machine: arguments. -/
set_option linter.unusedVariables false
namespace Go.AM
open Go Go.ChangeShapes Go.WideShapes Go.ChangeAt Go.RowKit

inductive Sc where
  | bool | int (k : IntKind) | str
def okSc : Sc → Value → Prop
  | .bool, v => ∃ b, v = .bool b
  | .int k, v => ∃ n, v = .int k n ∧ k.min ≤ n ∧ n ≤ k.max
  | .str, v => ∃ s : ByteArray, v = .string s
theorem okSc.rel {k : Sc} {v : Value} (h : okSc k v) (β : Bt) : VRel β v v := by
  cases k with
  | bool => obtain ⟨b, rfl⟩ := h; exact .bool b
  | int k => obtain ⟨n, rfl, _⟩ := h; exact .int k n
  | str => obtain ⟨s, rfl⟩ := h; exact .string s

/-- The cells of a type that holds nothing but truths, numbers and texts. -/
def flatFs (P : Program) (c : TypeId → Option (List Sc)) : List Field → Nat → Option (List Sc)
  | [], _ => some []
  | f :: fs, off => match c f.type with
    | none => none
    | some ks => match Nat.beq f.offset off && Nat.beq ks.length (P.cellsOf f.type) with
      | true => match flatFs P c fs (off + ks.length) with
        | some r => some (ks ++ r)
        | none => none
      | false => none
def flat (P : Program) : Nat → TypeId → Option (List Sc)
  | 0, _ => none
  | d + 1, t => match P.underlying t with
    | some .bool => some [.bool]
    | some (.int k) => some [.int k]
    | some .string => some [.str]
    | some (.struct fs) => match flatFs P (flat P d) fs.toList 0 with
      | some ks => match Nat.beq ks.length (P.cellsOf t) with
        | true => some ks
        | false => none
      | none => none
    | _ => none

def OkL (ks : List Sc) (cs : List Value) : Prop := cs.length = ks.length ∧ ∀ (j : Nat) k, ks[j]? = some k → ∃ v, cs[j]? = some v ∧ okSc k v
theorem OkL.one {k : Sc} {v : Value} (h : okSc k v) : OkL [k] [v] := ⟨rfl, fun j k' hk => by
  cases j with
  | zero => cases hk; exact ⟨v, rfl, h⟩
  | succ j => cases hk⟩

variable {HH : Type} {enc : TypeId × Value → HH} {P : Program} {w : World} {base : Nat} {sp : Nat → Bool} {held : Bool}

theorem flatFs_ok {n : Nat} {c : TypeId → Option (List Sc)} (hc : ∀ t ks cs x, c t = some ks → DataW.trod enc P w base sp held n t cs = some x → OkL ks cs) {cs : List Value} :
    ∀ (fs : List Field) (off : Nat) (ks : List Sc), flatFs P c fs off = some ks → (∀ f ∈ fs, ∃ x, DataW.trod enc P w base sp held n f.type ((cs.drop f.offset).take (P.cellsOf f.type)) = some x) → off + ks.length ≤ cs.length →
      ∀ (j : Nat) k, ks[j]? = some k → ∃ v, cs[off + j]? = some v ∧ okSc k v
  | [], off, ks, h, _, _, j, k, hk => by cases h; cases hk
  | f :: fs, off, ks, h, hx, hl, j, k, hk => by
    unfold flatFs at h
    split at h
    · cases h
    · rename_i k1 h1
      split at h
      · rename_i hb
        rw [Bool.and_eq_true] at hb
        have ho : f.offset = off := Nat.eq_of_beq_eq_true hb.1
        have hk1 : k1.length = P.cellsOf f.type := Nat.eq_of_beq_eq_true hb.2
        split at h
        · rename_i r hr
          cases h
          obtain ⟨x, hx1⟩ := hx f (List.mem_cons_self ..)
          have hok := hc _ _ _ _ h1 hx1
          rcases Nat.lt_or_ge j k1.length with q | q
          · rw [List.getElem?_append_left q] at hk
            obtain ⟨v, hv, hs⟩ := hok.2 j k hk
            rw [List.getElem?_take] at hv
            split at hv
            · rw [List.getElem?_drop, ho] at hv
              exact ⟨v, hv, hs⟩
            · cases hv
          · rw [List.getElem?_append_right q] at hk
            simp only [List.length_append] at hl
            obtain ⟨v, hv, hs⟩ := flatFs_ok hc fs (off + k1.length) r hr (fun f hf => hx f (List.mem_cons_of_mem _ hf)) (by omega) (j - k1.length) k hk
            exact ⟨v, by rw [show off + j = off + k1.length + (j - k1.length) by omega]; exact hv, hs⟩
        · cases h
      · cases h

theorem flat_ok : ∀ (d : Nat) (t : TypeId) (ks : List Sc), flat P d t = some ks → ∀ (fuel : Nat) (cs : List Value) (x : DataW HH × List MemPlace), DataW.trod enc P w base sp held fuel t cs = some x → OkL ks cs
  | 0, t, ks, h, _, _, _, _ => by cases h
  | d + 1, t, ks, h, fuel, cs, x, hx => by
    unfold flat at h
    split at h
    · rename_i hu
      cases h
      obtain ⟨b, rfl, _⟩ := DataW.trod_bool hu hx
      exact OkL.one ⟨b, rfl⟩
    · rename_i k hu
      cases h
      obtain ⟨n, rfl, _, hw⟩ := DataW.trod_int hu hx
      refine OkL.one ⟨n, rfl, ?_⟩
      simpa [Lit.wf] using hw
    · rename_i hu
      cases h
      obtain ⟨s, rfl, _⟩ := DataW.trod_string hu hx
      exact OkL.one ⟨s, rfl⟩
    · rename_i fs hu
      split at h
      · rename_i k1 hf
        split at h
        · rename_i hb
          cases h
          have hlen : ks.length = P.cellsOf t := Nat.eq_of_beq_eq_true hb
          obtain ⟨xs, n, rfl, _, hl, hxl, hall⟩ := DataW.trod_struct hu hx
          refine ⟨by omega, fun j k hk => ?_⟩
          obtain ⟨v, hv, hs⟩ := flatFs_ok (n := n) (fun t ks cs x h1 h2 => flat_ok d t ks h1 n cs x h2) (cs := cs) fs.toList 0 ks hf (fun f hf => by
            obtain ⟨i, hi, rfl⟩ := List.getElem_of_mem hf
            have hi' : i < fs.size := by simpa using hi
            have := hall i fs.toList[i] (by simp [hi'])
            rw [this]
            exact ⟨xs[i], by simp⟩) (by omega) j k hk
          exact ⟨v, by simpa using hv, hs⟩
        · cases h
      · cases h
    · cases h

/-! ### Start heaps -/
def H00 (P : Program) : Hp := ⟨P.globals.size, fun _ => none⟩
def B00 (P : Program) : Bt := fun g => if g < P.globals.size then some ⟨g, 0, 0⟩ else none
theorem rel00 {W : World} (h : P.globals.size ≤ W.heap.size) : Rel P W (H00 P) (B00 P) :=
  ⟨fun i cs own hi => (by cases hi), fun i kv hi => (by cases hi), fun i j o o' x y _ hi => (by cases hi), fun i hi => ⟨rfl, by unfold B00; rw [if_neg (by have : P.globals.size ≤ i := hi; omega)]⟩,
    fun i x hx => by unfold B00 at hx; split at hx <;> cases hx; show i < _; omega, fun g hg => ⟨0, by unfold B00; rw [if_pos hg]⟩⟩
/-- A thing that is only read. -/
theorem Rel.addRo {W : World} {H : Hp} {β : Bt} (h : Rel P W H β) (hno : ∀ i o, H.get i = some o → o.own = false) {cs : List Value} {b s t : Nat} (hb : b < W.heap.size)
    (hc : ∀ (j : Nat) v, cs[j]? = some v → ∃ v', W.cell? ⟨b, s + j, none⟩ = some v' ∧ VRel β v v') :
    Rel P W (H.new (.cells cs false)) (β.set H.next ⟨b, s, t⟩) ∧ (∀ i o, (H.new (.cells cs false)).get i = some o → o.own = false) ∧ β.le (β.set H.next ⟨b, s, t⟩) := by
  have hf := (h.fresh H.next (Nat.le_refl _)).2
  have hle : β.le (β.set H.next ⟨b, s, t⟩) := Bt.le_set hf
  have hno' : ∀ i o, (H.new (.cells cs false)).get i = some o → o.own = false := fun i o hi => by
    rw [Hp.get_new] at hi
    split at hi
    · cases hi; rfl
    · exact hno i o hi
  refine ⟨⟨fun i ds own hi => ?_, fun i kv hi => ?_, fun i j o o' x y hij hi hj ho => (by rw [hno' i o hi] at ho; cases ho), fun i hi => ?_, fun i x hx => ?_, fun g hg => ?_⟩, hno', hle⟩
  · rw [Hp.get_new] at hi
    split at hi
    · rename_i e
      cases hi
      subst e
      exact ⟨_, Bt.set_same _ _ _, fun j v hv => by obtain ⟨v', h1, h2⟩ := hc j v hv; exact ⟨v', h1, h2.mono hle⟩, fun ho => by cases ho⟩
    · obtain ⟨x, hx, h1, h2⟩ := h.cells i ds own hi
      exact ⟨x, hle i x hx, fun j v hv => by obtain ⟨v', h3, h4⟩ := h1 j v hv; exact ⟨v', h3, h4.mono hle⟩, h2⟩
  · rw [Hp.get_new] at hi
    split at hi
    · cases hi
    · have := hno i _ hi
      cases this
  · have hi : H.next + 1 ≤ i := hi
    have := h.fresh i (by omega)
    refine ⟨?_, ?_⟩
    · rw [Hp.get_new, if_neg (by omega)]; exact this.1
    · unfold Bt.set; rw [if_neg (by omega)]; exact this.2
  · unfold Bt.set at hx
    split at hx
    · cases hx; exact hb
    · exact h.lt i x hx
  · obtain ⟨t', ht⟩ := h.glob g hg
    exact ⟨t', hle g _ ht⟩

/-! ### Slices of flat things -/
theorem mapM_get {γ δ : Type} {f : γ → Option δ} : ∀ (l : List γ) (cs : List δ), l.mapM f = some cs → cs.length = l.length ∧ ∀ (j : Nat) x, l[j]? = some x → ∃ c, cs[j]? = some c ∧ f x = some c
  | [], cs, h => by cases h; exact ⟨rfl, fun j x hx => by cases hx⟩
  | y :: l, cs, h => by
    rw [List.mapM_cons] at h
    cases hy : f y with
    | none => rw [hy] at h; cases h
    | some c =>
      rw [hy] at h
      cases hl : l.mapM f with
      | none => rw [hl] at h; cases h
      | some r =>
        rw [hl] at h
        cases h
        obtain ⟨h1, h2⟩ := mapM_get l r hl
        refine ⟨by simp [h1], fun j x hx => ?_⟩
        cases j with
        | zero => cases hx; exact ⟨c, rfl, hy⟩
        | succ j => exact h2 j x hx
theorem flatten_get {sz : Nat} : ∀ (L : List (List Value)), (∀ l ∈ L, l.length = sz) → ∀ i j, j < sz → L.flatten[i * sz + j]? = L[i]?.bind fun l => l[j]?
  | [], _, i, j, _ => by simp
  | l :: L, hL, i, j, hj => by
    have h0 := hL l (List.mem_cons_self ..)
    rw [List.flatten_cons]
    cases i with
    | zero =>
      rw [Nat.zero_mul, Nat.zero_add, List.getElem?_append_left (by omega)]
      rfl
    | succ i =>
      rw [List.getElem?_append_right (by rw [h0, Nat.succ_mul]; omega), h0, show (i + 1) * sz + j - sz = i * sz + j by rw [Nat.succ_mul]; omega]
      exact flatten_get L (fun l hl => hL l (List.mem_cons_of_mem _ hl)) i j hj
theorem flatten_length {sz : Nat} : ∀ (L : List (List Value)), (∀ l ∈ L, l.length = sz) → L.flatten.length = L.length * sz
  | [], _ => by simp
  | l :: L, hL => by
    rw [List.flatten_cons, List.length_append, hL l (List.mem_cons_self ..), flatten_length L (fun l hl => hL l (List.mem_cons_of_mem _ hl)), List.length_cons, Nat.succ_mul]
    omega

theorem arg_flats {t e : TypeId} {d : Nat} {ks : List Sc} (ht : P.underlying t = some (.slice e)) (hf : flat P d e = some ks) (hk : P.cellsOf e = ks.length) (h0 : 0 < ks.length)
    {W : World} {H : Hp} {β : Bt} (hR : Rel P W H β) (hno : ∀ i o, H.get i = some o → o.own = false) {b0 : Nat} {v' : Value} {dw : DataW HH} {ps : List MemPlace}
    (hval : Value.okWide P W .any b0 t v') (hd : DataW.Trod enc P W 0 (fun _ => true) true t v' dw ps) :
    ∃ (v : Value) (H' : Hp) (β' : Bt), Rel P W H' β' ∧ (∀ i o, H'.get i = some o → o.own = false) ∧ β.le β' ∧ VRel β' v v' ∧
      ((v = .slice none 0 0 ∧ dw = .nil ∧ H' = H) ∨
        ∃ (L : List (List Value)) (es sp : List (DataW HH)), v = .slice (some ⟨H.next, 0, some ks.length⟩) L.length L.length ∧ H' = H.new (.cells L.flatten false) ∧ (∀ l ∈ L, OkL ks l) ∧ dw = .slice es sp ∧ es.length = L.length) := by
  obtain ⟨a, len, cap, rfl⟩ := okWide_slice ht hval
  obtain ⟨fuel, hx⟩ := hd
  rcases DataW.trod_slice ht hx with ⟨h1, h2⟩ | ⟨a', len', cap', elems, rest, n, hfu, h1, h2, h3, h4, h5, h6, h7, _, _⟩
  · cases h1
    cases h2
    exact ⟨.slice none 0 0, H, β, hR, hno, Bt.le_refl _, .snil, .inl ⟨rfl, rfl, rfl⟩⟩
  · cases h1
    have hhas : W.has P .any b0 a' e cap := by
      have := hval
      unfold Value.okWide Cell.okWide Cell.ok at this
      rw [ht] at this
      exact this.2.2
    obtain ⟨_, hspot, row, cells, hshape, _⟩ := hhas
    obtain ⟨b, s, sp0⟩ := a'
    simp only at hspot
    subst hspot
    have hbl : b < W.heap.size := by
      unfold World.shape? at hshape
      cases hq : W.heap[b]? with
      | none => rw [hq] at hshape; cases hshape
      | some o => exact (Array.getElem?_eq_some_iff.1 hq).1
    have hrow : ∀ i, i < len → ∃ l : List Value, OkL ks l ∧ ∀ j u, l[j]? = some u → W.cell? ⟨b, s + (i * ks.length + j), none⟩ = some u := by
      intro i hi
      have := h7 i hi
      cases hc : W.cells? 0 ((⟨b, s, none⟩ : Addr).add (i * P.cellsOf e)) (P.cellsOf e) with
      | none =>
        rw [hc] at this
        have hlt : i < elems.length := by omega
        rw [List.getElem?_eq_getElem hlt] at this; cases this
      | some l =>
        rw [hc] at this
        have hlt : i < elems.length := by omega
        rw [List.getElem?_eq_getElem hlt] at this
        have hok := flat_ok d e ks hf n l _ this
        refine ⟨l, hok, fun j u hu => ?_⟩
        unfold World.cells? at hc
        rw [if_pos (Nat.zero_le _)] at hc
        obtain ⟨g1, g2⟩ := mapM_get _ _ hc
        have hjl : j < l.length := (List.getElem?_eq_some_iff.1 hu).1
        obtain ⟨c, g3, g4⟩ := g2 j j (by rw [List.getElem?_range]; simp at g1; omega)
        rw [hu] at g3; cases g3
        rw [hk, addr_add, addr_add] at g4
        rw [show s + (i * ks.length + j) = s + i * ks.length + j by omega]
        exact g4
    have hL : ∃ L : List (List Value), L.length = len ∧ ∀ i l, L[i]? = some l → OkL ks l ∧ ∀ j u, l[j]? = some u → W.cell? ⟨b, s + (i * ks.length + j), none⟩ = some u := by
      refine ⟨(List.range len).map fun i => if h : i < len then (hrow i h).choose else [], by simp, fun i l hl => ?_⟩
      rw [List.getElem?_map] at hl
      by_cases hi : i < len
      · rw [List.getElem?_range hi] at hl
        simp only [Option.map_some, dif_pos hi, Option.some.injEq] at hl
        subst hl
        exact (hrow i hi).choose_spec
      · rw [List.getElem?_eq_none (by simp; omega)] at hl; cases hl
    obtain ⟨L, hLl, hLp⟩ := hL
    have hLk : ∀ l ∈ L, OkL ks l := fun l hl => by
      obtain ⟨i, hi, rfl⟩ := List.getElem_of_mem hl
      exact (hLp i L[i] (by simp)).1
    have hLs : ∀ l ∈ L, l.length = ks.length := fun l hl => (hLk l hl).1
    obtain ⟨g1, g2, g3⟩ := hR.addRo hno (cs := L.flatten) (b := b) (s := s) (t := s + cap * ks.length) hbl (fun q v hv => by
      have hq : q < L.flatten.length := (List.getElem?_eq_some_iff.1 hv).1
      rw [flatten_length L hLs] at hq
      have hdm : q / ks.length * ks.length + q % ks.length = q := by rw [Nat.mul_comm]; exact Nat.div_add_mod q ks.length
      have hm := Nat.mod_lt q h0
      rw [← hdm, flatten_get L hLs _ _ hm] at hv
      cases hl : L[q / ks.length]? with
      | none => rw [hl] at hv; cases hv
      | some l =>
        rw [hl] at hv
        obtain ⟨p1, p2⟩ := hLp _ l hl
        refine ⟨v, ?_, ?_⟩
        · have := p2 (q % ks.length) v hv
          rw [hdm] at this
          exact this
        · have hkk : q % ks.length < ks.length := hm
          obtain ⟨u, hu1, hu2⟩ := p1.2 (q % ks.length) _ (List.getElem?_eq_getElem hkk)
          have hv' : l[q % ks.length]? = some v := hv
          rw [hu1] at hv'; cases hv'
          exact hu2.rel _)
    refine ⟨.slice (some ⟨H.next, 0, some ks.length⟩) L.length L.length, _, _, g1, g2, g3, ?_, .inr ⟨L, _, _, rfl, rfl, hLk, (Prod.mk.inj h2).1, by simp; omega⟩⟩
    rw [hLl]
    exact .slice _ _ _ _ _ _ _ _ (Bt.set_same _ _ _) (Nat.le_refl _) h4 (Nat.le_refl _) (fun _ => rfl)
end Go.AM
/- The Term seat: the arguments. -/
set_option linter.unusedVariables false
set_option linter.unusedSimpArgs false
namespace Go.AM
open Go Go.ChangeShapes Go.WideShapes Go.ChangeAt Go.RowKit
theorem consL {α : Type} {l : List α} {n : Nat} (h : l.length = n + 1) : ∃ a t, l = a :: t ∧ t.length = n := by
  cases l with
  | nil => cases h
  | cons a t => exact ⟨a, t, rfl, by simpa using h⟩
def ks16 : List Sc := [.int .i64, .int .i64, .int .i64, .int .i64, .int .i64, .int .i64, .bool, .int .u64, .str, .int .i64, .int .i64, .int .i64, .int .i64, .int .i64, .int .u64, .str]
theorem opDec (l : List Value) (h : OkL ks16 l) : ∃ o : OpA, o.cells = l ∧ o.Ok := by
  obtain ⟨hl0, hh⟩ := h
  obtain ⟨v0, l0, rfl, hl1⟩ := consL hl0
  obtain ⟨v1, l1, rfl, hl2⟩ := consL hl1
  obtain ⟨v2, l2, rfl, hl3⟩ := consL hl2
  obtain ⟨v3, l3, rfl, hl4⟩ := consL hl3
  obtain ⟨v4, l4, rfl, hl5⟩ := consL hl4
  obtain ⟨v5, l5, rfl, hl6⟩ := consL hl5
  obtain ⟨v6, l6, rfl, hl7⟩ := consL hl6
  obtain ⟨v7, l7, rfl, hl8⟩ := consL hl7
  obtain ⟨v8, l8, rfl, hl9⟩ := consL hl8
  obtain ⟨v9, l9, rfl, hl10⟩ := consL hl9
  obtain ⟨v10, l10, rfl, hl11⟩ := consL hl10
  obtain ⟨v11, l11, rfl, hl12⟩ := consL hl11
  obtain ⟨v12, l12, rfl, hl13⟩ := consL hl12
  obtain ⟨v13, l13, rfl, hl14⟩ := consL hl13
  obtain ⟨v14, l14, rfl, hl15⟩ := consL hl14
  obtain ⟨v15, l15, rfl, hl16⟩ := consL hl15
  have : l15 = [] := by cases l15 with | nil => rfl | cons a t => cases hl16
  subst this
  obtain ⟨_, e, n0, rfl, p0, q0⟩ := hh 0 _ rfl
  cases e
  obtain ⟨_, e, n1, rfl, p1, q1⟩ := hh 1 _ rfl
  cases e
  obtain ⟨_, e, n2, rfl, p2, q2⟩ := hh 2 _ rfl
  cases e
  obtain ⟨_, e, n3, rfl, p3, q3⟩ := hh 3 _ rfl
  cases e
  obtain ⟨_, e, n4, rfl, p4, q4⟩ := hh 4 _ rfl
  cases e
  obtain ⟨_, e, n5, rfl, p5, q5⟩ := hh 5 _ rfl
  cases e
  obtain ⟨_, e, n6, rfl⟩ := hh 6 _ rfl
  cases e
  obtain ⟨_, e, n7, rfl, p7, q7⟩ := hh 7 _ rfl
  cases e
  obtain ⟨_, e, n8, rfl⟩ := hh 8 _ rfl
  cases e
  obtain ⟨_, e, n9, rfl, p9, q9⟩ := hh 9 _ rfl
  cases e
  obtain ⟨_, e, n10, rfl, p10, q10⟩ := hh 10 _ rfl
  cases e
  obtain ⟨_, e, n11, rfl, p11, q11⟩ := hh 11 _ rfl
  cases e
  obtain ⟨_, e, n12, rfl, p12, q12⟩ := hh 12 _ rfl
  cases e
  obtain ⟨_, e, n13, rfl, p13, q13⟩ := hh 13 _ rfl
  cases e
  obtain ⟨_, e, n14, rfl, p14, q14⟩ := hh 14 _ rfl
  cases e
  obtain ⟨_, e, n15, rfl⟩ := hh 15 _ rfl
  cases e
  have e1 : IntKind.u64.min = 0 := rfl
  have e2 : IntKind.u64.max = 18446744073709551615 := rfl
  exact ⟨⟨n0, n1, n2, n3, n4, n5, n6, n7, n8, ⟨n9, n10, n11, n12, n13, n14, n15⟩⟩, rfl, ⟨⟨by show 0 ≤ n7; omega, by show n7 < 18446744073709551616; omega⟩, ⟨by show 0 ≤ n14; omega, by show n14 < 18446744073709551616; omega⟩⟩⟩
theorem decL {X : Type} {ks : List Sc} {cells : X → List Value} {Q : X → Prop} (dec : ∀ l, OkL ks l → ∃ o : X, cells o = l ∧ Q o) : ∀ Ls : List (List Value), (∀ l ∈ Ls, OkL ks l) → ∃ os : List X, Ls = os.map cells ∧ ∀ o ∈ os, Q o
  | [], _ => ⟨[], rfl, fun o h => by cases h⟩
  | l :: Ls, h => by
    obtain ⟨o, h1, h2⟩ := dec l (h l (List.mem_cons_self ..))
    obtain ⟨os, h3, h4⟩ := decL dec Ls fun l hl => h l (List.mem_cons_of_mem _ hl)
    refine ⟨o :: os, by rw [h3, List.map_cons, h1], fun x hx => ?_⟩
    rcases List.mem_cons.1 hx with rfl | hx
    · exact h2
    · exact h4 x hx
open Go.Proofs.Ytkfhklmklhnfaaa in
theorem bulk1 {HH : Type} (d : DataW HH) : 1 ≤ Rows.uptoBulk d := by
  cases d <;> first | (rename_i l; cases l <;> simp [Rows.uptoBulk]) | simp [Rows.uptoBulk]
open Go.Proofs.Ytkfhklmklhnfaaa in
theorem bulk_len {HH : Type} : ∀ es : List (DataW HH), es.length ≤ Rows.uptoBulkAll es
  | [] => Nat.zero_le _
  | d :: r => by
    have := bulk_len r
    have := bulk1 d
    simp only [Rows.uptoBulkAll, List.length_cons]
    omega
theorem flat46 : flat Go.Proofs.Try.prog 3 46 = some ks16 := by kernel_rfl
theorem script_arg {HH : Type} {enc : TypeId × Value → HH} {W : World} {H : Hp} {β : Bt} (hR : Rel Go.Proofs.Try.prog W H β) (hno : ∀ i o, H.get i = some o → o.own = false) {b0 : Nat} {v' : Value} {dw : DataW HH} {ps : List MemPlace}
    (hval : Value.okWide Go.Proofs.Try.prog W .any b0 22 v') (hd : DataW.Trod enc Go.Proofs.Try.prog W 0 (fun _ => true) true 22 v' dw ps) :
    ∃ (v : Value) (H' : Hp) (β' : Bt) (os : List OpA), Rel Go.Proofs.Try.prog W H' β' ∧ (∀ i o, H'.get i = some o → o.own = false) ∧ β.le β' ∧ VRel β' v v' ∧ ScR H' v os ∧ (∀ o ∈ os, o.Ok) ∧ os.length ≤ Go.Proofs.Ytkfhklmklhnfaaa.Rows.uptoBulk dw := by
  obtain ⟨v, H', β', g1, g2, g3, g4, g5⟩ := arg_flats (P := Go.Proofs.Try.prog) (t := 22) (e := 46) (d := 3) (ks := ks16) (by kernel_rfl) flat46 (by kernel_rfl) (by decide) hR hno hval hd
  rcases g5 with ⟨rfl, rfl, rfl⟩ | ⟨L, es, sp, rfl, rfl, h1, rfl, h2⟩
  · exact ⟨_, _, β', [], g1, g2, g3, g4, .inl ⟨rfl, rfl⟩, fun o h => (by cases h), by simp⟩
  · obtain ⟨os, h3, h4⟩ := decL (cells := OpA.cells) opDec L h1
    subst h3
    refine ⟨_, _, β', os, g1, g2, g3, g4, .inr ⟨H.next, ?_, ?_, ?_⟩, h4, ?_⟩
    · rw [List.length_map]; rfl
    · rw [g_new, if_pos rfl, List.flatMap_def]
    · show H.next < H.next + 1; omega
    · have := bulk_len es
      rw [List.length_map] at h2
      simp only [Go.Proofs.Ytkfhklmklhnfaaa.Rows.uptoBulk]
      omega
end Go.AM
/- The Term seat: what Make does to a store, plainly. -/
set_option linter.unusedVariables false
set_option linter.unusedSimpArgs false
namespace Go.AM
open Go
/-- A store's order: widths, parts ahead, each node once, no more than the limit. -/
structure Inv (lim : Int) (L : List Nd) : Prop where
  w : ∀ m ∈ L, 0 ≤ m.w ∧ m.w ≤ 64
  parts : ∀ (i : Nat) m, L[i]? = some m → m.a ≤ i ∧ m.b ≤ i ∧ m.c ≤ i
  nod : ∀ (i j : Nat) m, L[i]? = some m → L[j]? = some m → i = j
  lim : lim > 0 → (L.length : Int) ≤ lim
theorem Inv.nil (lim : Int) : Inv lim [] := ⟨fun m h => (by cases h), fun i m h => (by cases h), fun i j m h => (by cases h), fun h => by simp; omega⟩
theorem nodeEq_iff' (n m : Nd) : nodeEq n m = true ↔ n = m := by
  cases n; cases m
  unfold nodeEq
  simp [ba_eq]
theorem placeOf_some (n : Nd) : ∀ (L : List Nd) (i q : Nat), placeOf n i L = some q → i ≤ q ∧ L[q - i]? = some n
  | [], i, q, h => by cases h
  | m :: r, i, q, h => by
    unfold placeOf at h
    split at h
    · rename_i e
      cases h
      have := (nodeEq_iff' n m).1 e
      subst this
      exact ⟨Nat.le_refl _, by simp⟩
    · obtain ⟨h1, h2⟩ := placeOf_some n r (i + 1) q h
      refine ⟨by omega, ?_⟩
      rw [show q - i = (q - (i + 1)) + 1 by omega]
      simpa using h2
theorem placeOf_none (n : Nd) : ∀ (L : List Nd) (i : Nat), placeOf n i L = none → ∀ (j : Nat), L[j]? ≠ some n
  | [], i, h, j, e => by cases e
  | m :: r, i, h, j, e => by
    unfold placeOf at h
    split at h
    · cases h
    · rename_i ne
      cases j with
      | zero => simp at e; subst e; exact ne ((nodeEq_iff' _ _).2 rfl)
      | succ j => exact placeOf_none n r (i + 1) h j (by simpa using e)
theorem placeOf_last (n : Nd) : ∀ (L : List Nd) (i : Nat), placeOf n i L = none → placeOf n i (L ++ [n]) = some (i + L.length)
  | [], i, h => by
    show placeOf n i [n] = _
    unfold placeOf
    rw [if_pos ((nodeEq_iff' n n).2 rfl)]; rfl
  | m :: r, i, h => by
    unfold placeOf at h
    split at h
    · cases h
    · rename_i ne
      show placeOf n i (m :: (r ++ [n])) = _
      unfold placeOf
      rw [if_neg ne, placeOf_last n r (i + 1) h, List.length_cons]
      congr 1; omega
theorem isT_app {L : List Nd} {m : Nd} {t : Int} (h : isT L t = true) : isT (L ++ [m]) t = true := by
  obtain ⟨h1, h2⟩ := isT_iff.1 h
  exact isT_iff.2 ⟨h1, by simp; omega⟩
theorem wT_app {L : List Nd} {m : Nd} {d t : Int} (h : isT L t = true ∨ t ≤ 0) : wT (L ++ [m]) d t = wT L d t := by
  rcases h with h | h
  · obtain ⟨h1, h2⟩ := isT_iff.1 h
    unfold wT
    rw [if_pos h, if_pos (isT_app h), List.getElem?_append_left (by omega)]
  · have e1 : ∀ M : List Nd, isT M t = false := fun M => by
      cases e : isT M t with
      | false => rfl
      | true => have := (isT_iff.1 e).1; omega
    unfold wT
    rw [if_neg (by rw [e1]; decide), if_neg (by rw [e1]; decide)]
theorem partsT_cases (op : Int) : partsT op = 0 ∨ partsT op = 1 ∨ partsT op = 2 ∨ partsT op = 3 := by
  unfold partsT
  split
  · exact .inl rfl
  · split
    · exact .inr (.inl rfl)
    · split
      · exact .inr (.inr (.inr rfl))
      · exact .inr (.inr (.inl rfl))
/-- Of a node that is right: each part is a term, or 0. -/
theorem parts_ok {L : List Nd} {n : Nd} (h1 : ¬ pastParts L n = true) (h2 : ¬ spareK (partsT n.op) n = true) :
    (isT L n.a = true ∨ n.a = 0) ∧ (isT L n.b = true ∨ n.b = 0) ∧ (isT L n.c = true ∨ n.c = 0) ∧ (partsT n.op ≥ 1 → isT L n.a = true) ∧ (partsT n.op ≥ 2 → isT L n.b = true) ∧ (partsT n.op ≥ 3 → isT L n.c = true) := by
  unfold pastParts at h1
  unfold spareK at h2
  simp only [Bool.or_eq_true, Bool.and_eq_true, decide_eq_true_eq, Bool.not_eq_true', not_or, not_and, Bool.not_eq_false] at h1 h2
  have ha : partsT n.op ≥ 1 → isT L n.a = true := h1.1.1
  have hb : partsT n.op ≥ 2 → isT L n.b = true := h1.1.2
  have hc : partsT n.op ≥ 3 → isT L n.c = true := h1.2
  refine ⟨?_, ?_, ?_, ha, hb, hc⟩
  · rcases Int.lt_or_le (partsT n.op) 1 with q | q
    · right; have := h2.1.1.1.1 q; omega
    · exact .inl (ha q)
  · rcases Int.lt_or_le (partsT n.op) 2 with q | q
    · right; have := h2.1.1.1.2 q; omega
    · exact .inl (hb q)
  · rcases Int.lt_or_le (partsT n.op) 3 with q | q
    · right; have := h2.1.1.2 q; omega
    · exact .inl (hc q)
theorem nameAt_app (s t : ByteArray) (w : Int) : ∀ (K : List (ByteArray × Int)) (i : Nat), nameAt s i K = none → nameAt s i (K ++ [(s, w)]) = some (i + K.length, w)
  | [], i, h => by
    show nameAt s i [(s, w)] = _
    unfold nameAt
    rw [if_pos ((ba_eq s s).2 rfl)]; rfl
  | (u, v) :: r, i, h => by
    unfold nameAt at h
    split at h
    · cases h
    · rename_i ne
      show nameAt s i ((u, v) :: (r ++ [(s, w)])) = _
      unfold nameAt
      rw [if_neg ne, nameAt_app s t w r (i + 1) h, List.length_cons]
      congr 2; omega
theorem badName_set {K : List (ByteArray × Int)} {n : Nd} (h : badName K n = false) : badName (nameSet n.name n.w K) n = false := by
  unfold nameSet
  cases hq : nameAt n.name 0 K with
  | some q => exact h
  | none =>
    unfold badName at h ⊢
    rw [hq] at h
    rw [nameAt_app n.name n.name n.w K 0 hq]
    simpa using h
/-- The parts of being right. -/
structure Right (L : List Nd) (K : List (ByteArray × Int)) (n : Nd) : Prop where
  op : ¬ (n.op < 1 ∨ n.op > 33)
  w : ¬ (n.w < 0 ∨ n.w > 64)
  pt : ¬ pastParts L n = true
  sp : ¬ spareK (partsT n.op) n = true
  so : ¬ sortsOf n.op (wT L (-1) n.a) (wT L (-1) n.b) (wT L (-1) n.c) = false
  wi : ¬ widthOf n (wT L (-1) n.a) (wT L (-1) n.b) = false
  nm : ¬ (n.op = 4 ∧ badName K n = true)
theorem right_iff {L : List Nd} {K : List (ByteArray × Int)} {n : Nd} : errOf L K n = 0 ↔ Right L K n := by
  constructor
  · intro h
    unfold errOf at h
    split at h
    · cases h
    · split at h
      · cases h
      · split at h
        · cases h
        · split at h
          · cases h
          · split at h
            · cases h
            · split at h
              · cases h
              · split at h
                · cases h
                · constructor <;> assumption
  · rintro ⟨h1, h2, h3, h4, h5, h6, h7⟩
    unfold errOf
    rw [if_neg h1, if_neg h2, if_neg h3, if_neg h4, if_neg h5, if_neg h6, if_neg h7]
theorem Right.app {L : List Nd} {K K' : List (ByteArray × Int)} {n m : Nd} (h : Right L K n) (hk : n.op = 4 → badName K' n = false) : Right (L ++ [m]) K' n := by
  obtain ⟨ga, gb, gc, ha, hb, hc⟩ := parts_ok h.pt h.sp
  have ea := wT_app (m := m) (d := -1) (ga.imp id (fun e => by omega) : isT L n.a = true ∨ n.a ≤ 0)
  have eb := wT_app (m := m) (d := -1) (gb.imp id (fun e => by omega) : isT L n.b = true ∨ n.b ≤ 0)
  have ec := wT_app (m := m) (d := -1) (gc.imp id (fun e => by omega) : isT L n.c = true ∨ n.c ≤ 0)
  refine ⟨h.op, h.w, ?_, h.sp, ?_, ?_, fun q => ?_⟩
  · intro q
    unfold pastParts at q
    simp only [Bool.or_eq_true, Bool.and_eq_true, decide_eq_true_eq, Bool.not_eq_true'] at q
    rcases q with (⟨q1, q2⟩ | ⟨q1, q2⟩) | ⟨q1, q2⟩
    · rw [isT_app (ha q1)] at q2; cases q2
    · rw [isT_app (hb q1)] at q2; cases q2
    · rw [isT_app (hc q1)] at q2; cases q2
  · rw [ea, eb, ec]; exact h.so
  · rw [ea, eb]; exact h.wi
  · rw [hk q.1] at q; cases q.2
theorem mk_no {lim : Int} {L : List Nd} {K : List (ByteArray × Int)} {n : Nd} (h : (mkR lim L K n).2.1 ≠ 0) : mkR lim L K n = (0, (mkR lim L K n).2.1, L, K) := by
  unfold mkR at h ⊢
  by_cases he : errOf L K n ≠ 0
  · rw [if_pos he]
  · rw [if_neg he] at h ⊢
    cases hq : placeOf n 0 L with
    | some q => rw [hq] at h; exact absurd rfl h
    | none =>
      rw [hq] at h
      dsimp only at h ⊢
      split at h
      · rename_i g; rw [if_pos g]
      · exact absurd rfl h
/-- What a call that answers a term does: it is there, or it is the last one. -/
theorem mk_yes {lim : Int} {L : List Nd} {K : List (ByteArray × Int)} {n : Nd} (h : (mkR lim L K n).2.1 = 0) : Right L K n ∧
    ((∃ q, placeOf n 0 L = some q ∧ mkR lim L K n = (((q + 1 : Nat) : Int), 0, L, K)) ∨
     (placeOf n 0 L = none ∧ ¬ (lim > 0 ∧ (L.length : Int) ≥ lim) ∧ mkR lim L K n = (((L.length + 1 : Nat) : Int), 0, L ++ [n], if n.op = 4 then nameSet n.name n.w K else K))) := by
  unfold mkR at h ⊢
  by_cases he : errOf L K n ≠ 0
  · rw [if_pos he] at h; exact absurd h he
  · rw [if_neg he] at h ⊢
    refine ⟨right_iff.1 (by omega), ?_⟩
    cases hq : placeOf n 0 L with
    | some q => exact .inl ⟨q, rfl, rfl⟩
    | none =>
      rw [hq] at h
      dsimp only at h ⊢
      split at h
      · cases h
      · rename_i g; rw [if_neg g]; exact .inr ⟨rfl, g, rfl⟩
theorem mk_eq {lim : Int} {L : List Nd} {K : List (ByteArray × Int)} {n : Nd} (h : Right L K n) {q : Nat} (hq : placeOf n 0 L = some q) : mkR lim L K n = (((q + 1 : Nat) : Int), 0, L, K) := by
  unfold mkR
  rw [if_neg (by rw [right_iff.2 h]; decide), hq]
/-- Again, it answers the same, and nothing is there more. -/
theorem mk_again {lim : Int} {L : List Nd} {K : List (ByteArray × Int)} {n : Nd} (h : (mkR lim L K n).2.1 = 0) : mkR lim (mkR lim L K n).2.2.1 (mkR lim L K n).2.2.2 n = mkR lim L K n := by
  obtain ⟨hr, ⟨q, hq, e⟩ | ⟨hq, _, e⟩⟩ := mk_yes h
  · rw [e]; exact mk_eq hr hq
  · rw [e]
    have hk : n.op = 4 → badName (if n.op = 4 then nameSet n.name n.w K else K) n = false := fun h4 => by
      rw [if_pos h4]
      refine badName_set ?_
      cases q : badName K n with
      | false => rfl
      | true => exact absurd ⟨h4, q⟩ hr.nm
    have := mk_eq (lim := lim) (hr.app (m := n) hk) (placeOf_last n L 0 hq)
    rw [Nat.zero_add] at this
    exact this
theorem mk_bd {lim : Int} {L : List Nd} {K : List (ByteArray × Int)} {n : Nd} (h : (mkR lim L K n).2.1 = 0) : 1 ≤ (mkR lim L K n).1 ∧ (mkR lim L K n).1 ≤ ((mkR lim L K n).2.2.1.length : Int) := by
  obtain ⟨hr, ⟨q, hq, e⟩ | ⟨hq, _, e⟩⟩ := mk_yes h
  · rw [e]
    have := (List.getElem?_eq_some_iff.1 (placeOf_some n L 0 q hq).2).1
    exact ⟨by show (1 : Int) ≤ ((q + 1 : Nat) : Int); omega, by show ((q + 1 : Nat) : Int) ≤ (L.length : Int); omega⟩
  · rw [e]; exact ⟨by show (1 : Int) ≤ ((L.length + 1 : Nat) : Int); omega, by simp⟩
theorem mk_inv {lim : Int} {L : List Nd} {K : List (ByteArray × Int)} {n : Nd} (h : Inv lim L) : Inv lim (mkR lim L K n).2.2.1 := by
  by_cases h0 : (mkR lim L K n).2.1 = 0
  · obtain ⟨hr, ⟨q, hq, e⟩ | ⟨hq, hl, e⟩⟩ := mk_yes h0
    · rw [e]; exact h
    · rw [e]
      obtain ⟨ga, gb, gc, _, _, _⟩ := parts_ok hr.pt hr.sp
      have bd : ∀ x : Int, isT L x = true ∨ x = 0 → x ≤ (L.length : Int) := fun x hx => by
        rcases hx with hx | hx
        · exact (isT_iff.1 hx).2
        · omega
      refine ⟨fun m hm => ?_, fun i m hm => ?_, fun i j m hi hj => ?_, fun hp => ?_⟩
      · rcases List.mem_append.1 hm with hm | hm
        · exact h.w m hm
        · rw [List.mem_singleton] at hm
          subst hm
          have := hr.w
          omega
      · rw [List.getElem?_append] at hm
        split at hm
        · exact h.parts i m hm
        · rename_i ge
          have : i = L.length := by
            have := (List.getElem?_eq_some_iff.1 hm).1
            simp at this; omega
          subst this
          simp at hm
          subst hm
          exact ⟨bd _ ga, bd _ gb, bd _ gc⟩
      · have key : ∀ i : Nat, (L ++ [n])[i]? = some m → (i < L.length ∧ L[i]? = some m) ∨ (i = L.length ∧ m = n) := fun i hi => by
          rw [List.getElem?_append] at hi
          split at hi
          · rename_i lt; exact .inl ⟨lt, hi⟩
          · rename_i ge
            have : i = L.length := by
              have := (List.getElem?_eq_some_iff.1 hi).1
              simp at this; omega
            subst this
            simp at hi
            exact .inr ⟨rfl, hi.symm⟩
        rcases key i hi with ⟨a1, a2⟩ | ⟨a1, a2⟩ <;> rcases key j hj with ⟨b1, b2⟩ | ⟨b1, b2⟩
        · exact h.nod i j m a2 b2
        · rw [b2] at a2; exact absurd a2 (placeOf_none n L 0 hq i)
        · rw [a2] at b2; exact absurd b2 (placeOf_none n L 0 hq j)
        · omega
      · have : ¬ (L.length : Int) ≥ lim := fun q => hl ⟨hp, q⟩
        simp; omega
  · rw [mk_no h0]; exact h
theorem mk_parts {lim : Int} {L : List Nd} {K : List (ByteArray × Int)} {n : Nd} (h : (mkR lim L K n).2.1 = 0) : (partsT n.op ≥ 1 → isT L n.a = true) ∧ (partsT n.op ≥ 2 → isT L n.b = true) ∧ (partsT n.op ≥ 3 → isT L n.c = true) := by
  obtain ⟨hr, _⟩ := mk_yes h
  obtain ⟨_, _, _, ha, hb, hc⟩ := parts_ok hr.pt hr.sp
  exact ⟨ha, hb, hc⟩
/-- Each term of a store stays what it is. -/
theorem mk_wT {lim : Int} {L : List Nd} {K : List (ByteArray × Int)} {n : Nd} {d t : Int} (ht : isT L t = true) : wT (mkR lim L K n).2.2.1 d t = wT L d t := by
  by_cases h0 : (mkR lim L K n).2.1 = 0
  · obtain ⟨hr, ⟨q, hq, e⟩ | ⟨hq, hl, e⟩⟩ := mk_yes h0
    · rw [e]
    · rw [e]; exact wT_app (.inl ht)
  · rw [mk_no h0]
end Go.AM
/- The Term seat: what a call does to a store, plainly. -/
set_option linter.unusedVariables false
set_option linter.unusedSimpArgs false
namespace Go.AM
open Go
section
variable {lim : Int} {L : List Nd} {K : List (ByteArray × Int)}
theorem ask_no (o : OpA) (h : (askR lim L K o).2.1 ≠ 0) : askR lim L K o = (0, (askR lim L K o).2.1, L, K) := by
  revert h
  exact ask_ind (Q := fun r => r.2.1 ≠ 0 → r = (0, r.2.1, L, K)) (fun n h => mk_no h) (fun e _ => rfl) o
theorem ask_inv (o : OpA) (h : Inv lim L) : Inv lim (askR lim L K o).2.2.1 :=
  ask_ind (Q := fun r => Inv lim r.2.2.1) (fun n => mk_inv h) (fun e => h) o
theorem ask_le (o : OpA) : (askR lim L K o).2.2.1.length ≤ L.length + 1 :=
  ask_ind (Q := fun r => r.2.2.1.length ≤ L.length + 1) (fun n => by
    by_cases h0 : (mkR lim L K n).2.1 = 0
    · obtain ⟨_, ⟨q, _, e⟩ | ⟨_, _, e⟩⟩ := mk_yes h0 <;> rw [e] <;> simp
    · rw [mk_no h0]; simp) (fun e => by simp) o
theorem mk_again' {n n' : Nd} (h : (mkR lim L K n).2.1 = 0) (e : n' = n) : mkR lim (mkR lim L K n).2.2.1 (mkR lim L K n).2.2.2 n' = mkR lim L K n := by rw [e]; exact mk_again h
theorem un_again (op a : Int) (h : (unR lim L K op a).2.1 = 0) : unR lim (unR lim L K op a).2.2.1 (unR lim L K op a).2.2.2 op a = unR lim L K op a := by
  unfold unR at h ⊢
  by_cases h5 : op = 5
  · simp only [if_pos h5] at h ⊢; exact mk_again h
  simp only [if_neg h5] at h ⊢
  by_cases h15 : op = 15 ∨ op = 16
  · simp only [if_pos h15] at h ⊢
    have := (mk_parts h).1 (by show partsT op ≥ 1; rcases h15 with rfl | rfl <;> decide)
    exact mk_again' h (by rw [mk_wT this])
  · simp only [if_neg h15] at h ⊢
theorem bin_again (op a b : Int) (h : (binR lim L K op a b).2.1 = 0) : binR lim (binR lim L K op a b).2.2.1 (binR lim L K op a b).2.2.2 op a b = binR lim L K op a b := by
  unfold binR at h ⊢
  by_cases h5 : op ≥ 6 ∧ op ≤ 13
  · simp only [if_pos h5] at h ⊢; exact mk_again h
  simp only [if_neg h5] at h ⊢
  by_cases h15 : op ≥ 17 ∧ op ≤ 29
  · simp only [if_pos h15] at h ⊢
    have := (mk_parts h).1 (by show partsT op ≥ 1; unfold partsT; (repeat' split) <;> omega)
    exact mk_again' h (by rw [mk_wT this])
  simp only [if_neg h15] at h ⊢
  by_cases h30 : op = 30
  · simp only [if_pos h30] at h ⊢
    have h1 := (mk_parts h).1 (by show partsT op ≥ 1; rw [h30]; decide)
    have h2 := (mk_parts h).2.1 (by show partsT op ≥ 2; rw [h30]; decide)
    exact mk_again' h (by rw [mk_wT h1, mk_wT h2])
  · simp only [if_neg h30] at h ⊢
theorem ext_again (op a w : Int) (h : (extR lim L K op a w).2.1 = 0) : extR lim (extR lim L K op a w).2.2.1 (extR lim L K op a w).2.2.2 op a w = extR lim L K op a w := by
  unfold extR at h ⊢
  by_cases h5 : op ≠ 32
  · simp only [if_pos h5] at h ⊢
    by_cases h6 : op ≠ 33
    · simp only [if_pos h6] at h ⊢
    · simp only [if_neg h6] at h ⊢; exact mk_again h
  · simp only [if_neg h5] at h ⊢; exact mk_again h
theorem ask_again (o : OpA) (h : (askR lim L K o).2.1 = 0) : askR lim (askR lim L K o).2.2.1 (askR lim L K o).2.2.2 o = askR lim L K o := by
  unfold askR at h ⊢
  by_cases k1 : o.kind = 1
  · simp only [if_pos k1] at h ⊢; exact mk_again h
  simp only [if_neg k1] at h ⊢
  by_cases k2 : o.kind = 2
  · simp only [if_pos k2] at h ⊢; exact mk_again h
  simp only [if_neg k2] at h ⊢
  by_cases k3 : o.kind = 3
  · simp only [if_pos k3] at h ⊢; exact mk_again h
  simp only [if_neg k3] at h ⊢
  by_cases k4 : o.kind = 4
  · simp only [if_pos k4] at h ⊢; exact mk_again h
  simp only [if_neg k4] at h ⊢
  by_cases k5 : o.kind = 5
  · simp only [if_pos k5] at h ⊢; exact un_again _ _ h
  simp only [if_neg k5] at h ⊢
  by_cases k6 : o.kind = 6
  · simp only [if_pos k6] at h ⊢; exact bin_again _ _ _ h
  simp only [if_neg k6] at h ⊢
  by_cases k7 : o.kind = 7
  · simp only [if_pos k7] at h ⊢
    have := (mk_parts h).2.1 (by show partsT 14 ≥ 2; decide)
    exact mk_again' h (by rw [mk_wT this])
  simp only [if_neg k7] at h ⊢
  by_cases k8 : o.kind = 8
  · simp only [if_pos k8] at h ⊢; exact mk_again h
  simp only [if_neg k8] at h ⊢
  by_cases k9 : o.kind = 9
  · simp only [if_pos k9] at h ⊢; exact ext_again _ _ _ h
  · simp only [if_neg k9] at h ⊢
theorem ask_bd (o : OpA) (hk : 1 ≤ o.kind ∧ o.kind ≤ 9) (h : (askR lim L K o).2.1 = 0) : 1 ≤ (askR lim L K o).1 ∧ (askR lim L K o).1 ≤ ((askR lim L K o).2.2.1.length : Int) := by
  have hno : ∀ e : Int, e ≠ 0 → ((0, e, L, K) : Res).2.1 = 0 → 1 ≤ ((0, e, L, K) : Res).1 ∧ ((0, e, L, K) : Res).1 ≤ (((0, e, L, K) : Res).2.2.1.length : Int) := fun e he h => absurd h he
  unfold askR at h ⊢
  by_cases k1 : o.kind = 1
  · simp only [if_pos k1] at h ⊢; exact mk_bd h
  simp only [if_neg k1] at h ⊢
  by_cases k2 : o.kind = 2
  · simp only [if_pos k2] at h ⊢; exact mk_bd h
  simp only [if_neg k2] at h ⊢
  by_cases k3 : o.kind = 3
  · simp only [if_pos k3] at h ⊢; exact mk_bd h
  simp only [if_neg k3] at h ⊢
  by_cases k4 : o.kind = 4
  · simp only [if_pos k4] at h ⊢; exact mk_bd h
  simp only [if_neg k4] at h ⊢
  by_cases k5 : o.kind = 5
  · simp only [if_pos k5] at h ⊢
    unfold unR at h ⊢
    by_cases h5 : o.o = 5
    · simp only [if_pos h5] at h ⊢; exact mk_bd h
    simp only [if_neg h5] at h ⊢
    by_cases h15 : o.o = 15 ∨ o.o = 16
    · simp only [if_pos h15] at h ⊢; exact mk_bd h
    · simp only [if_neg h15] at h ⊢; exact hno _ (by decide) h
  simp only [if_neg k5] at h ⊢
  by_cases k6 : o.kind = 6
  · simp only [if_pos k6] at h ⊢
    unfold binR at h ⊢
    by_cases h5 : o.o ≥ 6 ∧ o.o ≤ 13
    · simp only [if_pos h5] at h ⊢; exact mk_bd h
    simp only [if_neg h5] at h ⊢
    by_cases h15 : o.o ≥ 17 ∧ o.o ≤ 29
    · simp only [if_pos h15] at h ⊢; exact mk_bd h
    simp only [if_neg h15] at h ⊢
    by_cases h30 : o.o = 30
    · simp only [if_pos h30] at h ⊢; exact mk_bd h
    · simp only [if_neg h30] at h ⊢; exact hno _ (by decide) h
  simp only [if_neg k6] at h ⊢
  by_cases k7 : o.kind = 7
  · simp only [if_pos k7] at h ⊢; exact mk_bd h
  simp only [if_neg k7] at h ⊢
  by_cases k8 : o.kind = 8
  · simp only [if_pos k8] at h ⊢; exact mk_bd h
  simp only [if_neg k8] at h ⊢
  by_cases k9 : o.kind = 9
  · simp only [if_pos k9] at h ⊢
    unfold extR at h ⊢
    by_cases h5 : o.o ≠ 32
    · simp only [if_pos h5] at h ⊢
      by_cases h6 : o.o ≠ 33
      · simp only [if_pos h6] at h ⊢; exact hno _ (by decide) h
      · simp only [if_neg h6] at h ⊢; exact mk_bd h
    · simp only [if_neg h5] at h ⊢; exact mk_bd h
  · omega
end
theorem run_inv {lim : Int} : ∀ (os : List OpA) (L : List Nd) (K : List (ByteArray × Int)), Inv lim L → Inv lim (runR lim os L K).1
  | [], L, K, h => h
  | o :: os, L, K, h => run_inv os _ _ (ask_inv o h)
end Go.AM
/- The Term seat: the order of what roots lead to, plainly. -/
set_option linter.unusedVariables false
set_option linter.unusedSimpArgs false
namespace Go.AM
open Go
def kidsN (n : Nd) : List Nat := ([n.a, n.b, n.c].take (partsT n.op).toNat).map Int.toNat
def kids (L : List Nd) (t : Nat) : List Nat := match L[t - 1]? with
  | some n => kidsN n
  | none => []
/-- Parts are terms ahead; what is no part is 0. -/
structure Dag (L : List Nd) : Prop where
  a : ∀ (i : Nat) m, L[i]? = some m → (partsT m.op ≥ 1 ∧ 1 ≤ m.a ∧ m.a ≤ i) ∨ (partsT m.op < 1 ∧ m.a = 0)
  b : ∀ (i : Nat) m, L[i]? = some m → (partsT m.op ≥ 2 ∧ 1 ≤ m.b ∧ m.b ≤ i) ∨ (partsT m.op < 2 ∧ m.b = 0)
  c : ∀ (i : Nat) m, L[i]? = some m → (partsT m.op ≥ 3 ∧ 1 ≤ m.c ∧ m.c ≤ i) ∨ (partsT m.op < 3 ∧ m.c = 0)
theorem Dag.nil : Dag [] := ⟨fun i m h => (by cases h), fun i m h => (by cases h), fun i m h => (by cases h)⟩
theorem app_get {L : List Nd} {n m : Nd} {i : Nat} (h : (L ++ [n])[i]? = some m) : L[i]? = some m ∨ (i = L.length ∧ m = n) := by
  rw [List.getElem?_append] at h
  split at h
  · exact .inl h
  · have : i = L.length := by
      have := (List.getElem?_eq_some_iff.1 h).1
      simp at this; omega
    subst this
    simp at h
    exact .inr ⟨rfl, h.symm⟩
theorem mk_dag {lim : Int} {L : List Nd} {K : List (ByteArray × Int)} {n : Nd} (h : Dag L) : Dag (mkR lim L K n).2.2.1 := by
  by_cases h0 : (mkR lim L K n).2.1 = 0
  · obtain ⟨hr, ⟨q, hq, e⟩ | ⟨hq, hl, e⟩⟩ := mk_yes h0
    · rw [e]; exact h
    · rw [e]
      have h1 := hr.pt
      have h2 := hr.sp
      unfold pastParts at h1
      unfold spareK at h2
      simp only [Bool.or_eq_true, Bool.and_eq_true, decide_eq_true_eq, Bool.not_eq_true', not_or, not_and, Bool.not_eq_false] at h1 h2
      refine ⟨fun i m hm => ?_, fun i m hm => ?_, fun i m hm => ?_⟩
      · rcases app_get hm with hm | ⟨rfl, rfl⟩
        · exact h.a i m hm
        · rcases Int.lt_or_le (partsT m.op) 1 with q | q
          · have := h2.1.1.1.1 q; omega
          · have := isT_iff.1 (h1.1.1 q); omega
      · rcases app_get hm with hm | ⟨rfl, rfl⟩
        · exact h.b i m hm
        · rcases Int.lt_or_le (partsT m.op) 2 with q | q
          · have := h2.1.1.1.2 q; omega
          · have := isT_iff.1 (h1.1.2 q); omega
      · rcases app_get hm with hm | ⟨rfl, rfl⟩
        · exact h.c i m hm
        · rcases Int.lt_or_le (partsT m.op) 3 with q | q
          · have := h2.1.1.2 q; omega
          · have := isT_iff.1 (h1.2 q); omega
  · rw [mk_no h0]; exact h
theorem ask_dag {lim : Int} {L : List Nd} {K : List (ByteArray × Int)} (o : OpA) (h : Dag L) : Dag (askR lim L K o).2.2.1 :=
  ask_ind (Q := fun r => Dag r.2.2.1) (fun n => mk_dag h) (fun e => h) o
theorem run_dag {lim : Int} : ∀ (os : List OpA) (L : List Nd) (K : List (ByteArray × Int)), Dag L → Dag (runR lim os L K).1
  | [], L, K, h => h
  | o :: os, L, K, h => run_dag os _ _ (ask_dag o h)
/-- The kids, one by one. -/
theorem kidsN_get {L : List Nd} (h : Dag L) {i : Nat} {n : Nd} (hn : L[i]? = some n) : (kidsN n).length = (partsT n.op).toNat ∧
    (∀ (j : Nat) x, [n.a, n.b, n.c][j]? = some x → j < (kidsN n).length → (kidsN n)[j]? = some x.toNat ∧ 1 ≤ x ∧ x ≤ i) ∧ (∀ c ∈ kidsN n, 1 ≤ c ∧ c ≤ i) := by
  have ha := h.a i n hn
  have hb := h.b i n hn
  have hc := h.c i n hn
  have key : (kidsN n).length = (partsT n.op).toNat ∧ (∀ (j : Nat) x, [n.a, n.b, n.c][j]? = some x → j < (kidsN n).length → (kidsN n)[j]? = some x.toNat ∧ 1 ≤ x ∧ x ≤ i) := by
    rcases partsT_cases n.op with q | q | q | q
    · refine ⟨by simp [kidsN, q], fun j x hx hj => ?_⟩
      simp [kidsN, q] at hj
    · refine ⟨by simp [kidsN, q], fun j x hx hj => ?_⟩
      simp [kidsN, q] at hj
      subst hj
      simp at hx
      subst hx
      exact ⟨by simp [kidsN, q], by omega, by omega⟩
    · refine ⟨by simp [kidsN, q], fun j x hx hj => ?_⟩
      simp [kidsN, q] at hj
      match j, hj with
      | 0, _ => simp at hx; subst hx; exact ⟨by simp [kidsN, q], by omega, by omega⟩
      | 1, _ => simp at hx; subst hx; exact ⟨by simp [kidsN, q], by omega, by omega⟩
    · refine ⟨by simp [kidsN, q], fun j x hx hj => ?_⟩
      simp [kidsN, q] at hj
      match j, hj with
      | 0, _ => simp at hx; subst hx; exact ⟨by simp [kidsN, q], by omega, by omega⟩
      | 1, _ => simp at hx; subst hx; exact ⟨by simp [kidsN, q], by omega, by omega⟩
      | 2, _ => simp at hx; subst hx; exact ⟨by simp [kidsN, q], by omega, by omega⟩
  refine ⟨key.1, key.2, fun c hcm => ?_⟩
  obtain ⟨j, hj⟩ := List.getElem?_of_mem hcm
  have hlt := (List.getElem?_eq_some_iff.1 hj).1
  have hle : j < 3 := by
    have h1 := key.1
    rcases partsT_cases n.op with q | q | q | q <;> rw [q] at h1 <;> simp at h1 <;> omega
  obtain ⟨x, hx⟩ : ∃ x, [n.a, n.b, n.c][j]? = some x := ⟨_, List.getElem?_eq_getElem (by simpa using hle)⟩
  obtain ⟨h1, h2, h3⟩ := key.2 j x hx hlt
  rw [hj] at h1
  cases h1
  omega
theorem kids_lt {L : List Nd} (h : Dag L) {t c : Nat} (ht : 1 ≤ t) (hc : c ∈ kids L t) : 1 ≤ c ∧ c < t := by
  unfold kids at hc
  cases hq : L[t - 1]? with
  | none => rw [hq] at hc; cases hc
  | some n =>
    rw [hq] at hc
    have := (kidsN_get h hq).2.2 c hc
    omega

/-! ### Post order -/
def visit (L : List Nd) : Nat → Nat → List Nat → List Nat
  | 0, _, out => out
  | k + 1, t, out => if t ∈ out then out else (kids L t).foldl (fun o c => visit L k c o) out ++ [t]
theorem foldl_congr {α β : Type} {f g : α → β → α} : ∀ (l : List β) (a : α), (∀ b ∈ l, ∀ a, f a b = g a b) → l.foldl f a = l.foldl g a
  | [], a, h => rfl
  | b :: l, a, h => by
    rw [List.foldl_cons, List.foldl_cons, h b (List.mem_cons_self ..)]
    exact foldl_congr l _ fun b hb => h b (List.mem_cons_of_mem _ hb)
theorem visit_fuel {L : List Nd} (h : Dag L) : ∀ (t : Nat), 1 ≤ t → ∀ (k m : Nat) (out : List Nat), t ≤ k → t ≤ m → visit L k t out = visit L m t out := by
  intro t
  induction t using Nat.strongRecOn with
  | _ t ih =>
    intro ht k m out hk hm
    cases k with
    | zero => omega
    | succ k =>
      cases m with
      | zero => omega
      | succ m =>
        unfold visit
        split
        · rfl
        · congr 1
          exact foldl_congr _ _ fun c hc o => by
            have := kids_lt h ht hc
            exact ih c this.2 this.1 k m o (by omega) (by omega)
def post (L : List Nd) (t : Nat) (out : List Nat) : List Nat := visit L t t out
def posts (L : List Nd) (l : List Nat) (out : List Nat) : List Nat := l.foldl (fun o c => post L c o) out
theorem post_eq {L : List Nd} (h : Dag L) {t : Nat} (ht : 1 ≤ t) (out : List Nat) : post L t out = if t ∈ out then out else posts L (kids L t) out ++ [t] := by
  unfold post posts
  cases t with
  | zero => omega
  | succ t =>
    show (if t + 1 ∈ out then out else _) = _
    split
    · rfl
    · congr 1
      exact foldl_congr _ _ fun c hc o => by
        have := kids_lt h (t := t + 1) ht hc
        exact visit_fuel h c this.1 _ _ o (by omega) (Nat.le_refl _)
theorem post_in {L : List Nd} (h : Dag L) {t : Nat} (ht : 1 ≤ t) {out : List Nat} (hm : t ∈ out) : post L t out = out := by rw [post_eq h ht, if_pos hm]
theorem post_out {L : List Nd} (h : Dag L) {t : Nat} (ht : 1 ≤ t) {out : List Nat} (hm : t ∉ out) : post L t out = posts L (kids L t) out ++ [t] := by rw [post_eq h ht, if_neg hm]
/-- Nothing is lost; what is new is not above. -/
theorem post_mem {L : List Nd} (h : Dag L) : ∀ (t : Nat), 1 ≤ t → ∀ (out : List Nat), (∀ x ∈ out, x ∈ post L t out) ∧ t ∈ post L t out ∧ (∀ x ∈ post L t out, x ∈ out ∨ (1 ≤ x ∧ x ≤ t)) := by
  intro t
  induction t using Nat.strongRecOn with
  | _ t ih =>
    intro ht out
    rw [post_eq h ht]
    split
    · rename_i hm
      exact ⟨fun x hx => hx, hm, fun x hx => .inl hx⟩
    · have key : ∀ (l : List Nat) (o : List Nat), (∀ c ∈ l, c ∈ kids L t) → (∀ x ∈ o, x ∈ posts L l o) ∧ (∀ x ∈ posts L l o, x ∈ o ∨ (1 ≤ x ∧ x < t)) := by
        intro l
        induction l with
        | nil => exact fun o _ => ⟨fun x hx => hx, fun x hx => .inl hx⟩
        | cons c l ihl =>
          intro o hl
          have hc := kids_lt h ht (hl c (List.mem_cons_self ..))
          obtain ⟨g1, g2, g3⟩ := ih c hc.2 hc.1 o
          obtain ⟨k1, k2⟩ := ihl (post L c o) fun c hc => hl c (List.mem_cons_of_mem _ hc)
          refine ⟨fun x hx => k1 x (g1 x hx), fun x hx => ?_⟩
          rcases k2 x hx with q | q
          · rcases g3 x q with q | q
            · exact .inl q
            · exact .inr ⟨q.1, by omega⟩
          · exact .inr q
      obtain ⟨k1, k2⟩ := key (kids L t) out fun c hc => hc
      refine ⟨fun x hx => List.mem_append_left _ (k1 x hx), by simp, fun x hx => ?_⟩
      rcases List.mem_append.1 hx with q | q
      · rcases k2 x q with q | q
        · exact .inl q
        · exact .inr ⟨q.1, by omega⟩
      · rw [List.mem_singleton] at q; subst q; exact .inr ⟨ht, Nat.le_refl _⟩
theorem posts_cons (L : List Nd) (c : Nat) (l : List Nat) (out : List Nat) : posts L (c :: l) out = posts L l (post L c out) := rfl
theorem posts_mem {L : List Nd} (h : Dag L) {N : Nat} : ∀ (l : List Nat) (o : List Nat), (∀ c ∈ l, 1 ≤ c ∧ c ≤ N) → (∀ x ∈ o, x ∈ posts L l o) ∧ (∀ x ∈ l, x ∈ posts L l o) ∧ (∀ x ∈ posts L l o, x ∈ o ∨ (1 ≤ x ∧ x ≤ N))
  | [], o, hl => ⟨fun x hx => hx, fun x hx => (by cases hx), fun x hx => .inl hx⟩
  | c :: l, o, hl => by
    have hc := hl c (List.mem_cons_self ..)
    obtain ⟨g1, g2, g3⟩ := post_mem h c hc.1 o
    obtain ⟨k1, k2, k3⟩ := posts_mem h l (post L c o) fun c hc => hl c (List.mem_cons_of_mem _ hc)
    refine ⟨fun x hx => k1 x (g1 x hx), fun x hx => ?_, fun x hx => ?_⟩
    · rcases List.mem_cons.1 hx with rfl | hx
      · exact k1 _ g2
      · exact k2 x hx
    · rcases k3 x hx with q | q
      · rcases g3 x q with q | q
        · exact .inl q
        · exact .inr ⟨q.1, by omega⟩
      · exact .inr q
end Go.AM
/- The Term seat: looks at nodes. -/
set_option linter.unusedVariables false
set_option linter.unusedSimpArgs false
namespace Go.AM
open Go
/-- A loop's rule: an invariant, and a number that becomes less. -/
theorem loop_rule {σ : Type} {S : List Value → Hp → Option Outc} {I : σ → List Value → Hp → Prop} {m : σ → Nat} {out : Outc → Prop}
    (h : ∀ s l H, I s l H → (∃ l' H' s', S l H = some (.next, l', H') ∧ m s' < m s ∧ I s' l' H') ∨ (∃ o, S l H = some o ∧ o.1 ≠ .next ∧ out o)) :
    ∀ (k : Nat) (s : σ) (l : List Value) (H : Hp), m s ≤ k → I s l H → ∃ o, loopD S l H = some o ∧ out o := by
  intro k
  induction k with
  | zero =>
    intro s l H hk hI
    rcases h s l H hI with ⟨l', H', s', _, h2, _⟩ | ⟨o, h1, h2, h3⟩
    · omega
    · refine ⟨o, ?_, h3⟩
      rw [loopD_eq, h1]
      obtain ⟨c, l', H'⟩ := o
      cases c <;> first | rfl | exact absurd rfl h2
  | succ k ih =>
    intro s l H hk hI
    rcases h s l H hI with ⟨l', H', s', h1, h2, h3⟩ | ⟨o, h1, h2, h3⟩
    · obtain ⟨o, g1, g2⟩ := ih s' l' H' (by omega) h3
      refine ⟨o, ?_, g2⟩
      rw [loopD_eq, h1]
      exact g1
    · refine ⟨o, ?_, h3⟩
      rw [loopD_eq, h1]
      obtain ⟨c, l', H'⟩ := o
      cases c <;> first | rfl | exact absurd rfl h2
/-- A loop that counts, and changes nothing. -/
theorem loop_count {S : List Value → Hp → Option Outc} {H : Hp} (n : Nat) (hs : ∀ i, i < n → S [.int .i64 (i : Int)] H = some (.next, [.int .i64 ((i + 1 : Nat) : Int)], H))
    (he : S [.int .i64 (n : Int)] H = some (.exit 0, [.int .i64 (n : Int)], H)) : ∀ k i, i + k = n → loopD S [.int .i64 (i : Int)] H = some (.exit 0, [.int .i64 (n : Int)], H)
  | 0, i, h => by
    have : i = n := by omega
    subst this
    rw [loopD_eq, he]; rfl
  | k + 1, i, h => by
    rw [loopD_eq, hs i (by omega)]
    exact loop_count n hs he k (i + 1) (by omega)

def noNd : Nd := ⟨0, 0, 0, 0, 0, 0, ⟨#[]⟩⟩
def nodeAt (L : List Nd) (t : Int) : Nd := if isT L t = true then (L[(t - 1).toNat]?).getD noNd else noNd
theorem bnil {α : Type} (k : Value → Option α) : pBuild Go.Proofs.Try.prog 36 [] k = k noNd.val := bld (by kernel_rfl) k
theorem ncell7 {α : Type} (n : Nd) (k : Value → Option α) : pCell 7 true n.cells 0 k = k n.val := rfl
theorem nodes_at (L : List Nd) : ∀ i n, L[i]? = some n → ((L.flatMap Nd.cells).drop (i * 7)).take 7 = n.cells := by
  induction L with
  | nil => intro i o h; cases h
  | cons a L ih =>
    intro i o h
    have h7 : ∀ n : Nd, n.cells.length = 7 := fun n => rfl
    rw [List.flatMap_cons]
    cases i with
    | zero => cases h; rw [Nat.zero_mul, List.drop_zero, List.take_append_of_le_length (by rw [h7]; omega), List.take_of_length_le (by rw [h7]; omega)]
    | succ i =>
      rw [List.drop_append, List.drop_of_length_le (by rw [h7]; omega), h7, List.nil_append, show (i + 1) * 7 - 7 = i * 7 by omega]
      exact ih i o h
theorem ld7 {α : Type} {H : Hp} {L : List Nd} {y : Nat} {b : Bool} (h : H.get y = some (.cells (L.flatMap Nd.cells) b)) {i : Nat} {n : Nd} (ho : L[i]? = some n) (k : Value → Option α) :
    pLoad 7 true H (.pointer (some ⟨y, i * 7, none⟩)) k = k n.val := by
  have hlt : i < L.length := (List.getElem?_eq_some_iff.1 ho).1
  have h1 : i * 7 + 7 ≤ (L.flatMap Nd.cells).length := by rw [flat_len]; omega
  simp only [pLoad, Hp.rdP, Hp.rd, h, rdCells, h1, if_true, nodes_at L i n ho]
  rfl
theorem nodeEq_iff (n m : Nd) : nodeEq n m = true ↔ n = m := by
  cases n; cases m
  unfold nodeEq
  simp [ba_eq]
theorem nodeEq_self (n : Nd) : nodeEq n n = true := (nodeEq_iff n n).2 rfl
theorem eq36d (n m : Nd) : eqT Go.Proofs.Try.prog Op.maxDepth 36 n.val m.val =
    thenO (n.op == m.op) (thenO (n.w == m.w) (thenO (n.a == m.a) (thenO (n.b == m.b) (thenO (n.c == m.c) (thenO (n.num == m.num) (thenO (n.name == m.name) (some true))))))) := by
  kernel_rfl
theorem eqOp36 (n m : Nd) : eqOp Go.Proofs.Try.prog 36 n.val m.val = some (nodeEq n m) := by
  have hg : Go.Proofs.Try.prog.eqGuardType Go.Proofs.Try.prog.depth 36 = false := by kernel_rfl
  show (match Go.Proofs.Try.prog.eqGuardType Go.Proofs.Try.prog.depth 36 with | true => none | false => eqT Go.Proofs.Try.prog Op.maxDepth 36 n.val m.val) = _
  rw [hg, eq36d]
  unfold nodeEq
  cases n.op == m.op <;> cases n.w == m.w <;> cases n.a == m.a <;> cases n.b == m.b <;> cases n.c == m.c <;> cases n.num == m.num <;> cases n.name == m.name <;> rfl
theorem s_neq36 {α : Type} (n m : Nd) (k : Value → Option α) : pBin Go.Proofs.Try.prog .neq 36 n.val m.val k = k (.bool (!nodeEq n m)) := by
  have : binV Go.Proofs.Try.prog .neq 36 n.val m.val = some (.bool (!nodeEq n m)) := by
    show (match eqOp Go.Proofs.Try.prog 36 n.val m.val with | some b => some (Value.bool !b) | none => none) = _
    rw [eqOp36]
  unfold pBin; rw [this]
theorem s_eql36 {α : Type} (n m : Nd) (k : Value → Option α) : pBin Go.Proofs.Try.prog .eql 36 n.val m.val k = k (.bool (nodeEq n m)) := by
  have : binV Go.Proofs.Try.prog .eql 36 n.val m.val = some (.bool (nodeEq n m)) := by
    show (match eqOp Go.Proofs.Try.prog 36 n.val m.val with | some b => some (Value.bool b) | none => none) = _
    rw [eqOp36]
  unfold pBin; rw [this]
section
variable {H : Hp} {p f g : Nat} {lim : Int} {L : List Nd} {K : List (ByteArray × Int)} {sl : Value} (hs : StR H p lim L sl f g)
include hs
theorem c9 : RR 9 [.pointer (some ⟨p, 0, none⟩)] H = some (.int .i64 L.length, H) := by
  refine (r9 E0 rfl _ _).trans ?_
  unfold m9
  simp only [s_nil, s_offs, Nat.zero_add, hs.l1, hs.all.len]
theorem c10 (hL : (L.length : Int) ≤ 4611686018427387904) (t : Int) : RR 10 [.pointer (some ⟨p, 0, none⟩), .int .i64 t] H = some (.tuple #[(nodeAt L t).val, .int .i64 (if isT L t = true then 0 else 70)], H) := by
  refine (r10 E0 rfl _ _ _).trans ?_
  unfold m10
  rw [s_call (c19 hs), s_not, s_bool]
  unfold nodeAt
  cases ht : isT L t with
  | false => simp only [Bool.not_false, br, bnil, spl7, ncell7, Bool.false_eq_true, if_false]
  | true =>
    obtain ⟨i, n, hn, hi, hx⟩ := s_idx hs.all ht hL (fun p11 => pLoad 7 true H p11 fun v12 =>
      pSplice 7 [.int .i64 0, .int .i64 0, .int .i64 0, .int .i64 0, .int .i64 0, .int .u64 0, .string ⟨#[]⟩] 0 v12 fun c13 => pCell 7 true c13 0 fun v14 => some ((Value.tuple #[v14, (.int .i64 0)]), H))
    simp only [Bool.not_true, br, s_nil, s_offs, Nat.zero_add, hs.l1, s_sub, if_true]
    rw [hx, ld7 hi hn, spl7, ncell7, hn]
    rfl
end
theorem nodeAt_get {L : List Nd} {i : Nat} (h : i < L.length) : nodeAt L ((i + 1 : Nat) : Int) = L[i] ∧ isT L ((i + 1 : Nat) : Int) = true := by
  have h1 : isT L ((i + 1 : Nat) : Int) = true := isT_iff.2 ⟨by omega, by omega⟩
  refine ⟨?_, h1⟩
  unfold nodeAt
  rw [if_pos h1]
  have : (((i + 1 : Nat) : Int) - 1).toNat = i := by omega
  rw [this]; simp [h]
theorem SlR.ix {H : Hp} {L : List Nd} {sl : Value} (h : SlR H sl L) {i : Nat} (hi : i < L.length) {α : Type} :
    ∃ y, H.get y = some (.cells (L.flatMap Nd.cells) true) ∧ ∀ (k : Value → Option α), pIdx 7 sl (.int .i64 (i : Int)) k = k (.pointer (some ⟨y, i * 7, none⟩)) := by
  rcases h with ⟨rfl, _⟩ | ⟨y, rfl, hy⟩
  · cases hi
  · refine ⟨y, hy, fun k => ?_⟩
    unfold pIdx idxV
    have : (7 : Nat) = 7 ∧ (0 : Int) ≤ (i : Int) ∧ (i : Int) < (L.length : Int) := ⟨rfl, by omega, by omega⟩
    simp only [this, and_self, if_true, Nat.zero_add, Int.toNat_natCast]
theorem s_chkL {α : Type} {H H' : Hp} {sl : Value} {L : List Nd} (h : SlR H sl L) (k : Option α) : lenAgain .sl sl H' (.int .i64 L.length) k = k := by
  unfold lenAgain
  refine s_chk ?_ k
  rcases h with ⟨rfl, rfl⟩ | ⟨i, rfl, _⟩ <;> rfl
theorem StR.rd1 {H : Hp} {p f g : Nat} {lim : Int} {L : List Nd} {sl : Value} (h : StR H p lim L sl f g) : Hp.rdP H (.pointer (some ⟨p, 1, none⟩)) 1 false = some sl := by
  simp [Hp.rdP, Hp.rd, h.obj, rdCells]
theorem run4 (lim : Int) (os : List OpA) (hf : Fine os) (x : Value) (t : Int) (ht : -9223372036854775808 ≤ t ∧ t ≤ 9223372036854775807) (H : Hp) (hx : ScR H x os) : ∃ H', RR 4 [.int .i64 lim, x, .int .i64 t] H = some (.bool true, H') := by
  have hr := r4 E0 rfl (.int .i64 lim) x (.int .i64 t) H
  unfold m4 at hr
  by_cases hl : lim < 0
  · rw [s_call (c8_neg lim x H hl), s_t3a, s_t3b, s_t3c, s_pnil0 23 und23, s_bool, s_brt] at hr
    exact ⟨_, hr⟩
  · obtain ⟨H', p, f, g, s1, q, f', g', s2, e, hw⟩ := c8_pos lim os hf x H hx hl
    refine ⟨H', ?_⟩
    rw [s_call e, s_t3a, s_t3b, s_t3c, s_pnil 23 _ und23, s_bool, s_brf] at hr
    have hll := hw.l
    have htwo := hw.two
    generalize (runR lim os [] []).1 = L at hll htwo hr
    have hos := hf.len
    have hLb : (L.length : Int) ≤ 4611686018427387904 := by omega
    have A := htwo.a.st
    have B := htwo.b.st
    rw [s_call (c9 A), s_nil, s_offs, Nat.zero_add, B.l1, s_chk B.rd1, B.all.len, s_chkL B.all, s_neq, s_bool, decide_eq_false (by simp), s_brf] at hr
    have hloop := loop_count (S := fun l15 H16 =>
 pNil (.pointer (some ⟨q, 0, none⟩)) (
 pOffs 1 (.pointer (some ⟨q, 0, none⟩)) fun p17 =>
 pLoad 1 false H16 p17 fun v18 =>
 pLen .sl v18 H16 fun v19 =>
 pBin Go.Proofs.Try.prog .lss 3 (l15.getD 0 undef) v19 fun v20 =>
 pBool v20 fun b21 => br b21
 (pBin Go.Proofs.Try.prog .add 3 (l15.getD 0 undef) (.int .i64 1) fun v22 =>
 pCallF RR 10 [.pointer (some ⟨p, 0, none⟩), v22] H16 fun r23 H24 =>
 pExtract r23 0 fun v25 =>
 pExtract r23 1 fun v26 =>
 pSplice 7 [.int .i64 0, .int .i64 0, .int .i64 0, .int .i64 0, .int .i64 0, .int .u64 0, .string ⟨#[]⟩] 0 v25 fun c27 =>
 pCell 7 true c27 0 fun v28 =>
 pNil (.pointer (some ⟨q, 0, none⟩)) (
 pOffs 1 (.pointer (some ⟨q, 0, none⟩)) fun p29 =>
 pLoad 1 false H24 p29 fun v30 =>
 pIdx 7 v30 (l15.getD 0 undef) fun p31 =>
 pLoad 7 true H24 p31 fun v32 =>
 pBin Go.Proofs.Try.prog .neq 36 v28 v32 fun v33 =>
 pBool v33 fun b34 => br b34
 (some (.ret, [(.bool false)], H24))
 (pBin Go.Proofs.Try.prog .neq 37 v26 (.int .i64 0) fun v35 =>
 pBool v35 fun b36 => br b36
 (some (.ret, [(.bool false)], H24))
 (pBin Go.Proofs.Try.prog .add 3 (l15.getD 0 undef) (.int .i64 1) fun v37 =>
 some (.next, [v37], H24)))))
 (some (.exit 0, [(l15.getD 0 undef)], H16)))) (H := H') L.length (fun i hi => by
        have hwr : IntKind.i64.wrap ((i : Int) + 1) = ((i + 1 : Nat) : Int) := i64_wrap (by omega) (by omega)
        have hlt : (i : Int) < (L.length : Int) := by omega
        have hn := nodeAt_get hi
        obtain ⟨y, hy, hix⟩ := B.all.ix hi (α := Outc)
        simp only [s_nil, s_offs, Nat.zero_add, B.l1, B.all.len, s_lss, List.getD_cons_zero, hlt, decide_true, s_bool, s_brt, s_add, hwr, s_call (c10 A hLb _), s_ext0, s_ext1, hn.1, hn.2, if_true, spl7, ncell7, hix, ld7 hy (show L[i]? = some L[i] by simp [hi]), s_neq36, nodeEq_self, Bool.not_true, s_brf, s_neq, ne_eq, not_true_eq_false, decide_false])
      (by simp only [s_nil, s_offs, Nat.zero_add, B.l1, B.all.len, s_lss, List.getD_cons_zero, Int.lt_irrefl, decide_false, s_bool, s_brf]) L.length 0 (by omega)
    rw [show ((0 : Nat) : Int) = 0 from rfl] at hloop
    rw [hloop, s_bind, s_exit, s_onExit, s_call (c10 A hLb t), s_ext0, s_ext1, spl7] at hr
    refine hr.trans ?_
    by_cases h1 : t < 1
    · have hT : isT L t = false := by cases e : isT L t with | false => rfl | true => have := (isT_iff.1 e).1; omega
      have hN : nodeAt L t = noNd := by unfold nodeAt; rw [hT]; rfl
      simp only [s_lss, h1, decide_true, s_bool, s_brt, ncell7, bnil, s_eql36, hN, nodeEq_self, hT, Bool.false_eq_true, if_false, s_eql]
    · by_cases h2 : t > L.length
      · have hT : isT L t = false := by cases e : isT L t with | false => rfl | true => have := (isT_iff.1 e).2; omega
        have hN : nodeAt L t = noNd := by unfold nodeAt; rw [hT]; rfl
        simp only [s_lss, h1, decide_false, s_bool, s_brf, s_nil, s_offs, Nat.zero_add, B.l1, B.all.len, s_gtr, h2, decide_true, s_brt, ncell7, bnil, s_eql36, hN, nodeEq_self, hT, Bool.false_eq_true, if_false, s_eql]
      · have hT : isT L t = true := isT_iff.2 ⟨by omega, by omega⟩
        have hi : (t - 1).toNat < L.length := by omega
        have hwr : IntKind.i64.wrap (t - 1) = (((t - 1).toNat : Nat) : Int) := by rw [i64_wrap (by omega) (by omega)]; omega
        obtain ⟨y, hy, hix⟩ := B.all.ix hi (α := Value × Hp)
        have hN : nodeAt L t = L[(t - 1).toNat] := by unfold nodeAt; rw [if_pos hT, List.getElem?_eq_getElem hi]; rfl
        simp only [s_lss, h1, decide_false, s_bool, s_brf, s_nil, s_offs, Nat.zero_add, B.l1, B.all.len, s_gtr, h2, s_brt, ncell7, s_sub, hwr, hix, ld7 hy (List.getElem?_eq_getElem hi), s_eql36, hN, nodeEq_self, hT, if_true, s_eql, decide_true]
end Go.AM
/- The Term seat: a store of the program alone. -/
set_option linter.unusedVariables false
set_option linter.unusedSimpArgs false
namespace Go.AM
open Go
/-- A call on the program's store: what it keeps. -/
structure One (H : Hp) (lim : Int) (L : List Nd) (K : List (ByteArray × Int)) (p f g : Nat) (sl : Value) (H' : Hp) (L' : List Nd) (K' : List (ByteArray × Int)) (sl' : Value) : Prop where
  st : StF H' p lim L' K' sl' f g
  next : H.next ≤ H'.next
  same : ∀ j, j < H.next → ¬ Foot p f g sl j → H'.get j = H.get j
  foot : ∀ j, Foot p f g sl' j → Foot p f g sl j ∨ H.next ≤ j
theorem One.refl {H : Hp} {lim : Int} {L : List Nd} {K : List (ByteArray × Int)} {p f g : Nat} {sl : Value} (h : StF H p lim L K sl f g) : One H lim L K p f g sl H L K sl := ⟨h, Nat.le_refl _, fun _ _ _ => rfl, fun _ a => .inl a⟩
theorem One.trans {H : Hp} {lim : Int} {L : List Nd} {K : List (ByteArray × Int)} {p f g : Nat} {sl : Value} {H1 : Hp} {L1 : List Nd} {K1 : List (ByteArray × Int)} {s1 : Value} {H2 : Hp} {L2 : List Nd} {K2 : List (ByteArray × Int)} {s2 : Value}
    (h : One H lim L K p f g sl H1 L1 K1 s1) (k : One H1 lim L1 K1 p f g s1 H2 L2 K2 s2) : One H lim L K p f g sl H2 L2 K2 s2 := by
  refine ⟨k.st, Nat.le_trans h.next k.next, fun j hj a => ?_, fun j a => ?_⟩
  · rw [k.same j (Nat.lt_of_lt_of_le hj h.next) (fun b => by rcases h.foot j b with c | c; exact a c; omega), h.same j hj a]
  · rcases k.foot j a with b | b
    · exact h.foot j b
    · exact .inr (Nat.le_trans h.next b)
theorem Does.one {H : Hp} {lim : Int} {L : List Nd} {K : List (ByteArray × Int)} {p f g : Nat} {sl : Value} {fn : FuncId} {xs : List Value} {r : Res} (h : Does H p lim sl f g fn xs r) :
    ∃ H' sl', RR fn (.pointer (some ⟨p, 0, none⟩) :: xs) H = some (.tuple #[.int .i64 r.1, .int .i64 r.2.1], H') ∧ One H lim L K p f g sl H' r.2.2.1 r.2.2.2 sl' := by
  obtain ⟨H', sl', h1, h2⟩ := h
  exact ⟨H', sl', h1, h2.st, h2.next, fun j a b => h2.same a b, fun j a => h2.foot a⟩
theorem ScR.one {H : Hp} {lim : Int} {L : List Nd} {K : List (ByteArray × Int)} {p f g : Nat} {sl : Value} {H1 : Hp} {L1 : List Nd} {K1 : List (ByteArray × Int)} {s1 : Value} {x : Value} {os : List OpA} (hx : ScR H x os)
    (hst : StF H p lim L K sl f g) (h : One H lim L K p f g sl H1 L1 K1 s1) : ScR H1 x os :=
  hx.keep (fun y cs h1 h2 => by rw [h.same y h1 (fun a => by obtain ⟨o, g1, g2⟩ := hst.own a; rw [h2] at g1; cases g1; cases g2)]; exact h2) h.next
theorem newH_one {H : Hp} (lim : Int) : StF (newH lim H) (H.next + 2) lim [] [] (.slice none 0 0) H.next (H.next + 1) := newH_st lim H
theorem foot_nil {a b c i : Nat} (z : Foot a b c (.slice none 0 0) i) : i = a ∨ i = b ∨ i = c := by
  rcases z with z | z | z | z
  · exact .inl z
  · exact .inr (.inl z)
  · exact .inr (.inr z)
  · cases z
theorem s_pneq {α : Type} {P : Program} (T : TypeId) (a : Addr) (hT : ∃ t, P.underlying T = some (.pointer t)) (k : Value → Option α) : pBin P .neq T (.pointer (some a)) (.pointer none) k = k (.bool true) := by
  obtain ⟨t, ht⟩ := hT
  have : eqT P Op.maxDepth T (.pointer (some a)) (.pointer none) = some false := by
    unfold Op.maxDepth
    simp only [eqT, ht]
  simp only [pBin, binV, eqOp, this]; rfl
theorem s_pneq0 {α : Type} {P : Program} (T : TypeId) (hT : ∃ t, P.underlying T = some (.pointer t)) (k : Value → Option α) : pBin P .neq T (.pointer none) (.pointer none) k = k (.bool false) := by
  obtain ⟨t, ht⟩ := hT
  have : eqT P Op.maxDepth T (.pointer none) (.pointer none) = some true := by
    unfold Op.maxDepth
    simp only [eqT, ht]; rfl
  simp only [pBin, binV, eqOp, this]; rfl
theorem s_beql {α : Type} {P : Program} (T : TypeId) (a b : Bool) (hT : P.underlying T = some .bool) (k : Value → Option α) : pBin P .eql T (.bool a) (.bool b) k = k (.bool (a == b)) := by
  have : eqT P Op.maxDepth T (.bool a) (.bool b) = some (a == b) := by
    unfold Op.maxDepth
    simp only [eqT, hT]
  simp only [pBin, binV, eqOp, this]
theorem c11_neg (lim : Int) (H : Hp) (hl : lim < 0) : RR 11 [.int .i64 lim] H = some (.tuple #[.pointer none, .bool true], H) := by
  refine (r11 E0 rfl _ _).trans ?_
  unfold m11
  have e1 := c16 lim H
  rw [if_pos hl] at e1
  have h0 : ¬ lim ≥ 0 := by omega
  have k1 : ¬ (1 : Int) = 0 := by decide
  simp only [s_call e1, s_ext0, s_ext1, s_geq, h0, decide_false, s_bool, s_brf, s_brt, s_pneq0 23 und23, s_beql 4 _ _ und4, s_bneq 4 _ _ und4, beq_self_eq_true, Bool.not_true, Bool.not_false, s_eql, s_not, k1, s_bind, s_ret, s_head]
def kN : Nd := varN ⟨#[107]⟩ 8
def kK : List (ByteArray × Int) := [(⟨#[107]⟩, 8)]
def aN : Nd := ⟨20, 8, 1, 1, 0, 0, ⟨#[]⟩⟩
theorem mk_first : mkR 0 [] [] kN = (1, 0, [kN], kK) := by kernel_rfl
theorem bin_first : binR 0 [kN] kK 20 1 1 = (2, 0, [kN, aN], kK) := by kernel_rfl
theorem bin_second : binR 0 [kN, aN] kK 20 1 1 = (2, 0, [kN, aN], kK) := by kernel_rfl
theorem roomy_small {L : List Nd} (h : ∀ m ∈ L, 0 ≤ m.w ∧ m.w ≤ 64) (l : L.length ≤ 10) : Roomy L := ⟨h, by omega⟩
theorem c11_pos (lim : Int) (H : Hp) (hl : ¬ lim < 0) : ∃ H' p f g, RR 11 [.int .i64 lim] H = some (.tuple #[.pointer (some ⟨p, 0, none⟩), .bool true], H') ∧ StF H' p lim [] [] (.slice none 0 0) f g ∧ H.next ≤ H'.next ∧
    (∀ j, j < H.next → H'.get j = H.get j) ∧ (∀ j, Foot p f g (.slice none 0 0) j → H.next ≤ j) := by
  have e1 := c16 lim H
  have e2 := c16 0 (newH lim H)
  rw [if_neg hl] at e1
  rw [if_neg (by decide)] at e2
  have a1 := newH_st lim H
  have a2 := newH_st 0 (newH lim H)
  have n1 := newH_next lim H
  have n2 := newH_next 0 (newH lim H)
  obtain ⟨H1, s1, g1, o1⟩ := Does.one (L := []) (K := []) (d20 a2 (roomy_small (fun m h => by cases h) (by simp)) ⟨#[107]⟩ 8)
  rw [show varN ⟨#[107]⟩ 8 = kN from rfl, mk_first] at g1 o1
  have st1 : StF H1 ((newH lim H).next + 2) 0 [kN] kK s1 (newH lim H).next ((newH lim H).next + 1) := o1.st
  have R1 : Roomy [kN] := roomy_small (fun m h => by rw [List.mem_singleton] at h; subst h; decide) (by simp)
  obtain ⟨H2, s2, g2, o2⟩ := Does.one (L := [kN]) (K := kK) (d21 st1 R1 20 1 1)
  rw [bin_first] at g2 o2
  have st2 : StF H2 ((newH lim H).next + 2) 0 [kN, aN] kK s2 (newH lim H).next ((newH lim H).next + 1) := o2.st
  have R2 : Roomy [kN, aN] := roomy_small (fun m h => by
    rcases List.mem_cons.1 h with rfl | h
    · decide
    · rw [List.mem_singleton] at h; subst h; decide) (by simp)
  obtain ⟨H3, s3, g3, o3⟩ := Does.one (L := [kN, aN]) (K := kK) (d21 st2 R2 20 1 1)
  rw [bin_second] at g3 o3
  have st3 : StF H3 ((newH lim H).next + 2) 0 [kN, aN] kK s3 (newH lim H).next ((newH lim H).next + 1) := o3.st
  have all := (o1.trans o2).trans o3
  have hsame : ∀ j, j < (newH lim H).next → H3.get j = (newH lim H).get j := fun j hj => by
    rw [all.same j (by omega) (fun z => by have := foot_nil z; omega), newH_old 0 _ _ hj]
  have hn3 := all.next
  refine ⟨H3, H.next + 2, H.next, H.next + 1, ?_, a1.keep (fun i hi => hsame i (a1.foot_lt hi)) (by omega), by omega, fun j hj => by rw [hsame j (by omega), newH_old lim H j hj], fun j hj => by have := foot_nil hj; omega⟩
  refine (r11 E0 rfl _ _).trans ?_
  unfold m11
  have h0 : lim ≥ 0 := by omega
  have c9' := c9 st3.st
  simp only [s_call e1, s_ext0, s_ext1, s_geq, h0, decide_true, decide_false, s_bool, s_brf, s_brt, s_pneq 23 _ und23, s_pnil 23 _ und23, s_beql 4 _ _ und4, s_bneq 4 _ _ und4, beq_self_eq_true, Bool.not_true, Bool.not_false, s_eql, s_not, s_bind, s_next, s_head, s_call e2, s_call g1, s_call g2, s_call g3, s_neq, ne_eq, not_true_eq_false, s_call c9', List.length_cons, List.length_nil, Nat.zero_add]
  rfl
end Go.AM
set_option linter.unusedVariables false
namespace Go.AM
open Go
set_option maxRecDepth 100000
noncomputable def s4_1 (R : Handler) (v3 : Value) (v4 : Value) (l15 : List Value) (H16 : Hp) : Option Outc :=
 pNil v4 (
 pOffs 1 v4 fun p17 =>
 pLoad 1 false H16 p17 fun v18 =>
 pLen .sl v18 H16 fun v19 =>
 pBin Go.Proofs.Try.prog .lss 3 (l15.getD 0 undef) v19 fun v20 =>
 pBool v20 fun b21 => br b21
 (pBin Go.Proofs.Try.prog .add 3 (l15.getD 0 undef) (.int .i64 1) fun v22 =>
 pCallF R 10 [v3, v22] H16 fun r23 H24 =>
 pExtract r23 0 fun v25 =>
 pExtract r23 1 fun v26 =>
 pSplice 7 [.int .i64 0, .int .i64 0, .int .i64 0, .int .i64 0, .int .i64 0, .int .u64 0, .string ⟨#[]⟩] 0 v25 fun c27 =>
 pCell 7 true c27 0 fun v28 =>
 pNil v4 (
 pOffs 1 v4 fun p29 =>
 pLoad 1 false H24 p29 fun v30 =>
 pIdx 7 v30 (l15.getD 0 undef) fun p31 =>
 pLoad 7 true H24 p31 fun v32 =>
 pBin Go.Proofs.Try.prog .neq 36 v28 v32 fun v33 =>
 pBool v33 fun b34 => br b34
 (some (.ret, [(.bool false)], H24))
 (pBin Go.Proofs.Try.prog .neq 37 v26 (.int .i64 0) fun v35 =>
 pBool v35 fun b36 => br b36
 (some (.ret, [(.bool false)], H24))
 (pBin Go.Proofs.Try.prog .add 3 (l15.getD 0 undef) (.int .i64 1) fun v37 =>
 some (.next, [v37], H24)))))
 (some (.exit 0, [(l15.getD 0 undef)], H16)))
theorem k4 (R : Handler) (x0 x1 x2 : Value) (H0 : Hp) : m4 R x0 x1 x2 H0 =
 pCallF R 8 [x0, x1] H0 fun r1 H2 =>
 pExtract r1 0 fun v3 =>
 pExtract r1 1 fun v4 =>
 pExtract r1 2 fun v5 =>
 pBin Go.Proofs.Try.prog .eql 23 v3 (.pointer none) fun v6 =>
 pBool v6 fun b7 => br b7
 (some (v5, H2))
 (pCallF R 9 [v3] H2 fun r8 H9 =>
 pNil v4 (
 pOffs 1 v4 fun p10 =>
 pLoad 1 false H9 p10 fun v11 =>
 chk (Hp.rdP H2 p10 1 false = some v11) (
 pLen .sl v11 H9 fun v12 =>
 lenAgain .sl v11 H2 v12 (
 pBin Go.Proofs.Try.prog .neq 3 r8 v12 fun v13 =>
 pBool v13 fun b14 => br b14
 (some ((.bool false), H9))
 (bindO (loopD (s4_1 R v3 v4) [(.int .i64 0)] H9) fun q38 l39 H40 => onCtl q38 none
 (fun i41 => onExit i41 0 (
 pCallF R 10 [v3, x2] H40 fun r42 H43 =>
 pExtract r42 0 fun v44 =>
 pExtract r42 1 fun v45 =>
 pSplice 7 [.int .i64 0, .int .i64 0, .int .i64 0, .int .i64 0, .int .i64 0, .int .u64 0, .string ⟨#[]⟩] 0 v44 fun c46 =>
 pBin Go.Proofs.Try.prog .lss 3 x2 (.int .i64 1) fun v47 =>
 pBool v47 fun b48 => br b48
 (pCell 7 true c46 0 fun v49 =>
 pBuild Go.Proofs.Try.prog 36 [] fun v50 =>
 pBin Go.Proofs.Try.prog .eql 36 v49 v50 fun v51 =>
 pBool v51 fun b52 => br b52
 (pBin Go.Proofs.Try.prog .eql 37 v45 (.int .i64 70) fun v53 =>
 some (v53, H43))
 (some ((.bool false), H43)))
 (pNil v4 (
 pOffs 1 v4 fun p54 =>
 pLoad 1 false H43 p54 fun v55 =>
 pLen .sl v55 H43 fun v56 =>
 pBin Go.Proofs.Try.prog .gtr 3 x2 v56 fun v57 =>
 pBool v57 fun b58 => br b58
 (pCell 7 true c46 0 fun v59 =>
 pBuild Go.Proofs.Try.prog 36 [] fun v60 =>
 pBin Go.Proofs.Try.prog .eql 36 v59 v60 fun v61 =>
 pBool v61 fun b62 => br b62
 (pBin Go.Proofs.Try.prog .eql 37 v45 (.int .i64 70) fun v63 =>
 some (v63, H43))
 (some ((.bool false), H43)))
 (pCell 7 true c46 0 fun v64 =>
 pNil v4 (
 pOffs 1 v4 fun p65 =>
 pLoad 1 false H43 p65 fun v66 =>
 pBin Go.Proofs.Try.prog .sub 3 x2 (.int .i64 1) fun v67 =>
 pIdx 7 v66 v67 fun p68 =>
 pLoad 7 true H43 p68 fun v69 =>
 pBin Go.Proofs.Try.prog .eql 36 v64 v69 fun v70 =>
 pBool v70 fun b71 => br b71
 (pBin Go.Proofs.Try.prog .eql 37 v45 (.int .i64 0) fun v72 =>
 some (v72, H43))
 (some ((.bool false), H43))))))) (
 none))
 (some ((l39.headD undef), H40))))))) := rfl
noncomputable def s5_1 (R : Handler) (x0 : Value) (x1 : Value) (v3 : Value) (l13 : List Value) (H14 : Hp) : Option Outc :=
 pLen .sl x1 H14 fun v15 =>
 pBin Go.Proofs.Try.prog .lss 3 (l13.getD 0 undef) v15 fun v16 =>
 pBool v16 fun b17 => br b17
 (pCallF R 9 [v3] H14 fun r18 H19 =>
 pIdx 16 x1 (l13.getD 0 undef) fun p20 =>
 pLoad 16 true H19 p20 fun v21 =>
 pCallF R 12 [v3, v21] H19 fun r22 H23 =>
 pExtract r22 0 fun v24 =>
 pExtract r22 1 fun v25 =>
 pCallF R 9 [v3] H23 fun r26 H27 =>
 bindO (
 pIdx 16 x1 (l13.getD 0 undef) fun p28 =>
 pOffs 0 p28 fun p29 =>
 pLoad 1 false H27 p29 fun v30 =>
 pBin Go.Proofs.Try.prog .lss 3 v30 (.int .i64 1) fun v31 =>
 pBool v31 fun b32 => br b32
 (some (.exit 1, [], H27))
 (pIdx 16 x1 (l13.getD 0 undef) fun p33 =>
 pOffs 0 p33 fun p34 =>
 pLoad 1 false H27 p34 fun v35 =>
 pBin Go.Proofs.Try.prog .gtr 3 v35 (.int .i64 9) fun v36 =>
 pBool v36 fun b37 => br b37
 (some (.exit 1, [], H27))
 (some (.next, [], H27)))) fun q38 l39 H40 => onCtl q38
 (pBin Go.Proofs.Try.prog .neq 37 v25 (.int .i64 0) fun v42 =>
 pBool v42 fun b43 => br b43
 (pBin Go.Proofs.Try.prog .neq 3 v24 (.int .i64 0) fun v44 =>
 pBool v44 fun b45 => br b45
 (some (.ret, [(.bool false)], H40))
 (pBin Go.Proofs.Try.prog .neq 3 r26 r18 fun v46 =>
 pBool v46 fun b47 => br b47
 (some (.ret, [(.bool false)], H40))
 (pBin Go.Proofs.Try.prog .add 3 (l13.getD 0 undef) (.int .i64 1) fun v48 =>
 some (.next, [v48], H40))))
 (pIdx 16 x1 (l13.getD 0 undef) fun p49 =>
 pLoad 16 true H40 p49 fun v50 =>
 pCallF R 12 [v3, v50] H40 fun r51 H52 =>
 pExtract r51 0 fun v53 =>
 pExtract r51 1 fun v54 =>
 pBin Go.Proofs.Try.prog .neq 3 v53 v24 fun v55 =>
 pBool v55 fun b56 => br b56
 (some (.ret, [(.bool false)], H52))
 (pBin Go.Proofs.Try.prog .neq 37 v54 (.int .i64 0) fun v57 =>
 pBool v57 fun b58 => br b58
 (some (.ret, [(.bool false)], H52))
 (pCallF R 9 [v3] H52 fun r59 H60 =>
 pBin Go.Proofs.Try.prog .neq 3 r59 r26 fun v61 =>
 pBool v61 fun b62 => br b62
 (some (.ret, [(.bool false)], H60))
 (pBin Go.Proofs.Try.prog .add 3 r18 (.int .i64 1) fun v63 =>
 pBin Go.Proofs.Try.prog .gtr 3 r26 v63 fun v64 =>
 pBool v64 fun b65 => br b65
 (some (.ret, [(.bool false)], H60))
 (pBin Go.Proofs.Try.prog .lss 3 v24 (.int .i64 1) fun v66 =>
 pBool v66 fun b67 => br b67
 (some (.ret, [(.bool false)], H60))
 (pBin Go.Proofs.Try.prog .gtr 3 v24 r26 fun v68 =>
 pBool v68 fun b69 => br b69
 (some (.ret, [(.bool false)], H60))
 (pBin Go.Proofs.Try.prog .gtr 3 x0 (.int .i64 0) fun v70 =>
 pBool v70 fun b71 => br b71
 (pBin Go.Proofs.Try.prog .gtr 3 r26 x0 fun v72 =>
 pBool v72 fun b73 => br b73
 (some (.ret, [(.bool false)], H60))
 (pBin Go.Proofs.Try.prog .add 3 (l13.getD 0 undef) (.int .i64 1) fun v74 =>
 some (.next, [v74], H60)))
 (pBin Go.Proofs.Try.prog .add 3 (l13.getD 0 undef) (.int .i64 1) fun v75 =>
 some (.next, [v75], H60))))))))))
 (fun i41 => onExit i41 1 (
 pBin Go.Proofs.Try.prog .add 3 (l13.getD 0 undef) (.int .i64 1) fun v76 =>
 some (.next, [v76], H40)) (
 some (.exit i41, [(l13.getD 0 undef)], H40)))
 (some (.ret, [(l39.headD undef)], H40)))
 (some (.exit 0, [(l13.getD 0 undef)], H14))
noncomputable def s5_2 (R : Handler) (v3 : Value) (v81 : Value) (l83 : List Value) (H84 : Hp) : Option Outc :=
 pCallF R 9 [v3] H84 fun r85 H86 =>
 pBin Go.Proofs.Try.prog .leq 3 (l83.getD 0 undef) r85 fun v87 =>
 pBool v87 fun b88 => br b88
 (pCallF R 10 [v3, (l83.getD 0 undef)] H86 fun r89 H90 =>
 pExtract r89 0 fun v91 =>
 pExtract r89 1 fun v92 =>
 pSplice 7 [.int .i64 0, .int .i64 0, .int .i64 0, .int .i64 0, .int .i64 0, .int .u64 0, .string ⟨#[]⟩] 0 v91 fun c93 =>
 pBin Go.Proofs.Try.prog .neq 37 v92 (.int .i64 0) fun v94 =>
 pBool v94 fun b95 => br b95
 (some (.ret, [(.bool false)], H90))
 (pCell 7 true c93 0 fun v96 =>
 pLook Go.Proofs.Try.prog 36 (.int .i64 0) v81 v96 false H90 fun v97 =>
 pBin Go.Proofs.Try.prog .neq 3 v97 (.int .i64 0) fun v98 =>
 pBool v98 fun b99 => br b99
 (some (.ret, [(.bool false)], H90))
 (pCell 1 false c93 2 fun v100 =>
 pBin Go.Proofs.Try.prog .geq 3 v100 (l83.getD 0 undef) fun v101 =>
 pBool v101 fun b102 => br b102
 (some (.ret, [(.bool false)], H90))
 (pCell 1 false c93 3 fun v103 =>
 pBin Go.Proofs.Try.prog .geq 3 v103 (l83.getD 0 undef) fun v104 =>
 pBool v104 fun b105 => br b105
 (some (.ret, [(.bool false)], H90))
 (pCell 1 false c93 4 fun v106 =>
 pBin Go.Proofs.Try.prog .geq 3 v106 (l83.getD 0 undef) fun v107 =>
 pBool v107 fun b108 => br b108
 (some (.ret, [(.bool false)], H90))
 (pCell 7 true c93 0 fun v109 =>
 pUpd Go.Proofs.Try.prog 36 v81 v109 (l83.getD 0 undef) H90 fun H110 =>
 pBin Go.Proofs.Try.prog .add 3 (l83.getD 0 undef) (.int .i64 1) fun v111 =>
 some (.next, [v111], H110)))))))
 (some (.exit 2, [(l83.getD 0 undef)], H86))
theorem k5 (R : Handler) (x0 x1 : Value) (H0 : Hp) : m5 R x0 x1 H0 =
 pCallF R 11 [x0] H0 fun r1 H2 =>
 pExtract r1 0 fun v3 =>
 pExtract r1 1 fun v4 =>
 bindO (
 pBin Go.Proofs.Try.prog .eql 23 v3 (.pointer none) fun v5 =>
 pBool v5 fun b6 => br b6
 (some (.ret, [v4], H2))
 (pUn .not v4 fun v7 =>
 pBool v7 fun b8 => br b8
 (some (.ret, [v4], H2))
 (some (.next, [], H2)))) fun q9 l10 H11 => onCtl q9
 (bindO (loopD (s5_1 R x0 x1 v3) [(.int .i64 0)] H11) fun q77 l78 H79 => onCtl q77 none
 (fun i80 => onExit i80 0 (
 pNewMap H79 fun v81 H82 =>
 bindO (loopD (s5_2 R v3 v81) [(.int .i64 1)] H82) fun q112 l113 H114 => onCtl q112 none
 (fun i115 => onExit i115 2 (
 some ((.bool true), H114)) (
 none))
 (some ((l113.headD undef), H114))) (
 none))
 (some ((l78.headD undef), H79)))
 (fun i12 => none)
 (some ((l10.headD undef), H11)) := rfl
noncomputable def s6_1 (R : Handler) (v14 : Value) (l42 : List Value) (H43 : Hp) : Option Outc :=
 pLen .sl v14 H43 fun v44 =>
 pBin Go.Proofs.Try.prog .lss 3 (l42.getD 0 undef) v44 fun v45 =>
 pBool v45 fun b46 => br b46
 (pIdx 1 v14 (l42.getD 0 undef) fun p47 =>
 pStore 1 H43 p47 (.int .i64 (-7)) fun H48 =>
 pBin Go.Proofs.Try.prog .add 3 (l42.getD 0 undef) (.int .i64 1) fun v49 =>
 some (.next, [v49], H48))
 (some (.exit 0, [(l42.getD 0 undef)], H43))
noncomputable def s6_2 (R : Handler) (l54 : List Value) (H55 : Hp) : Option Outc :=
 pBin Go.Proofs.Try.prog .lss 3 (l54.getD 1 undef) (.int .i64 16) fun v56 =>
 pBool v56 fun b57 => br b57
 (pBuildSlice 1 [.int .i64 0] 1 [(0, (.int .i64 (-8)))] H55 fun v58 H59 =>
 pAppend 1 8 (l54.getD 0 undef) v58 H59 fun v60 H61 =>
 pBin Go.Proofs.Try.prog .add 3 (l54.getD 1 undef) (.int .i64 1) fun v62 =>
 some (.next, [v60, v62], H61))
 (some (.exit 2, [(l54.getD 0 undef), (l54.getD 1 undef)], H55))
theorem k6 (R : Handler) (x0 x1 x2 : Value) (H0 : Hp) : m6 R x0 x1 x2 H0 =
 pCallF R 8 [x0, x1] H0 fun r1 H2 =>
 pExtract r1 0 fun v3 =>
 pExtract r1 1 fun v4 =>
 pExtract r1 2 fun v5 =>
 pBin Go.Proofs.Try.prog .eql 23 v3 (.pointer none) fun v6 =>
 pBool v6 fun b7 => br b7
 (some (v5, H2))
 (pBuildSlice 1 [.int .i64 0] 0 [] H2 fun v8 H9 =>
 pAppend 1 8 v8 x2 H9 fun v10 H11 =>
 pCallF R 13 [v3, v10] H11 fun r12 H13 =>
 pExtract r12 0 fun v14 =>
 pExtract r12 1 fun v15 =>
 pCallF R 13 [v3, v10] H13 fun r16 H17 =>
 pExtract r16 0 fun v18 =>
 pExtract r16 1 fun v19 =>
 pCallF R 14 [v4, x2] H17 fun r20 H21 =>
 pExtract r20 0 fun v22 =>
 pExtract r20 1 fun v23 =>
 bindO (
 pCallF R 15 [v14, v22] H21 fun r24 H25 =>
 pUn .not r24 fun v26 =>
 pBool v26 fun b27 => br b27
 (some (.ret, [(.bool false)], H25))
 (pCallF R 15 [v18, v22] H25 fun r28 H29 =>
 pUn .not r28 fun v30 =>
 pBool v30 fun b31 => br b31
 (some (.ret, [(.bool false)], H29))
 (pBin Go.Proofs.Try.prog .neq 37 v15 v23 fun v32 =>
 pBool v32 fun b33 => br b33
 (some (.ret, [(.bool false)], H29))
 (pCallF R 15 [v10, x2] H29 fun r34 H35 =>
 pUn .not r34 fun v36 =>
 pBool v36 fun b37 => br b37
 (some (.ret, [(.bool false)], H35))
 (some (.next, [], H35)))))) fun q38 l39 H40 => onCtl q38
 (bindO (loopD (s6_1 R v14) [(.int .i64 0)] H40) fun q50 l51 H52 => onCtl q50 none
 (fun i53 => onExit i53 0 (
 bindO (loopD (s6_2 R) [v14, (.int .i64 0)] H52) fun q63 l64 H65 => onCtl q63 none
 (fun i66 => onExit i66 2 (
 pCallF R 13 [v3, v10] H65 fun r67 H68 =>
 pExtract r67 0 fun v69 =>
 pExtract r67 1 fun v70 =>
 pLen .sl (l64.getD 0 undef) H68 fun v71 =>
 pLen .sl v22 H68 fun v72 =>
 pBin Go.Proofs.Try.prog .add 3 v72 (.int .i64 16) fun v73 =>
 pBin Go.Proofs.Try.prog .eql 3 v71 v73 fun v74 =>
 pBool v74 fun b75 => br b75
 (pCallF R 15 [v18, v22] H68 fun r76 H77 =>
 pBool r76 fun b78 => br b78
 (pCallF R 15 [v69, v22] H77 fun r79 H80 =>
 some (r79, H80))
 (some ((.bool false), H77)))
 (some ((.bool false), H68))) (
 none))
 (some ((l64.headD undef), H65))) (
 none))
 (some ((l51.headD undef), H52)))
 (fun i41 => none)
 (some ((l39.headD undef), H40))) := rfl
noncomputable def s7_1 (R : Handler) (x1 : Value) (v3 : Value) (l13 : List Value) (H14 : Hp) : Option Outc :=
 pLen .sl x1 H14 fun v15 =>
 pBin Go.Proofs.Try.prog .lss 3 (l13.getD 0 undef) v15 fun v16 =>
 pBool v16 fun b17 => br b17
 (pIdx 16 x1 (l13.getD 0 undef) fun p18 =>
 pLoad 16 true H14 p18 fun v19 =>
 pCallF R 12 [v3, v19] H14 fun r20 H21 =>
 pBin Go.Proofs.Try.prog .add 3 (l13.getD 0 undef) (.int .i64 1) fun v22 =>
 some (.next, [v22], H21))
 (some (.exit 0, [(l13.getD 0 undef)], H14))
noncomputable def s7_2 (R : Handler) (x2 : Value) (v41 : Value) (l43 : List Value) (H44 : Hp) : Option Outc :=
 pLen .sl x2 H44 fun v45 =>
 pBin Go.Proofs.Try.prog .lss 3 (l43.getD 0 undef) v45 fun v46 =>
 pBool v46 fun b47 => br b47
 (pIdx 1 x2 (l43.getD 0 undef) fun p48 =>
 pLoad 1 false H44 p48 fun v49 =>
 pUpd Go.Proofs.Try.prog 3 v41 v49 (.int .i64 1) H44 fun H50 =>
 pBin Go.Proofs.Try.prog .add 3 (l43.getD 0 undef) (.int .i64 1) fun v51 =>
 some (.next, [v51], H50))
 (some (.exit 2, [(l43.getD 0 undef)], H44))
noncomputable def s7_3 (R : Handler) (v39 : Value) (c83 : List Value) (l84 : List Value) (H85 : Hp) : Option Outc :=
 pBin Go.Proofs.Try.prog .lss 3 (l84.getD 0 undef) (.int .i64 3) fun v86 =>
 pBool v86 fun b87 => br b87
 (pIdxLoc 3 (l84.getD 0 undef) fun j88 =>
 pCell 1 false c83 (0 + j88 * 1) fun v89 =>
 pBin Go.Proofs.Try.prog .neq 3 v89 (.int .i64 0) fun v90 =>
 pBool v90 fun b91 => br b91
 (pIdxLoc 3 (l84.getD 0 undef) fun j92 =>
 pCell 1 false c83 (0 + j92 * 1) fun v93 =>
 pLook Go.Proofs.Try.prog 3 (.int .i64 0) v39 v93 false H85 fun v94 =>
 pBin Go.Proofs.Try.prog .eql 3 v94 (.int .i64 0) fun v95 =>
 pBool v95 fun b96 => br b96
 (some (.ret, [(.bool false)], H85))
 (pBin Go.Proofs.Try.prog .add 3 (l84.getD 0 undef) (.int .i64 1) fun v97 =>
 some (.next, [v97], H85)))
 (pBin Go.Proofs.Try.prog .add 3 (l84.getD 0 undef) (.int .i64 1) fun v98 =>
 some (.next, [v98], H85)))
 (some (.exit 6, [(l84.getD 0 undef)], H85))
noncomputable def s7_4 (R : Handler) (v3 : Value) (v33 : Value) (v39 : Value) (l56 : List Value) (H57 : Hp) : Option Outc :=
 pLen .sl v33 H57 fun v58 =>
 pBin Go.Proofs.Try.prog .lss 3 (l56.getD 0 undef) v58 fun v59 =>
 pBool v59 fun b60 => br b60
 (pIdx 1 v33 (l56.getD 0 undef) fun p61 =>
 pLoad 1 false H57 p61 fun v62 =>
 pCallF R 10 [v3, v62] H57 fun r63 H64 =>
 pExtract r63 0 fun v65 =>
 pExtract r63 1 fun v66 =>
 pSplice 7 [.int .i64 0, .int .i64 0, .int .i64 0, .int .i64 0, .int .i64 0, .int .u64 0, .string ⟨#[]⟩] 0 v65 fun c67 =>
 bindO (
 pBin Go.Proofs.Try.prog .neq 37 v66 (.int .i64 0) fun v68 =>
 pBool v68 fun b69 => br b69
 (some (.ret, [(.bool false)], H64))
 (pIdx 1 v33 (l56.getD 0 undef) fun p70 =>
 pLoad 1 false H64 p70 fun v71 =>
 pLook Go.Proofs.Try.prog 3 (.int .i64 0) v39 v71 false H64 fun v72 =>
 pBin Go.Proofs.Try.prog .neq 3 v72 (.int .i64 0) fun v73 =>
 pBool v73 fun b74 => br b74
 (some (.ret, [(.bool false)], H64))
 (some (.next, [], H64)))) fun q75 l76 H77 => onCtl q75
 (pCell 1 false c67 2 fun v79 =>
 pCell 1 false c67 3 fun v80 =>
 pCell 1 false c67 4 fun v81 =>
 pBuild Go.Proofs.Try.prog 54 [(0, v79), (1, v80), (2, v81)] fun v82 =>
 pSplice 3 [.int .i64 0, .int .i64 0, .int .i64 0] 0 v82 fun c83 =>
 bindO (loopD (s7_3 R v39 c83) [(.int .i64 0)] H77) fun q99 l100 H101 => onCtl q99 none
 (fun i102 => onExit i102 6 (
 pIdx 1 v33 (l56.getD 0 undef) fun p103 =>
 pLoad 1 false H101 p103 fun v104 =>
 pBin Go.Proofs.Try.prog .add 3 (l56.getD 0 undef) (.int .i64 1) fun v105 =>
 pUpd Go.Proofs.Try.prog 3 v39 v104 v105 H101 fun H106 =>
 pBin Go.Proofs.Try.prog .add 3 (l56.getD 0 undef) (.int .i64 1) fun v107 =>
 some (.next, [v107], H106)) (
 onExit i102 5 (
 pBin Go.Proofs.Try.prog .add 3 (l56.getD 0 undef) (.int .i64 1) fun v108 =>
 some (.next, [v108], H101)) (
 some (.exit i102, [(l56.getD 0 undef)], H101))))
 (some (.ret, [(l100.headD undef)], H101)))
 (fun i78 => onExit i78 5 (
 pBin Go.Proofs.Try.prog .add 3 (l56.getD 0 undef) (.int .i64 1) fun v109 =>
 some (.next, [v109], H77)) (
 some (.exit i78, [(l56.getD 0 undef)], H77)))
 (some (.ret, [(l76.headD undef)], H77)))
 (some (.exit 4, [(l56.getD 0 undef)], H57))
noncomputable def s7_5 (R : Handler) (v3 : Value) (v33 : Value) (v41 : Value) (l116 : List Value) (H117 : Hp) : Option Outc :=
 pBin Go.Proofs.Try.prog .geq 3 (l116.getD 0 undef) (.int .i64 0) fun v118 =>
 pBool v118 fun b119 => br b119
 (pIdx 1 v33 (l116.getD 0 undef) fun p120 =>
 pLoad 1 false H117 p120 fun v121 =>
 pLook Go.Proofs.Try.prog 3 (.int .i64 0) v41 v121 false H117 fun v122 =>
 pBin Go.Proofs.Try.prog .eql 3 v122 (.int .i64 0) fun v123 =>
 pBool v123 fun b124 => br b124
 (some (.ret, [(.bool false)], H117))
 (pIdx 1 v33 (l116.getD 0 undef) fun p125 =>
 pLoad 1 false H117 p125 fun v126 =>
 pCallF R 10 [v3, v126] H117 fun r127 H128 =>
 pExtract r127 0 fun v129 =>
 pExtract r127 1 fun v130 =>
 pSplice 7 [.int .i64 0, .int .i64 0, .int .i64 0, .int .i64 0, .int .i64 0, .int .u64 0, .string ⟨#[]⟩] 0 v129 fun c131 =>
 pCell 1 false c131 2 fun v132 =>
 pCell 1 false c131 3 fun v133 =>
 pCell 1 false c131 4 fun v134 =>
 pUpd Go.Proofs.Try.prog 3 v41 v132 (.int .i64 1) H128 fun H135 =>
 pUpd Go.Proofs.Try.prog 3 v41 v133 (.int .i64 1) H135 fun H136 =>
 pUpd Go.Proofs.Try.prog 3 v41 v134 (.int .i64 1) H136 fun H137 =>
 pBin Go.Proofs.Try.prog .sub 3 (l116.getD 0 undef) (.int .i64 1) fun v138 =>
 some (.next, [v138], H137)))
 (some (.exit 8, [(l116.getD 0 undef)], H117))
noncomputable def s7_6 (R : Handler) (x2 : Value) (v39 : Value) (l143 : List Value) (H144 : Hp) : Option Outc :=
 pLen .sl x2 H144 fun v145 =>
 pBin Go.Proofs.Try.prog .lss 3 (l143.getD 0 undef) v145 fun v146 =>
 pBool v146 fun b147 => br b147
 (pIdx 1 x2 (l143.getD 0 undef) fun p148 =>
 pLoad 1 false H144 p148 fun v149 =>
 pLook Go.Proofs.Try.prog 3 (.int .i64 0) v39 v149 false H144 fun v150 =>
 pBin Go.Proofs.Try.prog .eql 3 v150 (.int .i64 0) fun v151 =>
 pBool v151 fun b152 => br b152
 (some (.ret, [(.bool false)], H144))
 (pBin Go.Proofs.Try.prog .add 3 (l143.getD 0 undef) (.int .i64 1) fun v153 =>
 some (.next, [v153], H144)))
 (some (.exit 10, [(l143.getD 0 undef)], H144))
theorem k7 (R : Handler) (x0 x1 x2 : Value) (H0 : Hp) : m7 R x0 x1 x2 H0 =
 pCallF R 11 [x0] H0 fun r1 H2 =>
 pExtract r1 0 fun v3 =>
 pExtract r1 1 fun v4 =>
 bindO (
 pBin Go.Proofs.Try.prog .eql 23 v3 (.pointer none) fun v5 =>
 pBool v5 fun b6 => br b6
 (some (.ret, [v4], H2))
 (pUn .not v4 fun v7 =>
 pBool v7 fun b8 => br b8
 (some (.ret, [v4], H2))
 (some (.next, [], H2)))) fun q9 l10 H11 => onCtl q9
 (bindO (loopD (s7_1 R x1 v3) [(.int .i64 0)] H11) fun q23 l24 H25 => onCtl q23 none
 (fun i26 => onExit i26 0 (
 pBuildSlice 1 [.int .i64 0] 0 [] H25 fun v27 H28 =>
 pAppend 1 8 v27 x2 H28 fun v29 H30 =>
 pCallF R 13 [v3, v29] H30 fun r31 H32 =>
 pExtract r31 0 fun v33 =>
 pExtract r31 1 fun v34 =>
 pBin Go.Proofs.Try.prog .neq 37 v34 (.int .i64 0) fun v35 =>
 pBool v35 fun b36 => br b36
 (pLen .sl v33 H32 fun v37 =>
 pBin Go.Proofs.Try.prog .eql 3 v37 (.int .i64 0) fun v38 =>
 some (v38, H32))
 (pNewMap H32 fun v39 H40 =>
 pNewMap H40 fun v41 H42 =>
 bindO (loopD (s7_2 R x2 v41) [(.int .i64 0)] H42) fun q52 l53 H54 => onCtl q52 none
 (fun i55 => onExit i55 2 (
 bindO (loopD (s7_4 R v3 v33 v39) [(.int .i64 0)] H54) fun q110 l111 H112 => onCtl q110 none
 (fun i113 => onExit i113 4 (
 pLen .sl v33 H112 fun v114 =>
 pBin Go.Proofs.Try.prog .sub 3 v114 (.int .i64 1) fun v115 =>
 bindO (loopD (s7_5 R v3 v33 v41) [v115] H112) fun q139 l140 H141 => onCtl q139 none
 (fun i142 => onExit i142 8 (
 bindO (loopD (s7_6 R x2 v39) [(.int .i64 0)] H141) fun q154 l155 H156 => onCtl q154 none
 (fun i157 => onExit i157 10 (
 some ((.bool true), H156)) (
 none))
 (some ((l155.headD undef), H156))) (
 none))
 (some ((l140.headD undef), H141))) (
 none))
 (some ((l111.headD undef), H112))) (
 none))
 (some ((l53.headD undef), H54)))) (
 none))
 (some ((l24.headD undef), H25)))
 (fun i12 => none)
 (some ((l10.headD undef), H11)) := rfl
noncomputable def s8_1 (R : Handler) (x1 : Value) (v3 : Value) (v7 : Value) (l21 : List Value) (H22 : Hp) : Option Outc :=
 pLen .sl x1 H22 fun v23 =>
 pBin Go.Proofs.Try.prog .lss 3 (l21.getD 0 undef) v23 fun v24 =>
 pBool v24 fun b25 => br b25
 (pIdx 16 x1 (l21.getD 0 undef) fun p26 =>
 pLoad 16 true H22 p26 fun v27 =>
 pCallF R 12 [v3, v27] H22 fun r28 H29 =>
 pExtract r28 0 fun v30 =>
 pExtract r28 1 fun v31 =>
 pIdx 16 x1 (l21.getD 0 undef) fun p32 =>
 pLoad 16 true H29 p32 fun v33 =>
 pCallF R 18 [v7, v33] H29 fun r34 H35 =>
 pExtract r34 0 fun v36 =>
 pExtract r34 1 fun v37 =>
 pBin Go.Proofs.Try.prog .neq 3 v30 v36 fun v38 =>
 pBool v38 fun b39 => br b39
 (some (.ret, [(.tuple #[(.pointer none), (.pointer none), (.bool false)])], H35))
 (pBin Go.Proofs.Try.prog .neq 37 v31 v37 fun v40 =>
 pBool v40 fun b41 => br b41
 (some (.ret, [(.tuple #[(.pointer none), (.pointer none), (.bool false)])], H35))
 (pBin Go.Proofs.Try.prog .add 3 (l21.getD 0 undef) (.int .i64 1) fun v42 =>
 some (.next, [v42], H35))))
 (some (.exit 0, [(l21.getD 0 undef)], H22))
theorem k8 (R : Handler) (x0 x1 : Value) (H0 : Hp) : m8 R x0 x1 H0 =
 pCallF R 16 [x0] H0 fun r1 H2 =>
 pExtract r1 0 fun v3 =>
 pExtract r1 1 fun v4 =>
 pCallF R 17 [x0] H2 fun r5 H6 =>
 pExtract r5 0 fun v7 =>
 pExtract r5 1 fun v8 =>
 bindO (
 pBin Go.Proofs.Try.prog .neq 37 v4 v8 fun v9 =>
 pBool v9 fun b10 => br b10
 (some (.ret, [(.tuple #[(.pointer none), (.pointer none), (.bool false)])], H6))
 (pBin Go.Proofs.Try.prog .eql 23 v3 (.pointer none) fun v11 =>
 pBin Go.Proofs.Try.prog .eql 24 v7 (.pointer none) fun v12 =>
 pBin Go.Proofs.Try.prog .neq 4 v11 v12 fun v13 =>
 pBool v13 fun b14 => br b14
 (some (.ret, [(.tuple #[(.pointer none), (.pointer none), (.bool false)])], H6))
 (some (.next, [], H6)))) fun q15 l16 H17 => onCtl q15
 (pBin Go.Proofs.Try.prog .eql 23 v3 (.pointer none) fun v19 =>
 pBool v19 fun b20 => br b20
 (some ((.tuple #[(.pointer none), (.pointer none), (.bool true)]), H17))
 (bindO (loopD (s8_1 R x1 v3 v7) [(.int .i64 0)] H17) fun q43 l44 H45 => onCtl q43 none
 (fun i46 => onExit i46 0 (
 some ((.tuple #[v3, v7, (.bool true)]), H45)) (
 none))
 (some ((l44.headD undef), H45))))
 (fun i18 => none)
 (some ((l16.headD undef), H17)) := rfl
noncomputable def s13_1 (R : Handler) (x0 : Value) (x1 : Value) (v1 : Value) (l2 : List Value) (H3 : Hp) : Option Outc :=
 pBin Go.Proofs.Try.prog .lss 3 (l2.getD 0 undef) v1 fun v4 =>
 pBool v4 fun b5 => br b5
 (pIdx 1 x1 (l2.getD 0 undef) fun p6 =>
 pLoad 1 false H3 p6 fun v7 =>
 pCallF R 19 [x0, v7] H3 fun r8 H9 =>
 pUn .not r8 fun v10 =>
 pBool v10 fun b11 => br b11
 (some (.ret, [(.tuple #[(.slice none 0 0), (.int .i64 70)])], H9))
 (pBin Go.Proofs.Try.prog .add 3 (l2.getD 0 undef) (.int .i64 1) fun v12 =>
 some (.next, [v12], H9)))
 (some (.exit 0, [(l2.getD 0 undef)], H3))
noncomputable def s13_2 (R : Handler) (x0 : Value) (v21 : Value) (l41 : List Value) (H42 : Hp) : Option Outc :=
 pLen .sl (l41.getD 1 undef) H42 fun v43 =>
 pBin Go.Proofs.Try.prog .gtr 3 v43 (.int .i64 0) fun v44 =>
 pBool v44 fun b45 => br b45
 (pLen .sl (l41.getD 1 undef) H42 fun v46 =>
 pBin Go.Proofs.Try.prog .sub 3 v46 (.int .i64 1) fun v47 =>
 pIdx 2 (l41.getD 1 undef) v47 fun p48 =>
 pNil x0 (
 pOffs 1 x0 fun p49 =>
 pLoad 1 false H42 p49 fun v50 =>
 pNil p48 (
 pOffs 0 p48 fun p51 =>
 pLoad 1 false H42 p51 fun v52 =>
 pBin Go.Proofs.Try.prog .sub 3 v52 (.int .i64 1) fun v53 =>
 pIdx 7 v50 v53 fun p54 =>
 pLoad 7 true H42 p54 fun v55 =>
 pSplice 7 [.int .i64 0, .int .i64 0, .int .i64 0, .int .i64 0, .int .i64 0, .int .u64 0, .string ⟨#[]⟩] 0 v55 fun c56 =>
 pNil p48 (
 pOffs 1 p48 fun p57 =>
 pLoad 1 false H42 p57 fun v58 =>
 pCell 1 false c56 0 fun v59 =>
 pCallF R 29 [v59] H42 fun r60 H61 =>
 chk (Hp.rdP H61 p57 1 false = some v58) (
 pBin Go.Proofs.Try.prog .eql 3 v58 r60 fun v62 =>
 pBool v62 fun b63 => br b63
 (pNil p48 (
 pOffs 0 p48 fun p64 =>
 pLoad 1 false H61 p64 fun v65 =>
 pBuildSlice 1 [.int .i64 0] 1 [(0, v65)] H61 fun v66 H67 =>
 pAppend 1 8 (l41.getD 0 undef) v66 H67 fun v68 H69 =>
 pLen .sl (l41.getD 1 undef) H69 fun v70 =>
 pBin Go.Proofs.Try.prog .sub 3 v70 (.int .i64 1) fun v71 =>
 pSlice 2 (l41.getD 1 undef) none (some v71) fun v72 =>
 some (.next, [v68, v72], H69)))
 (pCell 1 false c56 2 fun v73 =>
 pCell 1 false c56 3 fun v74 =>
 pCell 1 false c56 4 fun v75 =>
 pBuild Go.Proofs.Try.prog 54 [(0, v73), (1, v74), (2, v75)] fun v76 =>
 pNil p48 (
 pOffs 1 p48 fun p77 =>
 pLoad 1 false H61 p77 fun v78 =>
 pAtArr 3 false 1 v76 v78 fun v79 =>
 pNil p48 (
 pOffs 1 p48 fun p80 =>
 pLoad 1 false H61 p80 fun v81 =>
 pBin Go.Proofs.Try.prog .add 3 v81 (.int .i64 1) fun v82 =>
 pNil p48 (
 pOffs 1 p48 fun p83 =>
 pStore 1 H61 p83 v82 fun H84 =>
 pIdx 1 v21 v79 fun p85 =>
 pLoad 1 false H84 p85 fun v86 =>
 pUn .not v86 fun v87 =>
 pBool v87 fun b88 => br b88
 (pIdx 1 v21 v79 fun p89 =>
 pStore 1 H84 p89 (.bool true) fun H90 =>
 pBuild Go.Proofs.Try.prog 72 [(0, v79), (1, (.int .i64 0))] fun v91 =>
 pBuildSlice 2 [.int .i64 0, .int .i64 0] 1 [(0, v91)] H90 fun v92 H93 =>
 pAppend 2 16 (l41.getD 1 undef) v92 H93 fun v94 H95 =>
 some (.next, [(l41.getD 0 undef), v94], H95))
 (some (.next, [(l41.getD 0 undef), (l41.getD 1 undef)], H84)))))))))))
 (some (.exit 4, [(l41.getD 0 undef), (l41.getD 1 undef)], H42))
noncomputable def s13_3 (R : Handler) (x0 : Value) (x1 : Value) (v21 : Value) (v23 : Value) (l24 : List Value) (H25 : Hp) : Option Outc :=
 pBin Go.Proofs.Try.prog .lss 3 (l24.getD 2 undef) v23 fun v26 =>
 pBool v26 fun b27 => br b27
 (pIdx 1 x1 (l24.getD 2 undef) fun p28 =>
 pLoad 1 false H25 p28 fun v29 =>
 pIdx 1 v21 v29 fun p30 =>
 pLoad 1 false H25 p30 fun v31 =>
 pBool v31 fun b32 => br b32
 (pBin Go.Proofs.Try.prog .add 3 (l24.getD 2 undef) (.int .i64 1) fun v33 =>
 some (.next, [(l24.getD 0 undef), (l24.getD 1 undef), v33], H25))
 (pIdx 1 v21 v29 fun p34 =>
 pStore 1 H25 p34 (.bool true) fun H35 =>
 pBuild Go.Proofs.Try.prog 72 [(0, v29), (1, (.int .i64 0))] fun v36 =>
 pBuildSlice 2 [.int .i64 0, .int .i64 0] 1 [(0, v36)] H35 fun v37 H38 =>
 pAppend 2 16 (l24.getD 1 undef) v37 H38 fun v39 H40 =>
 bindO (loopD (s13_2 R x0 v21) [(l24.getD 0 undef), v39] H40) fun q96 l97 H98 => onCtl q96 none
 (fun i99 => onExit i99 4 (
 pBin Go.Proofs.Try.prog .add 3 (l24.getD 2 undef) (.int .i64 1) fun v100 =>
 some (.next, [(l97.getD 0 undef), (l97.getD 1 undef), v100], H98)) (
 onExit i99 3 (
 pBin Go.Proofs.Try.prog .add 3 (l24.getD 2 undef) (.int .i64 1) fun v101 =>
 some (.next, [(l97.getD 0 undef), (l97.getD 1 undef), v101], H98)) (
 some (.exit i99, [(l97.getD 0 undef), (l97.getD 1 undef), (l24.getD 2 undef)], H98))))
 (some (.ret, [(l97.headD undef)], H98))))
 (some (.exit 2, [(l24.getD 0 undef), (l24.getD 1 undef), (l24.getD 2 undef)], H25))
theorem k13 (R : Handler) (x0 x1 : Value) (H0 : Hp) : m13 R x0 x1 H0 =
 pLen .sl x1 H0 fun v1 =>
 bindO (loopD (s13_1 R x0 x1 v1) [(.int .i64 0)] H0) fun q13 l14 H15 => onCtl q13 none
 (fun i16 => onExit i16 0 (
 pNil x0 (
 pOffs 1 x0 fun p17 =>
 pLoad 1 false H15 p17 fun v18 =>
 pLen .sl v18 H15 fun v19 =>
 pBin Go.Proofs.Try.prog .add 3 v19 (.int .i64 1) fun v20 =>
 pMakeSlice 1 1 [.bool false] v20 v20 H15 fun v21 H22 =>
 pLen .sl x1 H22 fun v23 =>
 bindO (loopD (s13_3 R x0 x1 v21 v23) [(.slice none 0 0), (.slice none 0 0), (.int .i64 0)] H22) fun q102 l103 H104 => onCtl q102 none
 (fun i105 => onExit i105 2 (
 some ((.tuple #[(l103.getD 0 undef), (.int .i64 0)]), H104)) (
 none))
 (some ((l103.headD undef), H104)))) (
 none))
 (some ((l14.headD undef), H15)) := rfl
noncomputable def s14_1 (R : Handler) (x0 : Value) (x1 : Value) (l1 : List Value) (H2 : Hp) : Option Outc :=
 pLen .sl x1 H2 fun v3 =>
 pBin Go.Proofs.Try.prog .lss 3 (l1.getD 0 undef) v3 fun v4 =>
 pBool v4 fun b5 => br b5
 (pIdx 1 x1 (l1.getD 0 undef) fun p6 =>
 pLoad 1 false H2 p6 fun v7 =>
 pCallF R 30 [x0, v7] H2 fun r8 H9 =>
 pUn .not r8 fun v10 =>
 pBool v10 fun b11 => br b11
 (some (.ret, [(.tuple #[(.slice none 0 0), (.int .i64 70)])], H9))
 (pBin Go.Proofs.Try.prog .add 3 (l1.getD 0 undef) (.int .i64 1) fun v12 =>
 some (.next, [v12], H9)))
 (some (.exit 0, [(l1.getD 0 undef)], H2))
noncomputable def s14_2 (R : Handler) (v21 : Value) (c51 : List Value) (l52 : List Value) (H53 : Hp) : Option Outc :=
 pBin Go.Proofs.Try.prog .geq 3 (l52.getD 1 undef) (.int .i64 0) fun v54 =>
 pBool v54 fun b55 => br b55
 (pIdxLoc 3 (l52.getD 1 undef) fun j56 =>
 pCell 1 false c51 (0 + j56 * 1) fun v57 =>
 pBin Go.Proofs.Try.prog .gtr 3 v57 (.int .i64 0) fun v58 =>
 pBool v58 fun b59 => br b59
 (pIdxLoc 3 (l52.getD 1 undef) fun j60 =>
 pCell 1 false c51 (0 + j60 * 1) fun v61 =>
 pIdx 1 v21 v61 fun p62 =>
 pLoad 1 false H53 p62 fun v63 =>
 pUn .not v63 fun v64 =>
 pBool v64 fun b65 => br b65
 (pIdxLoc 3 (l52.getD 1 undef) fun j66 =>
 pCell 1 false c51 (0 + j66 * 1) fun v67 =>
 pBin Go.Proofs.Try.prog .sub 3 (l52.getD 1 undef) (.int .i64 1) fun v68 =>
 some (.next, [v67, v68], H53))
 (pBin Go.Proofs.Try.prog .sub 3 (l52.getD 1 undef) (.int .i64 1) fun v69 =>
 some (.next, [(l52.getD 0 undef), v69], H53)))
 (pBin Go.Proofs.Try.prog .sub 3 (l52.getD 1 undef) (.int .i64 1) fun v70 =>
 some (.next, [(l52.getD 0 undef), v70], H53)))
 (some (.exit 6, [(l52.getD 0 undef), (l52.getD 1 undef)], H53))
noncomputable def s14_3 (R : Handler) (x0 : Value) (v21 : Value) (l32 : List Value) (H33 : Hp) : Option Outc :=
 pLen .sl (l32.getD 1 undef) H33 fun v34 =>
 pBin Go.Proofs.Try.prog .gtr 3 v34 (.int .i64 0) fun v35 =>
 pBool v35 fun b36 => br b36
 (pLen .sl (l32.getD 1 undef) H33 fun v37 =>
 pBin Go.Proofs.Try.prog .sub 3 v37 (.int .i64 1) fun v38 =>
 pIdx 1 (l32.getD 1 undef) v38 fun p39 =>
 pLoad 1 false H33 p39 fun v40 =>
 pNil x0 (
 pOffs 1 x0 fun p41 =>
 pLoad 1 false H33 p41 fun v42 =>
 pBin Go.Proofs.Try.prog .sub 3 v40 (.int .i64 1) fun v43 =>
 pIdx 7 v42 v43 fun p44 =>
 pLoad 7 true H33 p44 fun v45 =>
 pSplice 7 [.int .i64 0, .int .i64 0, .int .i64 0, .int .i64 0, .int .i64 0, .int .u64 0, .string ⟨#[]⟩] 0 v45 fun c46 =>
 pCell 1 false c46 2 fun v47 =>
 pCell 1 false c46 3 fun v48 =>
 pCell 1 false c46 4 fun v49 =>
 pBuild Go.Proofs.Try.prog 54 [(0, v47), (1, v48), (2, v49)] fun v50 =>
 pSplice 3 [.int .i64 0, .int .i64 0, .int .i64 0] 0 v50 fun c51 =>
 bindO (loopD (s14_2 R v21 c51) [(.int .i64 0), (.int .i64 2)] H33) fun q71 l72 H73 => onCtl q71 none
 (fun i74 => onExit i74 6 (
 pBin Go.Proofs.Try.prog .gtr 3 (l72.getD 0 undef) (.int .i64 0) fun v75 =>
 pBool v75 fun b76 => br b76
 (pIdx 1 v21 v40 fun p77 =>
 pLoad 1 false H73 p77 fun v78 =>
 pUn .not v78 fun v79 =>
 pBool v79 fun b80 => br b80
 (pBuildSlice 1 [.int .i64 0] 1 [(0, (l72.getD 0 undef))] H73 fun v81 H82 =>
 pAppend 1 8 (l32.getD 1 undef) v81 H82 fun v83 H84 =>
 some (.next, [(l32.getD 0 undef), v83], H84))
 (pIdx 1 v21 v40 fun p85 =>
 pLoad 1 false H73 p85 fun v86 =>
 pUn .not v86 fun v87 =>
 pBool v87 fun b88 => br b88
 (pIdx 1 v21 v40 fun p89 =>
 pStore 1 H73 p89 (.bool true) fun H90 =>
 pBuildSlice 1 [.int .i64 0] 1 [(0, v40)] H90 fun v91 H92 =>
 pAppend 1 8 (l32.getD 0 undef) v91 H92 fun v93 H94 =>
 pLen .sl (l32.getD 1 undef) H94 fun v95 =>
 pBin Go.Proofs.Try.prog .sub 3 v95 (.int .i64 1) fun v96 =>
 pSlice 1 (l32.getD 1 undef) none (some v96) fun v97 =>
 some (.next, [v93, v97], H94))
 (pLen .sl (l32.getD 1 undef) H73 fun v98 =>
 pBin Go.Proofs.Try.prog .sub 3 v98 (.int .i64 1) fun v99 =>
 pSlice 1 (l32.getD 1 undef) none (some v99) fun v100 =>
 some (.next, [(l32.getD 0 undef), v100], H73))))
 (pIdx 1 v21 v40 fun p101 =>
 pLoad 1 false H73 p101 fun v102 =>
 pUn .not v102 fun v103 =>
 pBool v103 fun b104 => br b104
 (pIdx 1 v21 v40 fun p105 =>
 pStore 1 H73 p105 (.bool true) fun H106 =>
 pBuildSlice 1 [.int .i64 0] 1 [(0, v40)] H106 fun v107 H108 =>
 pAppend 1 8 (l32.getD 0 undef) v107 H108 fun v109 H110 =>
 pLen .sl (l32.getD 1 undef) H110 fun v111 =>
 pBin Go.Proofs.Try.prog .sub 3 v111 (.int .i64 1) fun v112 =>
 pSlice 1 (l32.getD 1 undef) none (some v112) fun v113 =>
 some (.next, [v109, v113], H110))
 (pLen .sl (l32.getD 1 undef) H73 fun v114 =>
 pBin Go.Proofs.Try.prog .sub 3 v114 (.int .i64 1) fun v115 =>
 pSlice 1 (l32.getD 1 undef) none (some v115) fun v116 =>
 some (.next, [(l32.getD 0 undef), v116], H73)))) (
 onExit i74 5 (
 some (.next, [(l32.getD 0 undef), (l32.getD 1 undef)], H73)) (
 some (.exit i74, [(l32.getD 0 undef), (l32.getD 1 undef)], H73))))
 (some (.ret, [(l72.headD undef)], H73))))
 (some (.exit 4, [(l32.getD 0 undef), (l32.getD 1 undef)], H33))
noncomputable def s14_4 (R : Handler) (x0 : Value) (x1 : Value) (v21 : Value) (l23 : List Value) (H24 : Hp) : Option Outc :=
 pLen .sl x1 H24 fun v25 =>
 pBin Go.Proofs.Try.prog .lss 3 (l23.getD 1 undef) v25 fun v26 =>
 pBool v26 fun b27 => br b27
 (pIdx 1 x1 (l23.getD 1 undef) fun p28 =>
 pLoad 1 false H24 p28 fun v29 =>
 pBuildSlice 1 [.int .i64 0] 1 [(0, v29)] H24 fun v30 H31 =>
 bindO (loopD (s14_3 R x0 v21) [(l23.getD 0 undef), v30] H31) fun q117 l118 H119 => onCtl q117 none
 (fun i120 => onExit i120 4 (
 pBin Go.Proofs.Try.prog .add 3 (l23.getD 1 undef) (.int .i64 1) fun v121 =>
 some (.next, [(l118.getD 0 undef), v121], H119)) (
 onExit i120 3 (
 pBin Go.Proofs.Try.prog .add 3 (l23.getD 1 undef) (.int .i64 1) fun v122 =>
 some (.next, [(l118.getD 0 undef), v122], H119)) (
 some (.exit i120, [(l118.getD 0 undef), (l23.getD 1 undef)], H119))))
 (some (.ret, [(l118.headD undef)], H119)))
 (some (.exit 2, [(l23.getD 0 undef), (l23.getD 1 undef)], H24))
theorem k14 (R : Handler) (x0 x1 : Value) (H0 : Hp) : m14 R x0 x1 H0 =
 bindO (loopD (s14_1 R x0 x1) [(.int .i64 0)] H0) fun q13 l14 H15 => onCtl q13 none
 (fun i16 => onExit i16 0 (
 pNil x0 (
 pOffs 1 x0 fun p17 =>
 pLoad 1 false H15 p17 fun v18 =>
 pLen .sl v18 H15 fun v19 =>
 pBin Go.Proofs.Try.prog .add 3 v19 (.int .i64 1) fun v20 =>
 pMakeSlice 1 1 [.bool false] v20 v20 H15 fun v21 H22 =>
 bindO (loopD (s14_4 R x0 x1 v21) [(.slice none 0 0), (.int .i64 0)] H22) fun q123 l124 H125 => onCtl q123 none
 (fun i126 => onExit i126 2 (
 some ((.tuple #[(l124.getD 0 undef), (.int .i64 0)]), H125)) (
 none))
 (some ((l124.headD undef), H125)))) (
 none))
 (some ((l14.headD undef), H15)) := rfl
noncomputable def s15_1 (R : Handler) (x0 : Value) (x1 : Value) (l5 : List Value) (H6 : Hp) : Option Outc :=
 pLen .sl x0 H6 fun v7 =>
 pBin Go.Proofs.Try.prog .lss 3 (l5.getD 0 undef) v7 fun v8 =>
 pBool v8 fun b9 => br b9
 (pIdx 1 x0 (l5.getD 0 undef) fun p10 =>
 pLoad 1 false H6 p10 fun v11 =>
 pIdx 1 x1 (l5.getD 0 undef) fun p12 =>
 pLoad 1 false H6 p12 fun v13 =>
 pBin Go.Proofs.Try.prog .neq 3 v11 v13 fun v14 =>
 pBool v14 fun b15 => br b15
 (some (.ret, [(.bool false)], H6))
 (pBin Go.Proofs.Try.prog .add 3 (l5.getD 0 undef) (.int .i64 1) fun v16 =>
 some (.next, [v16], H6)))
 (some (.exit 0, [(l5.getD 0 undef)], H6))
theorem k15 (R : Handler) (x0 x1 : Value) (H0 : Hp) : m15 R x0 x1 H0 =
 pLen .sl x0 H0 fun v1 =>
 pLen .sl x1 H0 fun v2 =>
 pBin Go.Proofs.Try.prog .neq 3 v1 v2 fun v3 =>
 pBool v3 fun b4 => br b4
 (some ((.bool false), H0))
 (bindO (loopD (s15_1 R x0 x1) [(.int .i64 0)] H0) fun q17 l18 H19 => onCtl q17 none
 (fun i20 => onExit i20 0 (
 some ((.bool true), H19)) (
 none))
 (some ((l18.headD undef), H19))) := rfl
noncomputable def s22_1 (R : Handler) (x0 : Value) (x1 : Value) (v24 : Value) (l25 : List Value) (H26 : Hp) : Option Outc :=
 pBin Go.Proofs.Try.prog .lss 3 (l25.getD 0 undef) (.int .i64 3) fun v27 =>
 pBool v27 fun b28 => br b28
 (pAtArr 3 false 1 v24 (l25.getD 0 undef) fun v29 =>
 pCell 1 false (cellsL x1) 0 fun v30 =>
 pCallF R 29 [v30] H26 fun r31 H32 =>
 pBin Go.Proofs.Try.prog .lss 3 (l25.getD 0 undef) r31 fun v33 =>
 pBool v33 fun b34 => br b34
 (pCallF R 19 [x0, v29] H32 fun r35 H36 =>
 pUn .not r35 fun v37 =>
 pBool v37 fun b38 => br b38
 (some (.ret, [(.tuple #[(.int .i64 0), (.int .i64 70)])], H36))
 (pBin Go.Proofs.Try.prog .add 3 (l25.getD 0 undef) (.int .i64 1) fun v39 =>
 some (.next, [v39], H36)))
 (pBin Go.Proofs.Try.prog .add 3 (l25.getD 0 undef) (.int .i64 1) fun v40 =>
 some (.next, [v40], H32)))
 (some (.exit 0, [(l25.getD 0 undef)], H26))
theorem k22 (R : Handler) (x0 x1 : Value) (H0 : Hp) : m22 R x0 x1 H0 =
 bindO (
 pCell 1 false (cellsL x1) 0 fun v1 =>
 pBin Go.Proofs.Try.prog .lss 3 v1 (.int .i64 1) fun v2 =>
 pBool v2 fun b3 => br b3
 (some (.ret, [(.tuple #[(.int .i64 0), (.int .i64 73)])], H0))
 (pCell 1 false (cellsL x1) 0 fun v4 =>
 pBin Go.Proofs.Try.prog .gtr 3 v4 (.int .i64 33) fun v5 =>
 pBool v5 fun b6 => br b6
 (some (.ret, [(.tuple #[(.int .i64 0), (.int .i64 73)])], H0))
 (some (.next, [], H0)))) fun q7 l8 H9 => onCtl q7
 (bindO (
 pCell 1 false (cellsL x1) 1 fun v11 =>
 pBin Go.Proofs.Try.prog .lss 3 v11 (.int .i64 0) fun v12 =>
 pBool v12 fun b13 => br b13
 (some (.ret, [(.tuple #[(.int .i64 0), (.int .i64 5)])], H9))
 (pCell 1 false (cellsL x1) 1 fun v14 =>
 pBin Go.Proofs.Try.prog .gtr 3 v14 (.int .i64 64) fun v15 =>
 pBool v15 fun b16 => br b16
 (some (.ret, [(.tuple #[(.int .i64 0), (.int .i64 5)])], H9))
 (some (.next, [], H9)))) fun q17 l18 H19 => onCtl q17
 (pCell 1 false (cellsL x1) 2 fun v21 =>
 pCell 1 false (cellsL x1) 3 fun v22 =>
 pCell 1 false (cellsL x1) 4 fun v23 =>
 pBuild Go.Proofs.Try.prog 54 [(0, v21), (1, v22), (2, v23)] fun v24 =>
 bindO (loopD (s22_1 R x0 x1 v24) [(.int .i64 0)] H19) fun q41 l42 H43 => onCtl q41 none
 (fun i44 => onExit i44 0 (
 pCell 7 true (cellsL x1) 0 fun v45 =>
 pCallF R 41 [v45] H43 fun r46 H47 =>
 pBool r46 fun b48 => br b48
 (some ((.tuple #[(.int .i64 0), (.int .i64 1)]), H47))
 (pCell 7 true (cellsL x1) 0 fun v49 =>
 pCallF R 42 [x0, v49] H47 fun r50 H51 =>
 pUn .not r50 fun v52 =>
 pBool v52 fun b53 => br b53
 (some ((.tuple #[(.int .i64 0), (.int .i64 71)]), H51))
 (pCell 7 true (cellsL x1) 0 fun v54 =>
 pCallF R 43 [x0, v54] H51 fun r55 H56 =>
 pUn .not r55 fun v57 =>
 pBool v57 fun b58 => br b58
 (some ((.tuple #[(.int .i64 0), (.int .i64 5)]), H56))
 (bindO (
 pCell 1 false (cellsL x1) 0 fun v59 =>
 pBin Go.Proofs.Try.prog .eql 3 v59 (.int .i64 4) fun v60 =>
 pBool v60 fun b61 => br b61
 (pNil x0 (
 pOffs 3 x0 fun p62 =>
 pLoad 1 false H56 p62 fun v63 =>
 pCell 1 false (cellsL x1) 6 fun v64 =>
 pLook Go.Proofs.Try.prog 9 (.int .i64 0) v63 v64 true H56 fun v65 =>
 pExtract v65 0 fun v66 =>
 pExtract v65 1 fun v67 =>
 pCell 1 false (cellsL x1) 6 fun v68 =>
 pCallF R 44 [v68] H56 fun r69 H70 =>
 pUn .not r69 fun v71 =>
 pBool v71 fun b72 => br b72
 (some (.ret, [(.tuple #[(.int .i64 0), (.int .i64 72)])], H70))
 (pBool v67 fun b73 => br b73
 (pCell 1 false (cellsL x1) 1 fun v74 =>
 pBin Go.Proofs.Try.prog .neq 3 v66 v74 fun v75 =>
 pBool v75 fun b76 => br b76
 (some (.ret, [(.tuple #[(.int .i64 0), (.int .i64 72)])], H70))
 (some (.next, [], H70)))
 (some (.next, [], H70)))))
 (some (.next, [], H56))) fun q77 l78 H79 => onCtl q77
 (pNil x0 (
 pOffs 2 x0 fun p81 =>
 pLoad 1 false H79 p81 fun v82 =>
 pCell 7 true (cellsL x1) 0 fun v83 =>
 pLook Go.Proofs.Try.prog 36 (.int .i64 0) v82 v83 true H79 fun v84 =>
 pExtract v84 0 fun v85 =>
 pExtract v84 1 fun v86 =>
 pBool v86 fun b87 => br b87
 (some ((.tuple #[v85, (.int .i64 0)]), H79))
 (bindO (
 pNil x0 (
 pOffs 0 x0 fun p88 =>
 pLoad 1 false H79 p88 fun v89 =>
 pBin Go.Proofs.Try.prog .gtr 3 v89 (.int .i64 0) fun v90 =>
 pBool v90 fun b91 => br b91
 (pNil x0 (
 pOffs 1 x0 fun p92 =>
 pLoad 1 false H79 p92 fun v93 =>
 pLen .sl v93 H79 fun v94 =>
 pNil x0 (
 pOffs 0 x0 fun p95 =>
 pLoad 1 false H79 p95 fun v96 =>
 pBin Go.Proofs.Try.prog .geq 3 v94 v96 fun v97 =>
 pBool v97 fun b98 => br b98
 (some (.ret, [(.tuple #[(.int .i64 0), (.int .i64 4)])], H79))
 (some (.next, [], H79)))))
 (some (.next, [], H79)))) fun q99 l100 H101 => onCtl q99
 (pNil x0 (
 pOffs 1 x0 fun p103 =>
 pLoad 1 false H101 p103 fun v104 =>
 pCell 7 true (cellsL x1) 0 fun v105 =>
 pBuildSlice 7 [.int .i64 0, .int .i64 0, .int .i64 0, .int .i64 0, .int .i64 0, .int .u64 0, .string ⟨#[]⟩] 1 [(0, v105)] H101 fun v106 H107 =>
 chk (Hp.rdP H107 p103 1 false = some v104) (
 pAppend 7 64 v104 v106 H107 fun v108 H109 =>
 pNil x0 (
 pOffs 1 x0 fun p110 =>
 pStore 1 H109 p110 v108 fun H111 =>
 pNil x0 (
 pOffs 2 x0 fun p112 =>
 pLoad 1 false H111 p112 fun v113 =>
 pCell 7 true (cellsL x1) 0 fun v114 =>
 pNil x0 (
 pOffs 1 x0 fun p115 =>
 pLoad 1 false H111 p115 fun v116 =>
 pLen .sl v116 H111 fun v117 =>
 pUpd Go.Proofs.Try.prog 36 v113 v114 v117 H111 fun H118 =>
 pCell 1 false (cellsL x1) 0 fun v119 =>
 pBin Go.Proofs.Try.prog .eql 3 v119 (.int .i64 4) fun v120 =>
 pBool v120 fun b121 => br b121
 (pNil x0 (
 pOffs 3 x0 fun p122 =>
 pLoad 1 false H118 p122 fun v123 =>
 pCell 1 false (cellsL x1) 6 fun v124 =>
 pCell 1 false (cellsL x1) 1 fun v125 =>
 pUpd Go.Proofs.Try.prog 9 v123 v124 v125 H118 fun H126 =>
 pNil x0 (
 pOffs 1 x0 fun p127 =>
 pLoad 1 false H126 p127 fun v128 =>
 pLen .sl v128 H126 fun v129 =>
 some ((.tuple #[v129, (.int .i64 0)]), H126))))
 (pNil x0 (
 pOffs 1 x0 fun p130 =>
 pLoad 1 false H118 p130 fun v131 =>
 pLen .sl v131 H118 fun v132 =>
 some ((.tuple #[v132, (.int .i64 0)]), H118)))))))))
 (fun i102 => none)
 (some ((l100.headD undef), H101)))))
 (fun i80 => none)
 (some ((l78.headD undef), H79)))))) (
 none))
 (some ((l42.headD undef), H43)))
 (fun i20 => none)
 (some ((l18.headD undef), H19)))
 (fun i10 => none)
 (some ((l8.headD undef), H9)) := rfl
noncomputable def s44_1 (R : Handler) (l12 : List Value) (H13 : Hp) : Option Outc :=
 br (Nat.blt (posOf ((l12.drop 0).getD 0 undef)) (strOf ((l12.drop 0).getD 0 undef)).size)
 (bindO (
 pBin Go.Proofs.Try.prog .geq 21 (.int .i32 (Utf8.decode (strOf ((l12.drop 0).getD 0 undef)) (posOf ((l12.drop 0).getD 0 undef))).1) (.int .i32 97) fun v14 =>
 pBool v14 fun b15 => br b15
 (pBin Go.Proofs.Try.prog .leq 21 (.int .i32 (Utf8.decode (strOf ((l12.drop 0).getD 0 undef)) (posOf ((l12.drop 0).getD 0 undef))).1) (.int .i32 122) fun v16 =>
 pBool v16 fun b17 => br b17
 (some (.next, [(.bool true)], H13))
 (pBin Go.Proofs.Try.prog .geq 21 (.int .i32 (Utf8.decode (strOf ((l12.drop 0).getD 0 undef)) (posOf ((l12.drop 0).getD 0 undef))).1) (.int .i32 65) fun v18 =>
 pBool v18 fun b19 => br b19
 (pBin Go.Proofs.Try.prog .leq 21 (.int .i32 (Utf8.decode (strOf ((l12.drop 0).getD 0 undef)) (posOf ((l12.drop 0).getD 0 undef))).1) (.int .i32 90) fun v20 =>
 pBool v20 fun b21 => br b21
 (some (.next, [(.bool true)], H13))
 (pBin Go.Proofs.Try.prog .eql 21 (.int .i32 (Utf8.decode (strOf ((l12.drop 0).getD 0 undef)) (posOf ((l12.drop 0).getD 0 undef))).1) (.int .i32 95) fun v22 =>
 some (.next, [v22], H13)))
 (pBin Go.Proofs.Try.prog .eql 21 (.int .i32 (Utf8.decode (strOf ((l12.drop 0).getD 0 undef)) (posOf ((l12.drop 0).getD 0 undef))).1) (.int .i32 95) fun v23 =>
 some (.next, [v23], H13))))
 (pBin Go.Proofs.Try.prog .geq 21 (.int .i32 (Utf8.decode (strOf ((l12.drop 0).getD 0 undef)) (posOf ((l12.drop 0).getD 0 undef))).1) (.int .i32 65) fun v24 =>
 pBool v24 fun b25 => br b25
 (pBin Go.Proofs.Try.prog .leq 21 (.int .i32 (Utf8.decode (strOf ((l12.drop 0).getD 0 undef)) (posOf ((l12.drop 0).getD 0 undef))).1) (.int .i32 90) fun v26 =>
 pBool v26 fun b27 => br b27
 (some (.next, [(.bool true)], H13))
 (pBin Go.Proofs.Try.prog .eql 21 (.int .i32 (Utf8.decode (strOf ((l12.drop 0).getD 0 undef)) (posOf ((l12.drop 0).getD 0 undef))).1) (.int .i32 95) fun v28 =>
 some (.next, [v28], H13)))
 (pBin Go.Proofs.Try.prog .eql 21 (.int .i32 (Utf8.decode (strOf ((l12.drop 0).getD 0 undef)) (posOf ((l12.drop 0).getD 0 undef))).1) (.int .i32 95) fun v29 =>
 some (.next, [v29], H13)))) fun q30 l31 H32 => onCtl q30
 (pUn .not (l31.getD 0 undef) fun v34 =>
 pBool v34 fun b35 => br b35
 (pBin Go.Proofs.Try.prog .eql 3 (.int .i64 ((posOf ((l12.drop 0).getD 0 undef)) : Nat)) (.int .i64 0) fun v36 =>
 pBool v36 fun b37 => br b37
 (some (.ret, [(.bool false)], H32))
 (pBin Go.Proofs.Try.prog .lss 21 (.int .i32 (Utf8.decode (strOf ((l12.drop 0).getD 0 undef)) (posOf ((l12.drop 0).getD 0 undef))).1) (.int .i32 48) fun v38 =>
 pBool v38 fun b39 => br b39
 (some (.ret, [(.bool false)], H32))
 (pBin Go.Proofs.Try.prog .gtr 21 (.int .i32 (Utf8.decode (strOf ((l12.drop 0).getD 0 undef)) (posOf ((l12.drop 0).getD 0 undef))).1) (.int .i32 57) fun v40 =>
 pBool v40 fun b41 => br b41
 (some (.ret, [(.bool false)], H32))
 (some (.next, [(.tuple #[.string (strOf ((l12.drop 0).getD 0 undef)), .int .i64 (((posOf ((l12.drop 0).getD 0 undef)) + (Utf8.decode (strOf ((l12.drop 0).getD 0 undef)) (posOf ((l12.drop 0).getD 0 undef))).2) : Nat)])], H32)))))
 (some (.next, [(.tuple #[.string (strOf ((l12.drop 0).getD 0 undef)), .int .i64 (((posOf ((l12.drop 0).getD 0 undef)) + (Utf8.decode (strOf ((l12.drop 0).getD 0 undef)) (posOf ((l12.drop 0).getD 0 undef))).2) : Nat)])], H32)))
 (fun i33 => onExit i33 1 (
 some (.next, [(.tuple #[.string (strOf ((l12.drop 0).getD 0 undef)), .int .i64 (((posOf ((l12.drop 0).getD 0 undef)) + (Utf8.decode (strOf ((l12.drop 0).getD 0 undef)) (posOf ((l12.drop 0).getD 0 undef))).2) : Nat)])], H32)) (
 some (.exit i33, [(.tuple #[.string (strOf ((l12.drop 0).getD 0 undef)), .int .i64 (((posOf ((l12.drop 0).getD 0 undef)) + (Utf8.decode (strOf ((l12.drop 0).getD 0 undef)) (posOf ((l12.drop 0).getD 0 undef))).2) : Nat)])], H32)))
 (some (.ret, [(l31.headD undef)], H32)))
 (some (.exit 0, [(.tuple #[.string (strOf ((l12.drop 0).getD 0 undef)), .int .i64 ((posOf ((l12.drop 0).getD 0 undef)) : Nat)])], H13))
theorem k44 (R : Handler) (x0 : Value) (H0 : Hp) : m44 R x0 H0 =
 bindO (
 pLen .str x0 H0 fun v1 =>
 pBin Go.Proofs.Try.prog .lss 3 v1 (.int .i64 1) fun v2 =>
 pBool v2 fun b3 => br b3
 (some (.ret, [(.bool false)], H0))
 (pLen .str x0 H0 fun v4 =>
 pBin Go.Proofs.Try.prog .gtr 3 v4 (.int .i64 24) fun v5 =>
 pBool v5 fun b6 => br b6
 (some (.ret, [(.bool false)], H0))
 (some (.next, [], H0)))) fun q7 l8 H9 => onCtl q7
 (pStrC x0 fun s11 =>
 bindO (loopD (s44_1 R) [(.tuple #[.string s11, .int .i64 (0 : Nat)])] H9) fun q42 l43 H44 => onCtl q42 none
 (fun i45 => onExit i45 0 (
 some ((.bool true), H44)) (
 none))
 (some ((l43.headD undef), H44)))
 (fun i10 => none)
 (some ((l8.headD undef), H9)) := rfl
noncomputable def s50_1 (R : Handler) (x0 : Value) (l16 : List Value) (H17 : Hp) : Option Outc :=
 pLen .str x0 H17 fun v18 =>
 pBin Go.Proofs.Try.prog .lss 3 (l16.getD 0 undef) v18 fun v19 =>
 pBool v19 fun b20 => br b20
 (pAtStr x0 (l16.getD 0 undef) fun v21 =>
 pCallF R 56 [v21] H17 fun r22 H23 =>
 pUn .not r22 fun v24 =>
 pBool v24 fun b25 => br b25
 (pAtStr x0 (l16.getD 0 undef) fun v26 =>
 pBin Go.Proofs.Try.prog .lss 5 v26 (.int .u8 48) fun v27 =>
 pBool v27 fun b28 => br b28
 (some (.ret, [(.bool false)], H23))
 (pAtStr x0 (l16.getD 0 undef) fun v29 =>
 pBin Go.Proofs.Try.prog .gtr 5 v29 (.int .u8 57) fun v30 =>
 pBool v30 fun b31 => br b31
 (some (.ret, [(.bool false)], H23))
 (pBin Go.Proofs.Try.prog .add 3 (l16.getD 0 undef) (.int .i64 1) fun v32 =>
 some (.next, [v32], H23))))
 (pBin Go.Proofs.Try.prog .add 3 (l16.getD 0 undef) (.int .i64 1) fun v33 =>
 some (.next, [v33], H23)))
 (some (.exit 0, [(l16.getD 0 undef)], H17))
theorem k50 (R : Handler) (x0 : Value) (H0 : Hp) : m50 R x0 H0 =
 bindO (
 pLen .str x0 H0 fun v1 =>
 pBin Go.Proofs.Try.prog .lss 3 v1 (.int .i64 1) fun v2 =>
 pBool v2 fun b3 => br b3
 (some (.ret, [(.bool false)], H0))
 (pLen .str x0 H0 fun v4 =>
 pBin Go.Proofs.Try.prog .gtr 3 v4 (.int .i64 24) fun v5 =>
 pBool v5 fun b6 => br b6
 (some (.ret, [(.bool false)], H0))
 (pAtStr x0 (.int .i64 0) fun v7 =>
 pCallF R 56 [v7] H0 fun r8 H9 =>
 pUn .not r8 fun v10 =>
 pBool v10 fun b11 => br b11
 (some (.ret, [(.bool false)], H9))
 (some (.next, [], H9))))) fun q12 l13 H14 => onCtl q12
 (bindO (loopD (s50_1 R x0) [(.int .i64 1)] H14) fun q34 l35 H36 => onCtl q34 none
 (fun i37 => onExit i37 0 (
 some ((.bool true), H36)) (
 none))
 (some ((l35.headD undef), H36)))
 (fun i15 => none)
 (some ((l13.headD undef), H14)) := rfl
noncomputable def s55_1 (R : Handler) (x0 : Value) (l1 : List Value) (H2 : Hp) : Option Outc :=
 pBin Go.Proofs.Try.prog .leq 3 (l1.getD 0 undef) (.int .i64 64) fun v3 =>
 pBool v3 fun b4 => br b4
 (pBin Go.Proofs.Try.prog .eql 3 x0 (l1.getD 0 undef) fun v5 =>
 pBool v5 fun b6 => br b6
 (some (.ret, [(.bool true)], H2))
 (pBin Go.Proofs.Try.prog .mul 3 (.int .i64 2) (l1.getD 0 undef) fun v7 =>
 some (.next, [v7], H2)))
 (some (.exit 0, [(l1.getD 0 undef)], H2))
theorem k55 (R : Handler) (x0 : Value) (H0 : Hp) : m55 R x0 H0 =
 bindO (loopD (s55_1 R x0) [(.int .i64 1)] H0) fun q8 l9 H10 => onCtl q8 none
 (fun i11 => onExit i11 0 (
 some ((.bool false), H10)) (
 none))
 (some ((l9.headD undef), H10)) := rfl
end Go.AM
/- The Term seat: what a script does to a store of the program alone. -/
set_option linter.unusedVariables false
set_option linter.unusedSimpArgs false
namespace Go.AM
open Go
theorem op_cells (os : List OpA) (i j : Nat) (hj : j < 16) : (os.flatMap OpA.cells)[i * 16 + j]? = os[i]?.bind fun o => o.cells[j]? := by
  induction os generalizing i with
  | nil => simp
  | cons n L ih =>
    rw [List.flatMap_cons]
    cases i with
    | zero => rw [Nat.zero_mul, Nat.zero_add, List.getElem?_append_left (by rw [ops_len]; omega)]; rfl
    | succ i =>
      rw [List.getElem?_append_right (by rw [ops_len]; omega), ops_len, show (i + 1) * 16 + j - 16 = i * 16 + j by omega]
      exact ih i
theorem ScR.kind {α : Type} {H : Hp} {os : List OpA} {y : Nat} (h : H.get y = some (.cells (os.flatMap OpA.cells) false)) {i : Nat} {o : OpA} (ho : os[i]? = some o) (k : Value → Option α) :
    pLoad 1 false H (.pointer (some ⟨y, i * 16, none⟩)) k = k (.int .i64 o.kind) :=
  s_load h (i * 16) _ (by have := op_cells os i 0 (by omega); rw [Nat.add_zero] at this; rw [this, ho]; rfl) k
/-- What is known of a store behind some calls. -/
structure Kept (lim : Int) (os : List OpA) (i : Nat) (L : List Nd) : Prop where
  inv : Inv lim L
  len : L.length ≤ i
theorem Kept.roomy {lim : Int} {os : List OpA} {i : Nat} {L : List Nd} (h : Kept lim os i L) (hi : i ≤ os.length) (hf : Fine os) : Roomy L := ⟨h.inv.w, by have := h.len; have := hf.len; omega⟩
theorem loop5a (lim : Int) (os : List OpA) (hf : Fine os) (x : Value) (p f g : Nat) : ∀ (k i : Nat) (L : List Nd) (K : List (ByteArray × Int)) (H : Hp) (sl : Value), os.length = i + k → StF H p lim L K sl f g → Kept lim os i L → ScR H x os →
    ∃ H' L' K' s1, loopD (s5_1 RR (.int .i64 lim) x (.pointer (some ⟨p, 0, none⟩))) [.int .i64 (i : Int)] H = some (.exit 0, [.int .i64 (os.length : Int)], H') ∧ One H lim L K p f g sl H' L' K' s1 ∧ Kept lim os os.length L'
  | 0, i, L, K, H, sl, hk, h, hI, hx => by
    have hi : i = os.length := by omega
    subst hi
    refine ⟨H, L, K, sl, ?_, One.refl h, hI⟩
    rw [loopD_eq]
    have : s5_1 RR (.int .i64 lim) x (.pointer (some ⟨p, 0, none⟩)) [.int .i64 (os.length : Int)] H = some (.exit 0, [.int .i64 (os.length : Int)], H) := by
      unfold s5_1
      simp only [hx.len, s_lss, s_bool, s_brf, List.getD_cons_zero, Int.lt_irrefl, decide_false]
    rw [this]; rfl
  | k + 1, i, L, K, H, sl, hk, h, hI, hx => by
    have hlt : i < os.length := by omega
    have ho : os[i]? = some os[i] := by simp [hlt]
    have hR : Roomy L := hI.roomy (by omega) hf
    have hfl := hf.len
    have hok := hf.ok _ (List.getElem_mem hlt)
    obtain ⟨y, hyl, hy, hix⟩ := hx.at (α := Unit) ho
    obtain ⟨H1, s1, e1, o1⟩ := Does.one (L := L) (K := K) (d12 h hR os[i] hok)
    have hx1 : ScR H1 x os := hx.one h o1
    have hyn : ¬ Foot p f g sl y := fun a => by obtain ⟨o, g1, g2⟩ := h.own a; rw [hy] at g1; cases g1; cases g2
    have hy1 : H1.get y = some (.cells (os.flatMap OpA.cells) false) := by rw [o1.same y hyl hyn]; exact hy
    have hI1 := ask_inv (K := K) os[i] hI.inv
    have hle := ask_le (lim := lim) (L := L) (K := K) os[i]
    have hno := ask_no (lim := lim) (L := L) (K := K) os[i]
    have hag := ask_again (lim := lim) (L := L) (K := K) os[i]
    have hbd := ask_bd (lim := lim) (L := L) (K := K) os[i]
    have hwr : IntKind.i64.wrap ((i : Int) + 1) = ((i + 1 : Nat) : Int) := i64_wrap (by omega) (by omega)
    have hil : (i : Int) < (os.length : Int) := by omega
    have hle0 := hI.len
    generalize hr : askR lim L K os[i] = r at *
    obtain ⟨t, e, L1, K1⟩ := r
    dsimp only at e1 o1 hI1 hle hno hag hbd
    have hK1 : Kept lim os (i + 1) L1 := ⟨hI1, by omega⟩
    -- the rest of the rounds
    have go : ∀ (H2 : Hp) (s2 : Value), One H lim L K p f g sl H2 L1 K1 s2 → s5_1 RR (.int .i64 lim) x (.pointer (some ⟨p, 0, none⟩)) [.int .i64 (i : Int)] H = some (.next, [.int .i64 ((i + 1 : Nat) : Int)], H2) →
        ∃ H' L' K' s1, loopD (s5_1 RR (.int .i64 lim) x (.pointer (some ⟨p, 0, none⟩))) [.int .i64 (i : Int)] H = some (.exit 0, [.int .i64 (os.length : Int)], H') ∧ One H lim L K p f g sl H' L' K' s1 ∧ Kept lim os os.length L' := fun H2 s2 o2 e2 => by
      obtain ⟨H', L', K', s3, g1, g2, g3⟩ := loop5a lim os hf x p f g k (i + 1) L1 K1 H2 s2 (by omega) o2.st hK1 (hx.one h o2)
      exact ⟨H', L', K', s3, by rw [loopD_eq, e2]; exact g1, o2.trans g2, g3⟩
    have c9a := c9 h.st
    have c9b := c9 o1.st.st
    by_cases hk1 : os[i].kind < 1
    · refine go H1 s1 o1 ?_
      unfold s5_1
      simp only [hx.len, s_lss, s_bool, s_brt, List.getD_cons_zero, hil, decide_true, s_call c9a, hix, ScR.ld hy ho, s_call e1, s_ext0, s_ext1, s_call c9b, s_offs, Nat.add_zero, ScR.kind hy1 ho, hk1, s_bind, s_exit, s_onExit, s_add, hwr]
    by_cases hk9 : os[i].kind > 9
    · refine go H1 s1 o1 ?_
      unfold s5_1
      simp only [hx.len, s_lss, s_gtr, s_bool, s_brt, s_brf, List.getD_cons_zero, hil, decide_true, decide_false, s_call c9a, hix, ScR.ld hy ho, s_call e1, s_ext0, s_ext1, s_call c9b, s_offs, Nat.add_zero, ScR.kind hy1 ho, hk1, hk9, s_bind, s_exit, s_onExit, s_add, hwr]
    by_cases he : e = 0
    · subst he
      have hag := hag rfl
      have hbd := hbd ⟨by omega, by omega⟩ rfl
      have hR1 : Roomy L1 := hK1.roomy (by omega) hf
      obtain ⟨H2, s2, e2, o2⟩ := Does.one (L := L1) (K := K1) (d12 o1.st hR1 os[i] hok)
      rw [hag] at e2 o2
      dsimp only at e2 o2
      have c9c := c9 o2.st.st
      refine go H2 s2 (o1.trans o2) ?_
      have wr2 : IntKind.i64.wrap ((L.length : Int) + 1) = (L.length : Int) + 1 := i64_wrap (by omega) (by omega)
      have q1 : ¬ ((L1.length : Int) > (L.length : Int) + 1) := by omega
      have q2 : ¬ (t < 1) := by omega
      have q3 : ¬ (t > (L1.length : Int)) := by omega
      have hlim := hI1.lim
      unfold s5_1
      by_cases hp : lim > 0
      · have q4 : ¬ ((L1.length : Int) > lim) := by have := hlim hp; omega
        simp only [hx.len, s_lss, s_gtr, s_bool, s_brt, s_brf, List.getD_cons_zero, hil, decide_true, decide_false, s_call c9a, hix, ScR.ld hy ho, ScR.ld hy1 ho, s_call e1, s_call e2, s_ext0, s_ext1, s_call c9b, s_call c9c, s_offs, Nat.add_zero, ScR.kind hy1 ho, hk1, hk9, s_bind, s_next, s_add, hwr, s_neq, ne_eq, not_true_eq_false, wr2, q1, q2, q3, hp, q4]
      · simp only [hx.len, s_lss, s_gtr, s_bool, s_brt, s_brf, List.getD_cons_zero, hil, decide_true, decide_false, s_call c9a, hix, ScR.ld hy ho, ScR.ld hy1 ho, s_call e1, s_call e2, s_ext0, s_ext1, s_call c9b, s_call c9c, s_offs, Nat.add_zero, ScR.kind hy1 ho, hk1, hk9, s_bind, s_next, s_add, hwr, s_neq, ne_eq, not_true_eq_false, wr2, q1, q2, q3, hp]
    · have hno := hno he
      injection hno with ht hno
      injection hno with _ hno
      injection hno with hL hK
      subst ht
      subst hL
      refine go H1 s1 o1 ?_
      unfold s5_1
      simp only [hx.len, s_lss, s_gtr, s_bool, s_brt, s_brf, List.getD_cons_zero, hil, decide_true, decide_false, s_call c9a, hix, ScR.ld hy ho, s_call e1, s_ext0, s_ext1, s_call c9b, s_offs, Nat.add_zero, ScR.kind hy1 ho, hk1, hk9, s_bind, s_next, s_add, hwr, s_neq, ne_eq, he, not_true_eq_false, not_false_eq_true]
end Go.AM
/- The Term seat: TermOnce. -/
set_option linter.unusedVariables false
set_option linter.unusedSimpArgs false
namespace Go.AM
open Go
theorem s_lookN {α : Type} {P : Program} {kt : TypeId} {z m key v : Value} {b : Bool} {H : Hp} (h : lookV P kt z m key H = some (v, b)) (k : Value → Option α) : pLook P kt z m key false H k = k v := by unfold pLook; rw [h]
theorem placeOf_take {L : List Nd} (hn : ∀ (i j : Nat) m, L[i]? = some m → L[j]? = some m → i = j) {i : Nat} {n : Nd} (hi : L[i]? = some n) : placeOf n 0 (L.take i) = none := by
  cases hq : placeOf n 0 (L.take i) with
  | none => rfl
  | some q =>
    obtain ⟨_, h2⟩ := placeOf_some n (L.take i) 0 q hq
    rw [Nat.sub_zero, List.getElem?_take] at h2
    split at h2
    · rename_i lt
      have := hn q i n h2 hi
      omega
    · cases h2
theorem ncell2 {α : Type} (n : Nd) (k : Value → Option α) : pCell 1 false n.cells 2 k = k (.int .i64 n.a) := s_cell _ 2 _ rfl k
theorem ncell3 {α : Type} (n : Nd) (k : Value → Option α) : pCell 1 false n.cells 3 k = k (.int .i64 n.b) := s_cell _ 3 _ rfl k
theorem ncell4 {α : Type} (n : Nd) (k : Value → Option α) : pCell 1 false n.cells 4 k = k (.int .i64 n.c) := s_cell _ 4 _ rfl k
theorem loop5b (lim : Int) (L : List Nd) (K : List (ByteArray × Int)) (hI : Inv lim L) (hL : (L.length : Int) ≤ 4611686018427387904) (p f g m : Nat) (sl : Value) : ∀ (k i : Nat) (H : Hp), L.length = i + k → StF H p lim L K sl f g → H.get m = some (.map (foundK 0 (L.take i))) → ¬ Foot p f g sl m →
    ∃ H', loopD (s5_2 RR (.pointer (some ⟨p, 0, none⟩)) (.map (some m))) [.int .i64 ((i + 1 : Nat) : Int)] H = some (.exit 2, [.int .i64 ((L.length + 1 : Nat) : Int)], H')
  | 0, i, H, hk, h, hm, hf => by
    have hi : i = L.length := by omega
    subst hi
    refine ⟨H, ?_⟩
    rw [loopD_eq]
    have q : ¬ (((L.length + 1 : Nat) : Int) ≤ (L.length : Int)) := by omega
    have : s5_2 RR (.pointer (some ⟨p, 0, none⟩)) (.map (some m)) [.int .i64 ((L.length + 1 : Nat) : Int)] H = some (.exit 2, [.int .i64 ((L.length + 1 : Nat) : Int)], H) := by
      unfold s5_2
      simp only [s_call (c9 h.st), s_leq, s_bool, s_brf, List.getD_cons_zero, q, decide_false]
    rw [this]; rfl
  | k + 1, i, H, hk, h, hm, hf => by
    have hlt : i < L.length := by omega
    have hn := nodeAt_get hlt
    have hg : L[i]? = some L[i] := List.getElem?_eq_getElem hlt
    have hp := hI.parts i _ hg
    have hpl := placeOf_take hI.nod hg
    have hlk := look36 hm L[i]
    rw [hpl] at hlk
    have htl : (L.take i).length = i := by rw [List.length_take]; omega
    have hup := upd36 hm L[i] hpl
    have hta : L.take i ++ [L[i]] = L.take (i + 1) := by rw [List.take_add_one, hg]; rfl
    rw [htl, hta] at hup
    generalize hH2 : H.set m (some (.map (foundK 0 (L.take (i + 1))))) = H2 at hup
    have g2 : ∀ j, j ≠ m → H2.get j = H.get j := fun j hj => by rw [← hH2, g_set, if_neg hj]
    have h2 : StF H2 p lim L K sl f g := h.keep (fun j hj => g2 j (fun e => hf (by rw [← e]; exact hj))) (by rw [← hH2]; exact Nat.le_refl _)
    obtain ⟨H', e⟩ := loop5b lim L K hI hL p f g m sl k (i + 1) H2 (by omega) h2 (by rw [← hH2, g_set, if_pos rfl]) hf
    refine ⟨H', ?_⟩
    rw [loopD_eq]
    have hwr : IntKind.i64.wrap (((i + 1 : Nat) : Int) + 1) = ((i + 1 + 1 : Nat) : Int) := i64_wrap (by omega) (by omega)
    have q : ((i + 1 : Nat) : Int) ≤ (L.length : Int) := by omega
    have qa : ¬ (L[i].a ≥ ((i + 1 : Nat) : Int)) := by omega
    have qb : ¬ (L[i].b ≥ ((i + 1 : Nat) : Int)) := by omega
    have qc : ¬ (L[i].c ≥ ((i + 1 : Nat) : Int)) := by omega
    have : s5_2 RR (.pointer (some ⟨p, 0, none⟩)) (.map (some m)) [.int .i64 ((i + 1 : Nat) : Int)] H = some (.next, [.int .i64 ((i + 1 + 1 : Nat) : Int)], H2) := by
      unfold s5_2
      simp only [s_call (c9 h.st), s_leq, s_bool, s_brt, s_brf, List.getD_cons_zero, q, decide_true, decide_false, s_call (c10 h.st hL _), hn.1, hn.2, s_ext0, s_ext1, if_true, spl7, ncell7, ncell2, ncell3, ncell4, s_neq, ne_eq, not_true_eq_false, s_lookN hlk, s_geq, qa, qb, qc, s_upd hup, s_add, hwr]
    rw [this]
    exact e
theorem run5 (lim : Int) (os : List OpA) (hf : Fine os) (x : Value) (H : Hp) (hx : ScR H x os) : ∃ H', RR 5 [.int .i64 lim, x] H = some (.bool true, H') := by
  have hr := (r5 E0 rfl (.int .i64 lim) x H).trans (k5 _ _ _ _)
  by_cases hl : lim < 0
  · rw [s_call (c11_neg lim H hl), s_ext0, s_ext1, s_pnil0 23 und23, s_bool, s_brt] at hr
    exact ⟨_, hr⟩
  · obtain ⟨H1, p, f, g, e1, st1, n1, old1, ft1⟩ := c11_pos lim H hl
    have hx1 : ScR H1 x os := hx.keep (fun y cs h1 h2 => by rw [old1 y h1]; exact h2) n1
    obtain ⟨H2, L, K, s2, e2, o2, hK⟩ := loop5a lim os hf x p f g os.length 0 [] [] H1 _ (by omega) st1 ⟨Inv.nil lim, by simp⟩ hx1
    have hll := hK.len
    have hfl := hf.len
    have st2 : StF (H2.new (.map [])) p lim L K s2 f g := o2.st.keep (fun i hi => by have := o2.st.foot_lt hi; rw [g_new, if_neg (by omega)]) (by show H2.next ≤ H2.next + 1; omega)
    obtain ⟨H3, e3⟩ := loop5b lim L K hK.inv (by omega) p f g H2.next s2 L.length 0 (H2.new (.map [])) (by omega) st2 (by rw [g_new, if_pos rfl]; rfl) (fun a => by have := o2.st.foot_lt a; omega)
    refine ⟨H3, ?_⟩
    rw [s_call e1, s_ext0, s_ext1, s_pnil 23 _ und23, s_bool, s_brf, s_not, s_bool, show (!true) = false from rfl, s_brf, s_bind, s_next] at hr
    rw [show ((0 : Nat) : Int) = 0 from rfl] at e2
    rw [e2, s_bind, s_exit, s_onExit] at hr
    unfold pNewMap at hr
    dsimp only at hr
    rw [show ((0 + 1 : Nat) : Int) = 1 from rfl] at e3
    rw [e3, s_bind, s_exit, s_onExit] at hr
    exact hr
end Go.AM
/- The abstract machine: slices that are owned, and what leaves the rest as it was. -/
set_option linter.unusedVariables false
set_option linter.unusedSimpArgs false
namespace Go.AM
open Go
/-- Nothing else is touched. -/
structure Frm (M : Nat → Prop) (H H' : Hp) : Prop where
  next : H.next ≤ H'.next
  same : ∀ j, j < H.next → ¬ M j → H'.get j = H.get j
theorem Frm.refl (M : Nat → Prop) (H : Hp) : Frm M H H := ⟨Nat.le_refl _, fun _ _ _ => rfl⟩
theorem Frm.trans {M N : Nat → Prop} {H H1 H2 : Hp} (h : Frm M H H1) (k : Frm N H1 H2) (hn : ∀ j, N j → M j ∨ H.next ≤ j) : Frm M H H2 :=
  ⟨Nat.le_trans h.next k.next, fun j hj hm => by
    rw [k.same j (Nat.lt_of_lt_of_le hj h.next) (fun q => by rcases hn j q with a | a; exact hm a; omega), h.same j hj hm]⟩
theorem Frm.mono {M N : Nat → Prop} {H H' : Hp} (h : Frm M H H') (hn : ∀ j, M j → N j ∨ H.next ≤ j) : Frm N H H' := ⟨h.next, fun j hj hm => h.same j hj fun q => by rcases hn j q with a | a; exact hm a; omega⟩
/-- A slice's object. -/
def vid : Value → Option Nat
  | .slice (some a) _ _ => some a.block
  | _ => none
def Id (v : Value) (j : Nat) : Prop := vid v = some j
theorem get_new (H : Hp) (o : AObj) (i : Nat) : (H.new o).get i = if i = H.next then some o else H.get i := rfl
theorem get_set (H : Hp) (j : Nat) (o : Option AObj) (i : Nat) : (H.set j o).get i = if i = j then o else H.get i := rfl
theorem fr_new (H : Hp) (o : AObj) (M : Nat → Prop) : Frm M H (H.new o) := ⟨by show H.next ≤ H.next + 1; omega, fun j hj _ => by rw [get_new, if_neg (by omega)]⟩
theorem fr_set (H : Hp) (i : Nat) (o : Option AObj) (M : Nat → Prop) (hm : M i) : Frm M H (H.set i o) := ⟨Nat.le_refl _, fun j hj hn => by rw [get_set, if_neg (fun e => hn (by rw [e]; exact hm))]⟩

/-- A slice that is owned: so many elements, their cells. -/
def Vec (H : Hp) (sz : Nat) (v : Value) (n : Nat) (cs : List Value) : Prop :=
  (n = 0 ∧ cs = [] ∧ v = .slice none 0 0) ∨ ∃ y c rest, v = .slice (some ⟨y, 0, some sz⟩) n c ∧ n ≤ c ∧ H.get y = some (.cells (cs ++ rest) true) ∧ cs.length = n * sz ∧ rest.length = (c - n) * sz ∧ y < H.next ∧ rest.all one = true
section
variable {H H' : Hp} {sz : Nat} {v : Value} {n : Nat} {cs : List Value}
theorem Vec.len (h : Vec H sz v n cs) {α : Type} (H' : Hp) (k : Value → Option α) : pLen .sl v H' k = k (.int .i64 n) := by
  rcases h with ⟨rfl, _, rfl⟩ | ⟨y, c, rest, rfl, _⟩ <;> rfl
theorem Vec.lenV (h : Vec H sz v n cs) (H' : Hp) : AM.lenV .sl v H' = some (.int .i64 n) := by
  rcases h with ⟨rfl, _, rfl⟩ | ⟨y, c, rest, rfl, _⟩ <;> rfl
theorem Vec.size (h : Vec H sz v n cs) : cs.length = n * sz := by
  rcases h with ⟨rfl, rfl, _⟩ | ⟨y, c, rest, _, _, _, h, _⟩
  · simp
  · exact h
theorem Vec.lt (h : Vec H sz v n cs) {j : Nat} (hj : Id v j) : j < H.next := by
  rcases h with ⟨_, _, rfl⟩ | ⟨y, c, rest, rfl, _, _, _, _, h, _⟩
  · cases hj
  · cases hj; exact h
theorem Vec.own (h : Vec H sz v n cs) {j : Nat} (hj : Id v j) : ∃ cs, H.get j = some (.cells cs true) := by
  rcases h with ⟨_, _, rfl⟩ | ⟨y, c, rest, rfl, _, h, _⟩
  · cases hj
  · cases hj; exact ⟨_, h⟩
theorem Vec.keep' (h : Vec H sz v n cs) (hg : ∀ j, Id v j → H'.get j = H.get j) (hn : H.next ≤ H'.next) : Vec H' sz v n cs := by
  rcases h with e | ⟨y, c, rest, rfl, h1, h2, h3, h4, h5, h6⟩
  · exact .inl e
  · exact .inr ⟨y, c, rest, rfl, h1, by rw [hg y rfl]; exact h2, h3, h4, Nat.lt_of_lt_of_le h5 hn, h6⟩
theorem Vec.keep {M : Nat → Prop} (h : Vec H sz v n cs) (k : Frm M H H') (hm : ∀ j, Id v j → ¬ M j) : Vec H' sz v n cs :=
  h.keep' (fun j hj => k.same j (h.lt hj) (hm j hj)) k.next
theorem Vec.nil (H : Hp) (sz : Nat) : Vec H sz (.slice none 0 0) 0 [] := .inl ⟨rfl, rfl, rfl⟩
/-- An element's address. -/
theorem Vec.ix (h : Vec H sz v n cs) {i : Nat} (hi : i < n) : ∃ y, Id v y ∧ (∃ rest, H.get y = some (.cells (cs ++ rest) true)) ∧ ∀ (α : Type) (kd : IntKind) (k : Value → Option α), pIdx sz v (.int kd (i : Int)) k = k (.pointer (some ⟨y, i * sz, none⟩)) := by
  rcases h with ⟨rfl, _, _⟩ | ⟨y, c, rest, rfl, h1, h2, h3, h4, h5⟩
  · omega
  · refine ⟨y, rfl, ⟨rest, h2⟩, fun α kd k => ?_⟩
    unfold pIdx idxV
    have : sz = sz ∧ (0 : Int) ≤ (i : Int) ∧ (i : Int) < (n : Int) := ⟨rfl, by omega, by omega⟩
    simp only [this, and_self, if_true, Nat.zero_add, Int.toNat_natCast]
theorem ld_cell {y : Nat} {rest : List Value} {own : Bool} (h : H.get y = some (.cells (cs ++ rest) own)) {o : Nat} {x : Value} (hx : cs[o]? = some x) {α : Type} (k : Value → Option α) : pLoad 1 false H (.pointer (some ⟨y, o, none⟩)) k = k x := by
  have hlt := (List.getElem?_eq_some_iff.1 hx).1
  have : (cs ++ rest)[o]? = some x := by rw [List.getElem?_append_left hlt]; exact hx
  simp [pLoad, Hp.rdP, Hp.rd, h, rdCells, this]
theorem ld_agg {y : Nat} {rest : List Value} {own : Bool} (h : H.get y = some (.cells (cs ++ rest) own)) {o m : Nat} (ho : o + m ≤ cs.length) {α : Type} (k : Value → Option α) : pLoad m true H (.pointer (some ⟨y, o, none⟩)) k = k (.agg ((cs.drop o).take m).toArray) := by
  have h1 : o + m ≤ (cs ++ rest).length := by rw [List.length_append]; omega
  have h2 : ((cs ++ rest).drop o).take m = (cs.drop o).take m := by
    rw [List.drop_append_of_le_length (by omega), List.take_append_of_le_length (by rw [List.length_drop]; omega)]
  simp only [pLoad, Hp.rdP, Hp.rd, h, rdCells, h1, if_true, h2]
theorem Vec.ids (h : Vec H sz v n cs) {y : Nat} (hy : Id v y) : ∃ c rest, v = .slice (some ⟨y, 0, some sz⟩) n c ∧ n ≤ c ∧ H.get y = some (.cells (cs ++ rest) true) ∧ cs.length = n * sz ∧ rest.length = (c - n) * sz ∧ y < H.next ∧ rest.all one = true := by
  rcases h with ⟨_, _, rfl⟩ | ⟨y', c, rest, rfl, h⟩
  · cases hy
  · cases hy; exact ⟨c, rest, rfl, h⟩
/-- Some cells are written. -/
theorem Vec.set (h : Vec H sz v n cs) {y o m : Nat} (hy : Id v y) {x : Value} (hm : (cellsL x).length = m) (ho : o + m ≤ cs.length) (h1 : (cellsL x).all one = true) :
    ∃ H', (∀ (α : Type) (k : Hp → Option α), pStore m H (.pointer (some ⟨y, o, none⟩)) x k = k H') ∧ Vec H' sz v n (spl cs o (cellsL x)) ∧ Frm (Id v) H H' ∧ H'.next = H.next := by
  obtain ⟨c, rest, rfl, g1, g2, g3, g4, g5, g6⟩ := h.ids hy
  have hs : spl (cs ++ rest) o (cellsL x) = spl cs o (cellsL x) ++ rest := by
    unfold spl
    rw [List.take_append_of_le_length (by omega), List.drop_append_of_le_length (by omega)]
    simp
  have hw : wrCells m (cs ++ rest) o x = some (spl cs o (cellsL x) ++ rest) := by
    unfold wrCells
    rw [if_pos ⟨hm, by rw [List.length_append]; omega, h1⟩, hs]
  have hl : (spl cs o (cellsL x)).length = cs.length := by
    unfold spl
    simp only [List.length_append, List.length_take, List.length_drop, hm]
    omega
  refine ⟨H.set y (some (.cells (spl cs o (cellsL x) ++ rest) true)), fun α k => ?_, .inr ⟨y, c, rest, rfl, g1, ?_, by rw [hl]; exact g3, g4, g5, g6⟩, fr_set _ _ _ _ rfl, rfl⟩
  · unfold pStore
    have : H.wr (.pointer (some ⟨y, o, none⟩)) m x = some (H.set y (some (.cells (spl cs o (cellsL x) ++ rest) true))) := by
      show (match H.get y with | some (.cells cs true) => (match wrCells m cs o x with | some cs' => some (H.set y (some (.cells cs' true))) | none => none) | _ => none) = _
      rw [g2]; dsimp only; rw [hw]
    rw [this]
  · rw [get_set, if_pos rfl]
/-- The last elements are dropped. -/
theorem Vec.cut (h : Vec H sz v n cs) (hcs : cs.all one = true) {m : Nat} (hm : m ≤ n) : ∃ v', (∀ (α : Type) (kd : IntKind) (k : Value → Option α), pSlice sz v none (some (.int kd (m : Int))) k = k v') ∧ Vec H sz v' m (cs.take (m * sz)) ∧ (∀ j, Id v' j → Id v j) := by
  rcases h with ⟨rfl, rfl, rfl⟩ | ⟨y, c, rest, rfl, h1, h2, h3, h4, h5, h6⟩
  · obtain rfl : m = 0 := by omega
    refine ⟨.slice none 0 0, fun α kd k => ?_, by simpa using Vec.nil H sz, fun j hj => hj⟩
    unfold pSlice sliceV
    simp [optInt]
  · refine ⟨.slice (some ⟨y, 0, some sz⟩) m c, fun α kd k => ?_, .inr ⟨y, c, cs.drop (m * sz) ++ rest, rfl, by omega, ?_, ?_, ?_, h5, ?_⟩, fun j hj => hj⟩
    · have : sliceV sz (.slice (some ⟨y, 0, some sz⟩) n c) none (some (.int kd (m : Int))) = some (.slice (some ⟨y, 0, some sz⟩) m c) := by
        unfold sliceV
        dsimp only [optInt]
        rw [if_pos ⟨rfl, by omega, by omega, by omega⟩]
        simp
      unfold pSlice
      rw [this]
    · rw [← List.append_assoc, List.take_append_drop]; exact h2
    · rw [List.length_take, h3]; exact Nat.min_eq_left (Nat.mul_le_mul_right sz hm)
    · rw [List.length_append, List.length_drop, h3, h4, Nat.sub_mul, Nat.sub_mul]
      have a1 := Nat.mul_le_mul_right sz hm
      have a2 := Nat.mul_le_mul_right sz h1
      rw [Nat.sub_mul] at *
      omega
    · rw [List.all_append, Bool.and_eq_true]
      refine ⟨?_, h6⟩
      rw [List.all_eq_true] at hcs ⊢
      exact fun x hx => hcs x (List.mem_of_mem_drop hx)
/-- A new slice of zeros. -/
theorem repl_len (zs : List Value) : ∀ n, (repl n zs).length = n * zs.length
  | 0 => by simp [repl]
  | n + 1 => by show (zs ++ repl n zs).length = _; rw [List.length_append, repl_len zs n, Nat.succ_mul]; omega
theorem Vec.make (H : Hp) {sz bytes : Nat} {zs : List Value} (hz : zs.length = sz) {n : Nat} (hb : n * bytes ≤ 2 ^ 47) :
    ∃ v, (∀ (α : Type) (k : Value → Hp → Option α), pMakeSlice sz bytes zs (.int .i64 (n : Int)) (.int .i64 (n : Int)) H k = k v (H.new (.cells (repl n zs) true))) ∧ Vec (H.new (.cells (repl n zs) true)) sz v n (repl n zs) ∧ (∀ j, Id v j → j = H.next) := by
  refine ⟨.slice (some ⟨H.next, 0, some sz⟩) n n, fun α k => ?_, .inr ⟨H.next, n, [], rfl, Nat.le_refl _, ?_, by rw [repl_len, hz], by simp, by show H.next < H.next + 1; omega, rfl⟩, fun j hj => by cases hj; rfl⟩
  · have e : ((2 : Int) ^ 47) = ((2 ^ 47 : Nat) : Int) := by rfl
    have hb' : (n : Int) * (bytes : Int) ≤ 2 ^ 47 := by rw [e, ← Int.natCast_mul]; exact Int.ofNat_le.2 hb
    have : makeSliceV sz bytes zs (.int .i64 (n : Int)) (.int .i64 (n : Int)) H = some (.slice (some ⟨H.next, 0, some sz⟩) n n, H.new (.cells (repl n zs) true)) := by
      unfold makeSliceV
      dsimp only
      rw [if_pos ⟨by omega, by omega, hb'⟩]
      rfl
    unfold pMakeSlice
    rw [this]
  · rw [get_new, if_pos rfl, List.append_nil]
/-- One element more. -/
theorem Vec.push (h : Vec H sz v n cs) {bytes : Nat} {zs : List Value} {x : Value} (hs : 0 < sz) (hs2 : sz ≤ 2 ^ 24) (hz : zs.length = sz) (hx : (cellsL x).length = sz) (h1 : (cellsL x).all one = true) (hb : (n + 1) * bytes ≤ 2 ^ 47) :
    ∃ v' H', (∀ (α : Type) (k : Value → Hp → Option α), (pBuildSlice sz zs 1 [(0, x)] H fun t H1 => pAppend sz bytes v t H1 k) = k v' H') ∧ Vec H' sz v' (n + 1) (cs ++ cellsL x) ∧ Frm (Id v) H H' ∧ (∀ j, Id v' j → Id v j ∨ H.next ≤ j) ∧ (∃ j, Id v' j) := by
  have hbuild : buildSliceV sz zs 1 [(0, x)] H = some (.slice (some ⟨H.next, 0, some sz⟩) 1 1, H.new (.cells (cellsL x) true)) := by
    unfold buildSliceV
    rw [if_neg (by omega)]
    have e0 : spl (repl 1 zs) (0 * sz) (cellsL x) = cellsL x := by
      unfold spl
      have : (repl 1 zs).length = sz := by rw [repl_len, hz, Nat.one_mul]
      rw [Nat.zero_mul, List.take_zero, List.nil_append, List.drop_of_length_le (by omega), List.append_nil]
    have : fillL (fun i => some (i * sz, sz)) (repl 1 zs) [(0, x)] = some (cellsL x) := by
      unfold fillL
      dsimp only
      rw [if_pos ⟨hx, by rw [repl_len, hz]; omega, h1⟩, e0]
      rfl
    rw [this]
  have hb' : ∀ (α : Type) (k : Value → Hp → Option α), (pBuildSlice sz zs 1 [(0, x)] H fun t H1 => pAppend sz bytes v t H1 k) = pAppend sz bytes v (.slice (some ⟨H.next, 0, some sz⟩) 1 1) (H.new (.cells (cellsL x) true)) k := fun α k => by
    unfold pBuildSlice; rw [hbuild]
  generalize hH1 : H.new (.cells (cellsL x) true) = H1 at hb'
  have n1 : H1.next = H.next + 1 := by rw [← hH1]; rfl
  have g1 : ∀ j, j < H.next → H1.get j = H.get j := fun j hj => by rw [← hH1, get_new, if_neg (by omega)]
  have gt : H1.get H.next = some (.cells (cellsL x) true) := by rw [← hH1, get_new, if_pos rfl]
  have hsrc : srcCells sz (.slice (some ⟨H.next, 0, some sz⟩) 1 1) H1 = some (1, cellsL x) := by
    unfold srcCells
    dsimp only
    rw [if_pos rfl, gt]
    dsimp only
    rw [if_pos (by omega), List.drop_zero, List.take_of_length_le (by omega)]
  rcases h with ⟨rfl, rfl, rfl⟩ | ⟨y, c, rest, rfl, k1, k2, k3, k4, k5, k6⟩
  · refine ⟨.slice (some ⟨H1.next, 0, some sz⟩) 1 1, H1.new (.cells (cellsL x) true), fun α k => ?_, .inr ⟨H1.next, 1, [], rfl, Nat.le_refl _, ?_, by simpa using hx, by simp, by show H1.next < H1.next + 1; omega, rfl⟩, ⟨by show H.next ≤ H1.next + 1; omega, fun j hj _ => by rw [get_new, if_neg (by omega), g1 j hj]⟩, fun j hj => ?_, ⟨_, rfl⟩⟩
    · rw [hb']
      unfold pAppend appendV
      rw [hsrc]
      dsimp only
      rw [if_neg (by decide), if_pos ⟨by omega, h1⟩]
      rfl
    · rw [get_new, if_pos rfl, List.nil_append, List.append_nil]
    · cases hj; exact .inr (by show H.next ≤ H1.next; omega)
  · have gy : H1.get y = some (.cells (cs ++ rest) true) := by rw [g1 y k5]; exact k2
    have hyn : y ≠ H.next := by omega
    by_cases hc : n + 1 ≤ c
    · -- in place
      have hrl : sz ≤ rest.length := by
        rw [k4]
        have : 1 * sz ≤ (c - n) * sz := Nat.mul_le_mul_right sz (by omega)
        omega
      have hsp : spl (cs ++ rest) (0 + n * sz) (cellsL x) = (cs ++ cellsL x) ++ rest.drop sz := by
        unfold spl
        rw [Nat.zero_add, ← k3, List.take_left' rfl, hx]
        rw [List.drop_append, List.drop_of_length_le (by omega), List.nil_append, Nat.add_sub_cancel_left]
      refine ⟨.slice (some ⟨y, 0, some sz⟩) (n + 1) c, H1.set y (some (.cells ((cs ++ cellsL x) ++ rest.drop sz) true)), fun α k => ?_, .inr ⟨y, c, rest.drop sz, rfl, hc, ?_, ?_, ?_, by show y < H1.next; omega, ?_⟩, ⟨by show H.next ≤ H1.next; omega, fun j hj hm => ?_⟩, fun j hj => ?_, ⟨_, rfl⟩⟩
      · rw [hb']
        unfold pAppend appendV
        rw [hsrc]
        dsimp only
        rw [if_neg (by simp), if_neg (by omega), gy]
        dsimp only
        rw [if_pos hc, if_pos ⟨by rw [List.length_append, k3, k4]; have := Nat.mul_le_mul_right sz hc; rw [Nat.sub_mul]; have := Nat.mul_le_mul_right sz k1; omega, h1⟩, hsp]
      · rw [get_set, if_pos rfl]
      · rw [List.length_append, k3, hx, Nat.succ_mul]
      · rw [List.length_drop, k4]
        have : (c - n) * sz = (c - (n + 1)) * sz + sz := by rw [← Nat.succ_mul]; congr 1; omega
        omega
      · rw [List.all_eq_true] at k6 ⊢
        exact fun z hz => k6 z (List.mem_of_mem_drop hz)
      · rw [get_set, if_neg (fun e => hm (by rw [e]; rfl)), g1 j hj]
      · cases hj; exact .inl rfl
    · -- it moves
      refine ⟨.slice (some ⟨H1.next, 0, some sz⟩) (n + 1) (n + 1), (H1.set y none).new (.cells (cs ++ cellsL x) true), fun α k => ?_, .inr ⟨H1.next, n + 1, [], rfl, Nat.le_refl _, ?_, ?_, by simp, by show H1.next < H1.next + 1; omega, rfl⟩, ⟨by show H.next ≤ H1.next + 1; omega, fun j hj hm => ?_⟩, fun j hj => ?_, ⟨_, rfl⟩⟩
      · rw [hb']
        unfold pAppend appendV
        rw [hsrc]
        dsimp only
        have ht : ((cs ++ rest).drop 0).take (n * sz) = cs := by rw [List.drop_zero, ← k3, List.take_left' rfl]
        rw [if_neg (by simp), if_neg (by omega), gy]
        dsimp only
        rw [if_neg hc, if_pos ⟨by rw [List.length_append, k3]; omega, hb, h1⟩, ht]
      · rw [get_new, if_pos (show H1.next = (H1.set y none).next from rfl), List.append_nil]
      · rw [List.length_append, k3, hx, Nat.succ_mul]
      · rw [get_new, if_neg (by show ¬ j = H1.next; omega), get_set, if_neg (fun e => hm (by rw [e]; rfl)), g1 j hj]
      · cases hj; exact .inr (by show H.next ≤ H1.next; omega)
end
end Go.AM
/- The Term seat: the program's order, a round. -/
set_option linter.unusedVariables false
set_option linter.unusedSimpArgs false
namespace Go.AM
open Go
def ints (l : List Nat) : List Value := l.map fun (t : Nat) => Value.int .i64 (t : Int)
def bools (l : List Bool) : List Value := l.map .bool
def plc (x : Nat × Nat) : List Value := [.int .i64 (x.1 : Int), .int .i64 (x.2 : Int)]
def places (l : List (Nat × Nat)) : List Value := l.flatMap plc
theorem ints_len (l : List Nat) : (ints l).length = l.length := by simp [ints]
theorem ints_one (l : List Nat) : (ints l).all one = true := by simp [ints, one]
theorem bools_one (l : List Bool) : (bools l).all one = true := by simp [bools, one]
theorem ints_app (l m : List Nat) : ints (l ++ m) = ints l ++ ints m := by simp [ints]
theorem places_len : ∀ l : List (Nat × Nat), (places l).length = l.length * 2
  | [] => rfl
  | x :: l => by
    show (plc x ++ places l).length = _
    rw [List.length_append, places_len l, List.length_cons]
    show 2 + _ = _; omega
theorem places_app (l m : List (Nat × Nat)) : places (l ++ m) = places l ++ places m := by simp [places]
theorem places_one : ∀ l : List (Nat × Nat), (places l).all one = true
  | [] => rfl
  | x :: l => by
    show (plc x ++ places l).all one = true
    rw [List.all_append, places_one l]; rfl
theorem places_last (l : List (Nat × Nat)) (x : Nat × Nat) : (places (l ++ [x]))[l.length * 2]? = some (.int .i64 (x.1 : Int)) ∧ (places (l ++ [x]))[l.length * 2 + 1]? = some (.int .i64 (x.2 : Int)) := by
  rw [places_app]
  have h := places_len l
  constructor
  · rw [List.getElem?_append_right (by omega), h, Nat.sub_self]; rfl
  · rw [List.getElem?_append_right (by omega), h, Nat.add_sub_cancel_left]; rfl
/-- What the order's rounds keep: the store as it was, three slices of their own. -/
structure PS (H0 H : Hp) (lv : Value) (out : List Nat) (sv : Value) (stk : List (Nat × Nat)) (bv : Value) (seen : List Bool) : Prop where
  next : H0.next ≤ H.next
  old : ∀ j, j < H0.next → H.get j = H0.get j
  l : Vec H 1 lv out.length (ints out)
  s : Vec H 2 sv stk.length (places stk)
  b : Vec H 1 bv seen.length (bools seen)
  al : ∀ j, Id lv j → H0.next ≤ j
  as' : ∀ j, Id sv j → H0.next ≤ j
  ab : ∀ j, Id bv j → H0.next ≤ j
  ls : ∀ j, Id lv j → ¬ Id sv j
  lb : ∀ j, Id lv j → ¬ Id bv j
  sb : ∀ j, Id sv j → ¬ Id bv j
section
variable {H0 H : Hp} {lv sv bv : Value} {out : List Nat} {stk : List (Nat × Nat)} {seen : List Bool} (h : PS H0 H lv out sv stk bv seen)
include h
theorem PS.at0 {p f g : Nat} {lim : Int} {L : List Nd} {K : List (ByteArray × Int)} {sl : Value} (hst : StF H0 p lim L K sl f g) : StF H p lim L K sl f g :=
  hst.keep (fun i hi => h.old i (hst.foot_lt hi)) h.next
/-- A term is seen. -/
theorem PS.see {i : Nat} (hi : i < seen.length) : ∃ y, Id bv y ∧ (∀ (α : Type) (kd : IntKind) (k : Value → Option α), pIdx 1 bv (.int kd (i : Int)) k = k (.pointer (some ⟨y, i * 1, none⟩))) ∧
    ∃ H', (∀ (α : Type) (k : Hp → Option α), pStore 1 H (.pointer (some ⟨y, i * 1, none⟩)) (.bool true) k = k H') ∧ PS H0 H' lv out sv stk bv (seen.set i true) ∧ H'.next = H.next := by
  obtain ⟨y, hy, _, hix⟩ := h.b.ix hi
  have hl : (bools seen).length = seen.length := by simp [bools]
  obtain ⟨H', h1, h2, h3, h4⟩ := h.b.set hy (m := 1) (o := i * 1) (x := .bool true) rfl (by rw [hl]; omega) rfl
  refine ⟨y, hy, hix, H', h1, ⟨?_, fun j hj => ?_, h.l.keep h3 h.lb, h.s.keep h3 h.sb, ?_, h.al, h.as', h.ab, h.ls, h.lb, h.sb⟩, h4⟩
  · rw [h4]; exact h.next
  · rw [h3.same j (Nat.lt_of_lt_of_le hj h.next) (fun q => by have := h.ab j q; omega), h.old j hj]
  · have e : spl (bools seen) (i * 1) (cellsL (.bool true)) = bools (seen.set i true) := by
      unfold spl bools
      show (seen.map Value.bool).take (i * 1) ++ [Value.bool true] ++ (seen.map Value.bool).drop (i * 1 + 1) = _
      rw [Nat.mul_one, List.map_set, List.set_eq_take_append_cons_drop, if_pos (by simpa using hi)]
      simp
    rw [e] at h2
    rw [List.length_set]; exact h2
theorem PS.seen_at {i : Nat} {b : Bool} (hi : seen[i]? = some b) : ∃ y, Id bv y ∧ (∀ (α : Type) (kd : IntKind) (k : Value → Option α), pIdx 1 bv (.int kd (i : Int)) k = k (.pointer (some ⟨y, i * 1, none⟩))) ∧
    (∀ (α : Type) (k : Value → Option α), pLoad 1 false H (.pointer (some ⟨y, i * 1, none⟩)) k = k (.bool b)) := by
  have hlt := (List.getElem?_eq_some_iff.1 hi).1
  obtain ⟨y, hy, ⟨rest, hg⟩, hix⟩ := h.b.ix hlt
  exact ⟨y, hy, hix, fun α k => ld_cell hg (by rw [Nat.mul_one]; unfold bools; rw [List.getElem?_map, hi]; rfl) k⟩
/-- A place more. -/
theorem PS.push (t : Nat) {zs : List Value} (hz : zs.length = 2) (hb : (stk.length + 1) * 16 ≤ 2 ^ 47) :
    ∃ sv' H', (∀ (α : Type) (k : Value → Hp → Option α), (pBuildSlice 2 zs 1 [(0, .agg #[.int .i64 (t : Int), .int .i64 0])] H fun x H1 => pAppend 2 16 sv x H1 k) = k sv' H') ∧ PS H0 H' lv out sv' (stk ++ [(t, 0)]) bv seen := by
  obtain ⟨sv', H', h1, h2, h3, h4, h5⟩ := h.s.push (bytes := 16) (zs := zs) (x := .agg #[.int .i64 (t : Int), .int .i64 0]) (by decide) (by decide) hz rfl rfl hb
  have hn := h.next
  refine ⟨sv', H', h1, ⟨Nat.le_trans h.next h3.next, fun j hj => ?_, h.l.keep h3 h.ls, ?_, h.b.keep h3 (fun j a b => h.sb j b a), h.al, fun j hj => ?_, h.ab, fun j a b => ?_, h.lb, fun j a b => ?_⟩⟩
  · rw [h3.same j (Nat.lt_of_lt_of_le hj h.next) (fun q => by have := h.as' j q; omega), h.old j hj]
  · have : places (stk ++ [(t, 0)]) = places stk ++ cellsL (.agg #[.int .i64 (t : Int), .int .i64 0]) := by rw [places_app]; rfl
    rw [this, List.length_append]; exact h2
  · rcases h4 j hj with q | q
    · exact h.as' j q
    · omega
  · rcases h4 j b with q | q
    · exact h.ls j a q
    · have := h.l.lt a; omega
  · rcases h4 j a with q | q
    · exact h.sb j q b
    · have := h.b.lt b; omega
/-- The last place is dropped. -/
theorem PS.pop {below : List (Nat × Nat)} {x : Nat × Nat} (hs : stk = below ++ [x]) : ∃ sv', (∀ (α : Type) (kd : IntKind) (k : Value → Option α), pSlice 2 sv none (some (.int kd (below.length : Int))) k = k sv') ∧ PS H0 H lv out sv' below bv seen := by
  subst hs
  obtain ⟨sv', h1, h2, h3⟩ := h.s.cut (places_one _) (m := below.length) (by simp)
  refine ⟨sv', h1, ⟨h.next, h.old, h.l, ?_, h.b, h.al, fun j a => h.as' j (h3 j a), h.ab, fun j a b => h.ls j a (h3 j b), h.lb, fun j a b => h.sb j (h3 j a) b⟩⟩
  rw [places_app, List.take_left' (places_len below)] at h2
  exact h2
/-- A term is told. -/
theorem PS.tell (t : Nat) (hb : (out.length + 1) * 8 ≤ 2 ^ 47) :
    ∃ lv' H', (∀ (α : Type) (k : Value → Hp → Option α), (pBuildSlice 1 [.int .i64 0] 1 [(0, .int .i64 (t : Int))] H fun x H1 => pAppend 1 8 lv x H1 k) = k lv' H') ∧ PS H0 H' lv' (out ++ [t]) sv stk bv seen := by
  obtain ⟨lv', H', h1, h2, h3, h4, h5⟩ := h.l.push (bytes := 8) (zs := [.int .i64 0]) (x := .int .i64 (t : Int)) (by decide) (by decide) rfl rfl rfl hb
  have hn := h.next
  refine ⟨lv', H', h1, ⟨Nat.le_trans h.next h3.next, fun j hj => ?_, ?_, h.s.keep h3 (fun j a b => h.ls j b a), h.b.keep h3 (fun j a b => h.lb j b a), fun j hj => ?_, h.as', h.ab, fun j a b => ?_, fun j a b => ?_, h.sb⟩⟩
  · rw [h3.same j (Nat.lt_of_lt_of_le hj h.next) (fun q => by have := h.al j q; omega), h.old j hj]
  · rw [ints_app, List.length_append]; exact h2
  · rcases h4 j hj with q | q
    · exact h.al j q
    · omega
  · rcases h4 j a with q | q
    · exact h.ls j q b
    · have := h.s.lt b; omega
  · rcases h4 j a with q | q
    · exact h.lb j q b
    · have := h.b.lt b; omega
/-- The last place goes on. -/
theorem PS.step {below : List (Nat × Nat)} {t j : Nat} (hs : stk = below ++ [(t, j)]) : ∃ y, (∀ (α : Type) (kd : IntKind) (k : Value → Option α), pIdx 2 sv (.int kd (below.length : Int)) k = k (.pointer (some ⟨y, below.length * 2, none⟩))) ∧
    (∀ (α : Type) (k : Value → Option α), pLoad 1 false H (.pointer (some ⟨y, below.length * 2, none⟩)) k = k (.int .i64 (t : Int))) ∧
    (∀ (α : Type) (k : Value → Option α), pLoad 1 false H (.pointer (some ⟨y, below.length * 2 + 1, none⟩)) k = k (.int .i64 (j : Int))) ∧
    Hp.rdP H (.pointer (some ⟨y, below.length * 2 + 1, none⟩)) 1 false = some (.int .i64 (j : Int)) ∧
    ∃ H', (∀ (α : Type) (k : Hp → Option α), pStore 1 H (.pointer (some ⟨y, below.length * 2 + 1, none⟩)) (.int .i64 ((j + 1 : Nat) : Int)) k = k H') ∧ PS H0 H' lv out sv (below ++ [(t, j + 1)]) bv seen := by
  subst hs
  have hlt : below.length < (below ++ [(t, j)]).length := by simp
  obtain ⟨y, hy, ⟨rest, hg⟩, hix⟩ := h.s.ix hlt
  obtain ⟨p1, p2⟩ := places_last below (t, j)
  have hl : (places (below ++ [(t, j)])).length = below.length * 2 + 2 := by rw [places_len, List.length_append]; simp; omega
  obtain ⟨H', h1, h2, h3, h4⟩ := h.s.set hy (m := 1) (o := below.length * 2 + 1) (x := .int .i64 ((j + 1 : Nat) : Int)) rfl (by rw [hl]; omega) rfl
  refine ⟨y, hix, fun α k => ld_cell hg p1 k, fun α k => ld_cell hg p2 k, ?_, H', h1, ⟨by rw [h4]; exact h.next, fun i hi => ?_, h.l.keep h3 h.ls, ?_, h.b.keep h3 (fun i a b => h.sb i b a), h.al, h.as', h.ab, h.ls, h.lb, h.sb⟩⟩
  · have : (places (below ++ [(t, j)]) ++ rest)[below.length * 2 + 1]? = some (.int .i64 (j : Int)) := by rw [List.getElem?_append_left (by omega)]; exact p2
    simp only [Hp.rdP, Hp.rd, hg, rdCells, this]
  · rw [h3.same i (Nat.lt_of_lt_of_le hi h.next) (fun q => by have := h.as' i q; omega), h.old i hi]
  · have e : spl (places (below ++ [(t, j)])) (below.length * 2 + 1) (cellsL (.int .i64 ((j + 1 : Nat) : Int))) = places (below ++ [(t, j + 1)]) := by
      rw [places_app, places_app]
      unfold spl
      have hb := places_len below
      show (places below ++ [Value.int .i64 (t : Int), Value.int .i64 (j : Int)]).take (below.length * 2 + 1) ++ [Value.int .i64 ((j + 1 : Nat) : Int)] ++ (places below ++ [Value.int .i64 (t : Int), Value.int .i64 (j : Int)]).drop (below.length * 2 + 1 + 1) = places below ++ [Value.int .i64 (t : Int), Value.int .i64 ((j + 1 : Nat) : Int)]
      rw [List.take_append, hb, List.drop_append, hb, List.take_of_length_le (by omega), List.drop_of_length_le (by omega), Nat.add_sub_cancel_left, show below.length * 2 + 1 + 1 - below.length * 2 = 2 by omega]
      simp
    rw [e] at h2
    rw [List.length_append] at h2 ⊢
    exact h2
end
end Go.AM
/- The Term seat: the program's order, what leads to one term. -/
set_option linter.unusedVariables false
set_option linter.unusedSimpArgs false
namespace Go.AM
open Go
theorem nodup_len : ∀ (n : Nat) (l : List Nat), l.Nodup → (∀ x ∈ l, 1 ≤ x ∧ x ≤ n) → l.length ≤ n
  | 0, l, _, h => by
    cases l with
    | nil => simp
    | cons a l => have := h a (List.mem_cons_self ..); omega
  | n + 1, l, hn, h => by
    by_cases hm : n + 1 ∈ l
    · have h1 := nodup_len n (l.erase (n + 1)) (hn.erase _) fun x hx => by
        have := (List.Nodup.mem_erase_iff hn).1 hx
        have := h x this.2
        omega
      rw [List.length_erase_of_mem hm] at h1
      omega
    · have := nodup_len n l hn fun x hx => by
        have := h x hx
        have : x ≠ n + 1 := fun e => hm (e ▸ hx)
        omega
      omega
theorem posts_nodup {L : List Nd} (h : Dag L) : ∀ (t : Nat), 1 ≤ t → ∀ (out : List Nat), out.Nodup → (post L t out).Nodup := by
  intro t
  induction t using Nat.strongRecOn with
  | _ t ih =>
    intro ht out hn
    rw [post_eq h ht]
    split
    · exact hn
    · rename_i hm
      have key : ∀ (l : List Nat) (o : List Nat), (∀ c ∈ l, c ∈ kids L t) → o.Nodup → (posts L l o).Nodup := by
        intro l
        induction l with
        | nil => exact fun o _ h => h
        | cons c l ihl =>
          intro o hl ho
          have hc := kids_lt h ht (hl c (List.mem_cons_self ..))
          exact ihl _ (fun c hc => hl c (List.mem_cons_of_mem _ hc)) (ih c hc.2 hc.1 o ho)
      refine List.nodup_append.2 ⟨key _ _ (fun c hc => hc) hn, by simp, fun x hx y hy => ?_⟩
      rw [List.mem_singleton] at hy
      subst hy
      intro e
      subst e
      rcases (posts_mem h (N := x - 1) (kids L x) out fun c hc => by have := kids_lt h ht hc; omega).2.2 x hx with q | q
      · exact hm q
      · omega
theorem posts_nd {L : List Nd} (h : Dag L) : ∀ (l : List Nat) (o : List Nat), (∀ c ∈ l, 1 ≤ c) → o.Nodup → (posts L l o).Nodup
  | [], o, _, ho => ho
  | c :: l, o, hl, ho => posts_nd h l _ (fun c hc => hl c (List.mem_cons_of_mem _ hc)) (posts_nodup h c (hl c (List.mem_cons_self ..)) o ho)
/-- Which terms are seen: those that are told, and those on the stack. -/
structure Seen (N : Nat) (seen : List Bool) (out : List Nat) (stk : List (Nat × Nat)) : Prop where
  len : seen.length = N + 1
  at' : ∀ x, x ≤ N → seen[x]? = some (decide (x ∈ out ∨ x ∈ stk.map Prod.fst))
/-- What is told so far. -/
structure Told (N : Nat) (out : List Nat) : Prop where
  nd : out.Nodup
  bd : ∀ x ∈ out, 1 ≤ x ∧ x ≤ N
theorem Told.len {N : Nat} {out : List Nat} (h : Told N out) : out.length ≤ N := nodup_len N out h.nd h.bd
theorem Told.posts {L : List Nd} {N : Nat} {out l : List Nat} (h : Told N out) (hd : Dag L) (hl : ∀ c ∈ l, 1 ≤ c ∧ c ≤ N) : Told N (posts L l out) :=
  ⟨posts_nd hd l out (fun c hc => (hl c hc).1) h.nd, fun x hx => by
    rcases (posts_mem hd l out hl).2.2 x hx with q | q
    · exact h.bd x q
    · exact q⟩
theorem arr3 {α : Type} {a b c : Int} {j : Nat} {x : Int} (h : [a, b, c][j]? = some x) (k : Value → Option α) : pAtArr 3 false 1 (.agg #[.int .i64 a, .int .i64 b, .int .i64 c]) (.int .i64 (j : Int)) k = k (.int .i64 x) := by
  match j, h with
  | 0, h => cases h; rfl
  | 1, h => cases h; rfl
  | 2, h => cases h; rfl
  | n + 3, h => simp at h
theorem build72 {α : Type} (t : Int) (k : Value → Option α) : pBuild Go.Proofs.Try.prog 72 [(0, .int .i64 t), (1, .int .i64 0)] k = k (.agg #[.int .i64 t, .int .i64 0]) := bld (by kernel_rfl) k
theorem ncell0 {α : Type} (n : Nd) (k : Value → Option α) : pCell 1 false n.cells 0 k = k (.int .i64 n.op) := s_cell _ 0 _ rfl k
theorem partsT_nn (op : Int) : (0 : Int) ≤ partsT op ∧ partsT op ≤ 3 := by rcases partsT_cases op with q | q | q | q <;> rw [q] <;> decide
theorem Seen.told {N : Nat} {seen : List Bool} {out : List Nat} {below : List (Nat × Nat)} {t j : Nat} (h : Seen N seen out (below ++ [(t, j)])) : Seen N seen (out ++ [t]) below :=
  ⟨h.len, fun x hx => by
    rw [h.at' x hx]
    congr 2
    simp only [List.map_append, List.map_cons, List.map_nil, List.mem_append, List.mem_singleton, eq_iff_iff]
    constructor
    · rintro (q | q | q)
      · exact .inl (.inl q)
      · exact .inr q
      · exact .inl (.inr q)
    · rintro ((q | q) | q)
      · exact .inl q
      · exact .inr (.inr q)
      · exact .inr (.inl q)⟩
theorem Seen.next {N : Nat} {seen : List Bool} {out : List Nat} {below : List (Nat × Nat)} {t j i : Nat} (h : Seen N seen out (below ++ [(t, j)])) : Seen N seen out (below ++ [(t, i)]) :=
  ⟨h.len, fun x hx => by rw [h.at' x hx]; congr 2; simp⟩
theorem Seen.add {N : Nat} {seen : List Bool} {out : List Nat} {stk : List (Nat × Nat)} {c i : Nat} (h : Seen N seen out stk) (hc : c ≤ N) : Seen N (seen.set c true) out (stk ++ [(c, i)]) :=
  ⟨by rw [List.length_set]; exact h.len, fun x hx => by
    rw [List.getElem?_set]
    by_cases e : c = x
    · subst e
      rw [if_pos rfl, if_pos (by rw [h.len]; omega)]
      simp
    · rw [if_neg e, h.at' x hx]
      congr 2
      have : ¬ x = c := fun q => e q.symm
      simp [this]⟩
section
variable {H0 : Hp} {p f g : Nat} {lim : Int} {L : List Nd} {K : List (ByteArray × Int)} {sl : Value} (hst : StF H0 p lim L K sl f g) (hd : Dag L) (hL : L.length * 64 ≤ 2 ^ 46) (bv : Value)
include hst hd hL
theorem fwd : ∀ t, 1 ≤ t → t ≤ L.length → ∀ (m j : Nat), j + m = (kids L t).length → ∀ (out : List Nat) (below : List (Nat × Nat)) (seen : List Bool) (H : Hp) (lv sv : Value),
    PS H0 H lv out sv (below ++ [(t, j)]) bv seen → Seen L.length seen out (below ++ [(t, j)]) → Told L.length out → (∀ x ∈ below, t < x.1) → below.length + t ≤ L.length → t ∉ out →
    ∃ H' lv' sv' seen', loopD (s13_2 RR (.pointer (some ⟨p, 0, none⟩)) bv) [lv, sv] H = loopD (s13_2 RR (.pointer (some ⟨p, 0, none⟩)) bv) [lv', sv'] H' ∧
      PS H0 H' lv' (posts L ((kids L t).drop j) out ++ [t]) sv' below bv seen' ∧ Seen L.length seen' (posts L ((kids L t).drop j) out ++ [t]) below := by
  intro t
  induction t using Nat.strongRecOn with
  | _ t ih =>
    intro h1 hN m
    obtain ⟨n, hn⟩ : ∃ n, L[t - 1]? = some n := ⟨_, List.getElem?_eq_getElem (by omega)⟩
    have hk : kids L t = kidsN n := by unfold kids; rw [hn]
    obtain ⟨kl, kg, kb⟩ := kidsN_get hd hn
    have hpn := partsT_nn n.op
    induction m with
    | zero =>
      intro j hj out below seen H lv sv hp hs ht hb hbl hto
      have hst' := hp.at0 hst
      obtain ⟨y, e1, e2, e3, e4, _⟩ := hp.step rfl
      obtain ⟨sl', hsl, hix⟩ := hst'.st.all.ix (i := t - 1) (by omega) (α := Outc)
      have hol := ht.len
      obtain ⟨lv1, H1, t1, p1⟩ := hp.tell t (by omega)
      obtain ⟨sv1, c1, p2⟩ := p1.pop rfl
      have hlen : (below ++ [(t, j)]).length = below.length + 1 := by simp
      have w1 : IntKind.i64.wrap (((below.length + 1 : Nat) : Int) - 1) = (below.length : Int) := by rw [i64_wrap (by omega) (by omega)]; omega
      have w2 : IntKind.i64.wrap ((t : Int) - 1) = ((t - 1 : Nat) : Int) := by rw [i64_wrap (by omega) (by omega)]; omega
      have q1 : ((below.length + 1 : Nat) : Int) > 0 := by omega
      have hjp : (j : Int) = partsT n.op := by rw [hk, kl] at hj; omega
      have e4' := e4
      rw [hjp] at e4'
      have hls : ∀ {α : Type} (H' : Hp) (k : Value → Option α), pLen .sl sv H' k = k (.int .i64 ((below.length + 1 : Nat) : Int)) := fun H' k => by rw [hp.s.len, hlen]
      have hdrop : (kids L t).drop j = [] := List.drop_of_length_le (by omega)
      rw [hdrop]
      refine ⟨H1, lv1, sv1, seen, ?_, p2, hs.told⟩
      rw [loopD_eq]
      have : s13_2 RR (.pointer (some ⟨p, 0, none⟩)) bv [lv, sv] H = some (.next, [lv1, sv1], H1) := by
        unfold s13_2
        simp only [List.getD_cons_succ, List.getD_cons_zero, hls, s_gtr, q1, decide_true, s_bool, s_brt, s_sub, w1, e1, s_nil, s_offs, Nat.zero_add, Nat.add_zero, hst'.st.l1, e2, e3, w2, hix, ld7 hsl hn, spl7, ncell0, s_call (c29 _ _), s_chk e4', s_eql, hjp, t1, c1]
      rw [this]; rfl
    | succ m ihm =>
      intro j hj out below seen H lv sv hp hs ht hb hbl hto
      have hst' := hp.at0 hst
      obtain ⟨y, e1, e2, e3, e4, H1, e5, p1⟩ := hp.step rfl
      obtain ⟨sl', hsl, hix⟩ := hst'.st.all.ix (i := t - 1) (by omega) (α := Outc)
      have hlen : (below ++ [(t, j)]).length = below.length + 1 := by simp
      have w1 : IntKind.i64.wrap (((below.length + 1 : Nat) : Int) - 1) = (below.length : Int) := by rw [i64_wrap (by omega) (by omega)]; omega
      have w2 : IntKind.i64.wrap ((t : Int) - 1) = ((t - 1 : Nat) : Int) := by rw [i64_wrap (by omega) (by omega)]; omega
      have w3 : IntKind.i64.wrap ((j : Int) + 1) = ((j + 1 : Nat) : Int) := by
        have : j < 3 := by rw [hk, kl] at hj; omega
        exact i64_wrap (by omega) (by omega)
      have q1 : ((below.length + 1 : Nat) : Int) > 0 := by omega
      have hjp : ¬ (j : Int) = partsT n.op := by rw [hk, kl] at hj; omega
      have hj3 : j < 3 := by rw [hk, kl] at hj; omega
      obtain ⟨x, hx⟩ : ∃ x, [n.a, n.b, n.c][j]? = some x := ⟨_, List.getElem?_eq_getElem (by simpa using hj3)⟩
      obtain ⟨g1, g2, g3⟩ := kg j x hx (by rw [hk] at hj; omega)
      have hls : ∀ {α : Type} (H' : Hp) (k : Value → Option α), pLen .sl sv H' k = k (.int .i64 ((below.length + 1 : Nat) : Int)) := fun H' k => by rw [hp.s.len, hlen]
      have hxc : x = ((x.toNat : Nat) : Int) := by omega
      generalize x.toNat = c at g1 hxc
      subst hxc
      have hcN : c ≤ L.length := by omega
      have hct : c < t := by omega
      have hc1 : 1 ≤ c := by omega
      have hdrop : (kids L t).drop j = c :: (kids L t).drop (j + 1) := by
        rw [hk]
        have hlt : j < (kidsN n).length := (List.getElem?_eq_some_iff.1 g1).1
        rw [List.drop_eq_getElem_cons hlt]
        have : (kidsN n)[j] = c := (List.getElem?_eq_some_iff.1 g1).2
        rw [this]
      rw [hdrop, posts_cons]
      have hsc := hs.at' c hcN
      have hs1 : Seen L.length seen out (below ++ [(t, j + 1)]) := hs.next
      by_cases hco : c ∈ out
      · -- told
        have hsc' : seen[c]? = some true := by rw [hsc]; congr 1; simp [hco]
        obtain ⟨z, z0, z1, z2⟩ := p1.seen_at hsc'
        obtain ⟨H', lv', sv', seen', r1, r2, r3⟩ := ihm (j + 1) (by omega) out below seen H1 lv sv p1 hs1 ht hb hbl hto
        rw [post_in hd hc1 hco]
        refine ⟨H', lv', sv', seen', ?_, r2, r3⟩
        rw [← r1, loopD_eq]
        have : s13_2 RR (.pointer (some ⟨p, 0, none⟩)) bv [lv, sv] H = some (.next, [lv, sv], H1) := by
          unfold s13_2
          simp only [List.getD_cons_succ, List.getD_cons_zero, hls, s_gtr, q1, decide_true, s_bool, s_brt, s_brf, s_sub, w1, e1, s_nil, s_offs, Nat.zero_add, Nat.add_zero, hst'.st.l1, e2, e3, w2, hix, ld7 hsl hn, spl7, ncell0, ncell2, ncell3, ncell4, s_call (c29 _ _), s_chk e4, s_eql, hjp, decide_false, s_build3, arr3 hx, s_add, w3, e5, z1, z2, s_not, Bool.not_true]
        rw [this]; rfl
      · have hcs : c ∉ (below ++ [(t, j)]).map Prod.fst := fun q => by
          simp only [List.map_append, List.map_cons, List.map_nil, List.mem_append, List.mem_singleton, List.mem_map] at q
          rcases q with ⟨u, hu, e⟩ | e
          · have := hb u hu; omega
          · omega
        have hsc' : seen[c]? = some false := by rw [hsc]; congr 1; simpa [hco] using hcs
        obtain ⟨z, z0, z1, z2⟩ := p1.seen_at hsc'
        have hclt : c < seen.length := by rw [hs.len]; omega
        obtain ⟨z', hz', z3, H2, z4, p2, _⟩ := p1.see hclt
        obtain rfl : z' = z := Option.some.inj (hz'.symm.trans z0)
        have hlen1 : (below ++ [(t, j + 1)]).length = below.length + 1 := by simp
        obtain ⟨sv3, H3, z5, p3⟩ := p2.push c (zs := [.int .i64 0, .int .i64 0]) rfl (by rw [hlen1]; omega)
        have hs3 : Seen L.length (seen.set c true) out ((below ++ [(t, j + 1)]) ++ [(c, 0)]) := hs1.add hcN
        have hkc : 0 + (kids L c).length = (kids L c).length := by omega
        obtain ⟨H4, lv4, sv4, seen4, r1, r2, r3⟩ := ih c hct hc1 hcN (kids L c).length 0 hkc out (below ++ [(t, j + 1)]) (seen.set c true) H3 lv sv3 p3 hs3 ht
          (fun u hu => by
            rcases List.mem_append.1 hu with hu | hu
            · have := hb u hu; omega
            · rw [List.mem_singleton] at hu; subst hu; exact hct) (by rw [hlen1]; omega) hco
        rw [List.drop_zero, ← post_out hd hc1 hco] at r2 r3
        have ht4 : Told L.length (post L c out) := ht.posts (l := [c]) hd fun c' hc' => by rw [List.mem_singleton] at hc'; subst hc'; exact ⟨hc1, hcN⟩
        have hto4 : t ∉ post L c out := fun q => by
          rcases (post_mem hd c hc1 out).2.2 t q with q | q
          · exact hto q
          · omega
        obtain ⟨H5, lv5, sv5, seen5, s1, s2, s3⟩ := ihm (j + 1) (by omega) (post L c out) below seen4 H4 lv4 sv4 r2 r3 ht4 hb hbl hto4
        refine ⟨H5, lv5, sv5, seen5, ?_, s2, s3⟩
        rw [← s1, ← r1, loopD_eq]
        have : s13_2 RR (.pointer (some ⟨p, 0, none⟩)) bv [lv, sv] H = some (.next, [lv, sv3], H3) := by
          unfold s13_2
          simp only [List.getD_cons_succ, List.getD_cons_zero, hls, s_gtr, q1, decide_true, s_bool, s_brt, s_brf, s_sub, w1, e1, s_nil, s_offs, Nat.zero_add, Nat.add_zero, hst'.st.l1, e2, e3, w2, hix, ld7 hsl hn, spl7, ncell0, ncell2, ncell3, ncell4, s_call (c29 _ _), s_chk e4, s_eql, hjp, decide_false, s_build3, arr3 hx, s_add, w3, e5, z1, z2, s_not, Bool.not_false, z3, z4, build72, z5]
        rw [this]; rfl
end
end Go.AM
/- The abstract machine: slices that are read; appending them. -/
set_option linter.unusedVariables false
set_option linter.unusedSimpArgs false
namespace Go.AM
open Go
/-- A slice that may be read. -/
def Rdb (H : Hp) (sz : Nat) (v : Value) (n : Nat) (cs : List Value) : Prop :=
  (n = 0 ∧ cs = [] ∧ v = .slice none 0 0) ∨ ∃ y c rest own, v = .slice (some ⟨y, 0, some sz⟩) n c ∧ n ≤ c ∧ H.get y = some (.cells (cs ++ rest) own) ∧ cs.length = n * sz ∧ y < H.next
section
variable {H H' : Hp} {sz : Nat} {v : Value} {n : Nat} {cs : List Value}
theorem Vec.rd (h : Vec H sz v n cs) : Rdb H sz v n cs := by
  rcases h with e | ⟨y, c, rest, rfl, h1, h2, h3, h4, h5, h6⟩
  · exact .inl e
  · exact .inr ⟨y, c, rest, true, rfl, h1, h2, h3, h5⟩
theorem Rdb.len (h : Rdb H sz v n cs) {α : Type} (H' : Hp) (k : Value → Option α) : pLen .sl v H' k = k (.int .i64 n) := by
  rcases h with ⟨rfl, _, rfl⟩ | ⟨y, c, rest, own, rfl, _⟩ <;> rfl
theorem Rdb.size (h : Rdb H sz v n cs) : cs.length = n * sz := by
  rcases h with ⟨rfl, rfl, _⟩ | ⟨y, c, rest, own, _, _, _, h, _⟩
  · simp
  · exact h
theorem Rdb.lt (h : Rdb H sz v n cs) {j : Nat} (hj : Id v j) : j < H.next := by
  rcases h with ⟨_, _, rfl⟩ | ⟨y, c, rest, own, rfl, _, _, _, h⟩
  · cases hj
  · cases hj; exact h
theorem Rdb.keep' (h : Rdb H sz v n cs) (hg : ∀ j, Id v j → H'.get j = H.get j) (hn : H.next ≤ H'.next) : Rdb H' sz v n cs := by
  rcases h with e | ⟨y, c, rest, own, rfl, h1, h2, h3, h4⟩
  · exact .inl e
  · exact .inr ⟨y, c, rest, own, rfl, h1, by rw [hg y rfl]; exact h2, h3, Nat.lt_of_lt_of_le h4 hn⟩
theorem Rdb.keep {M : Nat → Prop} (h : Rdb H sz v n cs) (k : Frm M H H') (hm : ∀ j, Id v j → ¬ M j) : Rdb H' sz v n cs :=
  h.keep' (fun j hj => k.same j (h.lt hj) (hm j hj)) k.next
theorem Rdb.ix (h : Rdb H sz v n cs) {i : Nat} (hi : i < n) : ∃ y, Id v y ∧ (∃ rest own, H.get y = some (.cells (cs ++ rest) own)) ∧ ∀ (α : Type) (kd : IntKind) (k : Value → Option α), pIdx sz v (.int kd (i : Int)) k = k (.pointer (some ⟨y, i * sz, none⟩)) := by
  rcases h with ⟨rfl, _, _⟩ | ⟨y, c, rest, own, rfl, h1, h2, h3, h4⟩
  · omega
  · refine ⟨y, rfl, ⟨rest, own, h2⟩, fun α kd k => ?_⟩
    unfold pIdx idxV
    have : sz = sz ∧ (0 : Int) ≤ (i : Int) ∧ (i : Int) < (n : Int) := ⟨rfl, by omega, by omega⟩
    simp only [this, and_self, if_true, Nat.zero_add, Int.toNat_natCast]
theorem Rdb.src (h : Rdb H sz v n cs) : srcCells sz v H = some (n, cs) := by
  rcases h with ⟨rfl, rfl, rfl⟩ | ⟨y, c, rest, own, rfl, h1, h2, h3, h4⟩
  · rfl
  · unfold srcCells
    dsimp only
    rw [if_pos rfl, h2]
    dsimp only
    rw [if_pos (by rw [List.length_append]; omega), List.drop_zero, ← h3, List.take_left' rfl]
/-- A slice is appended. -/
theorem Vec.app (h : Vec H sz v n cs) {x : Value} {m : Nat} {new : List Value} (hx : Rdb H sz x m new) {bytes : Nat} (h1 : new.all one = true) (hb : (n + m) * bytes ≤ 2 ^ 47) :
    ∃ v' H', (∀ (α : Type) (k : Value → Hp → Option α), pAppend sz bytes v x H k = k v' H') ∧ Vec H' sz v' (n + m) (cs ++ new) ∧ Frm (Id v) H H' ∧ (∀ j, Id v' j → Id v j ∨ H.next ≤ j) := by
  have hsrc := hx.src
  have hxl := hx.size
  rcases h with ⟨rfl, rfl, rfl⟩ | ⟨y, c, rest, rfl, k1, k2, k3, k4, k5, k6⟩
  · by_cases hm : m = 0
    · subst hm
      refine ⟨.slice none 0 0, H, fun α k => ?_, ?_, Frm.refl _ _, fun j hj => .inl hj⟩
      · have : appendV sz bytes (.slice none 0 0) x H = some (.slice none 0 0, H) := by
          unfold appendV
          rw [hsrc]; rfl
        unfold pAppend
        rw [this]
      · have : new = [] := List.length_eq_zero_iff.1 (by omega)
        subst this
        exact Vec.nil H sz
    · refine ⟨.slice (some ⟨H.next, 0, some sz⟩) m m, H.new (.cells new true), fun α k => ?_, .inr ⟨H.next, m, [], by simp, by omega, ?_, by simp; omega, by simp, by show H.next < H.next + 1; omega, rfl⟩, fr_new _ _ _, fun j hj => ?_⟩
      · have : appendV sz bytes (.slice none 0 0) x H = some (.slice (some ⟨H.next, 0, some sz⟩) m m, H.new (.cells new true)) := by
          unfold appendV
          rw [hsrc]
          dsimp only
          rw [if_neg hm, if_pos ⟨by rw [Nat.zero_add] at hb; exact hb, h1⟩]
          rfl
        unfold pAppend
        rw [this]
      · rw [get_new, if_pos rfl, List.nil_append, List.append_nil]
      · cases hj; exact .inr (Nat.le_refl _)
  · by_cases hm : m = 0
    · subst hm
      have : new = [] := List.length_eq_zero_iff.1 (by omega)
      subst this
      refine ⟨.slice (some ⟨y, 0, some sz⟩) n c, H, fun α k => ?_, .inr ⟨y, c, rest, rfl, k1, by rw [List.append_nil]; exact k2, by rw [List.append_nil]; exact k3, k4, k5, k6⟩, Frm.refl _ _, fun j hj => .inl hj⟩
      have : appendV sz bytes (.slice (some ⟨y, 0, some sz⟩) n c) x H = some (.slice (some ⟨y, 0, some sz⟩) n c, H) := by
        unfold appendV
        rw [hsrc]
        dsimp only
        rw [if_neg (by simp), if_pos ⟨rfl, k1⟩]
      unfold pAppend
      rw [this]
    · by_cases hc : n + m ≤ c
      · have hrl : m * sz ≤ rest.length := by rw [k4]; exact Nat.mul_le_mul_right sz (by omega)
        have hsp : spl (cs ++ rest) (0 + n * sz) new = (cs ++ new) ++ rest.drop (m * sz) := by
          unfold spl
          rw [Nat.zero_add, ← k3, List.take_left' rfl, hxl]
          rw [List.drop_append, List.drop_of_length_le (by omega), List.nil_append, Nat.add_sub_cancel_left]
        have hle : (n + m) * sz ≤ c * sz := Nat.mul_le_mul_right sz hc
        have hcl : (cs ++ rest).length = c * sz := by
          rw [List.length_append, k3, k4, ← Nat.add_mul]; congr 1; omega
        refine ⟨.slice (some ⟨y, 0, some sz⟩) (n + m) c, H.set y (some (.cells ((cs ++ new) ++ rest.drop (m * sz)) true)), fun α k => ?_, .inr ⟨y, c, rest.drop (m * sz), rfl, hc, ?_, ?_, ?_, k5, ?_⟩, fr_set _ _ _ _ rfl, fun j hj => .inl hj⟩
        · have : appendV sz bytes (.slice (some ⟨y, 0, some sz⟩) n c) x H = some (.slice (some ⟨y, 0, some sz⟩) (n + m) c, H.set y (some (.cells ((cs ++ new) ++ rest.drop (m * sz)) true))) := by
            unfold appendV
            rw [hsrc]
            dsimp only
            rw [if_neg (by simp), if_neg (by omega), k2]
            dsimp only
            rw [if_pos hc, if_pos ⟨by rw [hcl]; omega, h1⟩, hsp]
          unfold pAppend
          rw [this]
        · rw [get_set, if_pos rfl]
        · rw [List.length_append, k3, hxl, Nat.add_mul]
        · rw [List.length_drop, k4, ← Nat.sub_mul]; congr 1; omega
        · rw [List.all_eq_true] at k6 ⊢
          exact fun z hz => k6 z (List.mem_of_mem_drop hz)
      · have ht : ((cs ++ rest).drop 0).take (n * sz) = cs := by rw [List.drop_zero, ← k3, List.take_left' rfl]
        refine ⟨.slice (some ⟨H.next, 0, some sz⟩) (n + m) (n + m), (H.set y none).new (.cells (cs ++ new) true), fun α k => ?_, .inr ⟨H.next, n + m, [], rfl, Nat.le_refl _, ?_, ?_, by simp, by show H.next < H.next + 1; omega, rfl⟩, ⟨by show H.next ≤ H.next + 1; omega, fun j hj hm' => ?_⟩, fun j hj => ?_⟩
        · have : appendV sz bytes (.slice (some ⟨y, 0, some sz⟩) n c) x H = some (.slice (some ⟨H.next, 0, some sz⟩) (n + m) (n + m), (H.set y none).new (.cells (cs ++ new) true)) := by
            unfold appendV
            rw [hsrc]
            dsimp only
            rw [if_neg (by simp), if_neg (by omega), k2]
            dsimp only
            rw [if_neg hc, if_pos ⟨by rw [List.length_append, k3]; omega, hb, h1⟩, ht]
          unfold pAppend
          rw [this]
        · rw [get_new, if_pos (show H.next = (H.set y none).next from rfl), List.append_nil]
        · rw [List.length_append, k3, hxl, Nat.add_mul]
        · rw [get_new, if_neg (by show ¬ j = H.next; omega), get_set, if_neg (fun e => hm' (by rw [e]; rfl))]
        · cases hj; exact .inr (Nat.le_refl _)
/-- An empty slice that is not nil. -/
theorem Vec.empty (H : Hp) (sz : Nat) (zs : List Value) : (∀ (α : Type) (k : Value → Hp → Option α), pBuildSlice sz zs 0 [] H k = k (.slice (some ⟨H.next, 0, some sz⟩) 0 0) (H.new (.cells [] true))) ∧ Vec (H.new (.cells [] true)) sz (.slice (some ⟨H.next, 0, some sz⟩) 0 0) 0 [] :=
  ⟨fun α k => by
    have : buildSliceV sz zs 0 [] H = some (.slice (some ⟨H.next, 0, some sz⟩) 0 0, H.new (.cells [] true)) := by
      unfold buildSliceV
      rw [if_neg (by omega)]
      rfl
    unfold pBuildSlice
    rw [this], .inr ⟨H.next, 0, [], rfl, Nat.le_refl _, by rw [get_new, if_pos rfl]; rfl, by simp, by simp, by show H.next < H.next + 1; omega, rfl⟩⟩
end
end Go.AM
/- The Term seat: the program's order of any roots. -/
set_option linter.unusedVariables false
set_option linter.unusedSimpArgs false
namespace Go.AM
open Go
def intsI (l : List Int) : List Value := l.map fun (t : Int) => Value.int .i64 t
theorem intsI_len (l : List Int) : (intsI l).length = l.length := by simp [intsI]
theorem intsI_one (l : List Int) : (intsI l).all one = true := by simp [intsI, one]
theorem intsI_get {l : List Int} {i : Nat} {t : Int} (h : l[i]? = some t) : (intsI l)[i]? = some (.int .i64 t) := by simp [intsI, h]
theorem Rdb.int {H : Hp} {v : Value} {l : List Int} (h : Rdb H 1 v l.length (intsI l)) {i : Nat} {t : Int} (ht : l[i]? = some t) :
    ∃ y, (∀ (α : Type) (kd : IntKind) (k : Value → Option α), pIdx 1 v (.int kd (i : Int)) k = k (.pointer (some ⟨y, i * 1, none⟩))) ∧ (∀ (α : Type) (k : Value → Option α), pLoad 1 false H (.pointer (some ⟨y, i * 1, none⟩)) k = k (.int .i64 t)) := by
  obtain ⟨y, hy, ⟨rest, own, hg⟩, hix⟩ := h.ix (List.getElem?_eq_some_iff.1 ht).1
  exact ⟨y, hix, fun α k => ld_cell hg (by rw [Nat.mul_one]; exact intsI_get ht) k⟩
/-- All roots are terms, or one is not. -/
theorem loop13a {H : Hp} {p f g : Nat} {lim : Int} {L : List Nd} {K : List (ByteArray × Int)} {sl : Value} (hst : StF H p lim L K sl f g) {x : Value} {rs : List Int} (hx : Rdb H 1 x rs.length (intsI rs)) (hl : rs.length ≤ 2 ^ 40) :
    ∀ k i, i + k = rs.length → loopD (s13_1 RR (.pointer (some ⟨p, 0, none⟩)) x (.int .i64 (rs.length : Int))) [.int .i64 (i : Int)] H =
      if (rs.drop i).all (isT L) = true then some (.exit 0, [.int .i64 (rs.length : Int)], H) else some (.ret, [.tuple #[.slice none 0 0, .int .i64 70]], H)
  | 0, i, h => by
    have : i = rs.length := by omega
    subst this
    rw [loopD_eq]
    have : s13_1 RR (.pointer (some ⟨p, 0, none⟩)) x (.int .i64 (rs.length : Int)) [.int .i64 (rs.length : Int)] H = some (.exit 0, [.int .i64 (rs.length : Int)], H) := by
      unfold s13_1
      simp only [s_lss, s_bool, s_brf, List.getD_cons_zero, Int.lt_irrefl, decide_false]
    rw [this, List.drop_of_length_le (Nat.le_refl _)]; rfl
  | k + 1, i, h => by
    have hlt : i < rs.length := by omega
    have hg : rs[i]? = some rs[i] := List.getElem?_eq_getElem hlt
    obtain ⟨y, e1, e2⟩ := hx.int hg
    have w : IntKind.i64.wrap ((i : Int) + 1) = ((i + 1 : Nat) : Int) := i64_wrap (by omega) (by omega)
    have q : (i : Int) < (rs.length : Int) := by omega
    rw [loopD_eq, List.drop_eq_getElem_cons hlt, List.all_cons]
    cases ht : isT L rs[i] with
    | true =>
      have : s13_1 RR (.pointer (some ⟨p, 0, none⟩)) x (.int .i64 (rs.length : Int)) [.int .i64 (i : Int)] H = some (.next, [.int .i64 ((i + 1 : Nat) : Int)], H) := by
        unfold s13_1
        simp only [s_lss, s_bool, s_brt, s_brf, List.getD_cons_zero, q, decide_true, e1, e2, s_call (c19 hst.st), ht, s_not, Bool.not_true, s_add, w]
      rw [this]
      show loopD _ _ _ = _
      rw [loop13a hst hx hl k (i + 1) (by omega), Bool.true_and]
    | false =>
      have : s13_1 RR (.pointer (some ⟨p, 0, none⟩)) x (.int .i64 (rs.length : Int)) [.int .i64 (i : Int)] H = some (.ret, [.tuple #[.slice none 0 0, .int .i64 70]], H) := by
        unfold s13_1
        simp only [s_lss, s_bool, s_brt, s_brf, List.getD_cons_zero, q, decide_true, e1, e2, s_call (c19 hst.st), ht, s_not, Bool.not_false]
      rw [this]; rfl
theorem Rdb.old {H0 H : Hp} {lv sv bv : Value} {out : List Nat} {stk : List (Nat × Nat)} {seen : List Bool} (h : PS H0 H lv out sv stk bv seen) {x : Value} {n : Nat} {cs : List Value} (hx : Rdb H0 1 x n cs) : Rdb H 1 x n cs :=
  hx.keep' (fun j hj => h.old j (hx.lt hj)) h.next
section
variable {H0 : Hp} {p f g : Nat} {lim : Int} {L : List Nd} {K : List (ByteArray × Int)} {sl : Value} (hst : StF H0 p lim L K sl f g) (hd : Dag L) (hL : L.length * 64 ≤ 2 ^ 46) (bv : Value)
  {x : Value} {ns : List Nat} (hx : Rdb H0 1 x ns.length (ints ns)) (hns : ∀ t ∈ ns, 1 ≤ t ∧ t ≤ L.length) (hnl : ns.length ≤ 2 ^ 40)
include hst hd hL hx hns hnl
theorem loop13b : ∀ (k i : Nat) (out : List Nat) (seen : List Bool) (H : Hp) (lv sv : Value), i + k = ns.length → PS H0 H lv out sv [] bv seen → Seen L.length seen out [] → Told L.length out →
    ∃ H' lv' sv' seen', loopD (s13_3 RR (.pointer (some ⟨p, 0, none⟩)) x bv (.int .i64 (ns.length : Int))) [lv, sv, .int .i64 (i : Int)] H = some (.exit 2, [lv', sv', .int .i64 (ns.length : Int)], H') ∧
      PS H0 H' lv' (posts L (ns.drop i) out) sv' [] bv seen'
  | 0, i, out, seen, H, lv, sv, hi, hp, hs, ht => by
    have : i = ns.length := by omega
    subst this
    refine ⟨H, lv, sv, seen, ?_, ?_⟩
    · rw [loopD_eq]
      have : s13_3 RR (.pointer (some ⟨p, 0, none⟩)) x bv (.int .i64 (ns.length : Int)) [lv, sv, .int .i64 (ns.length : Int)] H = some (.exit 2, [lv, sv, .int .i64 (ns.length : Int)], H) := by
        unfold s13_3
        simp only [s_lss, s_bool, s_brf, List.getD_cons_succ, List.getD_cons_zero, Int.lt_irrefl, decide_false]
      rw [this]; rfl
    · rw [List.drop_of_length_le (Nat.le_refl _)]; exact hp
  | k + 1, i, out, seen, H, lv, sv, hi, hp, hs, ht => by
    have hlt : i < ns.length := by omega
    have hg : ns[i]? = some ns[i] := List.getElem?_eq_getElem hlt
    have hb := hns _ (List.getElem_mem hlt)
    have hdr : ns.drop i = ns[i] :: ns.drop (i + 1) := List.drop_eq_getElem_cons hlt
    rw [hdr, posts_cons]
    generalize ns[i] = t at hg hb
    have hxH := Rdb.old hp hx
    obtain ⟨y, hy, ⟨rest, own, hgy⟩, e1⟩ := hxH.ix hlt
    have e2 : ∀ (α : Type) (k : Value → Option α), pLoad 1 false H (.pointer (some ⟨y, i * 1, none⟩)) k = k (.int .i64 (t : Int)) := fun α k => ld_cell hgy (by rw [Nat.mul_one]; unfold ints; rw [List.getElem?_map, hg]; rfl) k
    have w : IntKind.i64.wrap ((i : Int) + 1) = ((i + 1 : Nat) : Int) := i64_wrap (by omega) (by omega)
    have q : (i : Int) < (ns.length : Int) := by omega
    have hsc := hs.at' t hb.2
    by_cases hto : t ∈ out
    · have hsc' : seen[t]? = some true := by rw [hsc]; congr 1; simp [hto]
      obtain ⟨z, z0, z1, z2⟩ := hp.seen_at hsc'
      rw [post_in hd hb.1 hto]
      obtain ⟨H', lv', sv', seen', r1, r2⟩ := loop13b k (i + 1) out seen H lv sv (by omega) hp hs ht
      refine ⟨H', lv', sv', seen', ?_, r2⟩
      rw [loopD_eq]
      have : s13_3 RR (.pointer (some ⟨p, 0, none⟩)) x bv (.int .i64 (ns.length : Int)) [lv, sv, .int .i64 (i : Int)] H = some (.next, [lv, sv, .int .i64 ((i + 1 : Nat) : Int)], H) := by
        unfold s13_3
        simp only [s_lss, s_bool, s_brt, List.getD_cons_succ, List.getD_cons_zero, q, decide_true, e1, e2, z1, z2, s_add, w]
      rw [this]; exact r1
    · have hsc' : seen[t]? = some false := by rw [hsc]; congr 1; simp [hto]
      obtain ⟨z, z0, z1, z2⟩ := hp.seen_at hsc'
      have hclt : t < seen.length := by rw [hs.len]; omega
      obtain ⟨z', hz', z3, H2, z4, p2, _⟩ := hp.see hclt
      obtain rfl : z' = z := Option.some.inj (hz'.symm.trans z0)
      obtain ⟨sv3, H3, z5, p3⟩ := p2.push t (zs := [.int .i64 0, .int .i64 0]) rfl (by simp)
      have hs3 : Seen L.length (seen.set t true) out ([] ++ [(t, 0)]) := hs.add hb.2
      obtain ⟨H4, lv4, sv4, seen4, r1, r2, r3⟩ := fwd hst hd hL bv t hb.1 hb.2 (kids L t).length 0 (by omega) out [] (seen.set t true) H3 lv sv3 p3 hs3 ht (fun u hu => by cases hu) (by simpa using hb.2) hto
      rw [List.drop_zero, ← post_out hd hb.1 hto] at r2 r3
      have ht4 : Told L.length (post L t out) := ht.posts (l := [t]) hd fun c' hc' => by rw [List.mem_singleton] at hc'; subst hc'; exact hb
      obtain ⟨H', lv', sv', seen', s1, s2⟩ := loop13b k (i + 1) (post L t out) seen4 H4 lv4 sv4 (by omega) r2 r3 ht4
      refine ⟨H', lv', sv', seen', ?_, s2⟩
      have hexit : loopD (s13_2 RR (.pointer (some ⟨p, 0, none⟩)) bv) [lv4, sv4] H4 = some (.exit 4, [lv4, sv4], H4) := by
        rw [loopD_eq]
        have : s13_2 RR (.pointer (some ⟨p, 0, none⟩)) bv [lv4, sv4] H4 = some (.exit 4, [lv4, sv4], H4) := by
          unfold s13_2
          simp only [List.getD_cons_succ, List.getD_cons_zero, r2.s.len, List.length_nil, s_gtr, s_bool]
          rfl
        rw [this]; rfl
      rw [hexit] at r1
      rw [loopD_eq]
      have : s13_3 RR (.pointer (some ⟨p, 0, none⟩)) x bv (.int .i64 (ns.length : Int)) [lv, sv, .int .i64 (i : Int)] H = some (.next, [lv4, sv4, .int .i64 ((i + 1 : Nat) : Int)], H4) := by
        unfold s13_3
        simp only [s_lss, s_bool, s_brt, s_brf, List.getD_cons_succ, List.getD_cons_zero, q, decide_true, e1, e2, z1, z2, z3, z4, build72, z5, r1, s_bind, s_exit, s_onExit, s_add, w]
      rw [this]; exact s1
end
theorem bools_repl : ∀ n : Nat, repl n [.bool false] = bools (List.replicate n false)
  | 0 => rfl
  | n + 1 => by
    show [.bool false] ++ repl n [.bool false] = _
    rw [bools_repl n, List.replicate_succ]; rfl
theorem ints_intsI (ns : List Nat) : ints ns = intsI (ns.map fun (t : Nat) => (t : Int)) := by simp [ints, intsI]
/-- Roots that are terms, as naturals. -/
theorem nats {L : List Nd} : ∀ rs : List Int, rs.all (isT L) = true → ∃ ns : List Nat, rs = ns.map (fun (t : Nat) => (t : Int)) ∧ ∀ t ∈ ns, 1 ≤ t ∧ t ≤ L.length
  | [], _ => ⟨[], rfl, fun t h => by cases h⟩
  | r :: rs, h => by
    rw [List.all_cons, Bool.and_eq_true] at h
    obtain ⟨ns, h1, h2⟩ := nats rs h.2
    have := isT_iff.1 h.1
    refine ⟨r.toNat :: ns, by rw [List.map_cons, ← h1]; congr 1; omega, fun t ht => ?_⟩
    rcases List.mem_cons.1 ht with rfl | ht
    · omega
    · exact h2 t ht
/-- What an order's call does. -/
structure OrdOk (H0 H : Hp) (v : Value) (out : List Nat) : Prop where
  vec : Vec H 1 v out.length (ints out)
  next : H0.next ≤ H.next
  old : ∀ j, j < H0.next → H.get j = H0.get j
  new : ∀ j, Id v j → H0.next ≤ j
theorem c13_no {H0 : Hp} {p f g : Nat} {lim : Int} {L : List Nd} {K : List (ByteArray × Int)} {sl : Value} (hst : StF H0 p lim L K sl f g) {x : Value} {rs : List Int} (hx : Rdb H0 1 x rs.length (intsI rs)) (hl : rs.length ≤ 2 ^ 40)
    (hno : rs.all (isT L) = false) : RR 13 [.pointer (some ⟨p, 0, none⟩), x] H0 = some (.tuple #[.slice none 0 0, .int .i64 70], H0) := by
  have hr := (r13 E0 rfl (.pointer (some ⟨p, 0, none⟩)) x H0).trans (k13 _ _ _ _)
  refine hr.trans ?_
  have h1 := loop13a hst hx hl rs.length 0 (by omega)
  rw [List.drop_zero, hno, if_neg (by decide)] at h1
  rw [hx.len, show (0 : Int) = ((0 : Nat) : Int) from rfl, h1, s_bind, s_ret, s_head]
theorem c13_yes {H0 : Hp} {p f g : Nat} {lim : Int} {L : List Nd} {K : List (ByteArray × Int)} {sl : Value} (hst : StF H0 p lim L K sl f g) (hd : Dag L) (hL : L.length * 64 ≤ 2 ^ 46) {x : Value} {ns : List Nat} (hx : Rdb H0 1 x ns.length (ints ns)) (hl : ns.length ≤ 2 ^ 40)
    (hns : ∀ t ∈ ns, 1 ≤ t ∧ t ≤ L.length) : ∃ H' v, RR 13 [.pointer (some ⟨p, 0, none⟩), x] H0 = some (.tuple #[v, .int .i64 0], H') ∧ OrdOk H0 H' v (posts L ns []) := by
  have hr := (r13 E0 rfl (.pointer (some ⟨p, 0, none⟩)) x H0).trans (k13 _ _ _ _)
  have hmap : (ns.map fun (t : Nat) => (t : Int)).length = ns.length := List.length_map ..
  have h1 := loop13a (rs := ns.map fun (t : Nat) => (t : Int)) hst (x := x) (by rw [hmap, ← ints_intsI]; exact hx) (by rw [hmap]; exact hl) ns.length 0 (by rw [hmap]; omega)
  have hall : (ns.map fun (t : Nat) => (t : Int)).all (isT L) = true := by
    rw [List.all_map, List.all_eq_true]
    intro t ht
    have := hns t ht
    exact isT_iff.2 ⟨by show (1 : Int) ≤ (t : Int); omega, by show (t : Int) ≤ L.length; omega⟩
  rw [List.drop_zero, hall, if_pos rfl, hmap] at h1
  obtain ⟨bv, b1, b2, b3⟩ := Vec.make H0 (sz := 1) (bytes := 1) (zs := [.bool false]) rfl (n := L.length + 1) (by omega)
  rw [bools_repl] at b1 b2
  generalize hH1 : H0.new (.cells (bools (List.replicate (L.length + 1) false)) true) = H1 at b1 b2
  have n1 : H1.next = H0.next + 1 := by rw [← hH1]; rfl
  have hsl : (List.replicate (L.length + 1) false).length = L.length + 1 := List.length_replicate ..
  have ps : PS H0 H1 (.slice none 0 0) [] (.slice none 0 0) [] bv (List.replicate (L.length + 1) false) :=
    ⟨by omega, fun j hj => by rw [← hH1, get_new, if_neg (by omega)], Vec.nil _ _, Vec.nil _ _, by rw [hsl]; exact b2, fun j hj => (by cases hj), fun j hj => (by cases hj), fun j hj => by have := b3 j hj; omega,
      fun j a => (by cases a), fun j a => (by cases a), fun j a => (by cases a)⟩
  have sn : Seen L.length (List.replicate (L.length + 1) false) [] [] := ⟨hsl, fun x hx => by rw [List.getElem?_replicate, if_pos (by omega)]; rfl⟩
  obtain ⟨H', lv', sv', seen', g1, g2⟩ := loop13b hst hd hL bv hx hns hl ns.length 0 [] _ H1 _ _ (by omega) ps sn ⟨List.nodup_nil, fun x h => by cases h⟩
  rw [List.drop_zero] at g2
  refine ⟨H', lv', ?_, ⟨g2.l, g2.next, g2.old, g2.al⟩⟩
  refine hr.trans ?_
  have w : IntKind.i64.wrap ((L.length : Int) + 1) = ((L.length + 1 : Nat) : Int) := i64_wrap (by omega) (by omega)
  rw [hx.len, show (0 : Int) = ((0 : Nat) : Int) from rfl, h1, s_bind, s_exit, s_onExit, s_nil, s_offs, Nat.zero_add, hst.st.l1, hst.st.all.len, s_add, w, b1, hx.len, g1, s_bind, s_exit, s_onExit]
  rfl
end Go.AM
/- The abstract machine: several slices of a function's own. -/
set_option linter.unusedVariables false
set_option linter.unusedSimpArgs false
namespace Go.AM
open Go
structure Sl where
  sz : Nat
  v : Value
  n : Nat
  cs : List Value
/-- Slices that were made behind H0, apart from each other; what was there at H0 is as it was. -/
structure Own (H0 H : Hp) (vs : List Sl) : Prop where
  next : H0.next ≤ H.next
  old : ∀ j, j < H0.next → H.get j = H0.get j
  vec : ∀ e ∈ vs, Vec H e.sz e.v e.n e.cs
  new : ∀ e ∈ vs, ∀ j, Id e.v j → H0.next ≤ j
  apart : vs.Pairwise fun a b => ∀ j, Id a.v j → ¬ Id b.v j
section
variable {H0 H : Hp} {sz : Nat} {v : Value} {n : Nat} {cs : List Value} {r : List Sl}
theorem Own.nil (H : Hp) : Own H H [] := ⟨Nat.le_refl _, fun _ _ => rfl, fun e h => (by cases h), fun e h => (by cases h), List.Pairwise.nil⟩
theorem Own.head {a : Sl} (h : Own H0 H (a :: r)) : Vec H a.sz a.v a.n a.cs := h.vec a (List.mem_cons_self ..)
theorem Own.tail {a : Sl} (h : Own H0 H (a :: r)) : Own H0 H r :=
  ⟨h.next, h.old, fun e he => h.vec e (List.mem_cons_of_mem _ he), fun e he => h.new e (List.mem_cons_of_mem _ he), (List.pairwise_cons.1 h.apart).2⟩
theorem Own.swap {a b : Sl} (h : Own H0 H (a :: b :: r)) : Own H0 H (b :: a :: r) := by
  obtain ⟨h1, h2⟩ := List.pairwise_cons.1 h.apart
  obtain ⟨h3, h4⟩ := List.pairwise_cons.1 h2
  refine ⟨h.next, h.old, fun e he => h.vec e ?_, fun e he => h.new e ?_, List.pairwise_cons.2 ⟨fun e he j a b => ?_, List.pairwise_cons.2 ⟨fun e he => h1 e (List.mem_cons_of_mem _ he), h4⟩⟩⟩
  · simp only [List.mem_cons] at he ⊢
    rcases he with e | e | e <;> simp [e]
  · simp only [List.mem_cons] at he ⊢
    rcases he with e | e | e <;> simp [e]
  · rcases List.mem_cons.1 he with rfl | he
    · exact h1 _ (List.mem_cons_self ..) j b a
    · exact h3 e he j a b
theorem Own.third {a b c : Sl} (h : Own H0 H (a :: b :: c :: r)) : Own H0 H (c :: a :: b :: r) := by
  -- c to the front
  obtain ⟨h1, h2⟩ := List.pairwise_cons.1 h.apart
  obtain ⟨h3, h4⟩ := List.pairwise_cons.1 h2
  obtain ⟨h5, h6⟩ := List.pairwise_cons.1 h4
  refine ⟨h.next, h.old, fun e he => h.vec e ?_, fun e he => h.new e ?_, List.pairwise_cons.2 ⟨fun e he j x y => ?_, List.pairwise_cons.2 ⟨fun e he => ?_, List.pairwise_cons.2 ⟨fun e he => h3 e (List.mem_cons_of_mem _ he), h6⟩⟩⟩⟩
  · simp only [List.mem_cons] at he ⊢
    rcases he with e | e | e | e <;> simp [e]
  · simp only [List.mem_cons] at he ⊢
    rcases he with e | e | e | e <;> simp [e]
  · rcases List.mem_cons.1 he with rfl | he
    · exact h1 _ (by simp) j y x
    · rcases List.mem_cons.1 he with rfl | he
      · exact h3 _ (by simp) j y x
      · exact h5 e he j x y
  · rcases List.mem_cons.1 he with rfl | he
    · exact h1 _ (by simp)
    · exact h1 e (by simp [he])
/-- The first one changes, the others stay. -/
theorem Own.upd {a a' : Sl} {H' : Hp} (h : Own H0 H (a :: r)) (hv : Vec H' a'.sz a'.v a'.n a'.cs) (hf : Frm (Id a.v) H H') (hi : ∀ j, Id a'.v j → Id a.v j ∨ H.next ≤ j) : Own H0 H' (a' :: r) := by
  obtain ⟨h1, h2⟩ := List.pairwise_cons.1 h.apart
  have hn := h.next
  refine ⟨Nat.le_trans h.next hf.next, fun j hj => ?_, fun e he => ?_, fun e he j hj => ?_, List.pairwise_cons.2 ⟨fun e he j x y => ?_, h2⟩⟩
  · rw [hf.same j (Nat.lt_of_lt_of_le hj h.next) (fun q => by have := h.new a (by simp) j q; omega), h.old j hj]
  · rcases List.mem_cons.1 he with rfl | he
    · exact hv
    · exact (h.vec e (by simp [he])).keep hf fun j x y => h1 e he j y x
  · rcases List.mem_cons.1 he with rfl | he
    · rcases hi j hj with q | q
      · exact h.new a (by simp) j q
      · omega
    · exact h.new e (by simp [he]) j hj
  · rcases hi j x with q | q
    · exact h1 e he j q y
    · have := (h.vec e (by simp [he])).lt y; omega
/-- One more, that is new. -/
theorem Own.add {a : Sl} {H' : Hp} (h : Own H0 H r) (hv : Vec H' a.sz a.v a.n a.cs) (hf : Frm (fun _ => False) H H') (hi : ∀ j, Id a.v j → H.next ≤ j) : Own H0 H' (a :: r) := by
  have hn := h.next
  refine ⟨Nat.le_trans h.next hf.next, fun j hj => ?_, fun e he => ?_, fun e he j hj => ?_, List.pairwise_cons.2 ⟨fun e he j x y => ?_, h.apart⟩⟩
  · rw [hf.same j (Nat.lt_of_lt_of_le hj h.next) (fun q => q), h.old j hj]
  · rcases List.mem_cons.1 he with rfl | he
    · exact hv
    · exact (h.vec e he).keep hf fun j _ q => q
  · rcases List.mem_cons.1 he with rfl | he
    · have := hi j hj; omega
    · exact h.new e he j hj
  · have := hi j x
    have := (h.vec e he).lt y; omega
/-- A call that leaves all as it was. -/
theorem Own.frm {H' : Hp} (h : Own H0 H r) (hf : Frm (fun _ => False) H H') : Own H0 H' r :=
  ⟨Nat.le_trans h.next hf.next, fun j hj => by rw [hf.same j (Nat.lt_of_lt_of_le hj h.next) (fun q => q), h.old j hj], fun e he => (h.vec e he).keep hf fun j _ q => q, h.new, h.apart⟩
theorem Own.toFrm (h : Own H0 H r) : Frm (fun _ => False) H0 H := ⟨h.next, fun j hj _ => h.old j hj⟩
/-- Nothing yet, and a nil slice. -/
theorem Own.addNil (h : Own H0 H r) (sz : Nat) : Own H0 H (⟨sz, .slice none 0 0, 0, []⟩ :: r) := by
  refine ⟨h.next, h.old, fun e he => ?_, fun e he j hj => ?_, List.pairwise_cons.2 ⟨fun e he j x => (by cases x), h.apart⟩⟩
  · rcases List.mem_cons.1 he with rfl | he
    · exact Vec.nil H sz
    · exact h.vec e he
  · rcases List.mem_cons.1 he with rfl | he
    · cases hj
    · exact h.new e he j hj
/-- Push. -/
theorem Own.push (h : Own H0 H (⟨sz, v, n, cs⟩ :: r)) {bytes : Nat} {zs : List Value} {x : Value} (hs : 0 < sz) (hs2 : sz ≤ 2 ^ 24) (hz : zs.length = sz) (hx : (cellsL x).length = sz) (h1 : (cellsL x).all one = true) (hb : (n + 1) * bytes ≤ 2 ^ 47) :
    ∃ v' H', (∀ (α : Type) (k : Value → Hp → Option α), (pBuildSlice sz zs 1 [(0, x)] H fun t H1 => pAppend sz bytes v t H1 k) = k v' H') ∧ Own H0 H' (⟨sz, v', n + 1, cs ++ cellsL x⟩ :: r) := by
  obtain ⟨v', H', e1, e2, e3, e4, _⟩ := h.head.push (bytes := bytes) (zs := zs) hs hs2 hz hx h1 hb
  exact ⟨v', H', e1, h.upd (a' := ⟨sz, v', n + 1, cs ++ cellsL x⟩) e2 e3 e4⟩
/-- Cut. -/
theorem Own.cut (h : Own H0 H (⟨sz, v, n, cs⟩ :: r)) (hcs : cs.all one = true) {m : Nat} (hm : m ≤ n) : ∃ v', (∀ (α : Type) (kd : IntKind) (k : Value → Option α), pSlice sz v none (some (.int kd (m : Int))) k = k v') ∧ Own H0 H (⟨sz, v', m, cs.take (m * sz)⟩ :: r) := by
  obtain ⟨v', e1, e2, e3⟩ := h.head.cut hcs hm
  exact ⟨v', e1, h.upd (a' := ⟨sz, v', m, cs.take (m * sz)⟩) e2 (Frm.refl _ _) fun j q => .inl (e3 j q)⟩
/-- Store. -/
theorem Own.set (h : Own H0 H (⟨sz, v, n, cs⟩ :: r)) {i : Nat} (hi : i < n) : ∃ y, Id v y ∧ (∀ (α : Type) (kd : IntKind) (k : Value → Option α), pIdx sz v (.int kd (i : Int)) k = k (.pointer (some ⟨y, i * sz, none⟩))) ∧
    (∀ (o : Nat) (x : Value), cs[o]? = some x → ∀ (α : Type) (k : Value → Option α), pLoad 1 false H (.pointer (some ⟨y, o, none⟩)) k = k x) ∧
    (∀ (o m : Nat), o + m ≤ n * sz → ∀ (α : Type) (k : Value → Option α), pLoad m true H (.pointer (some ⟨y, o, none⟩)) k = k (.agg ((cs.drop o).take m).toArray)) ∧
    (∀ (o m : Nat) (x : Value), (cellsL x).length = m → o + m ≤ n * sz → (cellsL x).all one = true → ∃ H', (∀ (α : Type) (k : Hp → Option α), pStore m H (.pointer (some ⟨y, o, none⟩)) x k = k H') ∧ Own H0 H' (⟨sz, v, n, spl cs o (cellsL x)⟩ :: r)) := by
  obtain ⟨y, hy, ⟨rest, hg⟩, hix⟩ := h.head.ix hi
  have hl := h.head.size
  dsimp only at hl hy hg hix
  refine ⟨y, hy, hix, fun o x hx α k => ld_cell hg hx k, fun o m ho α k => (by have h2 : o + m ≤ cs.length := (by rw [hl]; exact ho); exact ld_agg hg h2 k), fun o m x hm ho h1 => ?_⟩
  obtain ⟨H', e1, e2, e3, e4⟩ := h.head.set (o := o) hy hm (by dsimp only; omega) h1
  exact ⟨H', e1, h.upd (a' := ⟨sz, v, n, spl cs o (cellsL x)⟩) e2 e3 fun j q => .inl q⟩
theorem Own.make (h : Own H0 H r) {bytes : Nat} {zs : List Value} (hz : zs.length = sz) {n : Nat} (hb : n * bytes ≤ 2 ^ 47) :
    ∃ v H', (∀ (α : Type) (k : Value → Hp → Option α), pMakeSlice sz bytes zs (.int .i64 (n : Int)) (.int .i64 (n : Int)) H k = k v H') ∧ Own H0 H' (⟨sz, v, n, repl n zs⟩ :: r) := by
  obtain ⟨v, e1, e2, e3⟩ := Vec.make H hz hb
  exact ⟨v, _, e1, h.add (a := ⟨sz, v, n, repl n zs⟩) e2 (fr_new _ _ _) fun j q => by have := e3 j q; omega⟩
/-- Writing one cell of a row of cells of one kind. -/
theorem spl_set {α : Type} (f : α → Value) (l : List α) {i : Nat} (hi : i < l.length) (x : α) : spl (l.map f) (i * 1) [f x] = (l.set i x).map f := by
  unfold spl
  rw [Nat.mul_one, List.map_set, List.set_eq_take_append_cons_drop, if_pos (by simpa using hi)]
  simp
end
end Go.AM
/- The Term seat: the document's order. -/
set_option linter.unusedVariables false
set_option linter.unusedSimpArgs false
namespace Go.AM
open Go
/-- The first part that is not told. -/
def firstUn (out : List Nat) (l : List Nat) : Nat := (l.find? fun c => decide (c ∉ out)).getD 0
def scanOne (out : List Nat) (x : Int) (next : Int) : Int := if x > 0 ∧ x.toNat ∉ out then x else next
theorem scan3 {L : List Nd} (h : Dag L) {i : Nat} {n : Nd} (hn : L[i]? = some n) (out : List Nat) : scanOne out n.a (scanOne out n.b (scanOne out n.c 0)) = ((firstUn out (kidsN n) : Nat) : Int) := by
  have ha := h.a i n hn
  have hb := h.b i n hn
  have hc := h.c i n hn
  have z : ∀ (y : Int), scanOne out 0 y = y := fun y => by unfold scanOne; rw [if_neg (by omega)]
  have s : ∀ (x y : Int), 1 ≤ x → scanOne out x y = if x.toNat ∉ out then ((x.toNat : Nat) : Int) else y := fun x y hx => by
    unfold scanOne
    by_cases q : x.toNat ∉ out
    · rw [if_pos ⟨by omega, q⟩, if_pos q]; omega
    · rw [if_neg (fun w => q w.2), if_neg q]
  unfold firstUn kidsN
  rcases partsT_cases n.op with q | q | q | q
  · have e1 : n.a = 0 := by omega
    have e2 : n.b = 0 := by omega
    have e3 : n.c = 0 := by omega
    rw [q, e1, e2, e3, z, z, z]; rfl
  · have e2 : n.b = 0 := by omega
    have e3 : n.c = 0 := by omega
    rw [q, e2, e3, z, z, s _ _ (by omega)]
    by_cases k : n.a.toNat ∈ out <;> simp [k]
  · have e3 : n.c = 0 := by omega
    rw [q, e3, z, s _ _ (by omega), s _ _ (by omega)]
    by_cases k : n.a.toNat ∈ out <;> by_cases k2 : n.b.toNat ∈ out <;> simp [k, k2]
  · rw [q, s _ _ (by omega), s _ _ (by omega), s _ _ (by omega)]
    by_cases k : n.a.toNat ∈ out <;> by_cases k2 : n.b.toNat ∈ out <;> by_cases k3 : n.c.toNat ∈ out <;> simp [k, k2, k3]
/-- The three slices of the document's order. -/
abbrev PR (H0 H : Hp) (lv : Value) (out : List Nat) (sv : Value) (stk : List Nat) (bv : Value) (told : List Bool) : Prop := Own H0 H [⟨1, lv, out.length, ints out⟩, ⟨1, sv, stk.length, ints stk⟩, ⟨1, bv, told.length, bools told⟩]
def ToldB (N : Nat) (told : List Bool) (out : List Nat) : Prop := told.length = N + 1 ∧ ∀ x, x ≤ N → told[x]? = some (decide (x ∈ out))
section
variable {H0 : Hp} {p f g : Nat} {lim : Int} {L : List Nd} {K : List (ByteArray × Int)} {sl : Value} (hst : StF H0 p lim L K sl f g) (hd : Dag L) (hL : L.length * 64 ≤ 2 ^ 46) (bv : Value)
theorem Own.st {H : Hp} {r : List Sl} (h : Own H0 H r) (hst : StF H0 p lim L K sl f g) : StF H p lim L K sl f g :=
  hst.keep (fun i hi => h.old i (hst.foot_lt hi)) h.next
theorem PR.told_at {H : Hp} {lv sv : Value} {out stk : List Nat} {told : List Bool} (h : PR H0 H lv out sv stk bv told) {i : Nat} {b : Bool} (hi : told[i]? = some b) : ∃ y, (∀ (α : Type) (kd : IntKind) (k : Value → Option α), pIdx 1 bv (.int kd (i : Int)) k = k (.pointer (some ⟨y, i * 1, none⟩))) ∧
    (∀ (α : Type) (k : Value → Option α), pLoad 1 false H (.pointer (some ⟨y, i * 1, none⟩)) k = k (.bool b)) := by
  obtain ⟨y, h1, h2, h3, _⟩ := h.third.set (List.getElem?_eq_some_iff.1 hi).1
  exact ⟨y, h2, fun α k => h3 (i * 1) _ (by rw [Nat.mul_one]; unfold bools; rw [List.getElem?_map, hi]; rfl) α k⟩
theorem PR.told_set {H : Hp} {lv sv : Value} {out stk : List Nat} {told : List Bool} (h : PR H0 H lv out sv stk bv told) {i : Nat} (hi : i < told.length) : ∃ y, Id bv y ∧ (∀ (α : Type) (kd : IntKind) (k : Value → Option α), pIdx 1 bv (.int kd (i : Int)) k = k (.pointer (some ⟨y, i * 1, none⟩))) ∧
    ∃ H', (∀ (α : Type) (k : Hp → Option α), pStore 1 H (.pointer (some ⟨y, i * 1, none⟩)) (.bool true) k = k H') ∧ PR H0 H' lv out sv stk bv (told.set i true) := by
  obtain ⟨y, h1, h2, _, _, h5⟩ := h.third.set hi
  obtain ⟨H', g1, g2⟩ := h5 (i * 1) 1 (.bool true) rfl (by omega) rfl
  refine ⟨y, h1, h2, H', g1, ?_⟩
  have e : spl (bools told) (i * 1) (cellsL (.bool true)) = bools (told.set i true) := spl_set Value.bool told hi true
  rw [e] at g2
  have := g2.swap
  have := (this.tail.swap)
  have hh := g2.third.third
  unfold PR
  rw [List.length_set]
  exact g2.third.third
include hst hd in
theorem scan_loop {H : Hp} {lv sv : Value} {out stk : List Nat} {told : List Bool} (h : PR H0 H lv out sv stk bv told) (ht : ToldB L.length told out) {i : Nat} {n : Nd} (hn : L[i]? = some n) :
    loopD (s14_2 RR bv [.int .i64 n.a, .int .i64 n.b, .int .i64 n.c]) [.int .i64 0, .int .i64 2] H = some (.exit 6, [.int .i64 ((firstUn out (kidsN n) : Nat) : Int), .int .i64 (-1)], H) := by
  have hi := (List.getElem?_eq_some_iff.1 hn).1
  have step : ∀ (j : Nat) (x nx : Int), j < 3 → [n.a, n.b, n.c][j]? = some x → x ≤ L.length → s14_2 RR bv [.int .i64 n.a, .int .i64 n.b, .int .i64 n.c] [.int .i64 nx, .int .i64 (j : Int)] H = some (.next, [.int .i64 (scanOne out x nx), .int .i64 ((j : Int) - 1)], H) := by
    intro j x nx hj hx hb
    have w : IntKind.i64.wrap ((j : Int) - 1) = (j : Int) - 1 := i64_wrap (by omega) (by omega)
    have q : (j : Int) ≥ 0 := by omega
    have hix : ∀ (k : Nat → Option Outc), pIdxLoc 3 (.int .i64 (j : Int)) k = k j := fun k => by
      unfold pIdxLoc
      dsimp only
      rw [if_pos ⟨by omega, by omega⟩, Int.toNat_natCast]
    have hc : ∀ (k : Value → Option Outc), pCell 1 false [.int .i64 n.a, .int .i64 n.b, .int .i64 n.c] (0 + j * 1) k = k (.int .i64 x) := fun k => by
      refine s_cell _ _ _ ?_ k
      rw [Nat.zero_add, Nat.mul_one]
      match j, hj, hx with
      | 0, _, hx => cases hx; rfl
      | 1, _, hx => cases hx; rfl
      | 2, _, hx => cases hx; rfl
    unfold s14_2
    simp only [List.getD_cons_succ, List.getD_cons_zero, s_geq, q, decide_true, s_bool, s_brt, hix, hc, s_gtr]
    by_cases hp : x > 0
    · have hxc : x = ((x.toNat : Nat) : Int) := by omega
      have hat := ht.2 x.toNat (by omega)
      obtain ⟨y, e1, e2⟩ := PR.told_at bv h hat
      rw [← hxc] at e1
      simp only [hp, decide_true, s_brt, e1, e2, s_not, s_bool]
      by_cases ho : x.toNat ∈ out
      · have : scanOne out x nx = nx := by unfold scanOne; rw [if_neg (fun w => w.2 ho)]
        simp only [ho, decide_true, Bool.not_true, s_brf, s_sub, w, this]
      · have : scanOne out x nx = x := by unfold scanOne; rw [if_pos ⟨hp, ho⟩]
        simp only [ho, decide_false, Bool.not_false, s_brt, s_sub, w, this]
    · have : scanOne out x nx = nx := by unfold scanOne; rw [if_neg (fun w => hp w.1)]
      simp only [hp, decide_false, s_brf, s_sub, w, this]
  have ha := hd.a i n hn
  have hb := hd.b i n hn
  have hc := hd.c i n hn
  have s2 := step 2 n.c 0 (by omega) rfl (by omega)
  have s1 := fun nx => step 1 n.b nx (by omega) rfl (by omega)
  have s0 := fun nx => step 0 n.a nx (by omega) rfl (by omega)
  have e : ∀ nx : Int, s14_2 RR bv [.int .i64 n.a, .int .i64 n.b, .int .i64 n.c] [.int .i64 nx, .int .i64 (-1)] H = some (.exit 6, [.int .i64 nx, .int .i64 (-1)], H) := fun nx => by
    unfold s14_2
    simp only [List.getD_cons_succ, List.getD_cons_zero, s_geq, s_bool]
    rfl
  rw [← scan3 hd hn, loopD_eq, show (2 : Int) = ((2 : Nat) : Int) from rfl, s2]
  show loopD _ _ _ = _
  rw [loopD_eq, show ((2 : Nat) : Int) - 1 = ((1 : Nat) : Int) from rfl, s1]
  show loopD _ _ _ = _
  rw [loopD_eq, show ((1 : Nat) : Int) - 1 = ((0 : Nat) : Int) from rfl, s0]
  show loopD _ _ _ = _
  rw [loopD_eq, show ((0 : Nat) : Int) - 1 = -1 from rfl, e]
  rfl
end
end Go.AM
/- The Term seat: the document's order, what leads to one term. -/
set_option linter.unusedVariables false
set_option linter.unusedSimpArgs false
namespace Go.AM
open Go
theorem firstUn_nil {out l : List Nat} (h : ∀ c ∈ l, c ∈ out) : firstUn out l = 0 := by
  unfold firstUn
  have : l.find? (fun c => decide (c ∉ out)) = none := List.find?_eq_none.2 fun c hc => by simpa using h c hc
  rw [this]; rfl
theorem firstUn_cons {out pre l : List Nat} {c : Nat} (h : ∀ x ∈ pre, x ∈ out) (hc : c ∉ out) : firstUn out (pre ++ c :: l) = c := by
  unfold firstUn
  have : pre.find? (fun c => decide (c ∉ out)) = none := List.find?_eq_none.2 fun c hc => by simpa using h c hc
  rw [List.find?_append, this]
  simp [hc]
theorem spl3 {α : Type} (a b c : Int) (k : List Value → Option α) : pSplice 3 [.int .i64 0, .int .i64 0, .int .i64 0] 0 (.agg #[.int .i64 a, .int .i64 b, .int .i64 c]) k = k [.int .i64 a, .int .i64 b, .int .i64 c] := by
  have : wrCells 3 [.int .i64 0, .int .i64 0, .int .i64 0] 0 (.agg #[.int .i64 a, .int .i64 b, .int .i64 c]) = some [.int .i64 a, .int .i64 b, .int .i64 c] := by kernel_rfl
  unfold pSplice; rw [this]
theorem ToldB.set {N : Nat} {told : List Bool} {out : List Nat} (h : ToldB N told out) {t : Nat} (ht : t ≤ N) : ToldB N (told.set t true) (out ++ [t]) :=
  ⟨by rw [List.length_set]; exact h.1, fun x hx => by
    rw [List.getElem?_set]
    by_cases e : t = x
    · subst e
      rw [if_pos rfl, if_pos (by rw [h.1]; omega)]
      simp
    · rw [if_neg e, h.2 x hx]
      congr 2
      have : ¬ x = t := fun q => e q.symm
      simp [this]⟩
section
variable {H0 : Hp} {p f g : Nat} {lim : Int} {L : List Nd} {K : List (ByteArray × Int)} {sl : Value} (hst : StF H0 p lim L K sl f g) (hd : Dag L) (hL : L.length * 64 ≤ 2 ^ 46) (bv : Value)
/-- The last element of a stack. -/
theorem PR.top {H : Hp} {lv sv : Value} {out below : List Nat} {t : Nat} {told : List Bool} (h : PR H0 H lv out sv (below ++ [t]) bv told) : ∃ y, (∀ (α : Type) (kd : IntKind) (k : Value → Option α), pIdx 1 sv (.int kd (below.length : Int)) k = k (.pointer (some ⟨y, below.length * 1, none⟩))) ∧
    (∀ (α : Type) (k : Value → Option α), pLoad 1 false H (.pointer (some ⟨y, below.length * 1, none⟩)) k = k (.int .i64 (t : Int))) := by
  obtain ⟨y, _, h2, h3, _⟩ := h.swap.set (i := below.length) (by simp)
  refine ⟨y, h2, fun α k => h3 _ _ ?_ α k⟩
  rw [Nat.mul_one, ints_app, List.getElem?_append_right (by rw [ints_len]; omega), ints_len, Nat.sub_self]; rfl
theorem PR.push {H : Hp} {lv sv : Value} {out stk : List Nat} {told : List Bool} (h : PR H0 H lv out sv stk bv told) (t : Nat) (hb : (stk.length + 1) * 8 ≤ 2 ^ 47) :
    ∃ sv' H', (∀ (α : Type) (k : Value → Hp → Option α), (pBuildSlice 1 [.int .i64 0] 1 [(0, .int .i64 (t : Int))] H fun x H1 => pAppend 1 8 sv x H1 k) = k sv' H') ∧ PR H0 H' lv out sv' (stk ++ [t]) bv told := by
  obtain ⟨sv', H', e1, e2⟩ := h.swap.push (bytes := 8) (zs := [.int .i64 0]) (x := .int .i64 (t : Int)) (by decide) (by decide) rfl rfl rfl hb
  refine ⟨sv', H', e1, ?_⟩
  unfold PR
  rw [ints_app, List.length_append]
  exact e2.swap
theorem PR.tell {H : Hp} {lv sv : Value} {out stk : List Nat} {told : List Bool} (h : PR H0 H lv out sv stk bv told) (t : Nat) (hb : (out.length + 1) * 8 ≤ 2 ^ 47) :
    ∃ lv' H', (∀ (α : Type) (k : Value → Hp → Option α), (pBuildSlice 1 [.int .i64 0] 1 [(0, .int .i64 (t : Int))] H fun x H1 => pAppend 1 8 lv x H1 k) = k lv' H') ∧ PR H0 H' lv' (out ++ [t]) sv stk bv told := by
  obtain ⟨lv', H', e1, e2⟩ := Own.push h (bytes := 8) (zs := [.int .i64 0]) (x := .int .i64 (t : Int)) (by decide) (by decide) rfl rfl rfl hb
  refine ⟨lv', H', e1, ?_⟩
  unfold PR
  rw [ints_app, List.length_append]
  exact e2
theorem PR.pop {H : Hp} {lv sv : Value} {out below : List Nat} {t : Nat} {told : List Bool} (h : PR H0 H lv out sv (below ++ [t]) bv told) : ∃ sv', (∀ (α : Type) (kd : IntKind) (k : Value → Option α), pSlice 1 sv none (some (.int kd (below.length : Int))) k = k sv') ∧ PR H0 H lv out sv' below bv told := by
  obtain ⟨sv', e1, e2⟩ := h.swap.cut (ints_one _) (m := below.length) (by simp)
  refine ⟨sv', e1, ?_⟩
  rw [ints_app, Nat.mul_one, List.take_left' (ints_len below)] at e2
  exact e2.swap
include hst hd hL
theorem back : ∀ t, 1 ≤ t → t ≤ L.length → ∀ (out below : List Nat) (told : List Bool) (H : Hp) (lv sv : Value), PR H0 H lv out sv (below ++ [t]) bv told → ToldB L.length told out → Told L.length out → below.length + t ≤ L.length →
    ∃ H' lv' sv' told', loopD (s14_3 RR (.pointer (some ⟨p, 0, none⟩)) bv) [lv, sv] H = loopD (s14_3 RR (.pointer (some ⟨p, 0, none⟩)) bv) [lv', sv'] H' ∧
      PR H0 H' lv' (post L t out) sv' below bv told' ∧ ToldB L.length told' (post L t out) := by
  intro t
  induction t using Nat.strongRecOn with
  | _ t ih =>
    intro h1 hN out below told H lv sv hp ht hto hbl
    obtain ⟨n, hn⟩ : ∃ n, L[t - 1]? = some n := ⟨_, List.getElem?_eq_getElem (by omega)⟩
    have hk : kids L t = kidsN n := by unfold kids; rw [hn]
    have hkl : ∀ c ∈ kids L t, 1 ≤ c ∧ c < t := fun c hc => kids_lt hd h1 hc
    have hlen : (below ++ [t]).length = below.length + 1 := by simp
    have w1 : IntKind.i64.wrap (((below.length + 1 : Nat) : Int) - 1) = (below.length : Int) := by rw [i64_wrap (by omega) (by omega)]; omega
    have w2 : IntKind.i64.wrap ((t : Int) - 1) = ((t - 1 : Nat) : Int) := by rw [i64_wrap (by omega) (by omega)]; omega
    have q1 : ((below.length + 1 : Nat) : Int) > 0 := by omega
    by_cases hin : t ∈ out
    · -- told already
      have hst' := Own.st hp hst
      obtain ⟨y, e1, e2⟩ := PR.top bv hp
      obtain ⟨sl', hsl, hix⟩ := hst'.st.all.ix (i := t - 1) (by omega) (α := Outc)
      have hls : ∀ {α : Type} (H' : Hp) (k : Value → Option α), pLen .sl sv H' k = k (.int .i64 ((below.length + 1 : Nat) : Int)) := fun H' k => by rw [hp.swap.head.len, hlen]
      have hsc := scan_loop hst hd bv hp ht hn
      obtain ⟨z, z1, z2⟩ := PR.told_at bv hp (b := true) (by rw [ht.2 t hN]; simp [hin])
      obtain ⟨sv1, c1, p1⟩ := PR.pop bv hp
      rw [post_in hd h1 hin]
      refine ⟨H, lv, sv1, told, ?_, p1, ht⟩
      rw [loopD_eq]
      have : s14_3 RR (.pointer (some ⟨p, 0, none⟩)) bv [lv, sv] H = some (.next, [lv, sv1], H) := by
        unfold s14_3
        simp only [List.getD_cons_succ, List.getD_cons_zero, hls, s_gtr, q1, decide_true, s_bool, s_brt, s_brf, s_sub, w1, e1, e2, s_nil, s_offs, Nat.zero_add, hst'.st.l1, w2, hix, ld7 hsl hn, spl7, ncell2, ncell3, ncell4, s_build3, spl3, hsc, s_bind, s_exit, s_onExit, z1, z2, s_not, Bool.not_true, c1]
        cases decide (((firstUn out (kidsN n) : Nat) : Int) > 0) <;> rfl
      rw [this]; rfl
    · rw [post_out hd h1 hin]
      -- by the parts that are left
      have key : ∀ (l pre : List Nat), kids L t = pre ++ l → ∀ (out : List Nat) (told : List Bool) (H : Hp) (lv sv : Value), (∀ c ∈ pre, c ∈ out) → t ∉ out → PR H0 H lv out sv (below ++ [t]) bv told → ToldB L.length told out → Told L.length out →
          ∃ H' lv' sv' told', loopD (s14_3 RR (.pointer (some ⟨p, 0, none⟩)) bv) [lv, sv] H = loopD (s14_3 RR (.pointer (some ⟨p, 0, none⟩)) bv) [lv', sv'] H' ∧
            PR H0 H' lv' (posts L l out ++ [t]) sv' below bv told' ∧ ToldB L.length told' (posts L l out ++ [t]) := by
        intro l
        induction l with
        | nil =>
          intro pre hpre out told H lv sv hall hin hp ht hto
          rw [List.append_nil] at hpre
          have hst' := Own.st hp hst
          obtain ⟨y, e1, e2⟩ := PR.top bv hp
          obtain ⟨sl', hsl, hix⟩ := hst'.st.all.ix (i := t - 1) (by omega) (α := Outc)
          have hls : ∀ {α : Type} (H' : Hp) (k : Value → Option α), pLen .sl sv H' k = k (.int .i64 ((below.length + 1 : Nat) : Int)) := fun H' k => by rw [hp.swap.head.len, hlen]
          have hsc := scan_loop hst hd bv hp ht hn
          have hf0 : firstUn out (kidsN n) = 0 := by rw [← hk, hpre]; exact firstUn_nil hall
          rw [hf0] at hsc
          obtain ⟨z, z1, z2⟩ := PR.told_at bv hp (b := false) (by rw [ht.2 t hN]; simp [hin])
          obtain ⟨z', z0', z1', H1, z3, p1⟩ := PR.told_set bv hp (i := t) (by rw [ht.1]; omega)
          have hol := hto.len
          obtain ⟨lv1, H2, t1, p2⟩ := PR.tell bv p1 t (by omega)
          obtain ⟨sv1, c1, p3⟩ := PR.pop bv p2
          obtain rfl : z' = z := by
            have a1 := z1 Nat .i64 (fun v => match v with | .pointer (some a) => some a.block | _ => none)
            have a2 := z1' Nat .i64 (fun v => match v with | .pointer (some a) => some a.block | _ => none)
            rw [a1] at a2
            simpa using a2.symm
          refine ⟨H2, lv1, sv1, _, ?_, p3, ht.set hN⟩
          rw [loopD_eq]
          have q0 : ¬ (((0 : Nat) : Int) > 0) := by omega
          have : s14_3 RR (.pointer (some ⟨p, 0, none⟩)) bv [lv, sv] H = some (.next, [lv1, sv1], H2) := by
            unfold s14_3
            simp only [List.getD_cons_succ, List.getD_cons_zero, hls, s_gtr, q1, decide_true, s_bool, s_brt, s_brf, s_sub, w1, e1, e2, s_nil, s_offs, Nat.zero_add, hst'.st.l1, w2, hix, ld7 hsl hn, spl7, ncell2, ncell3, ncell4, s_build3, spl3, hsc, s_bind, s_exit, s_onExit, q0, decide_false, z1, z2, s_not, Bool.not_false, z3, t1, c1]
          rw [this]; rfl
        | cons c l ihl =>
          intro pre hpre out told H lv sv hall hin hp ht hto
          have hcm : c ∈ kids L t := by rw [hpre]; simp
          obtain ⟨hc1, hct⟩ := hkl c hcm
          rw [posts_cons]
          by_cases hco : c ∈ out
          · rw [post_in hd hc1 hco]
            exact ihl (pre ++ [c]) (by rw [hpre]; simp) out told H lv sv (fun x hx => by
              rcases List.mem_append.1 hx with hx | hx
              · exact hall x hx
              · rw [List.mem_singleton] at hx; subst hx; exact hco) hin hp ht hto
          · have hst' := Own.st hp hst
            obtain ⟨y, e1, e2⟩ := PR.top bv hp
            obtain ⟨sl', hsl, hix⟩ := hst'.st.all.ix (i := t - 1) (by omega) (α := Outc)
            have hls : ∀ {α : Type} (H' : Hp) (k : Value → Option α), pLen .sl sv H' k = k (.int .i64 ((below.length + 1 : Nat) : Int)) := fun H' k => by rw [hp.swap.head.len, hlen]
            have hsc := scan_loop hst hd bv hp ht hn
            have hf0 : firstUn out (kidsN n) = c := by rw [← hk, hpre]; exact firstUn_cons hall hco
            rw [hf0] at hsc
            obtain ⟨z, z1, z2⟩ := PR.told_at bv hp (b := false) (by rw [ht.2 t hN]; simp [hin])
            obtain ⟨sv1, H1, t1, p1⟩ := PR.push bv hp c (by rw [hlen]; omega)
            obtain ⟨H2, lv2, sv2, told2, r1, r2, r3⟩ := ih c hct hc1 (by omega) out (below ++ [t]) told H1 lv sv1 p1 ht hto (by rw [hlen]; omega)
            have ht2 : Told L.length (post L c out) := hto.posts (l := [c]) hd fun c' hc' => by rw [List.mem_singleton] at hc'; subst hc'; omega
            obtain ⟨m1, m2, m3⟩ := post_mem hd c hc1 out
            obtain ⟨H3, lv3, sv3, told3, s1, s2, s3⟩ := ihl (pre ++ [c]) (by rw [hpre]; simp) (post L c out) told2 H2 lv2 sv2 (fun x hx => by
              rcases List.mem_append.1 hx with hx | hx
              · exact m1 x (hall x hx)
              · rw [List.mem_singleton] at hx; subst hx; exact m2) (fun q => by
              rcases m3 t q with q | q
              · exact hin q
              · omega) r2 r3 ht2
            refine ⟨H3, lv3, sv3, told3, ?_, s2, s3⟩
            rw [← s1, ← r1, loopD_eq]
            have q0 : ((c : Nat) : Int) > 0 := by omega
            have : s14_3 RR (.pointer (some ⟨p, 0, none⟩)) bv [lv, sv] H = some (.next, [lv, sv1], H1) := by
              unfold s14_3
              simp only [List.getD_cons_succ, List.getD_cons_zero, hls, s_gtr, q1, decide_true, s_bool, s_brt, s_brf, s_sub, w1, e1, e2, s_nil, s_offs, Nat.zero_add, hst'.st.l1, w2, hix, ld7 hsl hn, spl7, ncell2, ncell3, ncell4, s_build3, spl3, hsc, s_bind, s_exit, s_onExit, q0, z1, z2, s_not, Bool.not_false, t1]
            rw [this]; rfl
      exact key (kids L t) [] rfl out told H lv sv (fun c hc => by cases hc) hin hp ht hto
end
end Go.AM
/- The Term seat: the document's order of any roots; lists held against each other. -/
set_option linter.unusedVariables false
set_option linter.unusedSimpArgs false
namespace Go.AM
open Go
theorem loop14a {H : Hp} {p f g : Nat} {lim : Int} {L : List Nd} {K : List (ByteArray × Int)} {sl : Value} (hst : StF H p lim L K sl f g) {x : Value} {rs : List Int} (hx : Rdb H 1 x rs.length (intsI rs)) (hl : rs.length ≤ 2 ^ 40) :
    ∀ k i, i + k = rs.length → loopD (s14_1 RR (.pointer (some ⟨p, 0, none⟩)) x) [.int .i64 (i : Int)] H =
      if (rs.drop i).all (isT L) = true then some (.exit 0, [.int .i64 (rs.length : Int)], H) else some (.ret, [.tuple #[.slice none 0 0, .int .i64 70]], H)
  | 0, i, h => by
    have : i = rs.length := by omega
    subst this
    rw [loopD_eq]
    have : s14_1 RR (.pointer (some ⟨p, 0, none⟩)) x [.int .i64 (rs.length : Int)] H = some (.exit 0, [.int .i64 (rs.length : Int)], H) := by
      unfold s14_1
      simp only [hx.len, s_lss, s_bool, s_brf, List.getD_cons_zero, Int.lt_irrefl, decide_false]
    rw [this, List.drop_of_length_le (Nat.le_refl _)]; rfl
  | k + 1, i, h => by
    have hlt : i < rs.length := by omega
    have hg : rs[i]? = some rs[i] := List.getElem?_eq_getElem hlt
    obtain ⟨y, e1, e2⟩ := hx.int hg
    have w : IntKind.i64.wrap ((i : Int) + 1) = ((i + 1 : Nat) : Int) := i64_wrap (by omega) (by omega)
    have q : (i : Int) < (rs.length : Int) := by omega
    rw [loopD_eq, List.drop_eq_getElem_cons hlt, List.all_cons]
    cases ht : isT L rs[i] with
    | true =>
      have : s14_1 RR (.pointer (some ⟨p, 0, none⟩)) x [.int .i64 (i : Int)] H = some (.next, [.int .i64 ((i + 1 : Nat) : Int)], H) := by
        unfold s14_1
        simp only [hx.len, s_lss, s_bool, s_brt, s_brf, List.getD_cons_zero, q, decide_true, e1, e2, s_call (c30 hst.st), ht, s_not, Bool.not_true, s_add, w]
      rw [this]
      show loopD _ _ _ = _
      rw [loop14a hst hx hl k (i + 1) (by omega), Bool.true_and]
    | false =>
      have : s14_1 RR (.pointer (some ⟨p, 0, none⟩)) x [.int .i64 (i : Int)] H = some (.ret, [.tuple #[.slice none 0 0, .int .i64 70]], H) := by
        unfold s14_1
        simp only [hx.len, s_lss, s_bool, s_brt, s_brf, List.getD_cons_zero, q, decide_true, e1, e2, s_call (c30 hst.st), ht, s_not, Bool.not_false]
      rw [this]; rfl
section
variable {H0 : Hp} {p f g : Nat} {lim : Int} {L : List Nd} {K : List (ByteArray × Int)} {sl : Value} (hst : StF H0 p lim L K sl f g) (hd : Dag L) (hL : L.length * 64 ≤ 2 ^ 46) (bv : Value)
  {x : Value} {ns : List Nat} (hx : Rdb H0 1 x ns.length (ints ns)) (hns : ∀ t ∈ ns, 1 ≤ t ∧ t ≤ L.length) (hnl : ns.length ≤ 2 ^ 40)
include hst hd hL hx hns hnl
theorem loop14b : ∀ (k i : Nat) (out : List Nat) (told : List Bool) (H : Hp) (lv : Value), i + k = ns.length → Own H0 H [⟨1, lv, out.length, ints out⟩, ⟨1, bv, told.length, bools told⟩] → ToldB L.length told out → Told L.length out →
    ∃ H' lv' told', loopD (s14_4 RR (.pointer (some ⟨p, 0, none⟩)) x bv) [lv, .int .i64 (i : Int)] H = some (.exit 2, [lv', .int .i64 (ns.length : Int)], H') ∧
      Own H0 H' [⟨1, lv', (posts L (ns.drop i) out).length, ints (posts L (ns.drop i) out)⟩, ⟨1, bv, told'.length, bools told'⟩]
  | 0, i, out, told, H, lv, hi, hp, ht, hto => by
    have : i = ns.length := by omega
    subst this
    refine ⟨H, lv, told, ?_, ?_⟩
    · rw [loopD_eq]
      have hxH : Rdb H 1 x ns.length (ints ns) := hx.keep' (fun j hj => hp.old j (hx.lt hj)) hp.next
      have : s14_4 RR (.pointer (some ⟨p, 0, none⟩)) x bv [lv, .int .i64 (ns.length : Int)] H = some (.exit 2, [lv, .int .i64 (ns.length : Int)], H) := by
        unfold s14_4
        simp only [hxH.len, s_lss, s_bool, s_brf, List.getD_cons_succ, List.getD_cons_zero, Int.lt_irrefl, decide_false]
      rw [this]; rfl
    · rw [List.drop_of_length_le (Nat.le_refl _)]; exact hp
  | k + 1, i, out, told, H, lv, hi, hp, ht, hto => by
    have hlt : i < ns.length := by omega
    have hg : ns[i]? = some ns[i] := List.getElem?_eq_getElem hlt
    have hb := hns _ (List.getElem_mem hlt)
    have hdr : ns.drop i = ns[i] :: ns.drop (i + 1) := List.drop_eq_getElem_cons hlt
    rw [hdr, posts_cons]
    generalize ns[i] = t at hg hb
    have hxH : Rdb H 1 x ns.length (ints ns) := hx.keep' (fun j hj => hp.old j (hx.lt hj)) hp.next
    obtain ⟨y, hy, ⟨rest, own, hgy⟩, e1⟩ := hxH.ix hlt
    have e2 : ∀ (α : Type) (k : Value → Option α), pLoad 1 false H (.pointer (some ⟨y, i * 1, none⟩)) k = k (.int .i64 (t : Int)) := fun α k => ld_cell hgy (by rw [Nat.mul_one]; unfold ints; rw [List.getElem?_map, hg]; rfl) k
    have w : IntKind.i64.wrap ((i : Int) + 1) = ((i + 1 : Nat) : Int) := i64_wrap (by omega) (by omega)
    have q : (i : Int) < (ns.length : Int) := by omega
    have hbs : ∀ (α : Type) (k : Value → Hp → Option α), pBuildSlice 1 [.int .i64 0] 1 [(0, .int .i64 (t : Int))] H k = k (.slice (some ⟨H.next, 0, some 1⟩) 1 1) (H.new (.cells [.int .i64 (t : Int)] true)) := fun α k => rfl
    have hp1 : PR H0 (H.new (.cells [.int .i64 (t : Int)] true)) lv out (.slice (some ⟨H.next, 0, some 1⟩) 1 1) ([] ++ [t]) bv told := by
      refine Own.swap (Own.add (a := ⟨1, .slice (some ⟨H.next, 0, some 1⟩) 1 1, 1, ints [t]⟩) hp (.inr ⟨H.next, 1, [], rfl, Nat.le_refl _, ?_, rfl, rfl, by show H.next < H.next + 1; omega, rfl⟩) (fr_new _ _ _) fun j hj => by cases hj; exact Nat.le_refl _)
      rw [get_new, if_pos rfl]; rfl
    obtain ⟨H4, lv4, sv4, told4, r1, r2, r3⟩ := back hst hd hL bv t hb.1 hb.2 out [] told _ lv _ hp1 ht hto (by simpa using hb.2)
    have ht4 : Told L.length (post L t out) := hto.posts (l := [t]) hd fun c' hc' => by rw [List.mem_singleton] at hc'; subst hc'; exact hb
    have hp4 : Own H0 H4 [⟨1, lv4, (post L t out).length, ints (post L t out)⟩, ⟨1, bv, told4.length, bools told4⟩] := r2.swap.tail
    obtain ⟨H', lv', told', s1, s2⟩ := loop14b k (i + 1) (post L t out) told4 H4 lv4 (by omega) hp4 r3 ht4
    refine ⟨H', lv', told', ?_, s2⟩
    have hexit : loopD (s14_3 RR (.pointer (some ⟨p, 0, none⟩)) bv) [lv4, sv4] H4 = some (.exit 4, [lv4, sv4], H4) := by
      rw [loopD_eq]
      have : s14_3 RR (.pointer (some ⟨p, 0, none⟩)) bv [lv4, sv4] H4 = some (.exit 4, [lv4, sv4], H4) := by
        unfold s14_3
        have hl := r2.swap.head
        dsimp only at hl
        simp only [List.getD_cons_succ, List.getD_cons_zero, hl.len, List.length_nil, s_gtr, s_bool]
        rfl
      rw [this]; rfl
    rw [hexit] at r1
    rw [loopD_eq]
    have : s14_4 RR (.pointer (some ⟨p, 0, none⟩)) x bv [lv, .int .i64 (i : Int)] H = some (.next, [lv4, .int .i64 ((i + 1 : Nat) : Int)], H4) := by
      unfold s14_4
      simp only [hxH.len, s_lss, s_bool, s_brt, List.getD_cons_succ, List.getD_cons_zero, q, decide_true, e1, e2, hbs, r1, s_bind, s_exit, s_onExit, s_add, w]
    rw [this]; exact s1
end
theorem c14_no {H0 : Hp} {p f g : Nat} {lim : Int} {L : List Nd} {K : List (ByteArray × Int)} {sl : Value} (hst : StF H0 p lim L K sl f g) {x : Value} {rs : List Int} (hx : Rdb H0 1 x rs.length (intsI rs)) (hl : rs.length ≤ 2 ^ 40)
    (hno : rs.all (isT L) = false) : RR 14 [.pointer (some ⟨p, 0, none⟩), x] H0 = some (.tuple #[.slice none 0 0, .int .i64 70], H0) := by
  have hr := (r14 E0 rfl (.pointer (some ⟨p, 0, none⟩)) x H0).trans (k14 _ _ _ _)
  refine hr.trans ?_
  have h1 := loop14a hst hx hl rs.length 0 (by omega)
  rw [List.drop_zero, hno, if_neg (by decide)] at h1
  rw [show (0 : Int) = ((0 : Nat) : Int) from rfl, h1, s_bind, s_ret, s_head]
theorem c14_yes {H0 : Hp} {p f g : Nat} {lim : Int} {L : List Nd} {K : List (ByteArray × Int)} {sl : Value} (hst : StF H0 p lim L K sl f g) (hd : Dag L) (hL : L.length * 64 ≤ 2 ^ 46) {x : Value} {ns : List Nat} (hx : Rdb H0 1 x ns.length (ints ns)) (hl : ns.length ≤ 2 ^ 40)
    (hns : ∀ t ∈ ns, 1 ≤ t ∧ t ≤ L.length) : ∃ H' v, RR 14 [.pointer (some ⟨p, 0, none⟩), x] H0 = some (.tuple #[v, .int .i64 0], H') ∧ OrdOk H0 H' v (posts L ns []) := by
  have hr := (r14 E0 rfl (.pointer (some ⟨p, 0, none⟩)) x H0).trans (k14 _ _ _ _)
  have hmap : (ns.map fun (t : Nat) => (t : Int)).length = ns.length := List.length_map ..
  have h1 := loop14a (rs := ns.map fun (t : Nat) => (t : Int)) hst (x := x) (by rw [hmap, ← ints_intsI]; exact hx) (by rw [hmap]; exact hl) ns.length 0 (by rw [hmap]; omega)
  have hall : (ns.map fun (t : Nat) => (t : Int)).all (isT L) = true := by
    rw [List.all_map, List.all_eq_true]
    intro t ht
    have := hns t ht
    exact isT_iff.2 ⟨by show (1 : Int) ≤ (t : Int); omega, by show (t : Int) ≤ L.length; omega⟩
  rw [List.drop_zero, hall, if_pos rfl, hmap] at h1
  obtain ⟨bv, H1, b1, b2⟩ := (Own.nil H0).make (sz := 1) (bytes := 1) (zs := [.bool false]) rfl (n := L.length + 1) (by omega)
  rw [bools_repl] at b2
  have hsl : (List.replicate (L.length + 1) false).length = L.length + 1 := List.length_replicate ..
  have hp : Own H0 H1 [⟨1, .slice none 0 0, ([] : List Nat).length, ints []⟩, ⟨1, bv, (List.replicate (L.length + 1) false).length, bools (List.replicate (L.length + 1) false)⟩] := by
    rw [hsl]; exact b2.addNil 1
  have sn : ToldB L.length (List.replicate (L.length + 1) false) [] := ⟨hsl, fun x hx => by rw [List.getElem?_replicate, if_pos (by omega)]; rfl⟩
  obtain ⟨H', lv', told', g1, g2⟩ := loop14b hst hd hL bv hx hns hl ns.length 0 [] _ H1 _ (by omega) hp sn ⟨List.nodup_nil, fun x h => by cases h⟩
  rw [List.drop_zero] at g2
  refine ⟨H', lv', ?_, ⟨g2.head, g2.next, g2.old, g2.new _ (List.mem_cons_self ..)⟩⟩
  refine hr.trans ?_
  have w : IntKind.i64.wrap ((L.length : Int) + 1) = ((L.length + 1 : Nat) : Int) := i64_wrap (by omega) (by omega)
  rw [show (0 : Int) = ((0 : Nat) : Int) from rfl, h1, s_bind, s_exit, s_onExit, s_nil, s_offs, Nat.zero_add, hst.st.l1, hst.st.all.len, s_add, w, b1, g1, s_bind, s_exit, s_onExit]
  rfl
/-- Lists of numbers held against each other. -/
theorem c15 {H : Hp} {x y : Value} {l m : List Int} (hx : Rdb H 1 x l.length (intsI l)) (hy : Rdb H 1 y m.length (intsI m)) (hl : l.length ≤ 2 ^ 60) (he : l = m) : RR 15 [x, y] H = some (.bool true, H) := by
  subst he
  have hr := (r15 E0 rfl x y H).trans (k15 _ _ _ _)
  refine hr.trans ?_
  have hloop := loop_count (S := s15_1 RR x y) (H := H) l.length (fun i hi => by
      have hg : l[i]? = some l[i] := List.getElem?_eq_getElem hi
      obtain ⟨a, a1, a2⟩ := hx.int hg
      obtain ⟨b, b1, b2⟩ := hy.int hg
      have w : IntKind.i64.wrap ((i : Int) + 1) = ((i + 1 : Nat) : Int) := i64_wrap (by omega) (by omega)
      have q : (i : Int) < (l.length : Int) := by omega
      unfold s15_1
      simp only [hx.len, s_lss, List.getD_cons_zero, q, decide_true, s_bool, s_brt, a1, a2, b1, b2, s_neq, ne_eq, not_true_eq_false, decide_false, s_brf, s_add, w])
    (by unfold s15_1; simp only [hx.len, s_lss, List.getD_cons_zero, Int.lt_irrefl, decide_false, s_bool, s_brf]) l.length 0 (by omega)
  rw [hx.len, hy.len, s_neq, s_bool, decide_eq_false (by simp), s_brf, show (0 : Int) = ((0 : Nat) : Int) from rfl, hloop, s_bind, s_exit, s_onExit]
end Go.AM
