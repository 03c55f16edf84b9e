/- Part of the proof of TermMakesUptoSaid: see the last file.  -/
import Derived.Test.YtkfhklmklhnfaaaRows
import Derived.Test.YtkfhklmklhnfaaaT2
import Derived.Test.YtkfhklmklhnfaaaT3
set_option linter.unusedSimpArgs false
set_option linter.unusedVariables false
/- The abstract machine: arguments. -/
set_option linter.unusedVariables false
namespace Go.AM
open Go Go.ChangeShapes Go.WideShapes Go.ChangeAt Go.RowKit

inductive Sc where
  | bool | int (k : IntKind) | str
def okSc : Sc → Value → Prop
  | .bool, v => ∃ b, v = .bool b
  | .int k, v => ∃ n, v = .int k n ∧ k.min ≤ n ∧ n ≤ k.max
  | .str, v => ∃ s : ByteArray, v = .string s
theorem okSc.rel {k : Sc} {v : Value} (h : okSc k v) (β : Bt) : VRel β v v := by
  cases k with
  | bool => obtain ⟨b, rfl⟩ := h; exact .bool b
  | int k => obtain ⟨n, rfl, _⟩ := h; exact .int k n
  | str => obtain ⟨s, rfl⟩ := h; exact .string s

/-- The cells of a type that holds nothing but truths, numbers and texts. -/
def flatFs (P : Program) (c : TypeId → Option (List Sc)) : List Field → Nat → Option (List Sc)
  | [], _ => some []
  | f :: fs, off => match c f.type with
    | none => none
    | some ks => match Nat.beq f.offset off && Nat.beq ks.length (P.cellsOf f.type) with
      | true => match flatFs P c fs (off + ks.length) with
        | some r => some (ks ++ r)
        | none => none
      | false => none
def flat (P : Program) : Nat → TypeId → Option (List Sc)
  | 0, _ => none
  | d + 1, t => match P.underlying t with
    | some .bool => some [.bool]
    | some (.int k) => some [.int k]
    | some .string => some [.str]
    | some (.struct fs) => match flatFs P (flat P d) fs.toList 0 with
      | some ks => match Nat.beq ks.length (P.cellsOf t) with
        | true => some ks
        | false => none
      | none => none
    | _ => none

def OkL (ks : List Sc) (cs : List Value) : Prop := cs.length = ks.length ∧ ∀ (j : Nat) k, ks[j]? = some k → ∃ v, cs[j]? = some v ∧ okSc k v
theorem OkL.one {k : Sc} {v : Value} (h : okSc k v) : OkL [k] [v] := ⟨rfl, fun j k' hk => by
  cases j with
  | zero => cases hk; exact ⟨v, rfl, h⟩
  | succ j => cases hk⟩

variable {HH : Type} {enc : TypeId × Value → HH} {P : Program} {w : World} {base : Nat} {sp : Nat → Bool} {held : Bool}

theorem flatFs_ok {n : Nat} {c : TypeId → Option (List Sc)} (hc : ∀ t ks cs x, c t = some ks → DataW.trod enc P w base sp held n t cs = some x → OkL ks cs) {cs : List Value} :
    ∀ (fs : List Field) (off : Nat) (ks : List Sc), flatFs P c fs off = some ks → (∀ f ∈ fs, ∃ x, DataW.trod enc P w base sp held n f.type ((cs.drop f.offset).take (P.cellsOf f.type)) = some x) → off + ks.length ≤ cs.length →
      ∀ (j : Nat) k, ks[j]? = some k → ∃ v, cs[off + j]? = some v ∧ okSc k v
  | [], off, ks, h, _, _, j, k, hk => by cases h; cases hk
  | f :: fs, off, ks, h, hx, hl, j, k, hk => by
    unfold flatFs at h
    split at h
    · cases h
    · rename_i k1 h1
      split at h
      · rename_i hb
        rw [Bool.and_eq_true] at hb
        have ho : f.offset = off := Nat.eq_of_beq_eq_true hb.1
        have hk1 : k1.length = P.cellsOf f.type := Nat.eq_of_beq_eq_true hb.2
        split at h
        · rename_i r hr
          cases h
          obtain ⟨x, hx1⟩ := hx f (List.mem_cons_self ..)
          have hok := hc _ _ _ _ h1 hx1
          rcases Nat.lt_or_ge j k1.length with q | q
          · rw [List.getElem?_append_left q] at hk
            obtain ⟨v, hv, hs⟩ := hok.2 j k hk
            rw [List.getElem?_take] at hv
            split at hv
            · rw [List.getElem?_drop, ho] at hv
              exact ⟨v, hv, hs⟩
            · cases hv
          · rw [List.getElem?_append_right q] at hk
            simp only [List.length_append] at hl
            obtain ⟨v, hv, hs⟩ := flatFs_ok hc fs (off + k1.length) r hr (fun f hf => hx f (List.mem_cons_of_mem _ hf)) (by omega) (j - k1.length) k hk
            exact ⟨v, by rw [show off + j = off + k1.length + (j - k1.length) by omega]; exact hv, hs⟩
        · cases h
      · cases h

theorem flat_ok : ∀ (d : Nat) (t : TypeId) (ks : List Sc), flat P d t = some ks → ∀ (fuel : Nat) (cs : List Value) (x : DataW HH × List MemPlace), DataW.trod enc P w base sp held fuel t cs = some x → OkL ks cs
  | 0, t, ks, h, _, _, _, _ => by cases h
  | d + 1, t, ks, h, fuel, cs, x, hx => by
    unfold flat at h
    split at h
    · rename_i hu
      cases h
      obtain ⟨b, rfl, _⟩ := DataW.trod_bool hu hx
      exact OkL.one ⟨b, rfl⟩
    · rename_i k hu
      cases h
      obtain ⟨n, rfl, _, hw⟩ := DataW.trod_int hu hx
      refine OkL.one ⟨n, rfl, ?_⟩
      simpa [Lit.wf] using hw
    · rename_i hu
      cases h
      obtain ⟨s, rfl, _⟩ := DataW.trod_string hu hx
      exact OkL.one ⟨s, rfl⟩
    · rename_i fs hu
      split at h
      · rename_i k1 hf
        split at h
        · rename_i hb
          cases h
          have hlen : ks.length = P.cellsOf t := Nat.eq_of_beq_eq_true hb
          obtain ⟨xs, n, rfl, _, hl, hxl, hall⟩ := DataW.trod_struct hu hx
          refine ⟨by omega, fun j k hk => ?_⟩
          obtain ⟨v, hv, hs⟩ := flatFs_ok (n := n) (fun t ks cs x h1 h2 => flat_ok d t ks h1 n cs x h2) (cs := cs) fs.toList 0 ks hf (fun f hf => by
            obtain ⟨i, hi, rfl⟩ := List.getElem_of_mem hf
            have hi' : i < fs.size := by simpa using hi
            have := hall i fs.toList[i] (by simp [hi'])
            rw [this]
            exact ⟨xs[i], by simp⟩) (by omega) j k hk
          exact ⟨v, by simpa using hv, hs⟩
        · cases h
      · cases h
    · cases h

/-! ### Start heaps -/
def H00 (P : Program) : Hp := ⟨P.globals.size, fun _ => none⟩
def B00 (P : Program) : Bt := fun g => if g < P.globals.size then some ⟨g, 0, 0⟩ else none
theorem rel00 {W : World} (h : P.globals.size ≤ W.heap.size) : Rel P W (H00 P) (B00 P) :=
  ⟨fun i cs own hi => (by cases hi), fun i kv hi => (by cases hi), fun i j o o' x y _ hi => (by cases hi), fun i hi => ⟨rfl, by unfold B00; rw [if_neg (by have : P.globals.size ≤ i := hi; omega)]⟩,
    fun i x hx => by unfold B00 at hx; split at hx <;> cases hx; show i < _; omega, fun g hg => ⟨0, by unfold B00; rw [if_pos hg]⟩⟩
/-- A thing that is only read. -/
theorem Rel.addRo {W : World} {H : Hp} {β : Bt} (h : Rel P W H β) (hno : ∀ i o, H.get i = some o → o.own = false) {cs : List Value} {b s t : Nat} (hb : b < W.heap.size)
    (hc : ∀ (j : Nat) v, cs[j]? = some v → ∃ v', W.cell? ⟨b, s + j, none⟩ = some v' ∧ VRel β v v') :
    Rel P W (H.new (.cells cs false)) (β.set H.next ⟨b, s, t⟩) ∧ (∀ i o, (H.new (.cells cs false)).get i = some o → o.own = false) ∧ β.le (β.set H.next ⟨b, s, t⟩) := by
  have hf := (h.fresh H.next (Nat.le_refl _)).2
  have hle : β.le (β.set H.next ⟨b, s, t⟩) := Bt.le_set hf
  have hno' : ∀ i o, (H.new (.cells cs false)).get i = some o → o.own = false := fun i o hi => by
    rw [Hp.get_new] at hi
    split at hi
    · cases hi; rfl
    · exact hno i o hi
  refine ⟨⟨fun i ds own hi => ?_, fun i kv hi => ?_, fun i j o o' x y hij hi hj ho => (by rw [hno' i o hi] at ho; cases ho), fun i hi => ?_, fun i x hx => ?_, fun g hg => ?_⟩, hno', hle⟩
  · rw [Hp.get_new] at hi
    split at hi
    · rename_i e
      cases hi
      subst e
      exact ⟨_, Bt.set_same _ _ _, fun j v hv => by obtain ⟨v', h1, h2⟩ := hc j v hv; exact ⟨v', h1, h2.mono hle⟩, fun ho => by cases ho⟩
    · obtain ⟨x, hx, h1, h2⟩ := h.cells i ds own hi
      exact ⟨x, hle i x hx, fun j v hv => by obtain ⟨v', h3, h4⟩ := h1 j v hv; exact ⟨v', h3, h4.mono hle⟩, h2⟩
  · rw [Hp.get_new] at hi
    split at hi
    · cases hi
    · have := hno i _ hi
      cases this
  · have hi : H.next + 1 ≤ i := hi
    have := h.fresh i (by omega)
    refine ⟨?_, ?_⟩
    · rw [Hp.get_new, if_neg (by omega)]; exact this.1
    · unfold Bt.set; rw [if_neg (by omega)]; exact this.2
  · unfold Bt.set at hx
    split at hx
    · cases hx; exact hb
    · exact h.lt i x hx
  · obtain ⟨t', ht⟩ := h.glob g hg
    exact ⟨t', hle g _ ht⟩

/-! ### Slices of flat things -/
theorem mapM_get {γ δ : Type} {f : γ → Option δ} : ∀ (l : List γ) (cs : List δ), l.mapM f = some cs → cs.length = l.length ∧ ∀ (j : Nat) x, l[j]? = some x → ∃ c, cs[j]? = some c ∧ f x = some c
  | [], cs, h => by cases h; exact ⟨rfl, fun j x hx => by cases hx⟩
  | y :: l, cs, h => by
    rw [List.mapM_cons] at h
    cases hy : f y with
    | none => rw [hy] at h; cases h
    | some c =>
      rw [hy] at h
      cases hl : l.mapM f with
      | none => rw [hl] at h; cases h
      | some r =>
        rw [hl] at h
        cases h
        obtain ⟨h1, h2⟩ := mapM_get l r hl
        refine ⟨by simp [h1], fun j x hx => ?_⟩
        cases j with
        | zero => cases hx; exact ⟨c, rfl, hy⟩
        | succ j => exact h2 j x hx
theorem flatten_get {sz : Nat} : ∀ (L : List (List Value)), (∀ l ∈ L, l.length = sz) → ∀ i j, j < sz → L.flatten[i * sz + j]? = L[i]?.bind fun l => l[j]?
  | [], _, i, j, _ => by simp
  | l :: L, hL, i, j, hj => by
    have h0 := hL l (List.mem_cons_self ..)
    rw [List.flatten_cons]
    cases i with
    | zero =>
      rw [Nat.zero_mul, Nat.zero_add, List.getElem?_append_left (by omega)]
      rfl
    | succ i =>
      rw [List.getElem?_append_right (by rw [h0, Nat.succ_mul]; omega), h0, show (i + 1) * sz + j - sz = i * sz + j by rw [Nat.succ_mul]; omega]
      exact flatten_get L (fun l hl => hL l (List.mem_cons_of_mem _ hl)) i j hj
theorem flatten_length {sz : Nat} : ∀ (L : List (List Value)), (∀ l ∈ L, l.length = sz) → L.flatten.length = L.length * sz
  | [], _ => by simp
  | l :: L, hL => by
    rw [List.flatten_cons, List.length_append, hL l (List.mem_cons_self ..), flatten_length L (fun l hl => hL l (List.mem_cons_of_mem _ hl)), List.length_cons, Nat.succ_mul]
    omega

theorem arg_flats {t e : TypeId} {d : Nat} {ks : List Sc} (ht : P.underlying t = some (.slice e)) (hf : flat P d e = some ks) (hk : P.cellsOf e = ks.length) (h0 : 0 < ks.length)
    {W : World} {H : Hp} {β : Bt} (hR : Rel P W H β) (hno : ∀ i o, H.get i = some o → o.own = false) {b0 : Nat} {v' : Value} {dw : DataW HH} {ps : List MemPlace}
    (hval : Value.okWide P W .any b0 t v') (hd : DataW.Trod enc P W 0 (fun _ => true) true t v' dw ps) :
    ∃ (v : Value) (H' : Hp) (β' : Bt), Rel P W H' β' ∧ (∀ i o, H'.get i = some o → o.own = false) ∧ β.le β' ∧ VRel β' v v' ∧
      ((v = .slice none 0 0 ∧ dw = .nil ∧ H' = H) ∨
        ∃ (L : List (List Value)) (es sp : List (DataW HH)), v = .slice (some ⟨H.next, 0, some ks.length⟩) L.length L.length ∧ H' = H.new (.cells L.flatten false) ∧ (∀ l ∈ L, OkL ks l) ∧ dw = .slice es sp ∧ es.length = L.length) := by
  obtain ⟨a, len, cap, rfl⟩ := okWide_slice ht hval
  obtain ⟨fuel, hx⟩ := hd
  rcases DataW.trod_slice ht hx with ⟨h1, h2⟩ | ⟨a', len', cap', elems, rest, n, hfu, h1, h2, h3, h4, h5, h6, h7, _, _⟩
  · cases h1
    cases h2
    exact ⟨.slice none 0 0, H, β, hR, hno, Bt.le_refl _, .snil, .inl ⟨rfl, rfl, rfl⟩⟩
  · cases h1
    have hhas : W.has P .any b0 a' e cap := by
      have := hval
      unfold Value.okWide Cell.okWide Cell.ok at this
      rw [ht] at this
      exact this.2.2
    obtain ⟨_, hspot, row, cells, hshape, _⟩ := hhas
    obtain ⟨b, s, sp0⟩ := a'
    simp only at hspot
    subst hspot
    have hbl : b < W.heap.size := by
      unfold World.shape? at hshape
      cases hq : W.heap[b]? with
      | none => rw [hq] at hshape; cases hshape
      | some o => exact (Array.getElem?_eq_some_iff.1 hq).1
    have hrow : ∀ i, i < len → ∃ l : List Value, OkL ks l ∧ ∀ j u, l[j]? = some u → W.cell? ⟨b, s + (i * ks.length + j), none⟩ = some u := by
      intro i hi
      have := h7 i hi
      cases hc : W.cells? 0 ((⟨b, s, none⟩ : Addr).add (i * P.cellsOf e)) (P.cellsOf e) with
      | none =>
        rw [hc] at this
        have hlt : i < elems.length := by omega
        rw [List.getElem?_eq_getElem hlt] at this; cases this
      | some l =>
        rw [hc] at this
        have hlt : i < elems.length := by omega
        rw [List.getElem?_eq_getElem hlt] at this
        have hok := flat_ok d e ks hf n l _ this
        refine ⟨l, hok, fun j u hu => ?_⟩
        unfold World.cells? at hc
        rw [if_pos (Nat.zero_le _)] at hc
        obtain ⟨g1, g2⟩ := mapM_get _ _ hc
        have hjl : j < l.length := (List.getElem?_eq_some_iff.1 hu).1
        obtain ⟨c, g3, g4⟩ := g2 j j (by rw [List.getElem?_range]; simp at g1; omega)
        rw [hu] at g3; cases g3
        rw [hk, addr_add, addr_add] at g4
        rw [show s + (i * ks.length + j) = s + i * ks.length + j by omega]
        exact g4
    have hL : ∃ L : List (List Value), L.length = len ∧ ∀ i l, L[i]? = some l → OkL ks l ∧ ∀ j u, l[j]? = some u → W.cell? ⟨b, s + (i * ks.length + j), none⟩ = some u := by
      refine ⟨(List.range len).map fun i => if h : i < len then (hrow i h).choose else [], by simp, fun i l hl => ?_⟩
      rw [List.getElem?_map] at hl
      by_cases hi : i < len
      · rw [List.getElem?_range hi] at hl
        simp only [Option.map_some, dif_pos hi, Option.some.injEq] at hl
        subst hl
        exact (hrow i hi).choose_spec
      · rw [List.getElem?_eq_none (by simp; omega)] at hl; cases hl
    obtain ⟨L, hLl, hLp⟩ := hL
    have hLk : ∀ l ∈ L, OkL ks l := fun l hl => by
      obtain ⟨i, hi, rfl⟩ := List.getElem_of_mem hl
      exact (hLp i L[i] (by simp)).1
    have hLs : ∀ l ∈ L, l.length = ks.length := fun l hl => (hLk l hl).1
    obtain ⟨g1, g2, g3⟩ := hR.addRo hno (cs := L.flatten) (b := b) (s := s) (t := s + cap * ks.length) hbl (fun q v hv => by
      have hq : q < L.flatten.length := (List.getElem?_eq_some_iff.1 hv).1
      rw [flatten_length L hLs] at hq
      have hdm : q / ks.length * ks.length + q % ks.length = q := by rw [Nat.mul_comm]; exact Nat.div_add_mod q ks.length
      have hm := Nat.mod_lt q h0
      rw [← hdm, flatten_get L hLs _ _ hm] at hv
      cases hl : L[q / ks.length]? with
      | none => rw [hl] at hv; cases hv
      | some l =>
        rw [hl] at hv
        obtain ⟨p1, p2⟩ := hLp _ l hl
        refine ⟨v, ?_, ?_⟩
        · have := p2 (q % ks.length) v hv
          rw [hdm] at this
          exact this
        · have hkk : q % ks.length < ks.length := hm
          obtain ⟨u, hu1, hu2⟩ := p1.2 (q % ks.length) _ (List.getElem?_eq_getElem hkk)
          have hv' : l[q % ks.length]? = some v := hv
          rw [hu1] at hv'; cases hv'
          exact hu2.rel _)
    refine ⟨.slice (some ⟨H.next, 0, some ks.length⟩) L.length L.length, _, _, g1, g2, g3, ?_, .inr ⟨L, _, _, rfl, rfl, hLk, (Prod.mk.inj h2).1, by simp; omega⟩⟩
    rw [hLl]
    exact .slice _ _ _ _ _ _ _ _ (Bt.set_same _ _ _) (Nat.le_refl _) h4 (Nat.le_refl _) (fun _ => rfl)
end Go.AM
/- The Term seat: the arguments. -/
set_option linter.unusedVariables false
set_option linter.unusedSimpArgs false
namespace Go.AM
open Go Go.ChangeShapes Go.WideShapes Go.ChangeAt Go.RowKit
theorem consL {α : Type} {l : List α} {n : Nat} (h : l.length = n + 1) : ∃ a t, l = a :: t ∧ t.length = n := by
  cases l with
  | nil => cases h
  | cons a t => exact ⟨a, t, rfl, by simpa using h⟩
def ks16 : List Sc := [.int .i64, .int .i64, .int .i64, .int .i64, .int .i64, .int .i64, .bool, .int .u64, .str, .int .i64, .int .i64, .int .i64, .int .i64, .int .i64, .int .u64, .str]
theorem opDec (l : List Value) (h : OkL ks16 l) : ∃ o : OpA, o.cells = l ∧ o.Ok := by
  obtain ⟨hl0, hh⟩ := h
  obtain ⟨v0, l0, rfl, hl1⟩ := consL hl0
  obtain ⟨v1, l1, rfl, hl2⟩ := consL hl1
  obtain ⟨v2, l2, rfl, hl3⟩ := consL hl2
  obtain ⟨v3, l3, rfl, hl4⟩ := consL hl3
  obtain ⟨v4, l4, rfl, hl5⟩ := consL hl4
  obtain ⟨v5, l5, rfl, hl6⟩ := consL hl5
  obtain ⟨v6, l6, rfl, hl7⟩ := consL hl6
  obtain ⟨v7, l7, rfl, hl8⟩ := consL hl7
  obtain ⟨v8, l8, rfl, hl9⟩ := consL hl8
  obtain ⟨v9, l9, rfl, hl10⟩ := consL hl9
  obtain ⟨v10, l10, rfl, hl11⟩ := consL hl10
  obtain ⟨v11, l11, rfl, hl12⟩ := consL hl11
  obtain ⟨v12, l12, rfl, hl13⟩ := consL hl12
  obtain ⟨v13, l13, rfl, hl14⟩ := consL hl13
  obtain ⟨v14, l14, rfl, hl15⟩ := consL hl14
  obtain ⟨v15, l15, rfl, hl16⟩ := consL hl15
  have : l15 = [] := by cases l15 with | nil => rfl | cons a t => cases hl16
  subst this
  obtain ⟨_, e, n0, rfl, p0, q0⟩ := hh 0 _ rfl
  cases e
  obtain ⟨_, e, n1, rfl, p1, q1⟩ := hh 1 _ rfl
  cases e
  obtain ⟨_, e, n2, rfl, p2, q2⟩ := hh 2 _ rfl
  cases e
  obtain ⟨_, e, n3, rfl, p3, q3⟩ := hh 3 _ rfl
  cases e
  obtain ⟨_, e, n4, rfl, p4, q4⟩ := hh 4 _ rfl
  cases e
  obtain ⟨_, e, n5, rfl, p5, q5⟩ := hh 5 _ rfl
  cases e
  obtain ⟨_, e, n6, rfl⟩ := hh 6 _ rfl
  cases e
  obtain ⟨_, e, n7, rfl, p7, q7⟩ := hh 7 _ rfl
  cases e
  obtain ⟨_, e, n8, rfl⟩ := hh 8 _ rfl
  cases e
  obtain ⟨_, e, n9, rfl, p9, q9⟩ := hh 9 _ rfl
  cases e
  obtain ⟨_, e, n10, rfl, p10, q10⟩ := hh 10 _ rfl
  cases e
  obtain ⟨_, e, n11, rfl, p11, q11⟩ := hh 11 _ rfl
  cases e
  obtain ⟨_, e, n12, rfl, p12, q12⟩ := hh 12 _ rfl
  cases e
  obtain ⟨_, e, n13, rfl, p13, q13⟩ := hh 13 _ rfl
  cases e
  obtain ⟨_, e, n14, rfl, p14, q14⟩ := hh 14 _ rfl
  cases e
  obtain ⟨_, e, n15, rfl⟩ := hh 15 _ rfl
  cases e
  have e1 : IntKind.u64.min = 0 := rfl
  have e2 : IntKind.u64.max = 18446744073709551615 := rfl
  exact ⟨⟨n0, n1, n2, n3, n4, n5, n6, n7, n8, ⟨n9, n10, n11, n12, n13, n14, n15⟩⟩, rfl, ⟨⟨by show 0 ≤ n7; omega, by show n7 < 18446744073709551616; omega⟩, ⟨by show 0 ≤ n14; omega, by show n14 < 18446744073709551616; omega⟩⟩⟩
theorem decL {X : Type} {ks : List Sc} {cells : X → List Value} {Q : X → Prop} (dec : ∀ l, OkL ks l → ∃ o : X, cells o = l ∧ Q o) : ∀ Ls : List (List Value), (∀ l ∈ Ls, OkL ks l) → ∃ os : List X, Ls = os.map cells ∧ ∀ o ∈ os, Q o
  | [], _ => ⟨[], rfl, fun o h => by cases h⟩
  | l :: Ls, h => by
    obtain ⟨o, h1, h2⟩ := dec l (h l (List.mem_cons_self ..))
    obtain ⟨os, h3, h4⟩ := decL dec Ls fun l hl => h l (List.mem_cons_of_mem _ hl)
    refine ⟨o :: os, by rw [h3, List.map_cons, h1], fun x hx => ?_⟩
    rcases List.mem_cons.1 hx with rfl | hx
    · exact h2
    · exact h4 x hx
open Go.Proofs.Ytkfhklmklhnfaaa in
theorem bulk1 {HH : Type} (d : DataW HH) : 1 ≤ Rows.uptoBulk d := by
  cases d <;> first | (rename_i l; cases l <;> simp [Rows.uptoBulk]) | simp [Rows.uptoBulk]
open Go.Proofs.Ytkfhklmklhnfaaa in
theorem bulk_len {HH : Type} : ∀ es : List (DataW HH), es.length ≤ Rows.uptoBulkAll es
  | [] => Nat.zero_le _
  | d :: r => by
    have := bulk_len r
    have := bulk1 d
    simp only [Rows.uptoBulkAll, List.length_cons]
    omega
theorem flat46 : flat Go.Proofs.Try.prog 3 46 = some ks16 := by kernel_rfl
theorem script_arg {HH : Type} {enc : TypeId × Value → HH} {W : World} {H : Hp} {β : Bt} (hR : Rel Go.Proofs.Try.prog W H β) (hno : ∀ i o, H.get i = some o → o.own = false) {b0 : Nat} {v' : Value} {dw : DataW HH} {ps : List MemPlace}
    (hval : Value.okWide Go.Proofs.Try.prog W .any b0 22 v') (hd : DataW.Trod enc Go.Proofs.Try.prog W 0 (fun _ => true) true 22 v' dw ps) :
    ∃ (v : Value) (H' : Hp) (β' : Bt) (os : List OpA), Rel Go.Proofs.Try.prog W H' β' ∧ (∀ i o, H'.get i = some o → o.own = false) ∧ β.le β' ∧ VRel β' v v' ∧ ScR H' v os ∧ (∀ o ∈ os, o.Ok) ∧ os.length ≤ Go.Proofs.Ytkfhklmklhnfaaa.Rows.uptoBulk dw := by
  obtain ⟨v, H', β', g1, g2, g3, g4, g5⟩ := arg_flats (P := Go.Proofs.Try.prog) (t := 22) (e := 46) (d := 3) (ks := ks16) (by kernel_rfl) flat46 (by kernel_rfl) (by decide) hR hno hval hd
  rcases g5 with ⟨rfl, rfl, rfl⟩ | ⟨L, es, sp, rfl, rfl, h1, rfl, h2⟩
  · exact ⟨_, _, β', [], g1, g2, g3, g4, .inl ⟨rfl, rfl⟩, fun o h => (by cases h), by simp⟩
  · obtain ⟨os, h3, h4⟩ := decL (cells := OpA.cells) opDec L h1
    subst h3
    refine ⟨_, _, β', os, g1, g2, g3, g4, .inr ⟨H.next, ?_, ?_, ?_⟩, h4, ?_⟩
    · rw [List.length_map]; rfl
    · rw [g_new, if_pos rfl, List.flatMap_def]
    · show H.next < H.next + 1; omega
    · have := bulk_len es
      rw [List.length_map] at h2
      simp only [Go.Proofs.Ytkfhklmklhnfaaa.Rows.uptoBulk]
      omega
end Go.AM
