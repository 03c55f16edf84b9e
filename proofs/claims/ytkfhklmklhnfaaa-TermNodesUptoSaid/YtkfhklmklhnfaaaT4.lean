/- Part of the proof of TermNodesUptoSaid: see the last file.  -/
import Derived.Test.YtkfhklmklhnfaaaRows
import Derived.KernelRfl
import Derived.Test.YtkfhklmklhnfaaaT2
import Derived.Test.YtkfhklmklhnfaaaT3
set_option linter.unusedSimpArgs false
set_option linter.unusedVariables false
/- The abstract machine: arguments. -/
set_option linter.unusedVariables false
namespace Go.AM
open Go Go.ChangeShapes Go.WideShapes Go.ChangeAt Go.RowKit

inductive Sc where
  | bool | int (k : IntKind) | str
def okSc : Sc → Value → Prop
  | .bool, v => ∃ b, v = .bool b
  | .int k, v => ∃ n, v = .int k n ∧ k.min ≤ n ∧ n ≤ k.max
  | .str, v => ∃ s : ByteArray, v = .string s
theorem okSc.rel {k : Sc} {v : Value} (h : okSc k v) (β : Bt) : VRel β v v := by
  cases k with
  | bool => obtain ⟨b, rfl⟩ := h; exact .bool b
  | int k => obtain ⟨n, rfl, _⟩ := h; exact .int k n
  | str => obtain ⟨s, rfl⟩ := h; exact .string s

/-- The cells of a type that holds nothing but truths, numbers and texts. -/
def flatFs (P : Program) (c : TypeId → Option (List Sc)) : List Field → Nat → Option (List Sc)
  | [], _ => some []
  | f :: fs, off => match c f.type with
    | none => none
    | some ks => match Nat.beq f.offset off && Nat.beq ks.length (P.cellsOf f.type) with
      | true => match flatFs P c fs (off + ks.length) with
        | some r => some (ks ++ r)
        | none => none
      | false => none
def flat (P : Program) : Nat → TypeId → Option (List Sc)
  | 0, _ => none
  | d + 1, t => match P.underlying t with
    | some .bool => some [.bool]
    | some (.int k) => some [.int k]
    | some .string => some [.str]
    | some (.struct fs) => match flatFs P (flat P d) fs.toList 0 with
      | some ks => match Nat.beq ks.length (P.cellsOf t) with
        | true => some ks
        | false => none
      | none => none
    | _ => none

def OkL (ks : List Sc) (cs : List Value) : Prop := cs.length = ks.length ∧ ∀ (j : Nat) k, ks[j]? = some k → ∃ v, cs[j]? = some v ∧ okSc k v
theorem OkL.one {k : Sc} {v : Value} (h : okSc k v) : OkL [k] [v] := ⟨rfl, fun j k' hk => by
  cases j with
  | zero => cases hk; exact ⟨v, rfl, h⟩
  | succ j => cases hk⟩

variable {HH : Type} {enc : TypeId × Value → HH} {P : Program} {w : World} {base : Nat} {sp : Nat → Bool} {held : Bool}

theorem flatFs_ok {n : Nat} {c : TypeId → Option (List Sc)} (hc : ∀ t ks cs x, c t = some ks → DataW.trod enc P w base sp held n t cs = some x → OkL ks cs) {cs : List Value} :
    ∀ (fs : List Field) (off : Nat) (ks : List Sc), flatFs P c fs off = some ks → (∀ f ∈ fs, ∃ x, DataW.trod enc P w base sp held n f.type ((cs.drop f.offset).take (P.cellsOf f.type)) = some x) → off + ks.length ≤ cs.length →
      ∀ (j : Nat) k, ks[j]? = some k → ∃ v, cs[off + j]? = some v ∧ okSc k v
  | [], off, ks, h, _, _, j, k, hk => by cases h; cases hk
  | f :: fs, off, ks, h, hx, hl, j, k, hk => by
    unfold flatFs at h
    split at h
    · cases h
    · rename_i k1 h1
      split at h
      · rename_i hb
        rw [Bool.and_eq_true] at hb
        have ho : f.offset = off := Nat.eq_of_beq_eq_true hb.1
        have hk1 : k1.length = P.cellsOf f.type := Nat.eq_of_beq_eq_true hb.2
        split at h
        · rename_i r hr
          cases h
          obtain ⟨x, hx1⟩ := hx f (List.mem_cons_self ..)
          have hok := hc _ _ _ _ h1 hx1
          rcases Nat.lt_or_ge j k1.length with q | q
          · rw [List.getElem?_append_left q] at hk
            obtain ⟨v, hv, hs⟩ := hok.2 j k hk
            rw [List.getElem?_take] at hv
            split at hv
            · rw [List.getElem?_drop, ho] at hv
              exact ⟨v, hv, hs⟩
            · cases hv
          · rw [List.getElem?_append_right q] at hk
            simp only [List.length_append] at hl
            obtain ⟨v, hv, hs⟩ := flatFs_ok hc fs (off + k1.length) r hr (fun f hf => hx f (List.mem_cons_of_mem _ hf)) (by omega) (j - k1.length) k hk
            exact ⟨v, by rw [show off + j = off + k1.length + (j - k1.length) by omega]; exact hv, hs⟩
        · cases h
      · cases h

theorem flat_ok : ∀ (d : Nat) (t : TypeId) (ks : List Sc), flat P d t = some ks → ∀ (fuel : Nat) (cs : List Value) (x : DataW HH × List MemPlace), DataW.trod enc P w base sp held fuel t cs = some x → OkL ks cs
  | 0, t, ks, h, _, _, _, _ => by cases h
  | d + 1, t, ks, h, fuel, cs, x, hx => by
    unfold flat at h
    split at h
    · rename_i hu
      cases h
      obtain ⟨b, rfl, _⟩ := DataW.trod_bool hu hx
      exact OkL.one ⟨b, rfl⟩
    · rename_i k hu
      cases h
      obtain ⟨n, rfl, _, hw⟩ := DataW.trod_int hu hx
      refine OkL.one ⟨n, rfl, ?_⟩
      simpa [Lit.wf] using hw
    · rename_i hu
      cases h
      obtain ⟨s, rfl, _⟩ := DataW.trod_string hu hx
      exact OkL.one ⟨s, rfl⟩
    · rename_i fs hu
      split at h
      · rename_i k1 hf
        split at h
        · rename_i hb
          cases h
          have hlen : ks.length = P.cellsOf t := Nat.eq_of_beq_eq_true hb
          obtain ⟨xs, n, rfl, _, hl, hxl, hall⟩ := DataW.trod_struct hu hx
          refine ⟨by omega, fun j k hk => ?_⟩
          obtain ⟨v, hv, hs⟩ := flatFs_ok (n := n) (fun t ks cs x h1 h2 => flat_ok d t ks h1 n cs x h2) (cs := cs) fs.toList 0 ks hf (fun f hf => by
            obtain ⟨i, hi, rfl⟩ := List.getElem_of_mem hf
            have hi' : i < fs.size := by simpa using hi
            have := hall i fs.toList[i] (by simp [hi'])
            rw [this]
            exact ⟨xs[i], by simp⟩) (by omega) j k hk
          exact ⟨v, by simpa using hv, hs⟩
        · cases h
      · cases h
    · cases h

/-! ### Start heaps -/
def H00 (P : Program) : Hp := ⟨P.globals.size, fun _ => none⟩
def B00 (P : Program) : Bt := fun g => if g < P.globals.size then some ⟨g, 0, 0⟩ else none
theorem rel00 {W : World} (h : P.globals.size ≤ W.heap.size) : Rel P W (H00 P) (B00 P) :=
  ⟨fun i cs own hi => (by cases hi), fun i kv hi => (by cases hi), fun i j o o' x y _ hi => (by cases hi), fun i hi => ⟨rfl, by unfold B00; rw [if_neg (by have : P.globals.size ≤ i := hi; omega)]⟩,
    fun i x hx => by unfold B00 at hx; split at hx <;> cases hx; show i < _; omega, fun g hg => ⟨0, by unfold B00; rw [if_pos hg]⟩⟩
/-- A thing that is only read. -/
theorem Rel.addRo {W : World} {H : Hp} {β : Bt} (h : Rel P W H β) (hno : ∀ i o, H.get i = some o → o.own = false) {cs : List Value} {b s t : Nat} (hb : b < W.heap.size)
    (hc : ∀ (j : Nat) v, cs[j]? = some v → ∃ v', W.cell? ⟨b, s + j, none⟩ = some v' ∧ VRel β v v') :
    Rel P W (H.new (.cells cs false)) (β.set H.next ⟨b, s, t⟩) ∧ (∀ i o, (H.new (.cells cs false)).get i = some o → o.own = false) ∧ β.le (β.set H.next ⟨b, s, t⟩) := by
  have hf := (h.fresh H.next (Nat.le_refl _)).2
  have hle : β.le (β.set H.next ⟨b, s, t⟩) := Bt.le_set hf
  have hno' : ∀ i o, (H.new (.cells cs false)).get i = some o → o.own = false := fun i o hi => by
    rw [Hp.get_new] at hi
    split at hi
    · cases hi; rfl
    · exact hno i o hi
  refine ⟨⟨fun i ds own hi => ?_, fun i kv hi => ?_, fun i j o o' x y hij hi hj ho => (by rw [hno' i o hi] at ho; cases ho), fun i hi => ?_, fun i x hx => ?_, fun g hg => ?_⟩, hno', hle⟩
  · rw [Hp.get_new] at hi
    split at hi
    · rename_i e
      cases hi
      subst e
      exact ⟨_, Bt.set_same _ _ _, fun j v hv => by obtain ⟨v', h1, h2⟩ := hc j v hv; exact ⟨v', h1, h2.mono hle⟩, fun ho => by cases ho⟩
    · obtain ⟨x, hx, h1, h2⟩ := h.cells i ds own hi
      exact ⟨x, hle i x hx, fun j v hv => by obtain ⟨v', h3, h4⟩ := h1 j v hv; exact ⟨v', h3, h4.mono hle⟩, h2⟩
  · rw [Hp.get_new] at hi
    split at hi
    · cases hi
    · have := hno i _ hi
      cases this
  · have hi : H.next + 1 ≤ i := hi
    have := h.fresh i (by omega)
    refine ⟨?_, ?_⟩
    · rw [Hp.get_new, if_neg (by omega)]; exact this.1
    · unfold Bt.set; rw [if_neg (by omega)]; exact this.2
  · unfold Bt.set at hx
    split at hx
    · cases hx; exact hb
    · exact h.lt i x hx
  · obtain ⟨t', ht⟩ := h.glob g hg
    exact ⟨t', hle g _ ht⟩

/-! ### Slices of flat things -/
theorem mapM_get {γ δ : Type} {f : γ → Option δ} : ∀ (l : List γ) (cs : List δ), l.mapM f = some cs → cs.length = l.length ∧ ∀ (j : Nat) x, l[j]? = some x → ∃ c, cs[j]? = some c ∧ f x = some c
  | [], cs, h => by cases h; exact ⟨rfl, fun j x hx => by cases hx⟩
  | y :: l, cs, h => by
    rw [List.mapM_cons] at h
    cases hy : f y with
    | none => rw [hy] at h; cases h
    | some c =>
      rw [hy] at h
      cases hl : l.mapM f with
      | none => rw [hl] at h; cases h
      | some r =>
        rw [hl] at h
        cases h
        obtain ⟨h1, h2⟩ := mapM_get l r hl
        refine ⟨by simp [h1], fun j x hx => ?_⟩
        cases j with
        | zero => cases hx; exact ⟨c, rfl, hy⟩
        | succ j => exact h2 j x hx
theorem flatten_get {sz : Nat} : ∀ (L : List (List Value)), (∀ l ∈ L, l.length = sz) → ∀ i j, j < sz → L.flatten[i * sz + j]? = L[i]?.bind fun l => l[j]?
  | [], _, i, j, _ => by simp
  | l :: L, hL, i, j, hj => by
    have h0 := hL l (List.mem_cons_self ..)
    rw [List.flatten_cons]
    cases i with
    | zero =>
      rw [Nat.zero_mul, Nat.zero_add, List.getElem?_append_left (by omega)]
      rfl
    | succ i =>
      rw [List.getElem?_append_right (by rw [h0, Nat.succ_mul]; omega), h0, show (i + 1) * sz + j - sz = i * sz + j by rw [Nat.succ_mul]; omega]
      exact flatten_get L (fun l hl => hL l (List.mem_cons_of_mem _ hl)) i j hj
theorem flatten_length {sz : Nat} : ∀ (L : List (List Value)), (∀ l ∈ L, l.length = sz) → L.flatten.length = L.length * sz
  | [], _ => by simp
  | l :: L, hL => by
    rw [List.flatten_cons, List.length_append, hL l (List.mem_cons_self ..), flatten_length L (fun l hl => hL l (List.mem_cons_of_mem _ hl)), List.length_cons, Nat.succ_mul]
    omega

theorem arg_flats {t e : TypeId} {d : Nat} {ks : List Sc} (ht : P.underlying t = some (.slice e)) (hf : flat P d e = some ks) (hk : P.cellsOf e = ks.length) (h0 : 0 < ks.length)
    {W : World} {H : Hp} {β : Bt} (hR : Rel P W H β) (hno : ∀ i o, H.get i = some o → o.own = false) {b0 : Nat} {v' : Value} {dw : DataW HH} {ps : List MemPlace}
    (hval : Value.okWide P W .any b0 t v') (hd : DataW.Trod enc P W 0 (fun _ => true) true t v' dw ps) :
    ∃ (v : Value) (H' : Hp) (β' : Bt), Rel P W H' β' ∧ (∀ i o, H'.get i = some o → o.own = false) ∧ β.le β' ∧ VRel β' v v' ∧
      ((v = .slice none 0 0 ∧ dw = .nil ∧ H' = H) ∨
        ∃ (L : List (List Value)) (es sp : List (DataW HH)), v = .slice (some ⟨H.next, 0, some ks.length⟩) L.length L.length ∧ H' = H.new (.cells L.flatten false) ∧ (∀ l ∈ L, OkL ks l) ∧ dw = .slice es sp ∧ es.length = L.length) := by
  obtain ⟨a, len, cap, rfl⟩ := okWide_slice ht hval
  obtain ⟨fuel, hx⟩ := hd
  rcases DataW.trod_slice ht hx with ⟨h1, h2⟩ | ⟨a', len', cap', elems, rest, n, hfu, h1, h2, h3, h4, h5, h6, h7, _, _⟩
  · cases h1
    cases h2
    exact ⟨.slice none 0 0, H, β, hR, hno, Bt.le_refl _, .snil, .inl ⟨rfl, rfl, rfl⟩⟩
  · cases h1
    have hhas : W.has P .any b0 a' e cap := by
      have := hval
      unfold Value.okWide Cell.okWide Cell.ok at this
      rw [ht] at this
      exact this.2.2
    obtain ⟨_, hspot, row, cells, hshape, _⟩ := hhas
    obtain ⟨b, s, sp0⟩ := a'
    simp only at hspot
    subst hspot
    have hbl : b < W.heap.size := by
      unfold World.shape? at hshape
      cases hq : W.heap[b]? with
      | none => rw [hq] at hshape; cases hshape
      | some o => exact (Array.getElem?_eq_some_iff.1 hq).1
    have hrow : ∀ i, i < len → ∃ l : List Value, OkL ks l ∧ ∀ j u, l[j]? = some u → W.cell? ⟨b, s + (i * ks.length + j), none⟩ = some u := by
      intro i hi
      have := h7 i hi
      cases hc : W.cells? 0 ((⟨b, s, none⟩ : Addr).add (i * P.cellsOf e)) (P.cellsOf e) with
      | none =>
        rw [hc] at this
        have hlt : i < elems.length := by omega
        rw [List.getElem?_eq_getElem hlt] at this; cases this
      | some l =>
        rw [hc] at this
        have hlt : i < elems.length := by omega
        rw [List.getElem?_eq_getElem hlt] at this
        have hok := flat_ok d e ks hf n l _ this
        refine ⟨l, hok, fun j u hu => ?_⟩
        unfold World.cells? at hc
        rw [if_pos (Nat.zero_le _)] at hc
        obtain ⟨g1, g2⟩ := mapM_get _ _ hc
        have hjl : j < l.length := (List.getElem?_eq_some_iff.1 hu).1
        obtain ⟨c, g3, g4⟩ := g2 j j (by rw [List.getElem?_range]; simp at g1; omega)
        rw [hu] at g3; cases g3
        rw [hk, addr_add, addr_add] at g4
        rw [show s + (i * ks.length + j) = s + i * ks.length + j by omega]
        exact g4
    have hL : ∃ L : List (List Value), L.length = len ∧ ∀ i l, L[i]? = some l → OkL ks l ∧ ∀ j u, l[j]? = some u → W.cell? ⟨b, s + (i * ks.length + j), none⟩ = some u := by
      refine ⟨(List.range len).map fun i => if h : i < len then (hrow i h).choose else [], by simp, fun i l hl => ?_⟩
      rw [List.getElem?_map] at hl
      by_cases hi : i < len
      · rw [List.getElem?_range hi] at hl
        simp only [Option.map_some, dif_pos hi, Option.some.injEq] at hl
        subst hl
        exact (hrow i hi).choose_spec
      · rw [List.getElem?_eq_none (by simp; omega)] at hl; cases hl
    obtain ⟨L, hLl, hLp⟩ := hL
    have hLk : ∀ l ∈ L, OkL ks l := fun l hl => by
      obtain ⟨i, hi, rfl⟩ := List.getElem_of_mem hl
      exact (hLp i L[i] (by simp)).1
    have hLs : ∀ l ∈ L, l.length = ks.length := fun l hl => (hLk l hl).1
    obtain ⟨g1, g2, g3⟩ := hR.addRo hno (cs := L.flatten) (b := b) (s := s) (t := s + cap * ks.length) hbl (fun q v hv => by
      have hq : q < L.flatten.length := (List.getElem?_eq_some_iff.1 hv).1
      rw [flatten_length L hLs] at hq
      have hdm : q / ks.length * ks.length + q % ks.length = q := by rw [Nat.mul_comm]; exact Nat.div_add_mod q ks.length
      have hm := Nat.mod_lt q h0
      rw [← hdm, flatten_get L hLs _ _ hm] at hv
      cases hl : L[q / ks.length]? with
      | none => rw [hl] at hv; cases hv
      | some l =>
        rw [hl] at hv
        obtain ⟨p1, p2⟩ := hLp _ l hl
        refine ⟨v, ?_, ?_⟩
        · have := p2 (q % ks.length) v hv
          rw [hdm] at this
          exact this
        · have hkk : q % ks.length < ks.length := hm
          obtain ⟨u, hu1, hu2⟩ := p1.2 (q % ks.length) _ (List.getElem?_eq_getElem hkk)
          have hv' : l[q % ks.length]? = some v := hv
          rw [hu1] at hv'; cases hv'
          exact hu2.rel _)
    refine ⟨.slice (some ⟨H.next, 0, some ks.length⟩) L.length L.length, _, _, g1, g2, g3, ?_, .inr ⟨L, _, _, rfl, rfl, hLk, (Prod.mk.inj h2).1, by simp; omega⟩⟩
    rw [hLl]
    exact .slice _ _ _ _ _ _ _ _ (Bt.set_same _ _ _) (Nat.le_refl _) h4 (Nat.le_refl _) (fun _ => rfl)
end Go.AM
/- The Term seat: the arguments. -/
set_option linter.unusedVariables false
set_option linter.unusedSimpArgs false
namespace Go.AM
open Go Go.ChangeShapes Go.WideShapes Go.ChangeAt Go.RowKit
theorem consL {α : Type} {l : List α} {n : Nat} (h : l.length = n + 1) : ∃ a t, l = a :: t ∧ t.length = n := by
  cases l with
  | nil => cases h
  | cons a t => exact ⟨a, t, rfl, by simpa using h⟩
def ks16 : List Sc := [.int .i64, .int .i64, .int .i64, .int .i64, .int .i64, .int .i64, .bool, .int .u64, .str, .int .i64, .int .i64, .int .i64, .int .i64, .int .i64, .int .u64, .str]
theorem opDec (l : List Value) (h : OkL ks16 l) : ∃ o : OpA, o.cells = l ∧ o.Ok := by
  obtain ⟨hl0, hh⟩ := h
  obtain ⟨v0, l0, rfl, hl1⟩ := consL hl0
  obtain ⟨v1, l1, rfl, hl2⟩ := consL hl1
  obtain ⟨v2, l2, rfl, hl3⟩ := consL hl2
  obtain ⟨v3, l3, rfl, hl4⟩ := consL hl3
  obtain ⟨v4, l4, rfl, hl5⟩ := consL hl4
  obtain ⟨v5, l5, rfl, hl6⟩ := consL hl5
  obtain ⟨v6, l6, rfl, hl7⟩ := consL hl6
  obtain ⟨v7, l7, rfl, hl8⟩ := consL hl7
  obtain ⟨v8, l8, rfl, hl9⟩ := consL hl8
  obtain ⟨v9, l9, rfl, hl10⟩ := consL hl9
  obtain ⟨v10, l10, rfl, hl11⟩ := consL hl10
  obtain ⟨v11, l11, rfl, hl12⟩ := consL hl11
  obtain ⟨v12, l12, rfl, hl13⟩ := consL hl12
  obtain ⟨v13, l13, rfl, hl14⟩ := consL hl13
  obtain ⟨v14, l14, rfl, hl15⟩ := consL hl14
  obtain ⟨v15, l15, rfl, hl16⟩ := consL hl15
  have : l15 = [] := by cases l15 with | nil => rfl | cons a t => cases hl16
  subst this
  obtain ⟨_, e, n0, rfl, p0, q0⟩ := hh 0 _ rfl
  cases e
  obtain ⟨_, e, n1, rfl, p1, q1⟩ := hh 1 _ rfl
  cases e
  obtain ⟨_, e, n2, rfl, p2, q2⟩ := hh 2 _ rfl
  cases e
  obtain ⟨_, e, n3, rfl, p3, q3⟩ := hh 3 _ rfl
  cases e
  obtain ⟨_, e, n4, rfl, p4, q4⟩ := hh 4 _ rfl
  cases e
  obtain ⟨_, e, n5, rfl, p5, q5⟩ := hh 5 _ rfl
  cases e
  obtain ⟨_, e, n6, rfl⟩ := hh 6 _ rfl
  cases e
  obtain ⟨_, e, n7, rfl, p7, q7⟩ := hh 7 _ rfl
  cases e
  obtain ⟨_, e, n8, rfl⟩ := hh 8 _ rfl
  cases e
  obtain ⟨_, e, n9, rfl, p9, q9⟩ := hh 9 _ rfl
  cases e
  obtain ⟨_, e, n10, rfl, p10, q10⟩ := hh 10 _ rfl
  cases e
  obtain ⟨_, e, n11, rfl, p11, q11⟩ := hh 11 _ rfl
  cases e
  obtain ⟨_, e, n12, rfl, p12, q12⟩ := hh 12 _ rfl
  cases e
  obtain ⟨_, e, n13, rfl, p13, q13⟩ := hh 13 _ rfl
  cases e
  obtain ⟨_, e, n14, rfl, p14, q14⟩ := hh 14 _ rfl
  cases e
  obtain ⟨_, e, n15, rfl⟩ := hh 15 _ rfl
  cases e
  have e1 : IntKind.u64.min = 0 := rfl
  have e2 : IntKind.u64.max = 18446744073709551615 := rfl
  exact ⟨⟨n0, n1, n2, n3, n4, n5, n6, n7, n8, ⟨n9, n10, n11, n12, n13, n14, n15⟩⟩, rfl, ⟨⟨by show 0 ≤ n7; omega, by show n7 < 18446744073709551616; omega⟩, ⟨by show 0 ≤ n14; omega, by show n14 < 18446744073709551616; omega⟩⟩⟩
theorem decL {X : Type} {ks : List Sc} {cells : X → List Value} {Q : X → Prop} (dec : ∀ l, OkL ks l → ∃ o : X, cells o = l ∧ Q o) : ∀ Ls : List (List Value), (∀ l ∈ Ls, OkL ks l) → ∃ os : List X, Ls = os.map cells ∧ ∀ o ∈ os, Q o
  | [], _ => ⟨[], rfl, fun o h => by cases h⟩
  | l :: Ls, h => by
    obtain ⟨o, h1, h2⟩ := dec l (h l (List.mem_cons_self ..))
    obtain ⟨os, h3, h4⟩ := decL dec Ls fun l hl => h l (List.mem_cons_of_mem _ hl)
    refine ⟨o :: os, by rw [h3, List.map_cons, h1], fun x hx => ?_⟩
    rcases List.mem_cons.1 hx with rfl | hx
    · exact h2
    · exact h4 x hx
open Go.Proofs.Ytkfhklmklhnfaaa in
theorem bulk1 {HH : Type} (d : DataW HH) : 1 ≤ Rows.uptoBulk d := by
  cases d <;> first | (rename_i l; cases l <;> simp [Rows.uptoBulk]) | simp [Rows.uptoBulk]
open Go.Proofs.Ytkfhklmklhnfaaa in
theorem bulk_len {HH : Type} : ∀ es : List (DataW HH), es.length ≤ Rows.uptoBulkAll es
  | [] => Nat.zero_le _
  | d :: r => by
    have := bulk_len r
    have := bulk1 d
    simp only [Rows.uptoBulkAll, List.length_cons]
    omega
theorem flat46 : flat Go.Proofs.Try.prog 3 46 = some ks16 := by kernel_rfl
theorem script_arg {HH : Type} {enc : TypeId × Value → HH} {W : World} {H : Hp} {β : Bt} (hR : Rel Go.Proofs.Try.prog W H β) (hno : ∀ i o, H.get i = some o → o.own = false) {b0 : Nat} {v' : Value} {dw : DataW HH} {ps : List MemPlace}
    (hval : Value.okWide Go.Proofs.Try.prog W .any b0 22 v') (hd : DataW.Trod enc Go.Proofs.Try.prog W 0 (fun _ => true) true 22 v' dw ps) :
    ∃ (v : Value) (H' : Hp) (β' : Bt) (os : List OpA), Rel Go.Proofs.Try.prog W H' β' ∧ (∀ i o, H'.get i = some o → o.own = false) ∧ β.le β' ∧ VRel β' v v' ∧ ScR H' v os ∧ (∀ o ∈ os, o.Ok) ∧ os.length ≤ Go.Proofs.Ytkfhklmklhnfaaa.Rows.uptoBulk dw := by
  obtain ⟨v, H', β', g1, g2, g3, g4, g5⟩ := arg_flats (P := Go.Proofs.Try.prog) (t := 22) (e := 46) (d := 3) (ks := ks16) (by kernel_rfl) flat46 (by kernel_rfl) (by decide) hR hno hval hd
  rcases g5 with ⟨rfl, rfl, rfl⟩ | ⟨L, es, sp, rfl, rfl, h1, rfl, h2⟩
  · exact ⟨_, _, β', [], g1, g2, g3, g4, .inl ⟨rfl, rfl⟩, fun o h => (by cases h), by simp⟩
  · obtain ⟨os, h3, h4⟩ := decL (cells := OpA.cells) opDec L h1
    subst h3
    refine ⟨_, _, β', os, g1, g2, g3, g4, .inr ⟨H.next, ?_, ?_, ?_⟩, h4, ?_⟩
    · rw [List.length_map]; rfl
    · rw [g_new, if_pos rfl, List.flatMap_def]
    · show H.next < H.next + 1; omega
    · have := bulk_len es
      rw [List.length_map] at h2
      simp only [Go.Proofs.Ytkfhklmklhnfaaa.Rows.uptoBulk]
      omega
end Go.AM
/- The Term seat: looks at nodes. -/
set_option linter.unusedVariables false
set_option linter.unusedSimpArgs false
namespace Go.AM
open Go
/-- A loop's rule: an invariant, and a number that becomes less. -/
theorem loop_rule {σ : Type} {S : List Value → Hp → Option Outc} {I : σ → List Value → Hp → Prop} {m : σ → Nat} {out : Outc → Prop}
    (h : ∀ s l H, I s l H → (∃ l' H' s', S l H = some (.next, l', H') ∧ m s' < m s ∧ I s' l' H') ∨ (∃ o, S l H = some o ∧ o.1 ≠ .next ∧ out o)) :
    ∀ (k : Nat) (s : σ) (l : List Value) (H : Hp), m s ≤ k → I s l H → ∃ o, loopD S l H = some o ∧ out o := by
  intro k
  induction k with
  | zero =>
    intro s l H hk hI
    rcases h s l H hI with ⟨l', H', s', _, h2, _⟩ | ⟨o, h1, h2, h3⟩
    · omega
    · refine ⟨o, ?_, h3⟩
      rw [loopD_eq, h1]
      obtain ⟨c, l', H'⟩ := o
      cases c <;> first | rfl | exact absurd rfl h2
  | succ k ih =>
    intro s l H hk hI
    rcases h s l H hI with ⟨l', H', s', h1, h2, h3⟩ | ⟨o, h1, h2, h3⟩
    · obtain ⟨o, g1, g2⟩ := ih s' l' H' (by omega) h3
      refine ⟨o, ?_, g2⟩
      rw [loopD_eq, h1]
      exact g1
    · refine ⟨o, ?_, h3⟩
      rw [loopD_eq, h1]
      obtain ⟨c, l', H'⟩ := o
      cases c <;> first | rfl | exact absurd rfl h2
/-- A loop that counts, and changes nothing. -/
theorem loop_count {S : List Value → Hp → Option Outc} {H : Hp} (n : Nat) (hs : ∀ i, i < n → S [.int .i64 (i : Int)] H = some (.next, [.int .i64 ((i + 1 : Nat) : Int)], H))
    (he : S [.int .i64 (n : Int)] H = some (.exit 0, [.int .i64 (n : Int)], H)) : ∀ k i, i + k = n → loopD S [.int .i64 (i : Int)] H = some (.exit 0, [.int .i64 (n : Int)], H)
  | 0, i, h => by
    have : i = n := by omega
    subst this
    rw [loopD_eq, he]; rfl
  | k + 1, i, h => by
    rw [loopD_eq, hs i (by omega)]
    exact loop_count n hs he k (i + 1) (by omega)

def noNd : Nd := ⟨0, 0, 0, 0, 0, 0, ⟨#[]⟩⟩
def nodeAt (L : List Nd) (t : Int) : Nd := if isT L t = true then (L[(t - 1).toNat]?).getD noNd else noNd
theorem bnil {α : Type} (k : Value → Option α) : pBuild Go.Proofs.Try.prog 36 [] k = k noNd.val := bld (by kernel_rfl) k
theorem ncell7 {α : Type} (n : Nd) (k : Value → Option α) : pCell 7 true n.cells 0 k = k n.val := rfl
theorem nodes_at (L : List Nd) : ∀ i n, L[i]? = some n → ((L.flatMap Nd.cells).drop (i * 7)).take 7 = n.cells := by
  induction L with
  | nil => intro i o h; cases h
  | cons a L ih =>
    intro i o h
    have h7 : ∀ n : Nd, n.cells.length = 7 := fun n => rfl
    rw [List.flatMap_cons]
    cases i with
    | zero => cases h; rw [Nat.zero_mul, List.drop_zero, List.take_append_of_le_length (by rw [h7]; omega), List.take_of_length_le (by rw [h7]; omega)]
    | succ i =>
      rw [List.drop_append, List.drop_of_length_le (by rw [h7]; omega), h7, List.nil_append, show (i + 1) * 7 - 7 = i * 7 by omega]
      exact ih i o h
theorem ld7 {α : Type} {H : Hp} {L : List Nd} {y : Nat} {b : Bool} (h : H.get y = some (.cells (L.flatMap Nd.cells) b)) {i : Nat} {n : Nd} (ho : L[i]? = some n) (k : Value → Option α) :
    pLoad 7 true H (.pointer (some ⟨y, i * 7, none⟩)) k = k n.val := by
  have hlt : i < L.length := (List.getElem?_eq_some_iff.1 ho).1
  have h1 : i * 7 + 7 ≤ (L.flatMap Nd.cells).length := by rw [flat_len]; omega
  simp only [pLoad, Hp.rdP, Hp.rd, h, rdCells, h1, if_true, nodes_at L i n ho]
  rfl
theorem nodeEq_iff (n m : Nd) : nodeEq n m = true ↔ n = m := by
  cases n; cases m
  unfold nodeEq
  simp [ba_eq]
theorem nodeEq_self (n : Nd) : nodeEq n n = true := (nodeEq_iff n n).2 rfl
theorem eq36d (n m : Nd) : eqT Go.Proofs.Try.prog Op.maxDepth 36 n.val m.val =
    thenO (n.op == m.op) (thenO (n.w == m.w) (thenO (n.a == m.a) (thenO (n.b == m.b) (thenO (n.c == m.c) (thenO (n.num == m.num) (thenO (n.name == m.name) (some true))))))) := by
  kernel_rfl
theorem eqOp36 (n m : Nd) : eqOp Go.Proofs.Try.prog 36 n.val m.val = some (nodeEq n m) := by
  have hg : Go.Proofs.Try.prog.eqGuardType Go.Proofs.Try.prog.depth 36 = false := by kernel_rfl
  show (match Go.Proofs.Try.prog.eqGuardType Go.Proofs.Try.prog.depth 36 with | true => none | false => eqT Go.Proofs.Try.prog Op.maxDepth 36 n.val m.val) = _
  rw [hg, eq36d]
  unfold nodeEq
  cases n.op == m.op <;> cases n.w == m.w <;> cases n.a == m.a <;> cases n.b == m.b <;> cases n.c == m.c <;> cases n.num == m.num <;> cases n.name == m.name <;> rfl
theorem s_neq36 {α : Type} (n m : Nd) (k : Value → Option α) : pBin Go.Proofs.Try.prog .neq 36 n.val m.val k = k (.bool (!nodeEq n m)) := by
  have : binV Go.Proofs.Try.prog .neq 36 n.val m.val = some (.bool (!nodeEq n m)) := by
    show (match eqOp Go.Proofs.Try.prog 36 n.val m.val with | some b => some (Value.bool !b) | none => none) = _
    rw [eqOp36]
  unfold pBin; rw [this]
theorem s_eql36 {α : Type} (n m : Nd) (k : Value → Option α) : pBin Go.Proofs.Try.prog .eql 36 n.val m.val k = k (.bool (nodeEq n m)) := by
  have : binV Go.Proofs.Try.prog .eql 36 n.val m.val = some (.bool (nodeEq n m)) := by
    show (match eqOp Go.Proofs.Try.prog 36 n.val m.val with | some b => some (Value.bool b) | none => none) = _
    rw [eqOp36]
  unfold pBin; rw [this]
section
variable {H : Hp} {p f g : Nat} {lim : Int} {L : List Nd} {K : List (ByteArray × Int)} {sl : Value} (hs : StR H p lim L sl f g)
include hs
theorem c9 : RR 9 [.pointer (some ⟨p, 0, none⟩)] H = some (.int .i64 L.length, H) := by
  refine (r9 E0 rfl _ _).trans ?_
  unfold m9
  simp only [s_nil, s_offs, Nat.zero_add, hs.l1, hs.all.len]
theorem c10 (hL : (L.length : Int) ≤ 4611686018427387904) (t : Int) : RR 10 [.pointer (some ⟨p, 0, none⟩), .int .i64 t] H = some (.tuple #[(nodeAt L t).val, .int .i64 (if isT L t = true then 0 else 70)], H) := by
  refine (r10 E0 rfl _ _ _).trans ?_
  unfold m10
  rw [s_call (c19 hs), s_not, s_bool]
  unfold nodeAt
  cases ht : isT L t with
  | false => simp only [Bool.not_false, br, bnil, spl7, ncell7, Bool.false_eq_true, if_false]
  | true =>
    obtain ⟨i, n, hn, hi, hx⟩ := s_idx hs.all ht hL (fun p11 => pLoad 7 true H p11 fun v12 =>
      pSplice 7 [.int .i64 0, .int .i64 0, .int .i64 0, .int .i64 0, .int .i64 0, .int .u64 0, .string ⟨#[]⟩] 0 v12 fun c13 => pCell 7 true c13 0 fun v14 => some ((Value.tuple #[v14, (.int .i64 0)]), H))
    simp only [Bool.not_true, br, s_nil, s_offs, Nat.zero_add, hs.l1, s_sub, if_true]
    rw [hx, ld7 hi hn, spl7, ncell7, hn]
    rfl
end
theorem nodeAt_get {L : List Nd} {i : Nat} (h : i < L.length) : nodeAt L ((i + 1 : Nat) : Int) = L[i] ∧ isT L ((i + 1 : Nat) : Int) = true := by
  have h1 : isT L ((i + 1 : Nat) : Int) = true := isT_iff.2 ⟨by omega, by omega⟩
  refine ⟨?_, h1⟩
  unfold nodeAt
  rw [if_pos h1]
  have : (((i + 1 : Nat) : Int) - 1).toNat = i := by omega
  rw [this]; simp [h]
theorem SlR.ix {H : Hp} {L : List Nd} {sl : Value} (h : SlR H sl L) {i : Nat} (hi : i < L.length) {α : Type} :
    ∃ y, H.get y = some (.cells (L.flatMap Nd.cells) true) ∧ ∀ (k : Value → Option α), pIdx 7 sl (.int .i64 (i : Int)) k = k (.pointer (some ⟨y, i * 7, none⟩)) := by
  rcases h with ⟨rfl, _⟩ | ⟨y, rfl, hy⟩
  · cases hi
  · refine ⟨y, hy, fun k => ?_⟩
    unfold pIdx idxV
    have : (7 : Nat) = 7 ∧ (0 : Int) ≤ (i : Int) ∧ (i : Int) < (L.length : Int) := ⟨rfl, by omega, by omega⟩
    simp only [this, and_self, if_true, Nat.zero_add, Int.toNat_natCast]
theorem s_chkL {α : Type} {H H' : Hp} {sl : Value} {L : List Nd} (h : SlR H sl L) (k : Option α) : lenAgain .sl sl H' (.int .i64 L.length) k = k := by
  unfold lenAgain
  refine s_chk ?_ k
  rcases h with ⟨rfl, rfl⟩ | ⟨i, rfl, _⟩ <;> rfl
theorem StR.rd1 {H : Hp} {p f g : Nat} {lim : Int} {L : List Nd} {sl : Value} (h : StR H p lim L sl f g) : Hp.rdP H (.pointer (some ⟨p, 1, none⟩)) 1 false = some sl := by
  simp [Hp.rdP, Hp.rd, h.obj, rdCells]
theorem run4 (lim : Int) (os : List OpA) (hf : Fine os) (x : Value) (t : Int) (ht : -9223372036854775808 ≤ t ∧ t ≤ 9223372036854775807) (H : Hp) (hx : ScR H x os) : ∃ H', RR 4 [.int .i64 lim, x, .int .i64 t] H = some (.bool true, H') := by
  have hr := r4 E0 rfl (.int .i64 lim) x (.int .i64 t) H
  unfold m4 at hr
  by_cases hl : lim < 0
  · rw [s_call (c8_neg lim x H hl), s_t3a, s_t3b, s_t3c, s_pnil0 23 und23, s_bool, s_brt] at hr
    exact ⟨_, hr⟩
  · obtain ⟨H', p, f, g, s1, q, f', g', s2, e, hw⟩ := c8_pos lim os hf x H hx hl
    refine ⟨H', ?_⟩
    rw [s_call e, s_t3a, s_t3b, s_t3c, s_pnil 23 _ und23, s_bool, s_brf] at hr
    have hll := hw.l
    have htwo := hw.two
    generalize (runR lim os [] []).1 = L at hll htwo hr
    have hos := hf.len
    have hLb : (L.length : Int) ≤ 4611686018427387904 := by omega
    have A := htwo.a.st
    have B := htwo.b.st
    rw [s_call (c9 A), s_nil, s_offs, Nat.zero_add, B.l1, s_chk B.rd1, B.all.len, s_chkL B.all, s_neq, s_bool, decide_eq_false (by simp), s_brf] at hr
    have hloop := loop_count (S := fun l15 H16 =>
 pNil (.pointer (some ⟨q, 0, none⟩)) (
 pOffs 1 (.pointer (some ⟨q, 0, none⟩)) fun p17 =>
 pLoad 1 false H16 p17 fun v18 =>
 pLen .sl v18 H16 fun v19 =>
 pBin Go.Proofs.Try.prog .lss 3 (l15.getD 0 undef) v19 fun v20 =>
 pBool v20 fun b21 => br b21
 (pBin Go.Proofs.Try.prog .add 3 (l15.getD 0 undef) (.int .i64 1) fun v22 =>
 pCallF RR 10 [.pointer (some ⟨p, 0, none⟩), v22] H16 fun r23 H24 =>
 pExtract r23 0 fun v25 =>
 pExtract r23 1 fun v26 =>
 pSplice 7 [.int .i64 0, .int .i64 0, .int .i64 0, .int .i64 0, .int .i64 0, .int .u64 0, .string ⟨#[]⟩] 0 v25 fun c27 =>
 pCell 7 true c27 0 fun v28 =>
 pNil (.pointer (some ⟨q, 0, none⟩)) (
 pOffs 1 (.pointer (some ⟨q, 0, none⟩)) fun p29 =>
 pLoad 1 false H24 p29 fun v30 =>
 pIdx 7 v30 (l15.getD 0 undef) fun p31 =>
 pLoad 7 true H24 p31 fun v32 =>
 pBin Go.Proofs.Try.prog .neq 36 v28 v32 fun v33 =>
 pBool v33 fun b34 => br b34
 (some (.ret, [(.bool false)], H24))
 (pBin Go.Proofs.Try.prog .neq 37 v26 (.int .i64 0) fun v35 =>
 pBool v35 fun b36 => br b36
 (some (.ret, [(.bool false)], H24))
 (pBin Go.Proofs.Try.prog .add 3 (l15.getD 0 undef) (.int .i64 1) fun v37 =>
 some (.next, [v37], H24)))))
 (some (.exit 0, [(l15.getD 0 undef)], H16)))) (H := H') L.length (fun i hi => by
        have hwr : IntKind.i64.wrap ((i : Int) + 1) = ((i + 1 : Nat) : Int) := i64_wrap (by omega) (by omega)
        have hlt : (i : Int) < (L.length : Int) := by omega
        have hn := nodeAt_get hi
        obtain ⟨y, hy, hix⟩ := B.all.ix hi (α := Outc)
        simp only [s_nil, s_offs, Nat.zero_add, B.l1, B.all.len, s_lss, List.getD_cons_zero, hlt, decide_true, s_bool, s_brt, s_add, hwr, s_call (c10 A hLb _), s_ext0, s_ext1, hn.1, hn.2, if_true, spl7, ncell7, hix, ld7 hy (show L[i]? = some L[i] by simp [hi]), s_neq36, nodeEq_self, Bool.not_true, s_brf, s_neq, ne_eq, not_true_eq_false, decide_false])
      (by simp only [s_nil, s_offs, Nat.zero_add, B.l1, B.all.len, s_lss, List.getD_cons_zero, Int.lt_irrefl, decide_false, s_bool, s_brf]) L.length 0 (by omega)
    rw [show ((0 : Nat) : Int) = 0 from rfl] at hloop
    rw [hloop, s_bind, s_exit, s_onExit, s_call (c10 A hLb t), s_ext0, s_ext1, spl7] at hr
    refine hr.trans ?_
    by_cases h1 : t < 1
    · have hT : isT L t = false := by cases e : isT L t with | false => rfl | true => have := (isT_iff.1 e).1; omega
      have hN : nodeAt L t = noNd := by unfold nodeAt; rw [hT]; rfl
      simp only [s_lss, h1, decide_true, s_bool, s_brt, ncell7, bnil, s_eql36, hN, nodeEq_self, hT, Bool.false_eq_true, if_false, s_eql]
    · by_cases h2 : t > L.length
      · have hT : isT L t = false := by cases e : isT L t with | false => rfl | true => have := (isT_iff.1 e).2; omega
        have hN : nodeAt L t = noNd := by unfold nodeAt; rw [hT]; rfl
        simp only [s_lss, h1, decide_false, s_bool, s_brf, s_nil, s_offs, Nat.zero_add, B.l1, B.all.len, s_gtr, h2, decide_true, s_brt, ncell7, bnil, s_eql36, hN, nodeEq_self, hT, Bool.false_eq_true, if_false, s_eql]
      · have hT : isT L t = true := isT_iff.2 ⟨by omega, by omega⟩
        have hi : (t - 1).toNat < L.length := by omega
        have hwr : IntKind.i64.wrap (t - 1) = (((t - 1).toNat : Nat) : Int) := by rw [i64_wrap (by omega) (by omega)]; omega
        obtain ⟨y, hy, hix⟩ := B.all.ix hi (α := Value × Hp)
        have hN : nodeAt L t = L[(t - 1).toNat] := by unfold nodeAt; rw [if_pos hT, List.getElem?_eq_getElem hi]; rfl
        simp only [s_lss, h1, decide_false, s_bool, s_brf, s_nil, s_offs, Nat.zero_add, B.l1, B.all.len, s_gtr, h2, s_brt, ncell7, s_sub, hwr, hix, ld7 hy (List.getElem?_eq_getElem hi), s_eql36, hN, nodeEq_self, hT, if_true, s_eql, decide_true]
end Go.AM
