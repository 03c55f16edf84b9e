/- Part of the proof of KnownFactsUptoCardSaid: see the last file.  -/
import Derived.Laws.Build
import Derived.Laws.StructEq
import Derived.Laws.Append
import Derived.Laws.IdiomStrings
import Derived.Laws.BytesArg
import Derived.Laws.Sem
import Derived.Orders
import Derived.Test.YtloofbfkaombbaaDoorT0
set_option linter.unusedSimpArgs false
set_option linter.unusedVariables false
set_option linter.unusedSectionVars false
/- The abstract machine: frames, and what steps do to the relation. -/
set_option linter.unusedVariables false
namespace Go.AM
open Go

def SRel (β : Bt) (lam : Nat → Nat) (bx : Nat → Option Bx) (s : Slot) (v' : Value) : Prop :=
  match s with
  | .unk => True
  | .und => v' = undef
  | .val v => VRel β v v'
  | .loc d off => (bx d).isSome = true ∧ v' = .pointer (some ⟨lam d, off, none⟩)
def BxRel (w : World) (β : Bt) (b : Nat) : Bx → Prop
  | .cells cs _ => ∃ arr e, w.heap[b]? = some (.cells arr e (0, 0)) ∧ LRel β cs arr.toList
  | .iter s pos => w.heap[b]? = some (.stringIter s pos)
  | .iterRo s pos => w.heap[b]? = some (.stringIter s pos)

structure FRel (N : Nat) (w : World) (bx : Nat → Option Bx) (β : Bt) (lam : Nat → Nat) (fr : Fr) (a : Act) : Prop where
  size : a.tmps.size = fr.length
  slot : ∀ d s, fr[d]? = some s → SRel β lam bx s (a.tmps.getD d undef)
  box : ∀ d c, bx d = some c → N ≤ lam d ∧ lam d < w.heap.size ∧ (∀ i x, β i = some x → x.b ≠ lam d) ∧ BxRel w β (lam d) c
  apart : ∀ d d', (bx d).isSome = true → (bx d').isSome = true → d ≠ d' → lam d ≠ lam d'
  defers : a.defers = []

theorem SRel.mono {β β' : Bt} (hb : β.le β') {lam : Nat → Nat} {bx : Nat → Option Bx} {s : Slot} {v : Value} (h : SRel β lam bx s v) : SRel β' lam bx s v := by
  cases s with
  | val u => exact VRel.mono hb h
  | _ => exact h
theorem SRel.bx {β : Bt} {lam : Nat → Nat} {bx bx' : Nat → Option Bx} (hb : ∀ d, (bx d).isSome = true → (bx' d).isSome = true) {s : Slot} {v : Value} (h : SRel β lam bx s v) : SRel β lam bx' s v := by
  cases s with
  | loc d off => exact ⟨hb d h.1, h.2⟩
  | _ => exact h
/-- What a box may become. -/
def BxLe (b b' : Option Bx) : Prop :=
  match b with
  | none => True
  | some (.cells _ false) => ∃ cs', b' = some (.cells cs' false)
  | some (.iter _ _) => ∃ s p, b' = some (.iter s p)
  | b => b' = b
theorem BxLe.refl (b : Option Bx) : BxLe b b := by
  unfold BxLe; split <;> first | trivial | exact ⟨_, rfl⟩ | exact ⟨_, _, rfl⟩ | rfl
theorem BxLe.trans {a b c : Option Bx} (h : BxLe a b) (k : BxLe b c) : BxLe a c := by
  unfold BxLe at h
  split at h
  · trivial
  · obtain ⟨cs, rfl⟩ := h; exact k
  · obtain ⟨s, p, rfl⟩ := h; exact k
  · subst h; exact k
theorem BxLe.some {a b : Option Bx} (h : BxLe a b) (ha : a.isSome = true) : b.isSome = true := by
  unfold BxLe at h
  split at h
  · cases ha
  · obtain ⟨cs, rfl⟩ := h; rfl
  · obtain ⟨s, p, rfl⟩ := h; rfl
  · subst h; exact ha
def BMv (bx : Nat → Option Bx) (lam : Nat → Nat) (bx' : Nat → Option Bx) (lam' : Nat → Nat) : Prop := ∀ d, BxLe (bx d) (bx' d) ∧ ((bx d).isSome = true → lam' d = lam d)
theorem BMv.refl (bx : Nat → Option Bx) (lam : Nat → Nat) : BMv bx lam bx lam := fun d => ⟨BxLe.refl _, fun _ => rfl⟩
theorem BMv.trans {b1 b2 b3 : Nat → Option Bx} {l1 l2 l3 : Nat → Nat} (h : BMv b1 l1 b2 l2) (k : BMv b2 l2 b3 l3) : BMv b1 l1 b3 l3 := fun d =>
  ⟨(h d).1.trans (k d).1, fun hd => ((k d).2 ((h d).1.some hd)).trans ((h d).2 hd)⟩
theorem St.setB_same (S : St) (d : Nat) (c : Option Bx) : (S.setB d c).bx d = c := by simp [St.setB]
theorem St.setB_ne (S : St) {d e : Nat} (c : Option Bx) (h : e ≠ d) : (S.setB d c).bx e = S.bx e := by simp [St.setB, h]
theorem BMv.set {S : St} {d : Nat} {lam : Nat → Nat} {c : Bx} (h : BxLe (S.bx d) (some c)) : BMv S.bx lam (S.setB d (some c)).bx lam := fun e => by
  refine ⟨?_, fun _ => rfl⟩
  by_cases q : e = d
  · subst q; rw [St.setB_same]; exact h
  · rw [St.setB_ne _ _ q]; exact BxLe.refl _
theorem BMv.new {S : St} {d : Nat} {lam : Nat → Nat} {c : Bx} {n : Nat} (h : S.bx d = none) : BMv S.bx lam (S.setB d (some c)).bx (fun j => if j = d then n else lam j) := fun e => by
  by_cases q : e = d
  · subst q; rw [h]; exact ⟨trivial, fun q => by cases q⟩
  · rw [St.setB_ne _ _ q]; exact ⟨BxLe.refl _, fun _ => if_neg q⟩
theorem BxRel.mono {β β' : Bt} (hb : β.le β') {w w' : World} {b : Nat} (hw : w'.heap[b]? = w.heap[b]?) {c : Bx} (h : BxRel w β b c) : BxRel w' β' b c := by
  cases c with
  | cells cs ro => obtain ⟨arr, e, h1, h2⟩ := h; exact ⟨arr, e, by rw [hw]; exact h1, h2.mono hb⟩
  | iter s pos => show w'.heap[b]? = _; rw [hw]; exact h
  | iterRo s pos => show w'.heap[b]? = _; rw [hw]; exact h

theorem FRel.ext {N : Nat} {w w' : World} {H H' : Hp} {bx : Nat → Option Bx} {β β' : Bt} {lam : Nat → Nat} {fr : Fr} {a : Act}
    (h : FRel N w bx β lam fr a) (hr : ∀ i x, H.get i = some x → ∃ y, β i = some y) (k : Ext w.heap.size w H β w' H' β') : FRel N w' bx β' lam fr a where
  size := h.size
  slot := fun d s hs => (h.slot d s hs).mono k.le
  box := fun d c hc => by
    obtain ⟨h1, h2, h3, h4⟩ := h.box d c hc
    have hno : ¬ OwnB H β (lam d) := fun ⟨i, o, x, _, _, hx, hb⟩ => h3 i x hx hb
    refine ⟨h1, Nat.lt_of_lt_of_le h2 k.size, fun i x hx => ?_, h4.mono k.le (k.frame _ h2 hno)⟩
    cases hb : β i with
    | none => rcases k.news i x hx hb with q | q
              · omega
              · intro e; rw [e] at q; exact hno q
    | some y => have := k.le i y hb; rw [hx] at this; cases this; exact h3 i x hb
  apart := h.apart
  defers := h.defers

theorem Rel.has {P : Program} {w : World} {H : Hp} {β : Bt} (h : Rel P w H β) (i : Nat) (o : AObj) (hi : H.get i = some o) : ∃ x, β i = some x := by
  cases o with
  | cells cs own => obtain ⟨x, hx, _⟩ := h.cells i cs own hi; exact ⟨x, hx⟩
  | map kv => obtain ⟨x, hx, _⟩ := h.maps i kv hi; exact ⟨x, hx⟩
  | fix o => obtain ⟨x, hx, _⟩ := h.fix i o hi; exact ⟨x, hx⟩

theorem cell_congr {w w' : World} {b j : Nat} (h : w'.heap[b]? = w.heap[b]?) : w'.cell? ⟨b, j, none⟩ = w.cell? ⟨b, j, none⟩ := by
  simp only [World.cell?, h]
theorem RowAt.congr {w w' : World} {b t : Nat} (h : w'.heap[b]? = w.heap[b]?) (k : RowAt w b t) : RowAt w' b t := by
  obtain ⟨arr, e, fz, h1, h2, h3⟩ := k
  exact ⟨arr, e, fz, by rw [h]; exact h1, h2, h3⟩

/-- A world that is as it was at every object's block. -/
theorem Rel.frame {P : Program} {w w' : World} {H : Hp} {β : Bt} (h : Rel P w H β) (hs : w.heap.size ≤ w'.heap.size) (hw : ∀ i x, β i = some x → w'.heap[x.b]? = w.heap[x.b]?) : Rel P w' H β where
  cells := fun i cs own hi => by
    obtain ⟨x, hx, h1, h2⟩ := h.cells i cs own hi
    refine ⟨x, hx, fun j v hv => ?_, fun ho => ?_⟩
    · rw [cell_congr (hw i x hx)]; exact h1 j v hv
    · exact ⟨(h2 ho).1.congr (hw i x hx), (h2 ho).2⟩
  maps := fun i kv hi => by
    obtain ⟨x, hx, es, clock, h1, h2⟩ := h.maps i kv hi
    exact ⟨x, hx, es, clock, by rw [hw i x hx]; exact h1, h2⟩
  apart := h.apart
  fresh := h.fresh
  lt := fun i x hx => Nat.lt_of_lt_of_le (h.lt i x hx) hs
  glob := h.glob
  fix := fun i o hi => by
    obtain ⟨x, hx, h1⟩ := h.fix i o hi
    exact ⟨x, hx, by rw [hw i x hx]; exact h1⟩
  tys := fun i T hi => by
    obtain ⟨x, arr, fz, hx, h1, h2, h3⟩ := h.tys i T hi
    exact ⟨x, arr, fz, hx, h1, by rw [hw i x hx]; exact h2, h3⟩

theorem heap_alloc (w : World) (o : Obj) (k : Nat) (h : k < w.heap.size) : (w.alloc o).heap[k]? = w.heap[k]? := by
  show (w.heap.push o)[k]? = _
  rw [Array.getElem?_push, if_neg (by omega)]
theorem heap_alloc_new (w : World) (o : Obj) : (w.alloc o).heap[w.heap.size]? = some o := by
  show (w.heap.push o)[w.heap.size]? = _
  rw [Array.getElem?_push, if_pos rfl]

def Bt.set (β : Bt) (i : Nat) (x : BI) : Bt := fun j => if j = i then some x else β j
theorem Bt.le_set {β : Bt} {i : Nat} {x : BI} (h : β i = none) : β.le (β.set i x) := fun j y hj => by
  unfold Bt.set
  rw [if_neg (fun e => by subst e; rw [h] at hj; cases hj)]
  exact hj
theorem Bt.set_same (β : Bt) (i : Nat) (x : BI) : (β.set i x) i = some x := by simp [Bt.set]
theorem Hp.get_new (H : Hp) (o : AObj) (i : Nat) : (H.new o).get i = if i = H.next then some o else H.get i := rfl
theorem Hp.get_set (H : Hp) (j : Nat) (o : Option AObj) (i : Nat) : (H.set j o).get i = if i = j then o else H.get i := rfl

/-- An object more, in a new block of cells. -/
theorem Rel.new_cells {P : Program} {w : World} {H : Hp} {β : Bt} (h : Rel P w H β) (cs : List Value) (arr : Array Value) (e : TypeId) (fz : Nat × Nat) (n : Nat)
    (hl : LRel β cs (arr.toList.take n)) (hfz : ∀ j, j < arr.size → ¬ (fz.1 ≤ j ∧ j < fz.2)) :
    Rel P (w.alloc (.cells arr e fz)) (H.new (.cells cs true)) (β.set H.next ⟨w.heap.size, 0, arr.size⟩) ∧
    Ext w.heap.size w H β (w.alloc (.cells arr e fz)) (H.new (.cells cs true)) (β.set H.next ⟨w.heap.size, 0, arr.size⟩) := by
  have hf := (h.fresh H.next (Nat.le_refl _))
  have hle := Bt.le_set (x := ⟨w.heap.size, 0, arr.size⟩) hf.2
  have hlen : cs.length ≤ arr.size := by have := hl.1; simp at this; omega
  have hold : ∀ i x, β i = some x → (w.alloc (.cells arr e fz)).heap[x.b]? = w.heap[x.b]? := fun i x hx => heap_alloc _ _ _ (h.lt i x hx)
  refine ⟨⟨fun i ds own hi => ?_, fun i kv hi => ?_, fun i j o o' x y hij hi hj ho hx hy => ?_, fun i hi => ?_, fun i x hx => ?_, fun g hg => ?_, fun i o hi => (by
      rw [Hp.get_new] at hi
      split at hi
      · cases hi
      · obtain ⟨x, hx, h1⟩ := h.fix i o hi
        exact ⟨x, hle i x hx, by rw [hold i x hx]; exact h1⟩), fun i T hi => (by
      obtain ⟨x, arr, fz, hx, h1, h2, h3⟩ := h.tys i T hi
      exact ⟨x, arr, fz, hle i x hx, h1, by rw [hold i x hx]; exact h2, h3⟩)⟩,
    ⟨rfl, rfl, rfl, by simp, hle, Nat.le_succ _, fun b hb _ => heap_alloc _ _ _ hb, fun b => ?_, fun i x hx hn => ?_⟩⟩
  · rw [Hp.get_new] at hi
    split at hi
    · rename_i hin
      cases hi
      subst hin
      refine ⟨_, Bt.set_same _ _ _, fun j v hv => ?_, fun _ => ⟨⟨arr, e, fz, heap_alloc_new _ _, rfl, hfz⟩, by simpa using hlen⟩⟩
      obtain ⟨v', hv', hr⟩ := hl.get hv
      refine ⟨v', cell_iff.2 ⟨arr, e, fz, heap_alloc_new _ _, ?_⟩, hr.mono hle⟩
      rw [List.getElem?_take] at hv'
      split at hv'
      · simpa using hv'
      · simp at hv'
    · rename_i hin
      obtain ⟨x, hx, h1, h2⟩ := h.cells i ds own hi
      refine ⟨x, hle i x hx, fun j v hv => ?_, fun ho => ⟨(h2 ho).1.congr (hold i x hx), (h2 ho).2⟩⟩
      obtain ⟨v', hv', hr⟩ := h1 j v hv
      exact ⟨v', by rw [cell_congr (hold i x hx)]; exact hv', hr.mono hle⟩
  · rw [Hp.get_new] at hi
    split at hi
    · cases hi
    · obtain ⟨x, hx, es, clock, h1, h2, h3⟩ := h.maps i kv hi
      exact ⟨x, hle i x hx, es, clock, by rw [hold i x hx]; exact h1, h2.mono hle, h3⟩
  · rw [Hp.get_new] at hi hj
    unfold Bt.set at hx hy
    split at hi
    · rename_i hin
      subst hin
      rw [if_pos rfl] at hx
      cases hx
      rw [if_neg (Ne.symm hij)] at hy
      have := h.lt j y hy
      show w.heap.size ≠ y.b
      omega
    · rename_i hin
      rw [if_neg hin] at hx
      split at hj
      · rename_i hjn
        subst hjn
        rw [if_pos rfl] at hy
        cases hy
        have := h.lt i x hx
        show x.b ≠ w.heap.size
        omega
      · rename_i hjn
        rw [if_neg hjn] at hy
        exact h.apart i j o o' x y hij hi hj ho hx hy
  · have : H.next + 1 ≤ i := hi
    rw [Hp.get_new, if_neg (by omega)]
    unfold Bt.set
    rw [if_neg (by omega)]
    exact h.fresh i (by omega)
  · unfold Bt.set at hx
    split at hx
    · cases hx; simp
    · have := h.lt i x hx; simp; omega
  · obtain ⟨t, ht⟩ := h.glob g hg
    exact ⟨t, hle g _ ht⟩
  · rintro ⟨i, o, x, hi, ho, hx, rfl⟩
    rw [Hp.get_new] at hi
    unfold Bt.set at hx
    split at hi
    · rename_i hin; rw [if_pos hin] at hx; cases hx; exact .inl (Nat.le_refl _)
    · rename_i hin; rw [if_neg hin] at hx; exact .inr ⟨i, o, x, hi, ho, hx, rfl⟩
  · unfold Bt.set at hx
    split at hx
    · cases hx; exact .inl (Nat.le_refl _)
    · rw [hn] at hx; cases hx

/-- A new map. -/
theorem Rel.new_map {P : Program} {w : World} {H : Hp} {β : Bt} (h : Rel P w H β) :
    Rel P (w.alloc (.map #[] 0)) (H.new (.map [])) (β.set H.next ⟨w.heap.size, 0, 0⟩) ∧ Ext w.heap.size w H β (w.alloc (.map #[] 0)) (H.new (.map [])) (β.set H.next ⟨w.heap.size, 0, 0⟩) := by
  have hf := (h.fresh H.next (Nat.le_refl _))
  have hle := Bt.le_set (x := ⟨w.heap.size, 0, 0⟩) hf.2
  have hold : ∀ i x, β i = some x → (w.alloc (.map #[] 0)).heap[x.b]? = w.heap[x.b]? := fun i x hx => heap_alloc _ _ _ (h.lt i x hx)
  refine ⟨⟨fun i ds own hi => ?_, fun i kv hi => ?_, fun i j o o' x y hij hi hj ho hx hy => ?_, fun i hi => ?_, fun i x hx => ?_, fun g hg => ?_, fun i o hi => (by
      rw [Hp.get_new] at hi
      split at hi
      · cases hi
      · obtain ⟨x, hx, h1⟩ := h.fix i o hi
        exact ⟨x, hle i x hx, by rw [hold i x hx]; exact h1⟩), fun i T hi => (by
      obtain ⟨x, arr, fz, hx, h1, h2, h3⟩ := h.tys i T hi
      exact ⟨x, arr, fz, hle i x hx, h1, by rw [hold i x hx]; exact h2, h3⟩)⟩,
    ⟨rfl, rfl, rfl, by simp, hle, Nat.le_succ _, fun b hb _ => heap_alloc _ _ _ hb, fun b => ?_, fun i x hx hn => ?_⟩⟩
  · rw [Hp.get_new] at hi
    split at hi
    · cases hi
    · obtain ⟨x, hx, h1, h2⟩ := h.cells i ds own hi
      refine ⟨x, hle i x hx, fun j v hv => ?_, fun ho => ⟨(h2 ho).1.congr (hold i x hx), (h2 ho).2⟩⟩
      obtain ⟨v', hv', hr⟩ := h1 j v hv
      exact ⟨v', by rw [cell_congr (hold i x hx)]; exact hv', hr.mono hle⟩
  · rw [Hp.get_new] at hi
    split at hi
    · rename_i hin
      cases hi
      subst hin
      exact ⟨_, Bt.set_same _ _ _, #[], 0, heap_alloc_new _ _, ⟨rfl, by simp⟩, by simp⟩
    · obtain ⟨x, hx, es, clock, h1, h2, h3⟩ := h.maps i kv hi
      exact ⟨x, hle i x hx, es, clock, by rw [hold i x hx]; exact h1, h2.mono hle, h3⟩
  · rw [Hp.get_new] at hi hj
    unfold Bt.set at hx hy
    split at hi
    · rename_i hin
      subst hin
      rw [if_pos rfl] at hx
      cases hx
      rw [if_neg (Ne.symm hij)] at hy
      have := h.lt j y hy
      show w.heap.size ≠ y.b
      omega
    · rename_i hin
      rw [if_neg hin] at hx
      split at hj
      · rename_i hjn
        subst hjn
        rw [if_pos rfl] at hy
        cases hy
        have := h.lt i x hx
        show x.b ≠ w.heap.size
        omega
      · rename_i hjn
        rw [if_neg hjn] at hy
        exact h.apart i j o o' x y hij hi hj ho hx hy
  · have : H.next + 1 ≤ i := hi
    rw [Hp.get_new, if_neg (by omega)]
    unfold Bt.set
    rw [if_neg (by omega)]
    exact h.fresh i (by omega)
  · unfold Bt.set at hx
    split at hx
    · cases hx; simp
    · have := h.lt i x hx; simp; omega
  · obtain ⟨t, ht⟩ := h.glob g hg
    exact ⟨t, hle g _ ht⟩
  · rintro ⟨i, o, x, hi, ho, hx, rfl⟩
    rw [Hp.get_new] at hi
    unfold Bt.set at hx
    split at hi
    · rename_i hin; rw [if_pos hin] at hx; cases hx; exact .inl (Nat.le_refl _)
    · rename_i hin; rw [if_neg hin] at hx; exact .inr ⟨i, o, x, hi, ho, hx, rfl⟩
  · unfold Bt.set at hx
    split at hx
    · cases hx; exact .inl (Nat.le_refl _)
    · rw [hn] at hx; cases hx

theorem Ext.drew {N : Nat} {w w' : World} {H H' : Hp} {β β' : Bt} (h : Ext N w H β w' H' β') : Ext N w H β w'.drew H' β' :=
  ⟨h.os, h.tape, h.output, h.size, h.le, h.next, h.frame, h.own, h.news⟩
theorem Ext.of_drew {N : Nat} {w w' : World} {H H' : Hp} {β β' : Bt} (h : Ext N w.drew H β w' H' β') : Ext N w H β w' H' β' :=
  ⟨h.os, h.tape, h.output, h.size, h.le, h.next, h.frame, h.own, h.news⟩
theorem Rel.drew {P : Program} {w : World} {H : Hp} {β : Bt} (h : Rel P w H β) : Rel P w.drew H β := h.frame (Nat.le_refl _) (fun _ _ _ => rfl)
theorem FRel.drew {N : Nat} {w : World} {bx : Nat → Option Bx} {β : Bt} {lam : Nat → Nat} {fr : Fr} {a : Act} (h : FRel N w bx β lam fr a) : FRel N w.drew bx β lam fr a :=
  ⟨h.size, h.slot, h.box, h.apart, h.defers⟩

theorem spl_length (cs : List Value) (off : Nat) (vs : List Value) (h : off + vs.length ≤ cs.length) : (spl cs off vs).length = cs.length := by
  simp [spl]; omega
theorem spl_get (cs : List Value) (off : Nat) (vs : List Value) (h : off + vs.length ≤ cs.length) (j : Nat) :
    (spl cs off vs)[j]? = if off ≤ j ∧ j < off + vs.length then vs[j - off]? else cs[j]? := by
  unfold spl
  by_cases h1 : j < off
  · rw [if_neg (by omega), List.append_assoc, List.getElem?_append_left (by simp; omega), List.getElem?_take, if_pos h1]
  · by_cases h2 : j < off + vs.length
    · rw [if_pos (by omega), List.getElem?_append_left (by simp; omega), List.getElem?_append_right (by simp; omega)]
      simp; rw [Nat.min_eq_left (by omega)]
    · rw [if_neg (by omega), List.getElem?_append_right (by simp; omega), List.getElem?_drop]
      congr 1; simp; omega

theorem Typed.put {w w' : World} {β : Bt} {i : Nat} {T : TypeId} (h : Typed w β i T) {b off : Nat} {vs : List Value} (hp : Put w b off vs w') : Typed w' β i T := by
  obtain ⟨x, arr, fz, hx, h1, h2, h3⟩ := h
  by_cases e : x.b = b
  · subst e
    obtain ⟨arr', g1, g2, _⟩ := hp.row arr T fz h2
    exact ⟨x, arr', fz, hx, h1, g1, by omega⟩
  · exact ⟨x, arr, fz, hx, h1, by rw [hp.other _ e]; exact h2, h3⟩
theorem Typed.le {w : World} {β β' : Bt} {i : Nat} {T : TypeId} (h : Typed w β i T) (hb : β.le β') : Typed w β' i T := by
  obtain ⟨x, arr, fz, hx, h1⟩ := h
  exact ⟨x, arr, fz, hb _ _ hx, h1⟩
/-- The type of an object's block may be noted. -/
theorem Rel.mark {P : Program} {w : World} {H : Hp} {β : Bt} (h : Rel P w H β) {i : Nat} {T : TypeId} (ht : Typed w β i T) : Rel P w (H.mark i T) β :=
  ⟨h.cells, h.maps, h.apart, h.fresh, h.lt, h.glob, h.fix, fun j U hj => by
    have hj : (if j = i then some T else H.ty j) = some U := hj
    split at hj
    · rename_i e; cases hj; subst e; exact ht
    · exact h.tys j U hj⟩
theorem Ext.mark {N : Nat} {w w' : World} {H H' : Hp} {β β' : Bt} (h : Ext N w H β w' H' β') (i : Nat) (T : TypeId) : Ext N w H β w' (H'.mark i T) β' :=
  ⟨h.os, h.tape, h.output, h.size, h.le, h.next, h.frame, h.own, h.news⟩
/-- Some cells of an object of its own are written. -/
theorem Rel.write {P : Program} {w w' : World} {H : Hp} {β : Bt} (h : Rel P w H β) {i : Nat} {cs : List Value} {x : BI} (hi : H.get i = some (.cells cs true)) (hx : β i = some x)
    {off : Nat} {vs vs' : List Value} (hl : off + vs.length ≤ cs.length) (hv : LRel β vs vs') (hp : Put w x.b (x.s + off) vs' w') :
    Rel P w' (H.set i (some (.cells (spl cs off vs) true))) β ∧ Ext w.heap.size w H β w' (H.set i (some (.cells (spl cs off vs) true))) β := by
  obtain ⟨x', hx', h1, h2⟩ := h.cells i cs true hi
  rw [hx] at hx'; cases hx'
  obtain ⟨⟨arr, e, fz, hh, hsz, hfz⟩, hle⟩ := h2 rfl
  obtain ⟨arr', hh', hsz', hg⟩ := hp.row arr e fz hh
  have hoth : ∀ j o y, j ≠ i → H.get j = some o → β j = some y → w'.heap[y.b]? = w.heap[y.b]? := fun j o y hji hj hy =>
    hp.other _ (fun e => h.apart i j _ _ x y (Ne.symm hji) hi hj rfl hx hy e.symm)
  have hvl := hv.1
  refine ⟨⟨fun j ds own hj => ?_, fun j kv hj => ?_, fun j k o o' y z hjk hj hk ho hy hz => ?_, fun j hj => ?_, fun j y hy => ?_, h.glob, fun j o hj => (by
      rw [Hp.get_set] at hj
      split at hj
      · cases hj
      · rename_i hji
        obtain ⟨y, hy, h3⟩ := h.fix j o hj
        exact ⟨y, hy, by rw [hoth j _ y hji hj hy]; exact h3⟩), fun j T hj => (h.tys j T hj).put hp⟩,
    ⟨hp.os, hp.tape, hp.output, by rw [hp.size]; exact Nat.le_refl _, Bt.le_refl _, Nat.le_refl _, fun b hb ho => ?_, fun b => ?_, fun j y hy hn => by rw [hn] at hy; cases hy⟩⟩
  · rw [Hp.get_set] at hj
    split at hj
    · rename_i hji
      cases hj
      subst hji
      refine ⟨x, hx, fun k v hk => ?_, fun _ => ⟨⟨arr', e, fz, hh', by omega, fun q hq => hfz q hq⟩, by rw [spl_length _ _ _ hl]; exact hle⟩⟩
      rw [spl_get _ _ _ hl] at hk
      split at hk
      · rename_i hc
        obtain ⟨v', hv', hr⟩ := hv.get hk
        refine ⟨v', cell_iff.2 ⟨arr', e, fz, hh', ?_⟩, hr⟩
        rw [hg, if_pos (by omega)]
        rw [show x.s + k - (x.s + off) = k - off by omega]; exact hv'
      · rename_i hc
        obtain ⟨v', hv', hr⟩ := h1 k v hk
        refine ⟨v', cell_iff.2 ⟨arr', e, fz, hh', ?_⟩, hr⟩
        obtain ⟨a2, e2, f2, g2, g3⟩ := cell_iff.1 hv'
        rw [hh] at g2; cases g2
        rw [hg, if_neg (by omega)]; exact g3
    · rename_i hji
      obtain ⟨y, hy, h3, h4⟩ := h.cells j ds own hj
      have hw := hoth j _ y hji hj hy
      refine ⟨y, hy, fun k v hk => ?_, fun ho => ⟨(h4 ho).1.congr hw, (h4 ho).2⟩⟩
      obtain ⟨v', hv', hr⟩ := h3 k v hk
      exact ⟨v', by rw [cell_congr hw]; exact hv', hr⟩
  · rw [Hp.get_set] at hj
    split at hj
    · cases hj
    · rename_i hji
      obtain ⟨y, hy, es, clock, h3, h4⟩ := h.maps j kv hj
      exact ⟨y, hy, es, clock, by rw [hoth j _ y hji hj hy]; exact h3, h4⟩
  · rw [Hp.get_set] at hj hk
    have hj' : ∃ o2, H.get j = some o2 ∧ o2.own = true := by
      split at hj
      · rename_i e; subst e; exact ⟨_, hi, rfl⟩
      · exact ⟨o, hj, ho⟩
    have hk' : ∃ o2, H.get k = some o2 := by
      split at hk
      · rename_i e; subst e; exact ⟨_, hi⟩
      · exact ⟨_, hk⟩
    obtain ⟨o2, g1, g2⟩ := hj'
    obtain ⟨o3, g3⟩ := hk'
    exact h.apart j k o2 o3 y z hjk g1 g3 g2 hy hz
  · have := h.fresh j hj
    rw [Hp.get_set, if_neg (fun e => by subst e; rw [hi] at this; cases this.1)]
    exact this
  · rw [hp.size]; exact h.lt j y hy
  · exact hp.other b (fun e => by subst e; exact ho ⟨i, _, x, hi, rfl, hx, rfl⟩)
  · rintro ⟨j, o, y, hj, ho, hy, rfl⟩
    rw [Hp.get_set] at hj
    split at hj
    · rename_i e; subst e; rw [hx] at hy; cases hy; exact .inr ⟨_, _, x, hi, rfl, hx, rfl⟩
    · exact .inr ⟨j, o, y, hj, ho, hy, rfl⟩

/-- An object is given up. -/
theorem Rel.kill {P : Program} {w : World} {H : Hp} {β : Bt} (h : Rel P w H β) (i : Nat) : Rel P w (H.set i none) β ∧ Ext w.heap.size w H β w (H.set i none) β := by
  refine ⟨⟨fun j ds own hj => ?_, fun j kv hj => ?_, fun j k o o' y z hjk hj hk ho hy hz => ?_, fun j hj => ?_, h.lt, h.glob, fun j o hj => (by
      rw [Hp.get_set] at hj
      split at hj
      · cases hj
      · exact h.fix j o hj), h.tys⟩,
    ⟨rfl, rfl, rfl, Nat.le_refl _, Bt.le_refl _, Nat.le_refl _, fun _ _ _ => rfl, fun b => ?_, fun j y hy hn => by rw [hn] at hy; cases hy⟩⟩
  · rw [Hp.get_set] at hj; split at hj
    · cases hj
    · exact h.cells j ds own hj
  · rw [Hp.get_set] at hj; split at hj
    · cases hj
    · exact h.maps j kv hj
  · rw [Hp.get_set] at hj hk
    split at hj
    · cases hj
    · split at hk
      · cases hk
      · exact h.apart j k o o' y z hjk hj hk ho hy hz
  · have := h.fresh j hj
    rw [Hp.get_set]; split
    · exact ⟨rfl, this.2⟩
    · exact this
  · rintro ⟨j, o, y, hj, ho, hy, rfl⟩
    rw [Hp.get_set] at hj; split at hj
    · cases hj
    · exact .inr ⟨j, o, y, hj, ho, hy, rfl⟩
end Go.AM
/- The abstract machine: what acts acts on one part; what reads reads one. -/
set_option linter.unusedVariables false
namespace Go.AM
open Go

def sameOn (t : Option Nat) (S S2 : St) : Prop := match t with | none => S2.hp = S.hp | some d => S2.bx d = S.bx d
def TagR (t : Option Nat) (S S' : St) : Prop := match t with | none => S'.bx = S.bx | some e => S'.hp = S.hp ∧ ∀ d, d ≠ e → S'.bx d = S.bx d
theorem TagR.other {t u : Option Nat} {S S' : St} (h : TagR t S S') (hn : sameTag u t = false) : sameOn u S S' := by
  cases t with
  | none => cases u with
    | none => cases hn
    | some d => exact congrFun h d
  | some e => cases u with
    | none => exact h.1
    | some d => exact h.2 d (fun q => by subst q; simp [sameTag] at hn)

section
theorem heap_tag {C : Ctx} {fr : Fr} {S S' : St} {o : Oper} {s : Slot} (h : opR C fr S o = some (s, S')) (k : opR C fr S o = (opR C fr S o).bind fun p => some (p.1, (⟨S.bx, p.2.hp⟩ : St))) : S'.bx = S.bx := by
  rw [h] at k
  simp only [Option.bind_some, Option.some.injEq, Prod.mk.injEq, true_and] at k
  rw [k]
theorem box_tag {C : Ctx} {fr : Fr} {S S' : St} {o : Oper} {s : Slot} (e : Nat) (h : opR C fr S o = some (s, S')) (k : opR C fr S o = (opR C fr S o).bind fun p => some (p.1, S.setB e (p.2.bx e))) : S'.hp = S.hp ∧ ∀ d, d ≠ e → S'.bx d = S.bx d := by
  rw [h] at k
  simp only [Option.bind_some, Option.some.injEq, Prod.mk.injEq, true_and] at k
  rw [k]
  exact ⟨rfl, fun d hd => St.setB_ne _ _ hd⟩
theorem setB_leaf (s : Slot) (S : St) (e : Nat) (c : Option Bx) : some (s, S.setB e c) = (some (s, S.setB e c)).bind fun p => some (p.1, S.setB e (p.2.bx e)) := by
  simp [St.setB]
theorem self_leaf (s : Slot) (S : St) (e : Nat) : some (s, S) = (some (s, S)).bind fun p => some (p.1, S.setB e (p.2.bx e)) := by
  have : S.setB e (S.bx e) = S := by
    unfold St.setB
    have : (fun j => if j = e then S.bx e else S.bx j) = S.bx := by
      funext j; split
      · rename_i q; rw [q]
      · rfl
    rw [this]
  simp [this]

def boxTag (C : Ctx) (d : Option Nat) : Option Nat := match d with | some d => (match (C.O.loc C.f).elem d with | true => some d | false => none) | none => none
theorem newBox_tag {C : Ctx} {S S' : St} {d : Option Nat} {T : TypeId} {cs : List Value} {s : Slot} (h : newBox C S d T cs (fun s S' => some (s, S')) = some (s, S')) : TagR (boxTag C d) S S' := by
  unfold newBox at h
  rcases d with _ | d
  · cases h
  · dsimp only at h
    unfold boxTag
    cases he : (C.O.loc C.f).elem d with
    | true =>
      rw [he] at h
      dsimp only at h ⊢
      rw [he]
      rcases hb : S.bx d with _ | b
      · rw [hb] at h
        cases h
        exact ⟨rfl, fun e hne => St.setB_ne _ _ hne⟩
      · rw [hb] at h; cases h
    | false =>
      rw [he] at h
      dsimp only at h ⊢
      rw [he]
      cases hg : C.O.gt T <;> rw [hg] at h <;> cases h <;> rfl

theorem eff_tag {C : Ctx} {fr : Fr} {S S' : St} {o : Oper} {s : Slot} (h : opR C fr S o = some (s, S')) (hk : kindOf C.P o.op = .eff) : TagR (tagOf C fr o) S S' := by
  have h0 := h
  unfold opR opC at h
  dsimp only at h
  unfold tagOf
  cases hop : o.op <;> rw [hop] at h hk <;> (try dsimp only at h) <;> (try cases h; done) <;> (try cases hk; done)
  case alloc T =>
    obtain ⟨z, hz⟩ : ∃ z, newBox C S o.dst T (cellsL z) (fun s S' => some (s, S')) = some (s, S') := by
      unfold zeroC at h
      split at h
      · cases h
      · split at h
        · cases h
        · rename_i z _
          split at h
          · dsimp only at h
            split at h
            · exact ⟨z, h⟩
            · cases h
          · cases h
    exact (newBox_tag hz : TagR (boxTag C o.dst) S S')
  case box T x =>
    unfold sV at h
    split at h
    · exact (newBox_tag h : TagR (boxTag C o.dst) S S')
    · cases h
  case buildSlice T n p =>
    refine heap_tag h0 ?_
    unfold opR opC
    rw [hop]
    try dsimp only
    exact evs_nat _ fun v => sliceC_nat fun _ _ _ => pBuildSlice_nat fun _ _ => rfl
  case insert T m key x =>
    refine heap_tag h0 ?_
    unfold opR opC
    rw [hop]
    try dsimp only
    exact sV_nat fun m => sV_nat fun key => sV_nat fun x => mapC_nat fun _ _ => pUpd_nat fun _ => rfl
  case convert src dst x =>
    refine heap_tag h0 ?_
    unfold opR opC
    rw [hop]
    try dsimp only
    exact sV_nat fun x => convert_nat (fun _ => rfl) (fun _ _ => rfl)
  case makeMap T x =>
    refine heap_tag h0 ?_
    unfold opR opC
    rw [hop]
    try dsimp only
    cases x <;> rfl
  case makeSlice T l c =>
    refine heap_tag h0 ?_
    unfold opR opC
    rw [hop]
    try dsimp only
    exact sV_nat fun l => sV_nat fun c => sliceC_nat fun _ _ _ => pMakeSlice_nat fun _ _ => rfl
  case mapUpdate T m key x =>
    refine heap_tag h0 ?_
    unfold opR opC
    rw [hop]
    try dsimp only
    exact sV_nat fun m => sV_nat fun key => sV_nat fun x => mapC_nat fun _ _ => pUpd_nat fun _ => rfl
  case call c =>
    refine heap_tag h0 ?_
    unfold opR opC
    rw [hop]
    try dsimp only
    rcases c.callee with fo | ⟨rv, m⟩ | b
    · exact sV_nat fun fv => evs_nat _ fun vs => pCall_nat fun _ _ => rfl
    · rfl
    · refine evs_nat _ fun vs => ?_
      generalize c.argTypes.toList = ts
      cases b <;> (try dsimp only) <;> first | rfl | exact pMM_nat fun _ => rfl | skip
      all_goals
        rcases vs with _ | ⟨x, _ | ⟨y, _ | ⟨z, vs⟩⟩⟩ <;> rcases ts with _ | ⟨t, _ | ⟨u, _ | ⟨t3, ts⟩⟩⟩ <;> (try dsimp only) <;> first | rfl | skip
      · refine sliceC_nat fun sz bytes _ => ?_
        rcases C.P.underlying u with _ | d
        · rfl
        · cases d <;> first | rfl | exact pAppendG_nat fun _ _ => rfl
      · exact sliceC_nat fun sz _ _ => pCopy_nat fun _ _ => rfl
      · exact mapC_nat fun kt _ => pDel_nat fun _ => rfl
      · rcases C.P.underlying t with _ | d
        · rfl
        · dsimp only
          rcases lenK d with _ | q
          · rfl
          · exact pLen_nat fun _ => rfl

  case store T a x =>
    dsimp only
    cases he : ev C.P.globals.size fr a with
    | loc d off =>
      refine box_tag d h0 ?_
      unfold opR opC
      rw [hop]
      dsimp only
      refine sV_nat fun v => tyC_nat fun n agg => ?_
      rw [he]
      dsimp only
      rcases S.bx d with _ | b
      · rfl
      · cases b with
        | cells cs ro => cases ro <;> first | rfl | exact pSplice_nat fun _ => setB_leaf _ _ _ _
        | _ => rfl
    | _ =>
      refine heap_tag h0 ?_
      unfold opR opC
      rw [hop]
      dsimp only
      refine sV_nat fun v => tyC_nat fun n agg => ?_
      rw [he]
      first | rfl | exact pStore_nat fun _ => rfl
  case range T x =>
    dsimp only
    rcases hd : o.dst with _ | d
    · refine heap_tag h0 ?_
      unfold opR opC
      rw [hop]
      dsimp only
      refine sV_nat fun x => ?_
      rw [hd]
      rcases C.P.underlying T with _ | d
      · rfl
      · cases d <;> rfl
    · refine box_tag d h0 ?_
      unfold opR opC
      rw [hop]
      dsimp only
      refine sV_nat fun x => ?_
      rw [hd]
      rcases C.P.underlying T with _ | dd
      · rfl
      · cases dd <;> first | rfl | skip
        dsimp only
        rcases S.bx d with _ | b
        · exact pStrC_nat fun _ => setB_leaf _ _ _ _
        · rfl
  case next it b =>
    dsimp only
    cases b with
    | false => cases h
    | true =>
    try dsimp only at h
    cases he : ev C.P.globals.size fr it with
    | loc d off =>
      rw [he] at h
      cases off with
      | succ n => cases h
      | zero =>
        have h : (match S.bx d with
            | some (.iter s pos) => br (Nat.blt pos s.size) (some ((Slot.val (.tuple #[.bool true, .int .i64 pos, .int .i32 (Utf8.decode s pos).1])), (S.setB d (some (.iter s (pos + (Utf8.decode s pos).2)))))) (some ((Slot.val (.tuple #[.bool false])), S))
            | _ => none) = some (s, S') := h
        refine ⟨?_, fun e hne => ?_⟩
        · rcases hb : S.bx d with _ | b
          · rw [hb] at h; cases h
          · rw [hb] at h
            cases b with
            | iter st pos =>
              dsimp only at h
              unfold br at h
              split at h <;> cases h <;> rfl
            | _ => cases h
        · rcases hb : S.bx d with _ | b
          · rw [hb] at h; cases h
          · rw [hb] at h
            cases b with
            | iter st pos =>
              dsimp only at h
              unfold br at h
              split at h
              · cases h; exact St.setB_ne _ _ hne
              · cases h; rfl
            | _ => cases h
    | _ => rw [he] at h; cases h

def pickB (t : Option Nat) (a b : Nat → Option Bx) : Nat → Option Bx := match t with
  | none => b
  | some e => fun d => if d = e then a d else b d
theorem heap_bx {C : Ctx} {fr : Fr} {S S' : St} {o : Oper} {s : Slot} {bx2 : Nat → Option Bx} (h : opR C fr S o = some (s, S')) (k : opR C fr ⟨bx2, S.hp⟩ o = (opR C fr S o).bind fun p => some (p.1, (⟨bx2, p.2.hp⟩ : St))) :
    opR C fr ⟨bx2, S.hp⟩ o = some (s, ⟨pickB none S'.bx bx2, S'.hp⟩) := by
  rw [k, h]; rfl
theorem box_bx {C : Ctx} {fr : Fr} {S S' : St} {o : Oper} {s : Slot} {bx2 : Nat → Option Bx} (e : Nat) (h : opR C fr S o = some (s, S')) (hh : S'.hp = S.hp) (k : opR C fr ⟨bx2, S.hp⟩ o = (opR C fr S o).bind fun p => some (p.1, St.setB ⟨bx2, S.hp⟩ e (p.2.bx e))) :
    opR C fr ⟨bx2, S.hp⟩ o = some (s, ⟨pickB (some e) S'.bx bx2, S'.hp⟩) := by
  rw [k, h, hh]
  unfold St.setB pickB
  simp only [Option.bind_some, Option.some.injEq, Prod.mk.injEq, St.mk.injEq, and_true, true_and]
  funext d
  by_cases q : d = e
  · subst q; rfl
  · rw [if_neg q, if_neg q]
theorem newBox_bx {C : Ctx} {S S' : St} {bx2 : Nat → Option Bx} {d : Option Nat} {T : TypeId} {cs : List Value} {s : Slot} (h : newBox C S d T cs (fun s S' => some (s, S')) = some (s, S')) (hb : ∀ e, boxTag C d = some e → bx2 e = S.bx e) :
    newBox C ⟨bx2, S.hp⟩ d T cs (fun s S' => some (s, S')) = some (s, ⟨pickB (boxTag C d) S'.bx bx2, S'.hp⟩) := by
  unfold newBox at h ⊢
  rcases d with _ | d
  · cases h
  · dsimp only at h ⊢
    unfold boxTag at hb ⊢
    cases he : (C.O.loc C.f).elem d with
    | true =>
      rw [he] at h
      dsimp only at h ⊢ hb
      rw [he] at hb ⊢
      rw [hb d rfl]
      rcases hq : S.bx d with _ | b
      · rw [hq] at h
        cases h
        dsimp only
        unfold St.setB pickB
        simp only [Option.some.injEq, Prod.mk.injEq, St.mk.injEq, and_true, true_and]
        funext e
        by_cases q : e = d
        · subst q; simp
        · simp [q]
      · rw [hq] at h; cases h
    | false =>
      rw [he] at h
      dsimp only at h ⊢
      rw [he]
      cases hg : C.O.gt T <;> rw [hg] at h <;> cases h <;> rfl
theorem setB_leaf2 (s : Slot) (S : St) (b2 : Nat → Option Bx) (e : Nat) (c : Option Bx) : some (s, St.setB ⟨b2, S.hp⟩ e c) = (some (s, S.setB e c)).bind fun p => some (p.1, St.setB ⟨b2, S.hp⟩ e (p.2.bx e)) := by
  simp [St.setB]
theorem self_leaf2 (s : Slot) (S : St) (b2 : Nat → Option Bx) (e : Nat) (h : b2 e = S.bx e) : some (s, (⟨b2, S.hp⟩ : St)) = (some (s, S)).bind fun p => some (p.1, St.setB ⟨b2, S.hp⟩ e (p.2.bx e)) := by
  have : St.setB ⟨b2, S.hp⟩ e (S.bx e) = ⟨b2, S.hp⟩ := by
    unfold St.setB
    simp only [St.mk.injEq, and_true]
    funext j; split
    · rename_i q; rw [q, h]
    · rfl
  simp [this]
theorem eff_bx {C : Ctx} {fr : Fr} {S S' : St} {o : Oper} {s : Slot} {bx2 : Nat → Option Bx} (h : opR C fr S o = some (s, S')) (hk : kindOf C.P o.op = .eff) (hb : ∀ d, tagOf C fr o = some d → bx2 d = S.bx d) :
    opR C fr ⟨bx2, S.hp⟩ o = some (s, ⟨pickB (tagOf C fr o) S'.bx bx2, S'.hp⟩) := by
  have htag := eff_tag h hk
  have h0 := h
  unfold opR opC at h
  dsimp only at h
  unfold tagOf at hb htag ⊢
  cases hop : o.op <;> rw [hop] at h hk hb htag <;> (try dsimp only at h) <;> (try cases h; done) <;> (try cases hk; done)
  case alloc T =>
    unfold opR opC
    rw [hop]
    dsimp only
    unfold zeroC at h ⊢
    rcases hi : C.P.info? T with _ | i
    · rw [hi] at h; cases h
    · rw [hi] at h
      dsimp only at h ⊢
      rcases hz : i.zero with _ | z
      · rw [hz] at h; cases h
      · rw [hz] at h
        dsimp only at h ⊢
        cases hc : constOk z with
        | false => rw [hc] at h; cases h
        | true =>
          rw [hc] at h
          dsimp only at h ⊢
          cases ha : (cellsL z).all one with
          | false => rw [ha] at h; cases h
          | true =>
            rw [ha] at h
            exact newBox_bx h hb
  case box T x =>
    unfold opR opC
    rw [hop]
    dsimp only
    unfold sV at h ⊢
    cases he : ev C.P.globals.size fr x <;> rw [he] at h <;> first | (cases h; done) | exact newBox_bx h hb
  case buildSlice T n p =>
    refine heap_bx h0 ?_
    unfold opR opC
    rw [hop]
    try dsimp only
    exact evs_nat _ fun v => sliceC_nat fun _ _ _ => pBuildSlice_nat fun _ _ => rfl
  case insert T m key x =>
    refine heap_bx h0 ?_
    unfold opR opC
    rw [hop]
    try dsimp only
    exact sV_nat fun m => sV_nat fun key => sV_nat fun x => mapC_nat fun _ _ => pUpd_nat fun _ => rfl
  case convert src dst x =>
    refine heap_bx h0 ?_
    unfold opR opC
    rw [hop]
    try dsimp only
    exact sV_nat fun x => convert_nat (fun _ => rfl) (fun _ _ => rfl)
  case makeMap T x =>
    refine heap_bx h0 ?_
    unfold opR opC
    rw [hop]
    try dsimp only
    cases x <;> rfl
  case makeSlice T l c =>
    refine heap_bx h0 ?_
    unfold opR opC
    rw [hop]
    try dsimp only
    exact sV_nat fun l => sV_nat fun c => sliceC_nat fun _ _ _ => pMakeSlice_nat fun _ _ => rfl
  case mapUpdate T m key x =>
    refine heap_bx h0 ?_
    unfold opR opC
    rw [hop]
    try dsimp only
    exact sV_nat fun m => sV_nat fun key => sV_nat fun x => mapC_nat fun _ _ => pUpd_nat fun _ => rfl
  case call c =>
    refine heap_bx h0 ?_
    unfold opR opC
    rw [hop]
    try dsimp only
    rcases c.callee with fo | ⟨rv, m⟩ | b
    · exact sV_nat fun fv => evs_nat _ fun vs => pCall_nat fun _ _ => rfl
    · rfl
    · refine evs_nat _ fun vs => ?_
      generalize c.argTypes.toList = ts
      cases b <;> (try dsimp only) <;> first | rfl | exact pMM_nat fun _ => rfl | skip
      all_goals
        rcases vs with _ | ⟨x, _ | ⟨y, _ | ⟨z, vs⟩⟩⟩ <;> rcases ts with _ | ⟨t, _ | ⟨u, _ | ⟨t3, ts⟩⟩⟩ <;> (try dsimp only) <;> first | rfl | skip
      · refine sliceC_nat fun sz bytes _ => ?_
        rcases C.P.underlying u with _ | d
        · rfl
        · cases d <;> first | rfl | exact pAppendG_nat fun _ _ => rfl
      · exact sliceC_nat fun sz _ _ => pCopy_nat fun _ _ => rfl
      · exact mapC_nat fun kt _ => pDel_nat fun _ => rfl
      · rcases C.P.underlying t with _ | d
        · rfl
        · dsimp only
          rcases lenK d with _ | q
          · rfl
          · exact pLen_nat fun _ => rfl

  case store T a x =>
    dsimp only at hb htag ⊢
    cases he : ev C.P.globals.size fr a with
    | loc d off =>
      rw [he] at hb htag
      refine box_bx d h0 htag.1 ?_
      unfold opR opC
      rw [hop]
      dsimp only
      refine sV_nat fun v => tyC_nat fun n agg => ?_
      rw [he]
      dsimp only
      rw [hb d rfl]
      rcases S.bx d with _ | b
      · rfl
      · cases b with
        | cells cs ro => cases ro <;> first | rfl | exact pSplice_nat fun _ => setB_leaf2 _ _ _ _ _
        | _ => rfl
    | _ =>
      refine heap_bx h0 ?_
      unfold opR opC
      rw [hop]
      dsimp only
      refine sV_nat fun v => tyC_nat fun n agg => ?_
      rw [he]
      first | rfl | exact pStore_nat fun _ => rfl
  case range T x =>
    dsimp only at hb htag ⊢
    rcases hd : o.dst with _ | d
    · refine heap_bx h0 ?_
      unfold opR opC
      rw [hop]
      dsimp only
      refine sV_nat fun x => ?_
      rw [hd]
      rcases C.P.underlying T with _ | d
      · rfl
      · cases d <;> rfl
    · rw [hd] at hb htag
      refine box_bx d h0 htag.1 ?_
      unfold opR opC
      rw [hop]
      dsimp only
      refine sV_nat fun x => ?_
      rw [hd]
      rcases C.P.underlying T with _ | dd
      · rfl
      · cases dd <;> first | rfl | skip
        dsimp only
        rw [hb d rfl]
        rcases S.bx d with _ | b
        · exact pStrC_nat fun _ => setB_leaf2 _ _ _ _ _
        · rfl
  case next it b =>
    dsimp only at hb htag ⊢
    cases b with
    | false => cases h
    | true =>
    try dsimp only at h
    cases he : ev C.P.globals.size fr it with
    | loc d off =>
      rw [he] at h hb htag
      cases off with
      | succ n => cases h
      | zero =>
        refine box_bx d h0 htag.1 ?_
        unfold opR opC
        rw [hop]
        dsimp only
        rw [he]
        have hbd : bx2 d = S.bx d := hb d rfl
        show (match bx2 d with
            | some (.iter s pos) => br (Nat.blt pos s.size) (some ((Slot.val (.tuple #[.bool true, .int .i64 pos, .int .i32 (Utf8.decode s pos).1])), (St.setB ⟨bx2, S.hp⟩ d (some (.iter s (pos + (Utf8.decode s pos).2)))))) (some ((Slot.val (.tuple #[.bool false])), (⟨bx2, S.hp⟩ : St)))
            | _ => none) = (match S.bx d with
            | some (.iter s pos) => br (Nat.blt pos s.size) (some ((Slot.val (.tuple #[.bool true, .int .i64 pos, .int .i32 (Utf8.decode s pos).1])), (S.setB d (some (.iter s (pos + (Utf8.decode s pos).2)))))) (some ((Slot.val (.tuple #[.bool false])), S))
            | _ => none).bind fun p => some (p.1, St.setB ⟨bx2, S.hp⟩ d (p.2.bx d))
        rw [hbd]
        rcases hq : S.bx d with _ | b
        · rfl
        · cases b with
          | iter st pos => exact br_nat (setB_leaf2 _ _ _ _ _) (self_leaf2 _ _ _ _ hbd)
          | _ => rfl
    | _ => rw [he] at h; cases h

theorem opR_pr {C : Ctx} {fr : Fr} {S S' S2 : St} {o : Oper} {s : Slot} (h : opR C fr S o = some (s, S')) (hp : kindOf C.P o.op = .pure ∨ (kindOf C.P o.op = .read ∧ S2 = S)) :
    S' = S ∧ opR C fr S2 o = some (s, S2) := by
  unfold opR at h
  rw [opC_pr C fr S S2 o _ hp] at h
  have hs : opC C fr S2 o (fun s _ => some s) = some s ∧ S = S' := by
    cases hq : opC C fr S2 o (fun s _ => some s) with
    | none => rw [hq] at h; cases h
    | some q => rw [hq] at h; cases h; exact ⟨rfl, rfl⟩
  refine ⟨hs.2.symm, ?_⟩
  unfold opR
  rw [opC_pr C fr S2 S2 o _ (hp.imp id fun q => ⟨q.1, rfl⟩), hs.1]
  rfl

/-- A reading in a state whose part that is read is the same. -/
theorem read_same {C : Ctx} {fr : Fr} {S S2 : St} {o : Oper} {s : Slot} (h : opR C fr S o = some (s, S)) (hk : kindOf C.P o.op = .read) (hs : sameOn (tagOf C fr o) S S2) : opR C fr S2 o = some (s, S2) := by
  have key : opC C fr S2 o (fun s _ => some s) = opC C fr S o (fun s _ => some s) := by
    unfold opC
    dsimp only
    unfold tagOf at hs
    cases hop : o.op <;> rw [hop] at hk hs <;> (try dsimp only) <;> (try cases hk; done)
    case load T a =>
      dsimp only at hs
      cases he : ev C.P.globals.size fr a with
      | loc d off =>
        rw [he] at hs
        have hs : S2.bx d = S.bx d := hs
        dsimp only
        rw [hs]
      | val p =>
        rw [he] at hs
        have hs : S2.hp = S.hp := hs
        dsimp only
        rw [hs]
      | _ => rfl
    case lookup T m key ok =>
      have hs : S2.hp = S.hp := hs
      rw [hs]
    case convert src dst x =>
      unfold kindOf at hk
      dsimp only at hk
      split at hk <;> cases hk
    case call c =>
      obtain ⟨callee, args, ats⟩ := c
      rcases callee with fo | ⟨rv, m⟩ | b
      · cases hk
      · rfl
      · have hs : S2.hp = S.hp := hs
        cases b <;> first | cases hk; done | skip
        rw [hs]
  unfold opR at h ⊢
  rw [opC_pr C fr S S o _ (.inr ⟨hk, rfl⟩)] at h
  rw [opC_pr C fr S2 S2 o _ (.inr ⟨hk, rfl⟩), key]
  cases hq : opC C fr S o (fun s _ => some s) with
  | none => rw [hq] at h; cases h
  | some q => rw [hq] at h; cases h; rfl

theorem chk_some {α : Type} {p : Prop} {k : Option α} {r : α} (h : chk p k = some r) : p ∧ k = some r := by
  unfold chk at h
  split at h
  · exact ⟨by assumption, h⟩
  · cases h

theorem evs_some {α : Type} {G : Nat} {fr : Fr} {r : α} : ∀ (xs : List Operand) (f : List Value → Option α), evs G fr xs f = some r → ∃ vs, f vs = some r ∧ ∀ {γ : Type} (g : List Value → Option γ), evs G fr xs g = g vs
  | [], f, h => ⟨[], h, fun g => rfl⟩
  | x :: xs, f, h => by
    unfold evs at h
    unfold sV at h
    split at h
    · rename_i v hv
      obtain ⟨vs, h1, h2⟩ := evs_some xs _ h
      refine ⟨v :: vs, h1, fun g => ?_⟩
      unfold evs
      rw [hv]
      exact h2 _
    · cases h

theorem again_ok {α : Type} {C : Ctx} {fr : Fr} {S S2 : St} {o : Oper} {s : Slot} {k : Option α} {r : α} (h : opR C fr S o = some (s, S)) (hk : kindOf C.P o.op = .read) (ha : again C fr S2 o s k = some r) : k = some r ∧ opR C fr S2 o = some (s, S2) := by
  have key : k = some r ∧ opC C fr S2 o (fun s _ => some s) = some s := by
    unfold again at ha
    dsimp only at ha
    split at ha
    · rename_i v
      unfold opC
      dsimp only
      split at ha
      · rename_i T a hop
        rw [hop]
        dsimp only
        unfold tyC at ha ⊢
        split at ha
        · cases ha
        · split at ha
          · cases ha
          · rename_i i hi _ d hd
            dsimp only at ha ⊢
            split at ha
            · rename_i d off he
              try dsimp only at ha ⊢
              split at ha
              · rename_i cs ro hb
                obtain ⟨h1, h2⟩ := chk_some ha
                exact ⟨h2, by (try dsimp only); unfold pCell; rw [h1]⟩
              · cases ha
            · rename_i p he
              obtain ⟨h1, h2⟩ := chk_some ha
              exact ⟨h2, by (try dsimp only); unfold pLoad; rw [h1]⟩
            · cases ha
      · rename_i T m key ok hop
        rw [hop]
        dsimp only
        unfold sV at ha ⊢
        split at ha
        · rename_i mv hm
          split at ha
          · rename_i kv hkv
            simp only [hm, hkv]
            unfold mapC zeroC at ha ⊢
            split at ha
            · rename_i kt et hu
              split at ha
              · rename_i hko
                split at ha
                · cases ha
                · rename_i i hi
                  split at ha
                  · cases ha
                  · rename_i z hz
                    split at ha
                    · rename_i hc
                      obtain ⟨h1, h2⟩ := chk_some ha
                      refine ⟨h2, ?_⟩
                      simp only [hu, hko, hi, hz, hc]
                      unfold pLook at h1 ⊢
                      split at h1
                      · dsimp only
                        split at h1 <;> cases h1 <;> rfl
                      · cases h1
                    · cases ha
              · cases ha
            · cases ha
          · cases ha
        · cases ha
      · rename_i c hop
        rw [hop] at hk ⊢
        obtain ⟨callee, args, ats⟩ := c
        rcases callee with fo | ⟨rv, m⟩ | b
        · cases hk
        · cases hk
        · cases b <;> first | cases hk; done | skip
          obtain ⟨vs, h1, h2⟩ := evs_some _ _ ha
          refine (?_ : k = some r ∧ evs C.P.globals.size fr args.toList _ = some (Slot.val v))
          rw [h2]
          generalize ats.toList = ts at h1 ⊢
          rcases vs with _ | ⟨x, _ | ⟨y, vs⟩⟩ <;> rcases ts with _ | ⟨t, _ | ⟨u, ts⟩⟩ <;> (try cases h1; done)
          dsimp only at h1 ⊢
          rcases hu : C.P.underlying t with _ | d
          · rw [hu] at h1; cases h1
          · rw [hu] at h1
            dsimp only at h1 ⊢
            rcases hq : lenK d with _ | q
            · rw [hq] at h1; cases h1
            · rw [hq] at h1
              dsimp only at h1 ⊢
              obtain ⟨g1, g2⟩ := chk_some h1
              refine ⟨g2, ?_⟩
              unfold pLen
              rw [g1]
      · cases ha
    · cases ha
  refine ⟨key.1, ?_⟩
  unfold opR
  rw [opC_pr C fr S2 S2 o _ (.inr ⟨hk, rfl⟩), key.2]
  rfl
end
end Go.AM
/- The abstract machine: operations look at their operands alone; guards; what comes before what. -/
set_option linter.unusedVariables false
namespace Go.AM
open Go

theorem evs_congr {α : Type} {G : Nat} {fr fr' : Fr} : ∀ (xs : List Operand) (k : List Value → Option α), (∀ x ∈ xs, ev G fr x = ev G fr' x) → evs G fr xs k = evs G fr' xs k
  | [], k, h => rfl
  | x :: xs, k, h => by
    unfold evs
    rw [h x (List.mem_cons_self ..)]
    congr 1
    funext v
    exact evs_congr xs _ fun y hy => h y (List.mem_cons_of_mem _ hy)
theorem optV_congr {α : Type} {G : Nat} {fr fr' : Fr} (x : Option Operand) (k : Option Value → Option α) (h : ∀ y, x = some y → ev G fr y = ev G fr' y) : optV G fr x k = optV G fr' x k := by
  cases x with
  | none => rfl
  | some x => unfold optV; dsimp only; rw [h x rfl]

theorem opR_congr {C : Ctx} {fr fr' : Fr} {S : St} {o : Oper} (h : ∀ x ∈ o.op.operands, ev C.P.globals.size fr x = ev C.P.globals.size fr' x) : opR C fr S o = opR C fr' S o := by
  unfold opR opC
  dsimp only
  cases hop : o.op <;> rw [hop] at h <;> (try dsimp only) <;> (try rfl)
  case move x =>
    have hx := h x (by simp [Op.operands])
    simp only [hx]
  case assign x =>
    have hx := h x (by simp [Op.operands])
    simp only [hx]
  case pick c a b =>
    have hc := h c (by simp [Op.operands])
    have ha := h a (by simp [Op.operands])
    have hb := h b (by simp [Op.operands])
    simp only [hc, ha, hb]
  case box T x =>
    have hx := h x (by simp [Op.operands])
    simp only [hx]
  case insert T m y x =>
    have hm := h m (by simp [Op.operands])
    have hy := h y (by simp [Op.operands])
    have hx := h x (by simp [Op.operands])
    simp only [hm, hy, hx]
  case load T a =>
    have ha := h a (by simp [Op.operands])
    simp only [ha]
  case store T a x =>
    have ha := h a (by simp [Op.operands])
    have hx := h x (by simp [Op.operands])
    simp only [ha, hx]
  case nilCheck x =>
    have hx := h x (by simp [Op.operands])
    simp only [hx]
  case binOp op T x y T' =>
    have hx := h x (by simp [Op.operands])
    have hy := h y (by simp [Op.operands])
    simp only [hx, hy]
  case unOp op T x =>
    have hx := h x (by simp [Op.operands])
    simp only [hx]
  case convert src dst x =>
    have hx := h x (by simp [Op.operands])
    simp only [hx]
  case makeSlice T l c =>
    have hl := h l (by simp [Op.operands])
    have hc := h c (by simp [Op.operands])
    simp only [hl, hc]
  case fieldAddr T x f =>
    have hx := h x (by simp [Op.operands])
    simp only [hx]
  case field T x f =>
    have hx := h x (by simp [Op.operands])
    simp only [hx]
  case indexAddr T x i =>
    have hx := h x (by simp [Op.operands])
    have hi := h i (by simp [Op.operands])
    simp only [hx, hi]
  case index T x i =>
    have hx := h x (by simp [Op.operands])
    have hi := h i (by simp [Op.operands])
    simp only [hx, hi]
  case lookup T m y ok =>
    have hm := h m (by simp [Op.operands])
    have hy := h y (by simp [Op.operands])
    simp only [hm, hy]
  case mapUpdate T m y x =>
    have hm := h m (by simp [Op.operands])
    have hy := h y (by simp [Op.operands])
    have hx := h x (by simp [Op.operands])
    simp only [hm, hy, hx]
  case range T x =>
    have hx := h x (by simp [Op.operands])
    simp only [hx]
  case next x b =>
    have hx := h x (by simp [Op.operands])
    cases b with
    | false => rfl
    | true => dsimp only; rw [hx]
  case extract t i =>
    have ht := h t (by simp [Op.operands])
    simp only [ht]
  case build T p =>
    refine evs_congr _ _ fun x hx => h x ?_
    simp only [Op.operands]
    exact List.mem_toArray.2 hx
  case buildSlice T n p =>
    refine evs_congr _ _ fun x hx => h x ?_
    simp only [Op.operands]
    exact List.mem_toArray.2 hx
  case makeFunc fn first captured =>
    rw [evs_congr first.toList _ fun x hx => h x (by simp [Op.operands]; exact .inl (by simpa using hx))]
    congr 1
    funext fs
    exact evs_congr captured.toList _ fun x hx => h x (by simp [Op.operands]; exact .inr (by simpa using hx))
  case makeMap T x => cases x <;> rfl
  case slice T x lo hi mx =>
    have hx := h x (by simp [Op.operands])
    cases mx with
    | some m => rfl
    | none =>
      dsimp only
      rw [hx]
      congr 1
      funext v
      rw [optV_congr lo _ fun y hy => h y (by subst hy; simp [Op.operands])]
      congr 1
      funext l
      rw [optV_congr hi _ fun y hy => h y (by subst hy; simp [Op.operands])]
  case call c =>
    obtain ⟨callee, args, ats⟩ := c
    have ha : ∀ x ∈ args.toList, ev C.P.globals.size fr x = ev C.P.globals.size fr' x := fun x hx => h x (by simp [Op.operands, Call.operands]; exact .inr (by simpa using hx))
    rcases callee with fo | ⟨rv, m⟩ | b
    · have hf := h fo (by simp [Op.operands, Call.operands])
      dsimp only
      rw [hf]
      congr 1
      funext v
      exact evs_congr _ _ ha
    · rfl
    · exact evs_congr _ _ ha

/-! ### Orders -/
theorem inOrder_edges {P : Program} {O : Orc} {f : FuncId} {ops : List Oper} {an : List Nat} (h : inOrder P O f ops an = true) {j : Nat} {o : Oper} (ho : ops[j]? = some o) : ∀ e ∈ o.after, Region.binds .any e = true → e.on < j := by
  intro e he hb
  unfold inOrder at h
  rw [List.all_eq_true] at h
  have := h j (List.mem_range.2 (List.getElem?_eq_some_iff.1 ho).1)
  rw [Bool.and_eq_true, ho] at this
  have h1 := List.all_eq_true.1 this.1 e (by simpa using he)
  rw [hb] at h1
  exact Nat.le_of_ble_eq_true (by simpa [Nat.blt] using h1)
theorem inOrder_pair {P : Program} {O : Orc} {f : FuncId} {ops : List Oper} {an : List Nat} (h : inOrder P O f ops an = true) {i j : Nat} {a b : Oper} (hij : i < j) (ha : ops[i]? = some a) (hb : ops[j]? = some b) :
    (an.getD j 0).testBit i = true ∨ (clash ops a b = false ∧ ¬ (kindD P O f a = .eff ∧ kindD P O f b = .eff)) := by
  unfold inOrder at h
  rw [List.all_eq_true] at h
  have := h j (List.mem_range.2 (List.getElem?_eq_some_iff.1 hb).1)
  rw [Bool.and_eq_true] at this
  have h1 := List.all_eq_true.1 this.2 i (List.mem_range.2 hij)
  rw [ha, hb] at h1
  dsimp only at h1
  rw [Bool.or_eq_true] at h1
  rcases h1 with h1 | h1
  · exact .inl h1
  · refine .inr ⟨?_, fun ⟨ka, kb⟩ => ?_⟩
    · cases hc : clash ops a b with
      | false => rfl
      | true => rw [hc] at h1; cases h1
    · rw [ka, kb] at h1
      cases hc : clash ops a b <;> rw [hc] at h1 <;> cases h1

def bitsOf (acc : List Nat) (s : Nat) (es : List Edge) : Nat := es.foldl (fun s e => match Region.binds .any e with | true => s ||| 2 ^ e.on ||| acc.getD e.on 0 | false => s) s
theorem bitsOf_spec {acc : List Nat} {l : Nat} : ∀ (es : List Edge) (s : Nat), (bitsOf acc s es).testBit l = true → s.testBit l = true ∨ ∃ e ∈ es, Region.binds .any e = true ∧ (l = e.on ∨ (acc.getD e.on 0).testBit l = true)
  | [], s, h => .inl h
  | e :: es, s, h => by
    unfold bitsOf at h
    rw [List.foldl_cons] at h
    rcases bitsOf_spec es _ h with h1 | ⟨e', he', h2⟩
    · split at h1
      · rename_i hb
        rw [Nat.testBit_or, Nat.testBit_or, Bool.or_eq_true, Bool.or_eq_true, Nat.testBit_two_pow] at h1
        rcases h1 with (h1 | h1) | h1
        · exact .inl h1
        · exact .inr ⟨e, List.mem_cons_self .., hb, .inl (of_decide_eq_true h1).symm⟩
        · exact .inr ⟨e, List.mem_cons_self .., hb, .inr h1⟩
      · exact .inl h1
    · exact .inr ⟨e', List.mem_cons_of_mem _ he', h2⟩
/-- A set of operations that holds what its members wait for holds what comes before them. -/
theorem anc_in {ops : List Oper} {D : Nat → Prop} (hD : ∀ (i : Nat) o, D i → ops[i]? = some o → ∀ e ∈ o.after, Region.binds .any e = true → D e.on) :
    ∀ (j : Nat) o, ops[j]? = some o → (∀ e ∈ o.after, Region.binds .any e = true → D e.on) → ∀ l, ((ancs ops).getD j 0).testBit l = true → D l := by
  have key : ∀ (rest : List Oper) (acc : List Nat), ops.drop acc.length = rest →
      (∀ (j : Nat) o, ops[j]? = some o → (∀ e ∈ o.after, Region.binds .any e = true → D e.on) → ∀ l, (acc.getD j 0).testBit l = true → D l) →
      ∀ (j : Nat) o, ops[j]? = some o → (∀ e ∈ o.after, Region.binds .any e = true → D e.on) → ∀ l, ((rest.foldl (fun acc o => acc ++ [bitsOf acc 0 o.after.toList]) acc).getD j 0).testBit l = true → D l := by
    intro rest
    induction rest with
    | nil => intro acc _ h; exact h
    | cons p rest ih =>
      intro acc hd h
      rw [List.foldl_cons]
      have hp : ops[acc.length]? = some p := by
        have : (ops.drop acc.length)[0]? = some p := by rw [hd]; rfl
        rw [List.getElem?_drop] at this; simpa using this
      refine ih _ (by rw [List.length_append, ← List.drop_drop, hd]; rfl) ?_
      intro j o ho he l hl
      rw [List.getD_eq_getElem?_getD] at hl
      rcases Nat.lt_trichotomy j acc.length with q | q | q
      · rw [List.getElem?_append_left q, ← List.getD_eq_getElem?_getD] at hl
        exact h j o ho he l hl
      · subst q
        rw [List.getElem?_append_right (Nat.le_refl _)] at hl
        simp only [Nat.sub_self, List.getElem?_cons_zero, Option.getD_some] at hl
        rw [hp] at ho; cases ho
        rcases bitsOf_spec _ _ hl with h1 | ⟨e, hm, hb, h1⟩
        · simp at h1
        · have hm' : e ∈ p.after := by simpa using hm
          rcases h1 with rfl | h1
          · exact he e hm' hb
          · have hDe := he e hm' hb
            cases hoe : ops[e.on]? with
            | some oe => exact h e.on oe hoe (fun e' he' hb' => hD e.on oe hDe hoe e' he' hb') l h1
            | none =>
              have hlen : acc.length ≤ e.on := by
                have h1 := (List.getElem?_eq_some_iff.1 hp).1
                have h2 := List.getElem?_eq_none_iff.1 hoe
                omega
              rw [List.getD_eq_getElem?_getD, List.getElem?_eq_none hlen] at h1
              simp at h1
      · rw [List.getElem?_eq_none (by simp; omega)] at hl
        simp at hl
  intro j o ho he l hl
  refine key ops [] rfl ?_ j o ho he l ?_
  · intro j o _ _ l hl; simp at hl
  · exact hl

/-! ### Guards -/
def guardV (ops : List Oper) (fr : Fr) (o : Oper) : Option Bool := guardC ops fr o fun b _ => some b
theorem set_same {fr : Fr} {d : Nat} {v : Value} (h : getS fr d = .val v) : fr.set d (.val v) = fr := by
  apply List.ext_getElem?
  intro i
  rw [List.getElem?_set]
  split
  · rename_i e; subst e
    unfold getS at h
    rw [List.getD_eq_getElem?_getD] at h
    cases hq : fr[d]? with
    | none => rw [hq] at h; cases h
    | some s => rw [hq] at h; rw [if_pos (List.getElem?_eq_some_iff.1 hq).1]; rw [← h]; rfl
  · rfl
theorem guardC_inv {α : Type} {ops : List Oper} {fr : Fr} {o : Oper} {k : Bool → Fr → Option α} {r : α} (h : guardC ops fr o k = some r) : ∃ b, guardV ops fr o = some b ∧ k b fr = some r := by
  unfold guardV
  unfold guardC at h ⊢
  split at h
  · exact ⟨true, rfl, h⟩
  · split at h
    · split at h
      · split at h
        · exact ⟨false, rfl, h⟩
        · rename_i d _ _ hne
          unfold sV at h ⊢
          split at h
          · rename_i v hv
            dsimp only at h ⊢
            unfold pBool at h ⊢
            split at h
            · rename_i b
              dsimp only at h ⊢
              unfold br at h ⊢
              cases b with
              | true =>
                dsimp only at h ⊢
                rw [set_same hv] at h
                exact ⟨_, rfl, h⟩
              | false =>
                dsimp only at h ⊢
                rw [set_same hv] at h
                exact ⟨_, rfl, h⟩
            · cases h
          · cases h
      · cases h
    · cases h
theorem guardV_congr {ops : List Oper} {fr fr' : Fr} {o : Oper} (h : ∀ t ∈ touches ops o, getS fr t = getS fr' t) : guardV ops fr o = guardV ops fr' o := by
  unfold guardV guardC
  cases hg : o.guard with
  | none => rfl
  | some jw =>
    obtain ⟨j, want⟩ := jw
    dsimp only
    cases hj : ops[j]? with
    | none => rfl
    | some g =>
      dsimp only
      cases hd : g.dst with
      | none => rfl
      | some d =>
        dsimp only
        have hm : d ∈ touches ops o := by
          unfold touches
          rw [hg]
          dsimp only
          rw [hj]
          dsimp only
          rw [hd]
          exact List.mem_append_right _ (by simp)
        rw [h d hm]
theorem ev_touch {ops : List Oper} {G : Nat} {fr fr' : Fr} {o : Oper} (h : ∀ t ∈ touches ops o, getS fr t = getS fr' t) : ∀ x ∈ o.op.operands, ev G fr x = ev G fr' x := by
  intro x hx
  cases x with
  | tmp t =>
    refine h t ?_
    unfold touches
    exact List.mem_append_left _ (List.mem_filterMap.2 ⟨.tmp t, by simpa using hx, rfl⟩)
  | _ => rfl
theorem clash_false {ops : List Oper} {a b : Oper} (h : clash ops a b = false) : (∀ d, a.dst = some d → d ∉ touches ops b ∧ b.dst ≠ some d) ∧ (∀ d, b.dst = some d → d ∉ touches ops a) := by
  unfold clash at h
  rw [Bool.or_eq_false_iff] at h
  refine ⟨fun d hd => ?_, fun d hd => ?_⟩
  · have := h.1
    rw [hd] at this
    dsimp only at this
    rw [Bool.or_eq_false_iff] at this
    refine ⟨fun hm => ?_, fun hq => ?_⟩
    · have h1 : (touches ops b).elem d = true := by simpa using hm
      rw [h1] at this; cases this.1
    · rw [hq] at this; simp at this
  · have := h.2
    rw [hd] at this
    dsimp only at this
    intro hm
    have h1 : (touches ops a).elem d = true := by simpa using hm
    rw [h1] at this; cases this
end Go.AM
/- The abstract machine: operands, loads and stores against the model. -/
set_option linter.unusedVariables false
namespace Go.AM
open Go

theorem scalarOk_rel {β : Bt} {v : Value} (h : scalarOk v = true) : VRel β v v := by
  unfold scalarOk at h
  split at h <;> first | constructor | cases h
theorem constOk_rel {β : Bt} {v : Value} (h : constOk v = true) : VRel β v v := by
  have aux : ∀ l : List Value, l.all scalarOk = true → LRel β l l := fun l hl => ⟨rfl, fun k u u' hu hu' => by
    rw [hu] at hu'; cases hu'
    exact scalarOk_rel (List.all_eq_true.1 hl u (List.mem_of_getElem? hu))⟩
  unfold constOk at h
  split at h
  · exact agg_iff.2 ⟨_, rfl, aux _ h⟩
  · exact tuple_iff.2 ⟨_, rfl, aux _ h⟩
  · exact scalarOk_rel h

theorem ev_rel {P : Program} {N : Nat} {w : World} {H : Hp} {bx : Nat → Option Bx} {β : Bt} {lam : Nat → Nat} {fr : Fr} {a : Act}
    (hR : Rel P w H β) (hF : FRel N w bx β lam fr a) (x : Operand) : SRel β lam bx (ev P.globals.size fr x) (a.eval x) := by
  cases x with
  | tmp t =>
    show SRel β lam bx (getS fr t) (a.tmps.getD t undef)
    unfold getS
    cases h : fr[t]? with
    | none => rw [List.getD_eq_getElem?_getD, h]; trivial
    | some s => rw [List.getD_eq_getElem?_getD, h]; exact hF.slot t s h
  | const v =>
    simp only [ev, Act.eval]
    cases h : constOk v with
    | true => exact constOk_rel h
    | false => trivial
  | global g =>
    simp only [ev, Act.eval]
    cases h : Nat.blt g P.globals.size with
    | true =>
      obtain ⟨t, ht⟩ := hR.glob g (by have := h; simp [Nat.blt] at this; omega)
      exact VRel.ptr (β := β) g 0 _ ht
    | false => trivial
  | func f => exact .func _ _ _ _ _ rfl (by simp) rfl (by simp)

section
variable {α : Type}
theorem sV_inv {s : Slot} {k : Value → Option α} {r : α} (h : sV s k = some r) : ∃ v, s = .val v ∧ k v = some r := by
  unfold sV at h
  split at h
  · exact ⟨_, rfl, h⟩
  · cases h
theorem evV_inv {P : Program} {N : Nat} {w : World} {H : Hp} {bx : Nat → Option Bx} {β : Bt} {lam : Nat → Nat} {fr : Fr} {a : Act}
    (hR : Rel P w H β) (hF : FRel N w bx β lam fr a) {x : Operand} {k : Value → Option α} {r : α} (h : sV (ev P.globals.size fr x) k = some r) :
    ∃ v, VRel β v (a.eval x) ∧ k v = some r := by
  obtain ⟨v, hv, hk⟩ := sV_inv h
  have := ev_rel hR hF x
  rw [hv] at this
  exact ⟨v, this, hk⟩
theorem evs_inv {P : Program} {N : Nat} {w : World} {H : Hp} {bx : Nat → Option Bx} {β : Bt} {lam : Nat → Nat} {fr : Fr} {a : Act}
    (hR : Rel P w H β) (hF : FRel N w bx β lam fr a) : ∀ (xs : List Operand) {k : List Value → Option α} {r : α}, evs P.globals.size fr xs k = some r →
    ∃ vs, LRel β vs (xs.map a.eval) ∧ k vs = some r
  | [], k, r, h => ⟨[], LRel.nil _, h⟩
  | x :: xs, k, r, h => by
    unfold evs at h
    obtain ⟨v, hv, hk⟩ := evV_inv hR hF h
    obtain ⟨vs, hvs, hk⟩ := evs_inv hR hF xs hk
    exact ⟨v :: vs, hvs.cons hv, hk⟩
def ORel (β : Bt) (v v' : Option Value) : Prop := match v, v' with | none, none => True | some v, some v' => VRel β v v' | _, _ => False
theorem optV_inv {P : Program} {N : Nat} {w : World} {H : Hp} {bx : Nat → Option Bx} {β : Bt} {lam : Nat → Nat} {fr : Fr} {a : Act}
    (hR : Rel P w H β) (hF : FRel N w bx β lam fr a) {x : Option Operand} {k : Option Value → Option α} {r : α} (h : optV P.globals.size fr x k = some r) :
    ∃ v : Option Value, k v = some r ∧ ORel β v (x.map a.eval) := by
  cases x with
  | none => exact ⟨none, h, trivial⟩
  | some x =>
    obtain ⟨v, hv, hk⟩ := evV_inv hR hF h
    exact ⟨some v, hk, hv⟩
theorem tyC_inv {P : Program} {T : TypeId} {k : Nat → Bool → Option α} {r : α} (h : tyC P T k = some r) :
    ∃ i d, P.info? T = some i ∧ P.underlying T = some d ∧ k i.size (aggD d) = some r := by
  unfold tyC at h
  split at h
  · cases h
  · split at h
    · cases h
    · exact ⟨_, _, by assumption, by assumption, h⟩
theorem zeroC_inv {P : Program} {T : TypeId} {k : Value → Option α} {r : α} (h : zeroC P T k = some r) :
    ∃ i z, P.info? T = some i ∧ i.zero = some z ∧ constOk z = true ∧ k z = some r := by
  unfold zeroC at h
  split at h
  · cases h
  · split at h
    · cases h
    · split at h
      · exact ⟨_, _, by assumption, by assumption, by assumption, h⟩
      · cases h
end

/-! ### The model's small words -/
section
variable {P : Program} (w : World)
theorem run_typeInfo {T : TypeId} {i : TypeInfo} (h : P.info? T = some i) : (typeInfo T).run P w = .ok i w := by simp [typeInfo, h]
theorem run_sizeOf {T : TypeId} {i : TypeInfo} (h : P.info? T = some i) : (sizeOf T).run P w = .ok i.size w := by simp [sizeOf, run_typeInfo w h]
theorem run_under {T : TypeId} {d : TypeDesc} (h : P.underlying T = some d) : (underlying T).run P w = .ok d w := by simp [underlying, h]
theorem run_isAgg {T : TypeId} {d : TypeDesc} (h : P.underlying T = some d) : (isAgg T).run P w = .ok (aggD d) w := by
  simp only [isAgg, Sem.run_bind, run_under w h, Result.andThen_ok]
  cases d <;> rfl
theorem run_zeroValue {T : TypeId} {i : TypeInfo} {z : Value} (h : P.info? T = some i) (hz : i.zero = some z) : (zeroValue T).run P w = .ok z w := by
  simp [zeroValue, run_typeInfo w h, hz]
end

theorem rdCells_ok {P : Program} {w : World} {β : Bt} {cs : List Value} {b s off : Nat} {T : TypeId} {i : TypeInfo} {d : TypeDesc} (hi : P.info? T = some i) (hd : P.underlying T = some d)
    (hc : ∀ (j : Nat) u, cs[j]? = some u → ∃ u', w.cell? ⟨b, s + j, none⟩ = some u' ∧ VRel β u u') {v : Value} (hv : rdCells cs off i.size (aggD d) = some v) :
    ∃ v', (loadVar T ⟨b, s + off, none⟩).run P w = .ok v' w ∧ VRel β v v' := by
  unfold rdCells at hv
  simp only [loadVar, Sem.run_bind, run_isAgg w hd, Result.andThen_ok]
  cases ha : aggD d with
  | true =>
    rw [ha] at hv
    dsimp only at hv
    split at hv
    · rename_i hl
      cases hv
      have hlen : ((cs.drop off).take i.size).length = i.size := by simp; omega
      obtain ⟨l', hr, hrel⟩ := run_loadCells_rel (P := P) (w := w) (b := b) (off := s + off) (β := β) (l := (cs.drop off).take i.size) (fun j u hu => by
        rw [List.getElem?_take] at hu
        split at hu
        · rw [List.getElem?_drop] at hu
          rw [show s + off + j = s + (off + j) by omega]
          exact hc _ u hu
        · cases hu)
      rw [hlen] at hr
      refine ⟨.agg l'.toArray, ?_, agg_iff.2 ⟨_, rfl, by simpa using hrel⟩⟩
      simp only [if_true, Sem.run_bind, run_sizeOf w hi, Result.andThen_ok, hr, Sem.run_pure]
    · cases hv
  | false =>
    rw [ha] at hv
    dsimp only at hv
    obtain ⟨v', h1, h2⟩ := hc off v hv
    exact ⟨v', by simp only [Bool.false_eq_true, if_false, run_load, h1], h2⟩

theorem wrCells_inv {n off : Nat} {cs cs' : List Value} {v : Value} (h : wrCells n cs off v = some cs') :
    (cellsL v).length = n ∧ off + n ≤ cs.length ∧ (cellsL v).all one = true ∧ cs' = spl cs off (cellsL v) := by
  unfold wrCells at h
  split at h
  · rename_i hc; cases h; exact ⟨hc.1, hc.2.1, hc.2.2, rfl⟩
  · cases h
theorem all_one {β : Bt} {l l' : List Value} (h : LRel β l l') (ha : l.all one = true) : l'.all Value.oneCell' = true := by
  rw [List.all_eq_true] at ha ⊢
  intro x hx
  obtain ⟨k, hk, rfl⟩ := List.getElem_of_mem hx
  have hk2 : k < l.length := h.1 ▸ hk
  rw [(h.2 k l[k] l'[k] (by simp [hk2]) (by simp [hk])).one_eq]
  exact ha _ (List.getElem_mem hk2)

theorem run_storeVar_ok {P : Program} {w : World} {β : Bt} {T : TypeId} {i : TypeInfo} (hi : P.info? T = some i) {v v' : Value} (hv : VRel β v v') (hn : (cellsL v).length = i.size) (h1 : (cellsL v).all one = true)
    {b off : Nat} {arr : Array Value} {e : TypeId} {fz : Nat × Nat} (hw : w.heap[b]? = some (.cells arr e fz)) (hfz : ∀ j, j < arr.size → ¬ (fz.1 ≤ j ∧ j < fz.2)) (hl : off + i.size ≤ arr.size) :
    ∃ w', (storeVar T ⟨b, off, none⟩ v').run P w = .ok () w' ∧ Put w b off v'.cells.toList w' := by
  have hc := hv.cells
  have hl' : v'.cells.toList.length = i.size := by rw [← hc.1]; exact hn
  obtain ⟨w', hr, hp⟩ := run_storeCells P b off arr e fz hfz v'.cells.toList 0 w arr hw rfl (by omega) (all_one hc h1)
  refine ⟨w', ?_, by simpa using hp⟩
  have hsz : v'.cells.size = i.size := by simpa using hl'
  simp only [storeVar, Sem.run_bind, run_sizeOf w hi, Result.andThen_ok, hsz, ne_eq, not_true_eq_false, if_false, hr]

/-! ### What an operation comes to -/
def RunTo (P : Program) (a : Act) (o : Oper) (w : World) (v' : Value) (w' : World) : Prop :=
  (execOp a.eval o).run P w = .ok (.value v') w' ∨ ((execOp a.eval o).run P w = .ok .skip w' ∧ v' = undef)

/-- One operation: where the machine goes the model goes. -/
def Step {α : Type} (P : Program) (N : Nat) (w : World) (S : St) (β : Bt) (lam : Nat → Nat) (fr : Fr) (a : Act) (o : Oper) (k : Slot → St → Option α) (r : α) : Prop :=
  ∃ s S' w' v' β' lam', k s S' = some r ∧ RunTo P a o w v' w' ∧ Rel P w' S'.hp β' ∧ FRel N w' S'.bx β' lam' fr a ∧ SRel β' lam' S'.bx s v' ∧ Ext N w S.hp β w' S'.hp β' ∧ BMv S.bx lam S'.bx lam'

section
variable {α : Type} {P : Program} {N : Nat} {w : World} {S : St} {β : Bt} {lam : Nat → Nat} {fr : Fr} {a : Act} {o : Oper} {k : Slot → St → Option α} {r : α}

/-- Nothing but a value. -/
theorem Step.val (hR : Rel P w S.hp β) (hF : FRel N w S.bx β lam fr a) {s : Slot} {v' : Value} (hk : k s S = some r) (hr : (execOp a.eval o).run P w = .ok (.value v') w) (hs : SRel β lam S.bx s v') :
    Step P N w S β lam fr a o k r := ⟨s, S, w, v', β, lam, hk, .inl hr, hR, hF, hs, Ext.refl _ _ _ _, BMv.refl _ _⟩
/-- The heap has changed. -/
theorem Step.heap (hN : N ≤ w.heap.size) (hR : Rel P w S.hp β) (hF : FRel N w S.bx β lam fr a) {s : Slot} {v' : Value} {w' : World} {H' : Hp} {β' : Bt} (hk : k s ⟨S.bx, H'⟩ = some r)
    (hr : RunTo P a o w v' w') (hR' : Rel P w' H' β') (hE : Ext w.heap.size w S.hp β w' H' β') (hs : SRel β' lam S.bx s v') :
    Step P N w S β lam fr a o k r := ⟨s, ⟨S.bx, H'⟩, w', v', β', lam, hk, hr, hR', hF.ext hR.has hE, hs, hE.weaken hN, BMv.refl _ _⟩
end

theorem box_cells {N : Nat} {w : World} {bx : Nat → Option Bx} {β : Bt} {lam : Nat → Nat} {fr : Fr} {a : Act} (hF : FRel N w bx β lam fr a) {d : Nat} {cs : List Value} {ro : Bool}
    (h : bx d = some (.cells cs ro)) : ∃ arr e, w.heap[lam d]? = some (.cells arr e (0, 0)) ∧ LRel β cs arr.toList := (hF.box d _ h).2.2.2

theorem heap_cells {w : World} {b : Nat} {arr : Array Value} {e : TypeId} {fz : Nat × Nat} {β : Bt} {cs : List Value} (hw : w.heap[b]? = some (.cells arr e fz)) (h : LRel β cs arr.toList) :
    ∀ (j : Nat) u, cs[j]? = some u → ∃ u', w.cell? ⟨b, 0 + j, none⟩ = some u' ∧ VRel β u u' := fun j u hu => by
  obtain ⟨u', hu', hr⟩ := h.get hu
  exact ⟨u', cell_iff.2 ⟨arr, e, fz, hw, by simpa using hu'⟩, hr⟩

section
variable {α : Type} {C : Ctx} {N : Nat} {w : World} {S : St} {β : Bt} {lam : Nat → Nat} {fr : Fr} {a : Act} {o : Oper} {k : Slot → St → Option α} {r : α}

theorem sim_load {T : TypeId} {x : Operand} (ho : o.op = .load T x) (h : opC C fr S o k = some r) (hR : Rel C.P w S.hp β) (hF : FRel N w S.bx β lam fr a) : Step C.P N w S β lam fr a o k r := by
  simp only [opC, ho] at h
  obtain ⟨i, d, hi, hd, h⟩ := tyC_inv h
  have hx := ev_rel hR hF x
  split at h
  · rename_i d' off he
    rw [he] at hx
    have hx : a.eval x = .pointer (some ⟨lam d', off, none⟩) := hx.2
    split at h
    · rename_i cs ro hb
      obtain ⟨arr, e, hw, hl⟩ := box_cells hF hb
      unfold pCell at h
      split at h
      · rename_i v hv
        obtain ⟨v', hrun, hrel⟩ := rdCells_ok (s := 0) hi hd (heap_cells hw hl) hv
        rw [Nat.zero_add] at hrun
        refine Step.val hR hF h (v' := v') ?_ hrel
        simp only [execOp, ho, hx, Instr.loadAt, Instr.sureAddr, Sem.run_bind, Sem.run_pure, Result.andThen_ok, hrun]
      · cases h
    · cases h
  · rename_i p he
    rw [he] at hx
    unfold pLoad at h
    split at h
    · rename_i v hv
      unfold Hp.rdP at hv
      split at hv
      · rename_i i0 off
        have hx : VRel β (.pointer (some ⟨i0, off, none⟩)) (a.eval x) := hx
        generalize hq : a.eval x = q at hx
        cases hx with
        | ptr _ _ y hy =>
        unfold Hp.rd at hv
        split at hv
        · rename_i cs own hg
          obtain ⟨y', hy', h1, _⟩ := hR.cells i0 cs own hg
          rw [hy] at hy'; cases hy'
          obtain ⟨v', hrun, hrel⟩ := rdCells_ok hi hd h1 hv
          refine Step.val hR hF h (v' := v') ?_ hrel
          simp only [execOp, ho, hq, Instr.loadAt, Instr.sureAddr, Sem.run_bind, Sem.run_pure, Result.andThen_ok, hrun]
        · cases hv
      · cases hv
    · cases h
  · cases h
end
end Go.AM
/- The abstract machine: moves, boxes, addresses, arithmetic. -/
set_option linter.unusedVariables false
namespace Go.AM
open Go

section
variable {α : Type} {C : Ctx} {N : Nat} {w : World} {S : St} {β : Bt} {lam : Nat → Nat} {fr : Fr} {a : Act} {o : Oper} {k : Slot → St → Option α} {r : α}

theorem sim_move {x : Operand} (ho : o.op = .move x ∨ o.op = .assign x) (h : opC C fr S o k = some r) (hR : Rel C.P w S.hp β) (hF : FRel N w S.bx β lam fr a) : Step C.P N w S β lam fr a o k r := by
  have h' : k (ev C.P.globals.size fr x) S = some r := by rcases ho with ho | ho <;> simpa only [opC, ho] using h
  refine Step.val hR hF h' (v' := a.eval x) ?_ (ev_rel hR hF x)
  rcases ho with ho | ho <;> simp only [execOp, ho, Sem.run_pure]

theorem sel_rel {β : Bt} {t : Bool} {x y x' y' : Value} (hx : VRel β x x') (hy : VRel β y y') : VRel β (sel t x y) (if t then x' else y') := by cases t <;> assumption

theorem sim_pick {c x y : Operand} (ho : o.op = .pick c x y) (h : opC C fr S o k = some r) (hR : Rel C.P w S.hp β) (hF : FRel N w S.bx β lam fr a) : Step C.P N w S β lam fr a o k r := by
  simp only [opC, ho] at h
  obtain ⟨v, hv, h⟩ := evV_inv hR hF h
  unfold pBool at h
  split at h
  · rename_i t
    have hx := ev_rel hR hF x
    have hy := ev_rel hR hF y
    have hc : a.eval c = .bool t := by generalize a.eval c = q at hv; cases hv; rfl
    have hrun : (execOp a.eval o).run C.P w = .ok (.value (if t then a.eval x else a.eval y)) w := by
      simp only [execOp, ho, hc, asBool, Sem.run_bind, Sem.run_pure, Result.andThen_ok]
    split at h
    · rename_i u z hu hz
      rw [hu] at hx; rw [hz] at hy
      exact Step.val hR hF h hrun (show VRel β _ _ from sel_rel hx hy)
    · cases t with
      | true => exact Step.val hR hF h hrun hx
      | false => exact Step.val hR hF h hrun hy
  · cases h

theorem upd_same (bx : Nat → Option Bx) (d : Nat) (c : Option Bx) : (fun j => if j = d then c else bx j) d = c := by simp

theorem setB_some {S : St} {d : Nat} {c c' : Bx} (hb : S.bx d = some c) {q : Nat} (_hq : q = q) (e : Nat) (h : (S.bx e).isSome = true) : ((S.setB d (some c')).bx e).isSome = true := by
  simp only [St.setB]
  split
  · rfl
  · exact h
/-- A new box of the frame. -/
theorem new_box (hN : N ≤ w.heap.size) (hR : Rel C.P w S.hp β) (hF : FRel N w S.bx β lam fr a) {d : Nat} (hb : S.bx d = none) (c : Bx) (ob : Obj)
    (hc : ∀ w', w'.heap[w.heap.size]? = some ob → BxRel w' β w.heap.size c) :
    let lam' := fun j => if j = d then w.heap.size else lam j
    Rel C.P (w.alloc ob) S.hp β ∧ FRel N (w.alloc ob) (S.setB d (some c)).bx β lam' fr a ∧ Ext N w S.hp β (w.alloc ob) S.hp β ∧ lam' d = w.heap.size := by
  intro lam'
  have hold : ∀ i x, β i = some x → (w.alloc ob).heap[x.b]? = w.heap[x.b]? := fun i x hx => heap_alloc _ _ _ (hR.lt i x hx)
  have hne : ∀ j, j ≠ d → lam' j = lam j := fun j hj => if_neg hj
  have hsame : lam' d = w.heap.size := if_pos rfl
  refine ⟨hR.frame (by simp) hold, ⟨hF.size, fun e s hs => ?_, fun e b he => ?_, fun e e' he he' hee => ?_, hF.defers⟩,
    ⟨rfl, rfl, rfl, by simp, Bt.le_refl _, Nat.le_refl _, fun b hb' _ => heap_alloc _ _ _ (by omega), fun b q => .inr q, fun i x hx hn => by rw [hn] at hx; cases hx⟩, hsame⟩
  · have := hF.slot e s hs
    cases s with
    | loc d' off =>
      have hd : d' ≠ d := by intro e; subst e; have := this.1; rw [hb] at this; cases this
      refine ⟨?_, ?_⟩
      · simp only [St.setB]; rw [if_neg hd]; exact this.1
      · rw [hne d' hd]; exact this.2
    | _ => exact this
  · simp only [St.setB] at he
    by_cases hed : e = d
    · subst hed
      rw [if_pos rfl] at he
      cases he
      rw [hsame]
      exact ⟨hN, by simp, fun i x hx => by have := hR.lt i x hx; omega, hc _ (heap_alloc_new _ _)⟩
    · rw [if_neg hed] at he
      obtain ⟨h1, h2, h3, h4⟩ := hF.box e b he
      rw [hne e hed]
      exact ⟨h1, by simp; omega, h3, h4.mono (Bt.le_refl _) (heap_alloc _ _ _ h2)⟩
  · simp only [St.setB] at he he'
    have key : ∀ q, (S.bx q).isSome = true → lam q < w.heap.size := fun q hq => by
      obtain ⟨c', hc'⟩ := Option.isSome_iff_exists.1 hq
      exact (hF.box q c' hc').2.1
    by_cases hed : e = d
    · subst hed
      rw [if_neg (Ne.symm hee)] at he'
      rw [hsame, hne e' (Ne.symm hee)]
      have := key e' he'
      omega
    · rw [if_neg hed] at he
      by_cases hed' : e' = d
      · subst hed'
        rw [hsame, hne e hed]
        have := key e he
        omega
      · rw [if_neg hed'] at he'
        rw [hne e hed, hne e' hed']
        exact hF.apart e e' he he' hee

theorem alloc_add (n : Nat) (w : World) (o : Obj) : ({ w with heap := w.heap.push o } : World) = w.alloc o := rfl

theorem newBox_ok (hN : N ≤ w.heap.size) (hR : Rel C.P w S.hp β) (hF : FRel N w S.bx β lam fr a) {cs : List Value} {arr : Array Value} {e : TypeId} (hl : LRel β cs arr.toList)
    (h : newBox C S o.dst e cs k = some r) (hrun : (execOp a.eval o).run C.P w = .ok (.value (.pointer (some ⟨w.heap.size, 0, none⟩))) (w.alloc (.cells arr e))) : Step C.P N w S β lam fr a o k r := by
  unfold newBox at h
  split at h
  · rename_i d hd
    split at h
    · split at h
      · cases h
      · rename_i hb
        obtain ⟨g1, g2, g3, g4⟩ := new_box hN hR hF hb (.cells cs false) (.cells arr e) (fun w' hw' => ⟨arr, e, hw', hl⟩)
        exact ⟨_, _, _, _, β, _, h, .inl hrun, g1, g2, ⟨by simp [St.setB], by rw [g4]⟩, g3, BMv.new hb⟩
    · have hl2 : LRel β cs (arr.toList.take arr.size) := by rw [List.take_of_length_le (by simp)]; exact hl
      obtain ⟨g1, g2⟩ := hR.new_cells cs arr e (0, 0) arr.size hl2 (by intro j hj; simp)
      have hv := VRel.ptr (β := β.set S.hp.next ⟨w.heap.size, 0, arr.size⟩) S.hp.next 0 _ (Bt.set_same _ _ _)
      unfold pAllocG at h
      split at h
      · unfold pAllocT at h
        exact Step.heap hN hR hF h (.inl hrun) (g1.mark ⟨_, arr, (0, 0), Bt.set_same _ _ _, rfl, heap_alloc_new _ _, rfl⟩) (g2.mark _ _) hv
      · unfold pAlloc at h
        exact Step.heap hN hR hF h (.inl hrun) g1 g2 hv
  · cases h

theorem sim_alloc {T : TypeId} (ho : o.op = .alloc T) (hN : N ≤ w.heap.size) (h : opC C fr S o k = some r) (hR : Rel C.P w S.hp β) (hF : FRel N w S.bx β lam fr a) : Step C.P N w S β lam fr a o k r := by
  simp only [opC, ho] at h
  obtain ⟨i, z, hi, hz, hc, h⟩ := zeroC_inv h
  split at h
  · refine newBox_ok hN hR hF (arr := z.cells) (e := T) ((constOk_rel hc).cells) h ?_
    simp only [execOp, ho, Instr.alloc, Sem.run_bind, run_zeroValue w hi hz, Result.andThen_ok]
    simp [newVar, newRow]
  · cases h

theorem sim_box {T : TypeId} {x : Operand} (ho : o.op = .box T x) (hN : N ≤ w.heap.size) (h : opC C fr S o k = some r) (hR : Rel C.P w S.hp β) (hF : FRel N w S.bx β lam fr a) : Step C.P N w S β lam fr a o k r := by
  simp only [opC, ho] at h
  obtain ⟨v, hv, h⟩ := evV_inv hR hF h
  refine newBox_ok hN hR hF (arr := (a.eval x).cells) (e := T) hv.cells h ?_
  simp only [execOp, ho, Instr.box, newVar, newRow]
  simp

/-- Cells of a box are written. -/
theorem box_write (hN : N ≤ w.heap.size) (hR : Rel C.P w S.hp β) (hF : FRel N w S.bx β lam fr a) {d : Nat} {cs : List Value} (hb : S.bx d = some (.cells cs false)) {off : Nat} {vs vs' : List Value}
    (hl : off + vs.length ≤ cs.length) (hv : LRel β vs vs') {w' : World} (hp : Put w (lam d) off vs' w') :
    Rel C.P w' S.hp β ∧ FRel N w' (S.setB d (some (.cells (spl cs off vs) false))).bx β lam fr a ∧ Ext N w S.hp β w' S.hp β := by
  obtain ⟨b1, b2, b3, arr, e, hw, hrel⟩ := hF.box d _ hb
  obtain ⟨arr', hw', hs', hg⟩ := hp.row arr e _ hw
  have hvl := hv.1
  refine ⟨hR.frame (by rw [hp.size]; exact Nat.le_refl _) (fun i x hx => hp.other _ (b3 i x hx)), ⟨hF.size, fun q s hs => (hF.slot q s hs).bx (fun q hq => setB_some hb (q := q) rfl q hq), fun q c hq => ?_, fun q q' h1 h2 hne => ?_, hF.defers⟩,
    ⟨hp.os, hp.tape, hp.output, by rw [hp.size]; exact Nat.le_refl _, Bt.le_refl _, Nat.le_refl _, fun b hb' _ => hp.other b (by omega), fun b q => .inr q, fun i x hx hn => by rw [hn] at hx; cases hx⟩⟩
  · simp only [St.setB] at hq
    by_cases hqd : q = d
    · subst hqd
      rw [if_pos rfl] at hq
      cases hq
      refine ⟨b1, by rw [hp.size]; exact b2, b3, arr', e, hw', LRel.of_get ?_ fun j v hj => ?_⟩
      · rw [spl_length _ _ _ hl]; have := hrel.1; simp at this ⊢; omega
      · rw [spl_get _ _ _ hl] at hj
        rw [Array.getElem?_toList, hg]
        split at hj
        · rename_i hc
          rw [if_pos (by omega)]
          exact hv.get hj
        · rename_i hc
          rw [if_neg (by omega)]
          have := hrel.get hj
          simpa using this
    · rw [if_neg hqd] at hq
      obtain ⟨q1, q2, q3, q4⟩ := hF.box q c hq
      refine ⟨q1, by rw [hp.size]; exact q2, q3, q4.mono (Bt.le_refl _) (hp.other _ ?_)⟩
      exact hF.apart q d (by rw [hq]; rfl) (by rw [hb]; rfl) hqd
  · have key : ∀ q, ((S.setB d (some (.cells (spl cs off vs) false))).bx q).isSome = true → (S.bx q).isSome = true := fun q hq => by
      simp only [St.setB] at hq
      split at hq
      · rename_i e; rw [e, hb]; rfl
      · exact hq
    exact hF.apart q q' (key q h1) (key q' h2) hne

theorem sim_store {T : TypeId} {x y : Operand} (ho : o.op = .store T x y) (hN : N ≤ w.heap.size) (h : opC C fr S o k = some r) (hR : Rel C.P w S.hp β) (hF : FRel N w S.bx β lam fr a) : Step C.P N w S β lam fr a o k r := by
  simp only [opC, ho] at h
  obtain ⟨v, hv, h⟩ := evV_inv hR hF h
  obtain ⟨i, d, hi, hd, h⟩ := tyC_inv h
  have hx := ev_rel hR hF x
  split at h
  · rename_i d' off he
    rw [he] at hx
    have hx : a.eval x = .pointer (some ⟨lam d', off, none⟩) := hx.2
    split at h
    · rename_i cs hb
      unfold pSplice at h
      split at h
      · rename_i cs' hw
        obtain ⟨h1, h2, h3, rfl⟩ := wrCells_inv hw
        obtain ⟨arr, e, hh, hl⟩ := box_cells hF hb
        have hsz := hl.1
        obtain ⟨w', hrun, hp⟩ := run_storeVar_ok (off := off) hi hv h1 h3 hh (by intro j hj; simp) (by simp at hsz; omega)
        obtain ⟨g1, g2, g3⟩ := box_write hN hR hF hb (by omega) hv.cells hp
        refine ⟨_, _, w', undef, β, lam, h, .inr ⟨?_, rfl⟩, g1, g2, trivial, g3, BMv.set (by rw [hb]; exact ⟨_, rfl⟩)⟩
        simp only [execOp, ho, hx, Instr.storeAt, Instr.sureAddr, Sem.run_bind, Sem.run_pure, Result.andThen_ok, hrun]
      · cases h
    · cases h
  · rename_i p he
    rw [he] at hx
    unfold pStore at h
    split at h
    · rename_i H' hw
      unfold Hp.wr at hw
      split at hw
      · rename_i i0 off
        have hx : VRel β (.pointer (some ⟨i0, off, none⟩)) (a.eval x) := hx
        generalize hq : a.eval x = q at hx
        cases hx with
        | ptr _ _ bi hbi =>
        split at hw
        · rename_i cs hg
          split at hw
          · rename_i cs' hwr
            cases hw
            obtain ⟨h1, h2, h3, rfl⟩ := wrCells_inv hwr
            obtain ⟨bi', hbi', c1, c2⟩ := hR.cells i0 cs true hg
            rw [hbi] at hbi'; cases hbi'
            obtain ⟨⟨arr, e, fz, hh, hsz, hfz⟩, hle⟩ := c2 rfl
            obtain ⟨w', hrun, hp⟩ := run_storeVar_ok (off := bi.s + off) hi hv h1 h3 hh (by intro j hj; exact hfz j (by omega)) (by omega)
            obtain ⟨g1, g2⟩ := hR.write hg hbi (by omega) hv.cells hp
            refine Step.heap hN hR hF h (.inr ⟨?_, rfl⟩) g1 g2 trivial
            simp only [execOp, ho, hq, Instr.storeAt, Instr.sureAddr, Sem.run_bind, Sem.run_pure, Result.andThen_ok, hrun]
          · cases hw
        · cases hw
      · cases hw
    · cases h
  · cases h

theorem sim_nil {x : Operand} (ho : o.op = .nilCheck x) (h : opC C fr S o k = some r) (hR : Rel C.P w S.hp β) (hF : FRel N w S.bx β lam fr a) : Step C.P N w S β lam fr a o k r := by
  simp only [opC, ho] at h
  have hx := ev_rel hR hF x
  split at h
  · rename_i d off he
    rw [he] at hx
    have hx' : a.eval x = .pointer (some ⟨lam d, off, none⟩) := hx.2
    refine Step.val hR hF h (v' := a.eval x) ?_ hx
    simp only [execOp, ho, hx', Sem.run_pure]
  · rename_i v he
    rw [he] at hx
    have hx : VRel β v (a.eval x) := hx
    unfold pNil at h
    split at h
    · generalize hq : a.eval x = q at hx
      cases hx with
      | ptr i off y hy =>
      refine Step.val hR hF h (v' := .pointer (some ⟨y.b, y.s + off, none⟩)) ?_ (.ptr i off y hy)
      simp only [execOp, ho, hq, Sem.run_pure]
    · generalize hq : a.eval x = q at hx
      cases hx with
      | func fn fs fs' cs cs' hl hh hl2 hh2 =>
      refine Step.val hR hF h (v' := .func (.func _) ⟨fs'⟩ ⟨cs'⟩) ?_ (.func _ _ _ _ _ hl hh hl2 hh2)
      simp only [execOp, ho, hq, Sem.run_pure]
    · cases h
  · cases h

theorem addr_add (b off n : Nat) : (⟨b, off, none⟩ : Addr).add n = ⟨b, off + n, none⟩ := by unfold Addr.add; split <;> simp_all

theorem run_fieldPlace {P : Program} {w : World} {b off : Nat} {f : Field} {i : TypeInfo} (hi : P.info? f.type = some i) (h0 : i.size ≠ 0) :
    (fieldPlace ⟨b, off, none⟩ f).run P w = .ok ⟨b, off + f.offset, none⟩ w := by
  simp only [fieldPlace, Sem.run_bind, run_sizeOf w hi, Result.andThen_ok, if_neg h0, Sem.run_pure, addr_add]

theorem sim_fieldAddr {T : TypeId} {x : Operand} {f : Nat} (ho : o.op = .fieldAddr T x f) (h : opC C fr S o k = some r) (hR : Rel C.P w S.hp β) (hF : FRel N w S.bx β lam fr a) : Step C.P N w S β lam fr a o k r := by
  simp only [opC, ho] at h
  have hx := ev_rel hR hF x
  split at h
  · rename_i fs hu
    split at h
    · rename_i fd hfd
      split at h
      · rename_i i hi
        split at h
        · cases h
        · rename_i h0
          have h0 : i.size ≠ 0 := by intro e; simp [e] at h0
          have hfd' : fs[f]? = some fd := by simpa using hfd
          split at h
          · rename_i d off he
            rw [he] at hx
            obtain ⟨hx0, hx⟩ := hx
            refine Step.val hR hF h (v' := .pointer (some ⟨lam d, off + fd.offset, none⟩)) ?_ ⟨hx0, rfl⟩
            simp only [execOp, ho, hx, Instr.fieldAt, Instr.sureAddr, Sem.run_bind, run_under w hu, Result.andThen_ok, hfd', Sem.run_pure, run_fieldPlace hi h0]
          · rename_i p he
            rw [he] at hx
            have hx : VRel β p (a.eval x) := hx
            unfold pOffs at h
            split at h
            · rename_i i0 off _
              generalize hq : a.eval x = q at hx
              cases hx with
              | ptr _ _ y hy =>
              refine Step.val hR hF h (v' := .pointer (some ⟨y.b, y.s + (off + fd.offset), none⟩)) ?_ (.ptr _ _ y hy)
              simp only [execOp, ho, hq, Instr.fieldAt, Instr.sureAddr, Sem.run_bind, run_under w hu, Result.andThen_ok, hfd', Sem.run_pure, run_fieldPlace hi h0, Nat.add_assoc]
            · cases h
          · cases h
      · cases h
    · cases h
  · cases h
end
end Go.AM
/- The abstract machine: operators, parts, indexes. -/
set_option linter.unusedVariables false
namespace Go.AM
open Go

/-! ### Operators -/
theorem bvOp_ok {P : Program} {w : World} {op : BinOp} {k : IntKind} {x y : Int} {v : Value} (h : bvOp op k x y = some v) : (Op.intBits op k x y).run P w = .ok v w := by
  unfold bvOp at h
  cases op <;> first | (cases h; rfl) | (cases h; done)
theorem intOp_ok {P : Program} {w : World} {op : BinOp} {T : TypeId} {k : IntKind} {x y : Int} {v : Value} (h : intOp op k x y = some v) : (binOp op T (.int k x) (.int k y)).run P w = .ok v w := by
  unfold intOp at h
  cases op <;> simp only at h
  case quo =>
    split at h
    · cases h
    · rename_i h0; cases h; simp [binOp, Op.intDiv, h0]
  case rem =>
    split at h
    · cases h
    · rename_i h0; cases h; simp [binOp, Op.intDiv, h0]
  case and => simp only [binOp, ne_eq, not_true_eq_false, if_false]; exact bvOp_ok h
  case or => simp only [binOp, ne_eq, not_true_eq_false, if_false]; exact bvOp_ok h
  case xor => simp only [binOp, ne_eq, not_true_eq_false, if_false]; exact bvOp_ok h
  case andNot => simp only [binOp, ne_eq, not_true_eq_false, if_false]; exact bvOp_ok h
  case shl => cases h
  case shr => cases h
  all_goals (cases h; simp [binOp, Op.intArith, Op.intCmp])
theorem shOp_ok {P : Program} {w : World} {op : BinOp} {T : TypeId} {k k' : IntKind} {x y : Int} {v : Value} (h : shOp op k x y = some v) (ho : op = .shl ∨ op = .shr) :
    (binOp op T (.int k x) (.int k' y)).run P w = .ok v w := by
  unfold shOp at h
  split at h
  · cases h
  · rename_i h0
    rcases ho with rfl | rfl <;> (cases h; simp [binOp, Op.shift, h0])
theorem strOp_ok {P : Program} {w : World} {op : BinOp} {T : TypeId} {x y : ByteArray} {v : Value} (h : strOp op x y = some v) : (binOp op T (.string x) (.string y)).run P w = .ok v w := by
  unfold strOp at h
  cases op <;> simp only at h
  case add =>
    split at h
    · cases h
    · rename_i h0; cases h; simp only [binOp, Op.stringOp]; rw [if_neg h0]; rfl
  all_goals first | (cases h; simp [binOp, Op.stringOp]; done) | cases h

theorem partT_ok {P : Program} {w : World} {β : Bt} {t : TypeId} {cs cs' : List Value} {off : Nat} {v : Value} (hl : LRel β cs cs') (h : partT P t cs off = some v) :
    ∃ v', (part t cs'.toArray off).run P w = .ok v' w ∧ VRel β v v' := by
  unfold partT at h
  split at h
  · rename_i i d hi hd
    simp only [part, Sem.run_bind, run_isAgg w hd, Result.andThen_ok]
    cases ha : aggD d with
    | true =>
      rw [ha] at h; cases h
      refine ⟨.agg (cs'.toArray.extract off (off + i.size)), ?_, ?_⟩
      · simp only [if_true, Sem.run_bind, run_sizeOf w hi, Result.andThen_ok, Sem.run_pure]
      · refine agg_iff.2 ⟨_, rfl, ?_⟩
        have := (hl.drop off).take i.size
        simpa [List.extract_eq_take_drop] using this
    | false =>
      rw [ha] at h
      obtain ⟨v', hv', hr⟩ := hl.get h
      have : cs'.toArray[off]? = some v' := by simpa using hv'
      exact ⟨v', by simp only [Bool.false_eq_true, if_false, this, Sem.run_pure], hr⟩
  · cases h

section
variable {α : Type} {C : Ctx} {N : Nat} {w : World} {S : St} {β : Bt} {lam : Nat → Nat} {fr : Fr} {a : Act} {o : Oper} {k : Slot → St → Option α} {r : α}

theorem tyC_part {P : Program} {T : TypeId} {k : Nat → Bool → Option α} {r : α} (h : tyC P T k = some r) :
    ∃ i d, P.info? T = some i ∧ P.underlying T = some d ∧ k i.size (aggD d) = some r := tyC_inv h

theorem partC_ok {P : Program} {w : World} {β : Bt} {t : TypeId} {i : TypeInfo} {d : TypeDesc} (hi : P.info? t = some i) (hd : P.underlying t = some d) {cs : Array Value} {cs' : Array Value} {off : Nat} {v : Value}
    (hl : LRel β cs.toList cs'.toList) (h : partC (aggD d) i.size cs.toList off = some v) : ∃ v', (part t cs' off).run P w = .ok v' w ∧ VRel β v v' := by
  have h2 : partT P t cs.toList off = some v := by unfold partT; rw [hi, hd]; unfold partC at h; exact h
  obtain ⟨v', hr, hv⟩ := partT_ok (w := w) hl h2
  exact ⟨v', by simpa using hr, hv⟩

theorem sim_unOp {op : UnOp} {T : TypeId} {x : Operand} (ho : o.op = .unOp op T x) (h : opC C fr S o k = some r) (hR : Rel C.P w S.hp β) (hF : FRel N w S.bx β lam fr a) : Step C.P N w S β lam fr a o k r := by
  simp only [opC, ho] at h
  obtain ⟨v, hv, h⟩ := evV_inv hR hF h
  unfold pUn at h
  split at h
  · rename_i u hu
    generalize hq : a.eval x = q at hv
    have key : (Op.unary op q).run C.P w = .ok u w ∧ VRel β u u := by
      unfold unV at hu
      split at hu
      · cases hv; cases hu; exact ⟨by simp [Op.unary, Op.intArith], .int _ _⟩
      · cases hv
        refine ⟨by simp only [Op.unary]; exact bvOp_ok hu, ?_⟩
        unfold bvOp at hu; simp at hu; subst hu; exact .int _ _
      · cases hv; cases hu; exact ⟨by simp [Op.unary], .bool _⟩
      · cases hu
    refine Step.val hR hF h (v' := u) ?_ key.2
    simp only [execOp, ho, hq, Sem.run_bind, key.1, Result.andThen_ok, Sem.run_pure]
  · cases h

theorem sim_makeFunc {fn : Fn} {first captured : Array Operand} (ho : o.op = .makeFunc fn first captured) (h : opC C fr S o k = some r) (hR : Rel C.P w S.hp β) (hF : FRel N w S.bx β lam fr a) : Step C.P N w S β lam fr a o k r := by
  simp only [opC, ho] at h
  obtain ⟨fs, hfs, h⟩ := evs_inv hR hF _ h
  obtain ⟨cs, hcs, h⟩ := evs_inv hR hF _ h
  refine Step.val hR hF h (v' := .func fn (first.map a.eval) (captured.map a.eval)) ?_ ?_
  · simp only [execOp, ho, Instr.makeFunc, Sem.run_bind, Sem.run_pure, Result.andThen_ok]
  · obtain ⟨first⟩ := first
    obtain ⟨captured⟩ := captured
    have := VRel.func (β := β) fn fs (first.map a.eval) cs (captured.map a.eval) hfs.1 hfs.2 hcs.1 hcs.2
    simpa [SRel] using this

theorem sim_makeMap {T : TypeId} (ho : o.op = .makeMap T none) (hN : N ≤ w.heap.size) (h : opC C fr S o k = some r) (hR : Rel C.P w S.hp β) (hF : FRel N w S.bx β lam fr a) : Step C.P N w S β lam fr a o k r := by
  simp only [opC, ho, pNewMap] at h
  obtain ⟨g1, g2⟩ := hR.new_map
  refine Step.heap hN hR hF h (v' := .map (some w.heap.size)) (.inl ?_) g1 g2 (.map _ _ (Bt.set_same _ _ _))
  simp only [execOp, ho, Instr.makeMap, Option.map_none]
  simp

theorem sim_extract {t : Operand} {i : Nat} (ho : o.op = .extract t i) (h : opC C fr S o k = some r) (hR : Rel C.P w S.hp β) (hF : FRel N w S.bx β lam fr a) : Step C.P N w S β lam fr a o k r := by
  simp only [opC, ho] at h
  obtain ⟨v, hv, h⟩ := evV_inv hR hF h
  unfold pExtract at h
  split at h
  · rename_i u hu
    unfold extractV at hu
    split at hu
    · obtain ⟨cs', hq, hl⟩ := tuple_iff.1 hv
      obtain ⟨u', hu', hr⟩ := hl.get hu
      refine Step.val hR hF h (v' := u') ?_ hr
      have hu2 : cs'[i]? = some u' := by simpa using hu'
      simp only [execOp, ho, hq, Instr.extract, hu2, Sem.run_bind, Sem.run_pure, Result.andThen_ok]
    · cases hu
  · cases h

theorem sim_field {T : TypeId} {x : Operand} {f : Nat} (ho : o.op = .field T x f) (h : opC C fr S o k = some r) (hR : Rel C.P w S.hp β) (hF : FRel N w S.bx β lam fr a) : Step C.P N w S β lam fr a o k r := by
  simp only [opC, ho] at h
  obtain ⟨v, hv, h⟩ := evV_inv hR hF h
  split at h
  · rename_i fs hu
    split at h
    · rename_i fd hfd
      obtain ⟨i, d, hi, hd, h⟩ := tyC_inv h
      have hfd' : fs[f]? = some fd := by simpa using hfd
      unfold pPart at h
      split at h
      · obtain ⟨cs', hq, hl⟩ := agg_iff.1 hv
        split at h
        · rename_i u hpc
          obtain ⟨u', hr, hv'⟩ := partC_ok (w := w) hi hd hl hpc
          refine Step.val hR hF h (v' := u') ?_ hv'
          simp only [execOp, ho, hq, Instr.field, Sem.run_bind, run_under w hu, Result.andThen_ok, hfd', asAgg, Sem.run_pure, hr]
        · cases h
      · cases h
    · cases h
  · cases h

theorem atStr_ok {s : ByteArray} {j : Int} {v : Value} (h : atStr s j = some v) : ∃ b : UInt8, (if 0 ≤ j then s[j.toNat]? else none) = some b ∧ v = .int .u8 (b.toNat : Int) := by
  unfold atStr at h
  split at h
  · rename_i hj
    cases hb : s[j.toNat]? with
    | none => rw [hb] at h; cases h
    | some b => rw [hb] at h; cases h; exact ⟨b, by rw [if_pos hj], rfl⟩
  · cases h

theorem sim_index {T : TypeId} {x i : Operand} (ho : o.op = .index T x i) (h : opC C fr S o k = some r) (hR : Rel C.P w S.hp β) (hF : FRel N w S.bx β lam fr a) : Step C.P N w S β lam fr a o k r := by
  simp only [opC, ho] at h
  obtain ⟨v, hv, h⟩ := evV_inv hR hF h
  obtain ⟨ix, hix, h⟩ := evV_inv hR hF h
  generalize hqi : a.eval i = qi at hix
  split at h
  · rename_i hu
    unfold pAtStr at h
    split at h
    · rename_i s kd j
      split at h
      · rename_i u hat
        obtain ⟨b, hb, rfl⟩ := atStr_ok hat
        generalize hq : a.eval x = q at hv
        cases hv; cases hix
        refine Step.val hR hF h (v' := .int .u8 (b.toNat : Int)) ?_ (.int _ _)
        simp only [execOp, ho, hq, hqi, Instr.index, asIntOf, Sem.run_bind, Sem.run_pure, run_under w hu, Result.andThen_ok, hb]
      · cases h
    · cases h
  · rename_i len e hu
    obtain ⟨ti, d, hi, hd, h⟩ := tyC_inv h
    unfold pAtArr at h
    split at h
    · rename_i kd j
      split at h
      · rename_i hj
        unfold pPart at h
        split at h
        · obtain ⟨cs', hq, hl⟩ := agg_iff.1 hv
          split at h
          · rename_i u hpc
            obtain ⟨u', hr, hv'⟩ := partC_ok (w := w) hi hd hl hpc
            cases hix
            refine Step.val hR hF h (v' := u') ?_ hv'
            simp only [execOp, ho, hq, hqi, Instr.index, asIntOf, Sem.run_bind, Sem.run_pure, run_under w hu, Result.andThen_ok, hj, and_self, if_true, run_sizeOf w hi, hr]
          · cases h
        · cases h
      · cases h
    · cases h
  · cases h

theorem sim_indexAddr {T : TypeId} {x i : Operand} (ho : o.op = .indexAddr T x i) (h : opC C fr S o k = some r) (hR : Rel C.P w S.hp β) (hF : FRel N w S.bx β lam fr a) : Step C.P N w S β lam fr a o k r := by
  simp only [opC, ho] at h
  obtain ⟨ix, hix, h⟩ := evV_inv hR hF h
  generalize hqi : a.eval i = qi at hix
  split at h
  · rename_i e hu
    split at h
    · rename_i ti hi
      obtain ⟨v, hv, h⟩ := evV_inv hR hF h
      unfold pIdx at h
      split at h
      · rename_i u hiv
        unfold idxV at hiv
        split at hiv
        · rename_i i0 off z n c kd j
          split at hiv
          · rename_i hc
            obtain ⟨rfl, hj0, hjn⟩ := hc
            cases hiv
            generalize hq : a.eval x = q at hv
            cases hv with
            | slice _ _ _ _ _ y o' c' hy hn hcc ht hoo =>
            cases hix
            have ho' : o' = y.s + off := hoo (by omega)
            subst ho'
            refine Step.val hR hF h (v' := .pointer (some ⟨y.b, y.s + (off + j.toNat * ti.size), none⟩)) ?_ (.ptr _ _ y hy)
            simp only [execOp, ho, hq, hqi, Instr.indexAt, asIntOf, Sem.run_bind, Sem.run_pure, run_under w hu, Result.andThen_ok, hj0, hjn, and_self, if_true, run_sizeOf w hi, addr_add, Nat.add_assoc]
          · cases hiv
        · cases hiv
      · cases h
    · cases h
  · rename_i len e hu
    split at h
    · rename_i ti hi
      have hx := ev_rel hR hF x
      split at h
      · rename_i d off he
        rw [he] at hx
        obtain ⟨hx0, hx⟩ := hx
        unfold pIdxLoc at h
        split at h
        · rename_i kd j
          split at h
          · rename_i hj
            cases hix
            refine Step.val hR hF h (v' := .pointer (some ⟨lam d, off + j.toNat * ti.size, none⟩)) ?_ ⟨hx0, rfl⟩
            simp only [execOp, ho, hx, hqi, Instr.indexAt, Instr.sureAddr, asIntOf, Sem.run_bind, Sem.run_pure, run_under w hu, Result.andThen_ok, hj, and_self, if_true, run_sizeOf w hi, addr_add]
          · cases h
        · cases h
      · rename_i p he
        rw [he] at hx
        have hx : VRel β p (a.eval x) := hx
        unfold pIdxArr at h
        split at h
        · rename_i i0 off kd j _
          split at h
          · rename_i hj
            generalize hq : a.eval x = q at hx
            cases hx with
            | ptr _ _ y hy =>
            cases hix
            refine Step.val hR hF h (v' := .pointer (some ⟨y.b, y.s + (off + j.toNat * ti.size), none⟩)) ?_ (.ptr _ _ y hy)
            simp only [execOp, ho, hq, hqi, Instr.indexAt, Instr.sureAddr, asIntOf, Sem.run_bind, Sem.run_pure, run_under w hu, Result.andThen_ok, hj, and_self, if_true, run_sizeOf w hi, addr_add, Nat.add_assoc]
          · cases h
        · cases h
      · cases h
    · cases h
  · cases h
end
end Go.AM
/- The abstract machine: equality, conversions, slices. -/
set_option linter.unusedVariables false
namespace Go.AM
open Go

theorem eqFields_ok {P : Program} {β : Bt} {d : Nat} {c : TypeId → Value → Value → Option Bool}
    (hc : ∀ t x y b x' y' (w : World), c t x y = some b → VRel β x x' → VRel β y y' → (Op.equalIn d t x' y').run P w = .ok b w)
    {xs ys xs' ys' : List Value} (hx : LRel β xs xs') (hy : LRel β ys ys') (w : World) : ∀ (fs : List Field) (b : Bool), eqFields P c xs ys fs = some b →
    (Op.eqFields d xs'.toArray ys'.toArray fs).run P w = .ok b w
  | [], b, h => by cases h; simp [Op.eqFields]
  | f :: fs, b, h => by
    unfold eqFields at h
    unfold Op.eqFields
    split at h
    · rename_i hn
      have : f.name = "_" := by simpa using hn
      rw [if_neg (by simp [this])]
      exact eqFields_ok hc hx hy w fs b h
    · rename_i hn
      have hn : f.name ≠ "_" := by simpa using hn
      rw [if_pos hn]
      split at h
      · rename_i x y hpx hpy
        obtain ⟨x', h1, r1⟩ := partT_ok (w := w) hx hpx
        obtain ⟨y', h2, r2⟩ := partT_ok (w := w) hy hpy
        split at h
        · rename_i he
          have h3 := hc _ _ _ _ _ _ w he r1 r2
          simp only [Sem.run_bind, h1, h2, h3, Result.andThen_ok, Bool.not_true, Bool.false_eq_true, if_false]
          exact eqFields_ok hc hx hy w fs b h
        · rename_i he
          have h3 := hc _ _ _ _ _ _ w h r1 r2
          cases b with
          | true => exact (he h).elim
          | false => simp only [Sem.run_bind, h1, h2, h3, Result.andThen_ok, Bool.not_false, if_true, Sem.run_pure]
      · cases h

theorem eqT_ok {P : Program} {β : Bt} : ∀ (d : Nat) (t : TypeId) (x y : Value) (b : Bool) (x' y' : Value) (w : World), eqT P d t x y = some b → VRel β x x' → VRel β y y' →
    (Op.equalIn d t x' y').run P w = .ok b w
  | 0, t, x, y, b, x', y', w, h, _, _ => by cases h
  | d + 1, t, x, y, b, x', y', w, h, hx, hy => by
    unfold eqT at h
    split at h
    case h_1 hu => cases hx; cases hy; cases h; simp [Op.equalIn, run_underlying hu]
    case h_2 hu =>
      cases hx; cases hy
      split at h
      · rename_i hk; cases h; simp [Op.equalIn, run_underlying hu, hk]
      · cases h
    case h_3 hu => cases hx; cases hy; cases h; simp [Op.equalIn, run_underlying hu]
    case h_4 hu => cases hx; cases h; cases hy <;> simp [Op.equalIn, run_underlying hu]
    case h_5 hu => cases hy; cases h; cases hx <;> first | (simp [Op.equalIn, run_underlying hu]; done) | (exfalso; simp_all; done)
    case h_6 hu => cases hx; cases h; cases hy <;> simp [Op.equalIn, run_underlying hu]
    case h_7 hu => cases hy; cases h; cases hx <;> first | (simp [Op.equalIn, run_underlying hu]; done) | (exfalso; simp_all; done)
    case h_8 hu => cases hx; cases h; cases hy <;> simp [Op.equalIn, run_underlying hu]
    case h_9 hu => cases hy; cases h; cases hx <;> first | (simp [Op.equalIn, run_underlying hu]; done) | (exfalso; simp_all; done)
    case h_10 hu => cases hx; cases hy; cases h; simp [Op.equalIn, run_underlying hu]
    case h_11 hu => cases hx; cases hy; cases h; simp [Op.equalIn, run_underlying hu]
    case h_12 hu => cases hx; cases hy; cases h; simp [Op.equalIn, run_underlying hu]
    case h_13 fields xs ys hu =>
      obtain ⟨xs', rfl, hxl⟩ := agg_iff.1 hx
      obtain ⟨ys', rfl, hyl⟩ := agg_iff.1 hy
      split at h
      · cases h
      · rename_i hst
        have hf : P.fieldsOf t = fields := by simp [Program.fieldsOf, hu]
        rw [run_equalIn_struct w d t xs' ys' (by rw [hf]; exact hu) hst, hf]
        have := eqFields_ok (fun t x y b x' y' w h1 h2 h3 => eqT_ok d t x y b x' y' w h1 h2 h3) hxl hyl w fields.toList b h
        simpa using this
    case h_14 => cases h

section
variable {α : Type} {C : Ctx} {N : Nat} {w : World} {S : St} {β : Bt} {lam : Nat → Nat} {fr : Fr} {a : Act} {o : Oper} {k : Slot → St → Option α} {r : α}

theorem eqOp_ok {P : Program} {w : World} {T : TypeId} {X Y : Operand} {op : BinOp} {x y x' y' : Value} {b : Bool} (h : eqOp P T x y = some b) (hx : VRel β x x') (hy : VRel β y y') :
    (eqGuard op T X Y x' y').run P w = .ok () w ∧ (Op.equal T x' y').run P w = .ok b w := by
  unfold eqOp at h
  split at h
  · split at h
    · cases h
    · rename_i hg
      have := eqT_ok Op.maxDepth T _ _ b x' y' w h hx hy
      obtain ⟨xs', rfl, _⟩ := agg_iff.1 hx
      obtain ⟨ys', rfl, _⟩ := agg_iff.1 hy
      exact ⟨run_eqGuard_agg w op T X Y xs' ys' hg, this⟩
  · cases h
  all_goals first
    | (have := eqT_ok Op.maxDepth T _ _ b x' y' w h hx hy; refine ⟨?_, this⟩; cases hx <;> (cases op <;> rfl))
    | cases h

theorem sim_binOp {op : BinOp} {T T' : TypeId} {x y : Operand} (ho : o.op = .binOp op T x y T') (h : opC C fr S o k = some r) (hR : Rel C.P w S.hp β) (hF : FRel N w S.bx β lam fr a) : Step C.P N w S β lam fr a o k r := by
  simp only [opC, ho] at h
  obtain ⟨u, hu, h⟩ := evV_inv hR hF h
  obtain ⟨v, hv, h⟩ := evV_inv hR hF h
  unfold pBin at h
  split at h
  · rename_i z hz
    generalize hqx : a.eval x = qx at hu
    generalize hqy : a.eval y = qy at hv
    have key : ((do eqGuard op T x y qx qy; binOp op T qx qy : Sem Value)).run C.P w = .ok z w ∧ VRel β z z := by
      unfold binV at hz
      split at hz
      · rename_i k1 n1 k2 n2
        cases hu; cases hv
        have hg : (eqGuard op T x y (.int k1 n1) (.int k2 n2)).run C.P w = .ok () w := by cases op <;> rfl
        simp only [Sem.run_bind, hg, Result.andThen_ok]
        split at hz
        · exact ⟨shOp_ok hz (.inl rfl), by unfold shOp at hz; split at hz <;> cases hz; exact .int _ _⟩
        · exact ⟨shOp_ok hz (.inr rfl), by unfold shOp at hz; split at hz <;> cases hz; exact .int _ _⟩
        · split at hz
          · rename_i hk
            subst hk
            refine ⟨intOp_ok hz, ?_⟩
            unfold intOp at hz
            cases op <;> simp only [bvOp] at hz <;> (try split at hz) <;> cases hz <;> first | exact .int _ _ | exact .bool _
          · cases hz
      · rename_i s1 s2
        cases hu; cases hv
        have hg : (eqGuard op T x y (.string s1) (.string s2)).run C.P w = .ok () w := by cases op <;> rfl
        simp only [Sem.run_bind, hg, Result.andThen_ok]
        refine ⟨strOp_ok hz, ?_⟩
        unfold strOp at hz
        cases op <;> simp only at hz <;> (try split at hz) <;> cases hz <;> first | exact .string _ | exact .bool _
      · rename_i hn1 hn2
        split at hz
        · split at hz
          · rename_i b he
            cases hz
            obtain ⟨hg, hq⟩ := eqOp_ok (w := w) (X := x) (Y := y) (op := .eql) he hu hv
            refine ⟨?_, .bool b⟩
            simp only [Sem.run_bind, hg, Result.andThen_ok]
            unfold eqOp at he
            split at he <;> (try cases he) <;> cases hu <;> cases hv <;> simp [binOp, hq]
          · cases hz
        · split at hz
          · rename_i b he
            cases hz
            obtain ⟨hg, hq⟩ := eqOp_ok (w := w) (X := x) (Y := y) (op := .neq) he hu hv
            refine ⟨?_, .bool _⟩
            simp only [Sem.run_bind, hg, Result.andThen_ok]
            unfold eqOp at he
            split at he <;> (try cases he) <;> cases hu <;> cases hv <;> simp [binOp, hq]
          · cases hz
        · cases hz
    refine Step.val hR hF h (v' := z) ?_ key.2
    have hrun : (execOp a.eval o) = (do let v ← (do eqGuard op T x y qx qy; binOp op T qx qy); pure (.value v) : Sem Next) := by
      simp only [execOp, ho, hqx, hqy]
    rw [hrun]
    simp only [Sem.run_bind] at key ⊢
    rw [key.1]
    rfl
  · cases h

end
end Go.AM
/- The abstract machine: append. -/
set_option linter.unusedVariables false
namespace Go.AM
open Go

theorem sliceC_inv {α : Type} {P : Program} {t : TypeId} {k : Nat → Nat → List Value → Option α} {r : α} (h : sliceC P t k = some r) :
    ∃ e i z, P.underlying t = some (.slice e) ∧ P.info? e = some i ∧ i.zero = some z ∧ i.size ≠ 0 ∧ i.bytes ≠ 0 ∧ (cellsL z).length = i.size ∧ (cellsL z).all one = true ∧ constOk z = true ∧ k i.size i.bytes (cellsL z) = some r := by
  unfold sliceC at h
  split at h
  · rename_i e hu
    split at h
    · cases h
    · rename_i i hi
      obtain ⟨i', z, hi', hz, hc, h⟩ := zeroC_inv h
      rw [hi] at hi'; cases hi'
      split at h
      · cases h
      · rename_i hn
        simp only [not_or] at hn
        refine ⟨e, i, z, hu, hi, hz, hn.1, hn.2.1, by have := hn.2.2.1; omega, by have := hn.2.2.2; simpa using this, hc, h⟩
  · cases h

/-- What is appended: how many, and their cells. -/
theorem src_ok {P : Program} {w : World} {H : Hp} {β : Bt} (hR : Rel P w H β) {sz m : Nat} {new : List Value} {x x' : Value} (h : srcCells sz x H = some (m, new)) (hx : VRel β x x') :
    (Builtin.lenOf x').run P w = .ok m w ∧ new.length = m * sz ∧ ∀ n, n ≤ m → ∃ l', (Builtin.firstCells sz n x').run P w = .ok (List.toArray l') w ∧ LRel β (new.take (n * sz)) l' := by
  unfold srcCells at h
  split at h
  · cases h; cases hx
    refine ⟨by simp [Builtin.lenOf], by simp, fun n hn => ⟨[], run_firstCells_none w _ _ _ _, by simpa using LRel.nil β⟩⟩
  · rename_i i o z n c
    split at h
    · rename_i hz
      subst hz
      split at h
      · rename_i cs own hg
        split at h
        · rename_i hl
          cases h
          cases hx with
          | slice _ _ _ _ _ y o' c' hy hnc hcc ht hoo =>
          obtain ⟨y', hy', h1, _⟩ := hR.cells i cs own hg
          rw [hy] at hy'; cases hy'
          refine ⟨by simp [Builtin.lenOf], by simp; omega, fun n' hn' => ?_⟩
          have hle : n' * z ≤ m * z := Nat.mul_le_mul_right z hn'
          have htk : ((cs.drop o).take (m * z)).take (n' * z) = (cs.drop o).take (n' * z) := by rw [List.take_take, Nat.min_eq_left hle]
          rw [htk]
          by_cases hc0 : 0 < c
          · have ho' := hoo hc0
            subst ho'
            obtain ⟨l', hr, hrel⟩ := run_loadCells_rel (P := P) (w := w) (b := y.b) (off := y.s + o) (β := β) (l := (cs.drop o).take (n' * z)) (fun j u hu => by
              rw [List.getElem?_take] at hu
              split at hu
              · rw [List.getElem?_drop] at hu
                rw [show y.s + o + j = y.s + (o + j) by omega]
                exact h1 _ u hu
              · cases hu)
            have hlen : ((cs.drop o).take (n' * z)).length = n' * z := by simp; omega
            rw [hlen] at hr
            exact ⟨l', by simpa [Builtin.firstCells] using hr, hrel⟩
          · have hm0 : m = 0 := by omega
            subst hm0
            have hn0 : n' = 0 := by omega
            subst hn0
            exact ⟨[], by simp [Builtin.firstCells, loadCells, loadCellsFrom], by simpa using LRel.nil β⟩
        · cases h
      · cases h
    · cases h
  · rename_i s
    split at h
    · rename_i hz
      subst hz
      cases h
      cases hx
      refine ⟨by simp [Builtin.lenOf], by simp, fun n hn => ⟨(s.data.toList.map fun b => Value.int .u8 b.toNat).take (n * 1), ?_, ?_⟩⟩
      · simp only [Builtin.firstCells, Sem.run_pure]
        congr 1
        apply Array.toList_inj.1
        simp [List.extract_eq_take_drop]
      · refine ⟨rfl, fun j v v' hv hv' => ?_⟩
        rw [hv] at hv'; cases hv'
        rw [List.getElem?_take] at hv
        split at hv
        · rw [List.getElem?_map] at hv
          cases hb : s.data.toList[j]? with
          | none => rw [hb] at hv; cases hv
          | some b => rw [hb] at hv; cases hv; exact .int _ _
        · cases hv
    · cases h
  · cases h
end Go.AM
/- The abstract machine: append, copy, slices. -/
set_option linter.unusedVariables false
namespace Go.AM
open Go

/-- An object is given up, its row taken over by a new one. -/
theorem Rel.takeover {P : Program} {w w' : World} {H : Hp} {β : Bt} (h : Rel P w H β) {i : Nat} {cs : List Value} {x : BI} (hi : H.get i = some (.cells cs true)) (hx : β i = some x)
    {p : Nat} {vs' : List Value} (hp : Put w x.b p vs' w') {o' : Nat} {ds : List Value} (hd : o' + ds.length ≤ x.t)
    (hc : ∀ (j : Nat) v, ds[j]? = some v → ∃ v', w'.cell? ⟨x.b, o' + j, none⟩ = some v' ∧ VRel β v v') :
    Rel P w' ((H.set i none).new (.cells ds true)) (β.set H.next ⟨x.b, o', x.t⟩) ∧ Ext w.heap.size w H β w' ((H.set i none).new (.cells ds true)) (β.set H.next ⟨x.b, o', x.t⟩) := by
  obtain ⟨x', hx', h1, h2⟩ := h.cells i cs true hi
  rw [hx] at hx'; cases hx'
  obtain ⟨⟨arr, e, fz, hh, hsz, hfz⟩, hle⟩ := h2 rfl
  obtain ⟨arr', hh', hsz', hg⟩ := hp.row arr e fz hh
  have hf := h.fresh H.next (Nat.le_refl _)
  have hle' := Bt.le_set (x := ⟨x.b, o', x.t⟩) hf.2
  have hoth : ∀ j o y, j ≠ i → H.get j = some o → β j = some y → w'.heap[y.b]? = w.heap[y.b]? := fun j o y hji hj hy =>
    hp.other _ (fun e => h.apart i j _ _ x y (Ne.symm hji) hi hj rfl hx hy e.symm)
  have hget : ∀ j o, ((H.set i none).new (.cells ds true)).get j = some o → (j = H.next ∧ o = .cells ds true) ∨ (j ≠ H.next ∧ j ≠ i ∧ H.get j = some o) := fun j o hj => by
    rw [Hp.get_new] at hj
    split at hj
    · rename_i e; cases hj; exact .inl ⟨e, rfl⟩
    · rename_i e
      rw [Hp.get_set] at hj
      split at hj
      · cases hj
      · exact .inr ⟨e, by assumption, hj⟩
  have hset : ∀ j y, (β.set H.next ⟨x.b, o', x.t⟩) j = some y → (j = H.next ∧ y = ⟨x.b, o', x.t⟩) ∨ (j ≠ H.next ∧ β j = some y) := fun j y hj => by
    unfold Bt.set at hj
    split at hj
    · rename_i e; cases hj; exact .inl ⟨e, rfl⟩
    · exact .inr ⟨by assumption, hj⟩
  refine ⟨⟨fun j ds' own hj => ?_, fun j kv hj => ?_, fun j k o o2 y z hjk hj hk ho hy hz => ?_, fun j hj => ?_, fun j y hy => ?_, fun g hg => ?_, fun j o hj => (by
      rcases hget j _ hj with ⟨rfl, hq⟩ | ⟨hn, hji, hj⟩
      · cases hq
      · obtain ⟨y, hy, h3⟩ := h.fix j o hj
        exact ⟨y, hle' j y hy, by rw [hoth j _ y hji hj hy]; exact h3⟩), fun j T hj => ((h.tys j T hj).put hp).le hle'⟩,
    ⟨hp.os, hp.tape, hp.output, by rw [hp.size]; exact Nat.le_refl _, hle', Nat.le_succ _, fun b hb ho => ?_, fun b => ?_, fun j y hy hn => ?_⟩⟩
  · rcases hget j _ hj with ⟨rfl, hq⟩ | ⟨hn, hji, hj⟩
    · cases hq
      exact ⟨_, Bt.set_same _ _ _, fun k v hk => by obtain ⟨v', q1, q2⟩ := hc k v hk; exact ⟨v', q1, q2.mono hle'⟩, fun _ => ⟨⟨arr', e, fz, hh', by show arr'.size = x.t; omega, fun q hq => hfz q hq⟩, hd⟩⟩
    · obtain ⟨y, hy, h3, h4⟩ := h.cells j ds' own hj
      have hw := hoth j _ y hji hj hy
      refine ⟨y, hle' j y hy, fun k v hk => ?_, fun ho => ⟨(h4 ho).1.congr hw, (h4 ho).2⟩⟩
      obtain ⟨v', hv', hr⟩ := h3 k v hk
      exact ⟨v', by rw [cell_congr hw]; exact hv', hr.mono hle'⟩
  · rcases hget j _ hj with ⟨rfl, hq⟩ | ⟨hn, hji, hj⟩
    · cases hq
    · obtain ⟨y, hy, es, clock, h3, h4, h5⟩ := h.maps j kv hj
      exact ⟨y, hle' j y hy, es, clock, by rw [hoth j _ y hji hj hy]; exact h3, h4.mono hle', h5⟩
  · rcases hget j _ hj with ⟨rfl, hq⟩ | ⟨hn, hji, hj⟩
    · rcases hget k _ hk with ⟨rfl, hq2⟩ | ⟨hn2, hki, hk⟩
      · exact absurd rfl hjk
      · rcases hset _ y hy with ⟨_, rfl⟩ | ⟨hh, _⟩
        · rcases hset k z hz with ⟨e, _⟩ | ⟨_, hz⟩
          · exact absurd e hn2
          · exact h.apart i k _ _ x z (Ne.symm hki) hi hk rfl hx hz
        · exact absurd rfl hh
    · rcases hset j y hy with ⟨e, _⟩ | ⟨_, hy⟩
      · exact absurd e hn
      · rcases hget k _ hk with ⟨rfl, hq2⟩ | ⟨hn2, hki, hk⟩
        · rcases hset _ z hz with ⟨_, rfl⟩ | ⟨hh, _⟩
          · exact (h.apart i j _ _ x y (Ne.symm hji) hi hj rfl hx hy).symm
          · exact absurd rfl hh
        · rcases hset k z hz with ⟨e, _⟩ | ⟨_, hz⟩
          · exact absurd e hn2
          · exact h.apart j k o o2 y z hjk hj hk ho hy hz
  · have hj : H.next + 1 ≤ j := hj
    have := h.fresh j (by omega)
    have hjn : ¬ j = H.next := by omega
    refine ⟨?_, by unfold Bt.set; rw [if_neg hjn]; exact this.2⟩
    rw [Hp.get_new, if_neg (show ¬ j = (H.set i none).next from hjn), Hp.get_set]
    split
    · rfl
    · exact this.1
  · rw [hp.size]
    rcases hset j y hy with ⟨_, rfl⟩ | ⟨_, hy⟩
    · exact h.lt i x hx
    · exact h.lt j y hy
  · obtain ⟨t, ht⟩ := h.glob g hg
    exact ⟨t, hle' g _ ht⟩
  · exact hp.other b (fun e => by subst e; exact ho ⟨i, _, x, hi, rfl, hx, rfl⟩)
  · rintro ⟨j, o, y, hj, ho, hy, rfl⟩
    rcases hget j _ hj with ⟨rfl, hq⟩ | ⟨hn, hji, hj⟩
    · rcases hset _ y hy with ⟨_, rfl⟩ | ⟨hh, _⟩
      · exact .inr ⟨i, _, x, hi, rfl, hx, rfl⟩
      · exact absurd rfl hh
    · rcases hset j y hy with ⟨e, _⟩ | ⟨_, hy⟩
      · exact absurd e hn
      · exact .inr ⟨j, o, y, hj, ho, hy, rfl⟩
  · rcases hset j y hy with ⟨rfl, rfl⟩ | ⟨_, hy⟩
    · exact .inr ⟨i, _, x, hi, rfl, hx, rfl⟩
    · rw [hn] at hy; cases hy

theorem zeroCells_size (zs : Array Value) (n : Nat) : (Builtin.zeroCells zs n).size = n * zs.size := by simp [Builtin.zeroCells]
theorem cut_append (need old : Nat) (e : TypeId) (t : Nat) : ∃ c, Question.cut (.appendCap need old e) t = need + c := ⟨_, rfl⟩

section
variable {P : Program} {w : World} {t u ty e : TypeId} {i : TypeInfo} {z : Value} {du : TypeDesc} {base : Option Addr} {n c m : Nat} {x' : Value}
theorem run_append_in (hu : P.underlying t = some (.slice e)) (hi : P.info? e = some i) (hdu : P.underlying u = some du) (hdu' : (∃ q, du = .slice q) ∨ du = .string) (hlen : (Builtin.lenOf x').run P w = .ok m w)
    {l' : List Value} (hfr : (Builtin.firstCells i.size m x').run P w = .ok l'.toArray w) (hc : n + m ≤ c) {w' : World}
    (hst : ((match base with | some a => storeCells (a.add (n * i.size)) l' | none => pure () : Sem Unit)).run P w = .ok () w') :
    (Builtin.append_ #[t, u] ty #[.slice base n c, x']).run P w = .ok (.slice base (n + m) c) w' := by
  unfold Builtin.append_
  rcases hdu' with ⟨q, rfl⟩ | rfl <;>
    (simp only [List.getElem?_toArray, List.getElem?_cons_succ, List.getElem?_cons_zero, Sem.run_bind, run_under w hu, Result.andThen_ok, run_sizeOf w hi, run_under w hdu, Sem.run_pure, Bool.false_eq_true, if_false, Sem.run_ite,
      hlen, hc, if_true, hfr, Bool.not_false]
     cases base with
     | none => simp at hst; subst hst; simp
     | some a => dsimp only at hst ⊢; simp only [Sem.run_bind, hst, Result.andThen_ok, Sem.run_pure])
theorem run_append_out (hu : P.underlying t = some (.slice e)) (hi : P.info? e = some i) (hz : i.zero = some z) (hb0 : i.bytes ≠ 0) (hdu : P.underlying u = some du) (hdu' : (∃ q, du = .slice q) ∨ du = .string)
    (hlen : (Builtin.lenOf x').run P w = .ok m w)
    {old l' : List Value} (hold : (Builtin.firstCells i.size n (.slice base n c)).run P w.drew = .ok old.toArray w.drew) (hfr : (Builtin.firstCells i.size m x').run P w.drew = .ok l'.toArray w.drew) (hc : ¬ n + m ≤ c)
    (hfit : (n + m) * i.bytes ≤ 2 ^ 47) {d : Nat} (hcut : Question.cut (.appendCap (n + m) c e) (w.tape w.drawn (.appendCap (n + m) c e)) = n + m + d) :
    (Builtin.append_ #[t, u] ty #[.slice base n c, x']).run P w = .ok (.slice (some ⟨w.heap.size, 0, none⟩) (n + m) (n + m + d)) (w.drew.alloc (.cells (old.toArray ++ l'.toArray ++ Builtin.zeroCells z.cells d) e)) := by
  have hf : ¬ Builtin.nextslicecap (n + m) c * i.bytes > 2 ^ 48 := by
    have := growslice_fits (need := n + m) (old := c) (bytes := i.bytes) (by omega) (by omega)
    omega
  have hd : n + m + d - (n + m) = d := by omega
  unfold Builtin.append_
  rcases hdu' with ⟨q, rfl⟩ | rfl <;>
    (simp only [List.getElem?_toArray, List.getElem?_cons_succ, List.getElem?_cons_zero, Sem.run_bind, run_under w hu, Result.andThen_ok, run_sizeOf w hi, run_under w hdu, Sem.run_pure, Bool.false_eq_true, if_false, Sem.run_ite,
      hlen, hc, Bool.not_false, if_true, run_typeInfo w hi, hb0, or_self, and_false, hf, run_choose, Question.forced, hcut, World.drew_eq, run_typeInfo w.drew hi, run_askRoom, hold, hfr, run_zeroValue w.drew hi hz, newRow, run_newObj, hd]
     rfl)
end

theorem canMark_inv {e : TypeId} {i o z n c : Nat} {H : Hp} (h : canMark e (.slice (some ⟨i, o, some z⟩) n c) H = true) : o = 0 ∧ 0 < c ∧ H.ty i = some e := by
  unfold canMark at h
  split at h
  · rename_i q; cases q
  · rename_i q
    cases q
    split at h
    · rename_i T hT
      rw [hT, Nat.eq_of_beq_eq_true h]
      exact ⟨rfl, Nat.succ_pos _, rfl⟩
    · cases h
  · cases h
set_option maxHeartbeats 800000 in
theorem append_ok {P : Program} {w : World} {H H' : Hp} {β : Bt} (hR : Rel P w H β) {t u ty e : TypeId} {i : TypeInfo} {z : Value} {du : TypeDesc} (hu : P.underlying t = some (.slice e)) (hi : P.info? e = some i) (hz : i.zero = some z)
    (h0 : i.size ≠ 0) (hb0 : i.bytes ≠ 0) (hzl : (cellsL z).length = i.size) (hdu : P.underlying u = some du) (hdu' : (∃ q, du = .slice q) ∨ du = .string)
    {s x s' x' v : Value} (hs : VRel β s s') (hx : VRel β x x') (h : appendV i.size i.bytes s x H = some (v, H')) :
    ∃ v' w' β', (Builtin.append_ #[t, u] ty #[s', x']).run P w = .ok v' w' ∧ Rel P w' H' β' ∧ Ext w.heap.size w H β w' H' β' ∧ VRel β' v v' ∧
      (H'.next = H.next + 1 → canMark e s H = true → Typed w' β' H.next e) := by
  have hzz : z.cells.size = i.size := by simpa [cellsL] using hzl
  unfold appendV at h
  split at h
  · cases h
  · rename_i m new hsrc
    obtain ⟨hlen, hnl, hfc⟩ := src_ok hR hsrc hx
    obtain ⟨hlend, _, hfcd⟩ := src_ok hR.drew hsrc hx
    obtain ⟨l', hfr, hfrel⟩ := hfc m (Nat.le_refl _)
    obtain ⟨ld, hfd, hfrd⟩ := hfcd m (Nat.le_refl _)
    rw [List.take_of_length_le (by omega)] at hfrel hfrd
    have hl'l : l'.length = m * i.size := by rw [← hfrel.1]; exact hnl
    have hldl : ld.length = m * i.size := by rw [← hfrd.1]; exact hnl
    split at h
    · -- nil
      cases hs
      split at h
      · rename_i hm0
        cases h
        subst hm0
        exact ⟨.slice none 0 0, w, β, run_append_in hu hi hdu hdu' hlen hfr (by omega) (by simp), hR, Ext.refl _ _ _ _, .snil, fun q => absurd q (by omega)⟩
      · rename_i hm0
        split at h
        · rename_i hc
          cases h
          obtain ⟨d, hcut⟩ := cut_append (0 + m) 0 e (w.tape w.drawn (.appendCap (0 + m) 0 e))
          have hrun := run_append_out (base := none) (n := 0) (c := 0) (ty := ty) (old := []) hu hi hz hb0 hdu hdu' hlen (by simp [Builtin.firstCells]) hfd (by omega) (by simpa using hc.1) hcut
          obtain ⟨g1, g2⟩ := hR.drew.new_cells new ([].toArray ++ ld.toArray ++ Builtin.zeroCells z.cells d) e (0, 0) (m * i.size)
            (by simp; rw [List.take_append_of_le_length (by omega), List.take_of_length_le (by omega)]; exact hfrd) (by intro j hj; simp)
          have hsz : ([].toArray ++ ld.toArray ++ Builtin.zeroCells z.cells d).size = (0 + m + d) * i.size := by
            simp only [Array.size_append, List.size_toArray, zeroCells_size, hldl, hzz, List.length_nil, Nat.add_mul, Nat.zero_add]
          refine ⟨_, _, _, hrun, g1, g2.of_drew, ?_, fun _ _ => ⟨_, _, (0, 0), Bt.set_same _ _ _, rfl, heap_alloc_new _ _, rfl⟩⟩
          have := VRel.slice (β := β.set H.next ⟨w.drew.heap.size, 0, ([].toArray ++ ld.toArray ++ Builtin.zeroCells z.cells d).size⟩) H.next 0 i.size m m _ 0 (0 + m + d) (Bt.set_same _ _ _) (Nat.le_refl _) (by omega) (by rw [hsz]; simp) (by intro; rfl)
          rw [Nat.zero_add] at this ⊢
          exact this
        · cases h
    · rename_i i0 o zz n c
      split at h
      · cases h
      · rename_i hzs
        have hzs : zz = i.size := by omega
        subst hzs
        cases hs with
        | slice _ _ _ _ _ y o' c' hy hnc hcc ht hoo =>
        split at h
        · rename_i hm
          cases h
          obtain ⟨rfl, _⟩ := hm
          have hl0 : l' = [] := List.length_eq_zero_iff.1 (by omega)
          subst hl0
          refine ⟨_, w, β, run_append_in hu hi hdu hdu' hlen hfr (by omega) (by simp [storeCells]), hR, Ext.refl _ _ _ _, .slice _ _ _ _ _ y o' c' hy hnc hcc ht hoo, fun q => absurd q (by omega)⟩
        · split at h
          · rename_i cs hg
            obtain ⟨y', hy', h1, h2⟩ := hR.cells i0 cs true hg
            rw [hy] at hy'; cases hy'
            obtain ⟨⟨arr, ety, fz, hh, hsz, hfz⟩, hle⟩ := h2 rfl
            have hstore : ∀ (ws : List Value), ws.length = m * i.size → (ws.all Value.oneCell') = true → n + m ≤ c' → ∃ w', ((match (some ⟨y.b, o', none⟩ : Option Addr) with | some a => storeCells (a.add (n * i.size)) ws | none => pure () : Sem Unit)).run P w = .ok () w' ∧ Put w y.b (o' + n * i.size) ws w' := by
              intro ws hwl hw1 hnm
              have hmul : (n + m) * i.size ≤ c' * i.size := Nat.mul_le_mul_right _ hnm
              rw [Nat.add_mul] at hmul
              obtain ⟨w', hr, hp⟩ := run_storeCells P y.b (o' + n * i.size) arr ety fz (by intro j hj; exact hfz j (by omega)) ws 0 w arr hh rfl (by omega) hw1
              exact ⟨w', by simpa [addr_add] using hr, by simpa using hp⟩
            split at h
            · rename_i hnm
              split at h
              · rename_i hc
                cases h
                have hc0 : 0 < c := by omega
                have ho' := hoo hc0
                subst ho'
                obtain ⟨w', hst, hp⟩ := hstore l' hl'l (all_one hfrel hc.2) (by omega)
                have hcl := hc.1
                rw [Nat.add_mul] at hcl
                rw [show y.s + o + n * i.size = y.s + (o + n * i.size) by omega] at hp
                obtain ⟨g1, g2⟩ := hR.write hg hy (by omega) hfrel hp
                exact ⟨_, w', β, run_append_in hu hi hdu hdu' hlen hfr (by omega) hst, g1, g2, .slice _ _ _ _ _ y _ c' hy hnm hcc ht (fun _ => rfl), fun q => absurd q (show ¬ H.next = H.next + 1 by omega)⟩
              · cases h
            · rename_i hnm
              split at h
              · rename_i hc
                cases h
                have holdc : ∀ (j : Nat) u, ((cs.drop o).take (n * i.size))[j]? = some u → ∃ u', w.cell? ⟨y.b, o' + j, none⟩ = some u' ∧ VRel β u u' := by
                  intro j u hu
                  rw [List.getElem?_take] at hu
                  split at hu
                  · rename_i hj
                    have hn0 : 0 < n := by rcases Nat.eq_zero_or_pos n with e | e; · subst e; simp at hj
                                           exact e
                    have ho' := hoo (by omega)
                    subst ho'
                    rw [List.getElem?_drop] at hu
                    rw [show y.s + o + j = y.s + (o + j) by omega]
                    exact h1 _ u hu
                  · cases hu
                have hol : ((cs.drop o).take (n * i.size)).length = n * i.size := by simp; have := hc.1; omega
                by_cases hin : n + m ≤ c'
                · obtain ⟨w', hst, hp⟩ := hstore l' hl'l (all_one hfrel hc.2.2) hin
                  have hmul : (n + m) * i.size ≤ c' * i.size := Nat.mul_le_mul_right _ hin
                  rw [Nat.add_mul] at hmul
                  obtain ⟨arr2, hh2, hs2, hg2⟩ := hp.row arr ety fz hh
                  obtain ⟨g1, g2⟩ := hR.takeover hg hy hp (o' := o') (ds := (cs.drop o).take (n * i.size) ++ new) (by simp only [List.length_append, hol, hnl]; omega) (fun j v hj => by
                    by_cases hjn : j < n * i.size
                    · rw [List.getElem?_append_left (by omega)] at hj
                      obtain ⟨v', q1, q2⟩ := holdc j v hj
                      obtain ⟨a3, e3, f3, q3, q4⟩ := cell_iff.1 q1
                      rw [hh] at q3; cases q3
                      exact ⟨v', cell_iff.2 ⟨arr2, _, _, hh2, by rw [hg2, if_neg (by omega)]; exact q4⟩, q2⟩
                    · rw [List.getElem?_append_right (by omega), hol] at hj
                      obtain ⟨v', q1, q2⟩ := hfrel.get hj
                      have hjl : j - n * i.size < l'.length := (List.getElem?_eq_some_iff.1 q1).1
                      exact ⟨v', cell_iff.2 ⟨arr2, _, _, hh2, by rw [hg2, if_pos (by omega), show o' + j - (o' + n * i.size) = j - n * i.size by omega]; exact q1⟩, q2⟩)
                  refine ⟨_, w', _, run_append_in hu hi hdu hdu' hlen hfr hin hst, g1, g2, ?_, fun _ hq => by
                    obtain ⟨rfl, hc0, hty⟩ := canMark_inv hq
                    obtain ⟨y', arr', fz', hy', k1, k2, k3⟩ := hR.tys _ _ hty
                    rw [hy] at hy'; cases hy'
                    rw [hh] at k2; cases k2
                    have ho' := hoo hc0
                    exact ⟨_, arr2, fz, Bt.set_same _ _ _, by show o' = 0; omega, hh2, by show arr2.size = y.t; omega⟩⟩
                  exact .slice H.next 0 i.size (n + m) (n + m) ⟨y.b, o', y.t⟩ o' c' (Bt.set_same _ _ _) (Nat.le_refl _) hin ht (fun _ => rfl)
                · obtain ⟨d, hcut⟩ := cut_append (n + m) c' e (w.tape w.drawn (.appendCap (n + m) c' e))
                  obtain ⟨old', hro, hrel⟩ := run_loadCells_rel (P := P) (w := w.drew) (b := y.b) (off := o') (β := β) (l := (cs.drop o).take (n * i.size)) holdc
                  rw [hol] at hro
                  have hrun := run_append_out (base := some ⟨y.b, o', none⟩) (n := n) (c := c') (ty := ty) (old := old') hu hi hz hb0 hdu hdu' hlen (by simpa [Builtin.firstCells] using hro) hfd hin (by have := hc.2.1; omega) hcut
                  obtain ⟨k1, k2⟩ := hR.drew.kill i0
                  have holl : old'.length = n * i.size := by rw [← hrel.1]; exact hol
                  obtain ⟨g1, g2⟩ := k1.new_cells ((cs.drop o).take (n * i.size) ++ new) (old'.toArray ++ ld.toArray ++ Builtin.zeroCells z.cells d) e (0, 0) ((n + m) * i.size)
                    (by
                      have : (old'.toArray ++ ld.toArray ++ Builtin.zeroCells z.cells d).toList.take ((n + m) * i.size) = old' ++ ld := by
                        simp
                        rw [← List.append_assoc, List.take_append_of_le_length (by simp [Nat.add_mul]; omega), List.take_of_length_le (by simp [Nat.add_mul]; omega)]
                      rw [this]
                      exact hrel.append hfrd) (by intro j hj; simp)
                  have hsz2 : (old'.toArray ++ ld.toArray ++ Builtin.zeroCells z.cells d).size = (n + m + d) * i.size := by
                    simp only [Array.size_append, List.size_toArray, zeroCells_size, hldl, hzz, holl, Nat.add_mul]
                  refine ⟨_, _, _, hrun, g1, (k2.trans g2).of_drew, ?_, fun _ _ => ⟨_, _, (0, 0), Bt.set_same _ _ _, rfl, heap_alloc_new _ _, rfl⟩⟩
                  exact .slice H.next 0 i.size (n + m) (n + m) ⟨w.heap.size, 0, _⟩ 0 (n + m + d) (Bt.set_same _ _ _) (Nat.le_refl _) (by omega) (by show 0 + _ ≤ (old'.toArray ++ ld.toArray ++ Builtin.zeroCells z.cells d).size; rw [hsz2]; omega) (fun _ => rfl)
              · cases h
          · cases h
    · cases h
end Go.AM
/- The abstract machine: slices, copies, conversions, building. -/
set_option linter.unusedVariables false
namespace Go.AM
open Go

section
variable {α : Type} {C : Ctx} {N : Nat} {w : World} {S : St} {β : Bt} {lam : Nat → Nat} {fr : Fr} {a : Act} {o : Oper} {k : Slot → St → Option α} {r : α}

theorem optInt_rel {β : Bt} {d : Nat} {v : Option Value} {v' : Option Value} {n : Int} (h : optInt d v = some n) (hr : ORel β v v') :
    (v' = none ∧ n = d) ∨ ∃ k, v' = some (.int k n) := by
  unfold optInt at h
  unfold ORel at hr
  split at h
  · cases h
    cases v' with
    | none => exact .inl ⟨rfl, rfl⟩
    | some _ => exact hr.elim
  · cases h
    cases v' with
    | none => exact hr.elim
    | some u => cases hr; exact .inr ⟨_, rfl⟩
  · cases h

theorem run_bounds {P : Program} {w : World} {isS : Bool} {len cap : Nat} {lo hi : Option Value} {l h : Int} (hl : (lo = none ∧ l = 0) ∨ ∃ k, lo = some (.int k l)) (hh : (hi = none ∧ h = len) ∨ ∃ k, hi = some (.int k h))
    (h0 : 0 ≤ l) (h1 : l ≤ h) (h2 : h ≤ cap) : (Instr.sliceBounds isS len cap lo hi none).run P w = .ok (l.toNat, h.toNat, cap) w := by
  have hb : ∀ (k : IntKind) (x : Int) (y : Nat) (c : BoundsCode), 0 ≤ x → x ≤ y → (Instr.sliceBound (.int k x) y c).run P w = .ok x.toNat w := by
    intro k x y c hx hy
    simp only [Instr.sliceBound, asIntOf, Sem.run_bind, Sem.run_pure, Result.andThen_ok, hx, hy, and_self, if_true]
  have h3 : 0 ≤ h := Int.le_trans h0 h1
  have hc2 : l ≤ ((h.toNat : Nat) : Int) := by omega
  unfold Instr.sliceBounds
  rcases hl with ⟨rfl, rfl⟩ | ⟨k1, rfl⟩ <;> rcases hh with ⟨rfl, rfl⟩ | ⟨k2, rfl⟩
  · simp
  · simp [hb k2 h cap _ h3 h2]
  · simp [hb k1 l len _ h0 h1]
  · simp [hb k2 h cap _ h3 h2, hb k1 l h.toNat _ h0 hc2]

theorem sim_slice {T : TypeId} {x : Operand} {lo hi : Option Operand} (ho : o.op = .slice T x lo hi none) (h : opC C fr S o k = some r) (hR : Rel C.P w S.hp β) (hF : FRel N w S.bx β lam fr a) : Step C.P N w S β lam fr a o k r := by
  simp only [opC, ho] at h
  obtain ⟨v, hv, h1⟩ := evV_inv hR hF h
  clear h
  obtain ⟨vl, h2, hvl⟩ := optV_inv hR hF h1
  clear h1
  obtain ⟨vh, h, hvh⟩ := optV_inv hR hF h2
  clear h2
  generalize hq : a.eval x = q at hv
  split at h
  · rename_i hu
    unfold pSliceS at h
    split at h
    · rename_i u hs
      unfold sliceS at hs
      split at hs
      · rename_i s
        cases hv
        split at hs
        · rename_i l hh hl hh'
          split at hs
          · rename_i hc
            cases hs
            have g1 := optInt_rel hl hvl
            have g2 := optInt_rel hh' hvh
            refine Step.val hR hF h (v' := .string (s.extract l.toNat hh.toNat)) ?_ (.string _)
            simp only [execOp, ho, hq, Instr.sliceAt, Instr.slice, Option.map_none, Sem.run_bind, run_under w hu, Result.andThen_ok, Option.isSome_none, Bool.false_eq_true, if_false, run_bounds g1 g2 hc.1 hc.2.1 hc.2.2, Sem.run_pure]
          · cases hs
        · cases hs
      · cases hs
    · cases h
  · rename_i e hu
    split at h
    · rename_i ti hi'
      unfold pSlice at h
      split at h
      · rename_i u hs
        unfold sliceV at hs
        split at hs
        · cases hv
          split at hs
          · rename_i l hh hl hh'
            split at hs
            · rename_i hc
              cases hs
              have g1 := optInt_rel hl hvl
              have g2 := optInt_rel hh' hvh
              refine Step.val hR hF h (v' := .slice none 0 0) ?_ .snil
              have hb := run_bounds (P := C.P) (w := w) (isS := true) (len := 0) (cap := 0) g1 g2 (by omega) (by omega) (by omega)
              simp only [execOp, ho, hq, Instr.sliceAt, Instr.slice, Option.map_none, Sem.run_bind, run_under w hu, Result.andThen_ok, hb, run_sizeOf w hi', Sem.run_pure, hc.1, hc.2]
              simp
            · cases hs
          · cases hs
        · rename_i i0 off z n c
          split at hs
          · rename_i l hh hl hh'
            split at hs
            · rename_i hc
              cases hs
              obtain ⟨rfl, hc0, hc1, hc2⟩ := hc
              cases hv with
              | slice _ _ _ _ _ y o' c' hy hnc hcc ht hoo =>
              have g1 := optInt_rel hl hvl
              have g2 := optInt_rel hh' hvh
              have hb := run_bounds (P := C.P) (w := w) (isS := true) (len := n) (cap := c') g1 g2 hc0 hc1 (by omega)
              refine Step.val hR hF h (v' := .slice (some ⟨y.b, (if c' = l.toNat then o' else o' + l.toNat * ti.size), none⟩) (hh.toNat - l.toNat) (c' - l.toNat)) ?_ ?_
              · simp only [execOp, ho, hq, Instr.sliceAt, Instr.slice, Option.map_none, Sem.run_bind, run_under w hu, Result.andThen_ok, hb, run_sizeOf w hi', Sem.run_pure, Option.map_some, addr_add]
                split <;> rfl
              · have hsub : (hh - l).toNat = hh.toNat - l.toNat := by omega
                show VRel β _ _
                rw [hsub]
                refine .slice _ _ _ _ _ y _ _ hy (by omega) (by omega) ?_ (fun hp => ?_)
                · split
                  · rename_i e; rw [e, Nat.sub_self, Nat.zero_mul]; have := Nat.le_trans (Nat.le_add_right o' (c' * ti.size)) ht; omega
                  · have : l.toNat * ti.size + (c' - l.toNat) * ti.size = c' * ti.size := by rw [← Nat.add_mul]; congr 1; omega
                    omega
                · rw [if_neg (by omega), hoo (by omega), Nat.add_assoc]
            · cases hs
          · cases hs
        · cases hs
      · cases h
    · cases h
  · cases h
end
end Go.AM
/- The abstract machine: conversions, building, making. -/
set_option linter.unusedVariables false
namespace Go.AM
open Go

section
variable {α : Type} {C : Ctx} {N : Nat} {w : World} {S : St} {β : Bt} {lam : Nat → Nat} {fr : Fr} {a : Act} {o : Oper} {k : Slot → St → Option α} {r : α}

theorem bytesOf_ok : ∀ (cs : List Value) (l : List UInt8) (β : Bt) (cs' : List Value), bytesOf cs = some l → LRel β cs cs' → ∃ ns : List Int, cs' = ns.map (Value.int .u8) ∧ l = ns.map fun n => UInt8.ofNat n.toNat
  | [], l, β, cs', h, hr => by
    cases h
    have : cs' = [] := List.length_eq_zero_iff.1 (by have := hr.1; simp at this; omega)
    subst this
    exact ⟨[], rfl, rfl⟩
  | v :: r, l, β, cs', h, hr => by
    cases v with
    | int k n =>
      cases k <;> simp only [bytesOf] at h <;> try (cases h; done)
      split at h
      · rename_i l' hl'
        cases h
        cases cs' with
        | nil => have := hr.1; simp at this
        | cons v' r2 =>
          have h0 := hr.2 0 _ _ rfl rfl
          cases h0
          have hr2 : LRel β r r2 := ⟨by have := hr.1; simpa using this, fun k u u' hu hu' => hr.2 (k + 1) u u' (by simpa using hu) (by simpa using hu')⟩
          obtain ⟨ns, he, hl⟩ := bytesOf_ok r l' β r2 hl' hr2
          exact ⟨n :: ns, by rw [he]; rfl, by rw [hl]; rfl⟩
      · cases h
    | _ => simp only [bytesOf] at h; cases h

theorem sim_convert {src dst : TypeId} {x : Operand} (ho : o.op = .convert src dst x) (hN : N ≤ w.heap.size) (h : opC C fr S o k = some r) (hR : Rel C.P w S.hp β) (hF : FRel N w S.bx β lam fr a) : Step C.P N w S β lam fr a o k r := by
  simp only [opC, ho] at h
  obtain ⟨v, hv, h1⟩ := evV_inv hR hF h
  clear h
  generalize hq : a.eval x = q at hv
  split at h1
  · rename_i k1 kd hs hd
    unfold pConvInt at h1
    split at h1
    · rename_i u hu
      unfold convIntV at hu
      split at hu
      · cases hu
        cases hv
        refine Step.val hR hF h1 (v' := _) ?_ (.int _ _)
        simp only [execOp, ho, hq, convert, Sem.run_bind, run_under w hs, run_under w hd, Result.andThen_ok, Conv.intToInt, Sem.run_pure]
      · cases hu
    · cases h1
  · rename_i hs hd
    unfold pStr at h1
    split at h1
    · cases hv
      refine Step.val hR hF h1 (v' := _) ?_ (.string _)
      simp only [execOp, ho, hq, convert, Sem.run_bind, run_under w hs, run_under w hd, Result.andThen_ok, Sem.run_pure]
    · cases h1
  · rename_i k1 hs hd
    unfold pRune at h1
    split at h1
    · cases hv
      refine Step.val hR hF h1 (v' := _) ?_ (.string _)
      simp only [execOp, ho, hq, convert, Sem.run_bind, run_under w hs, run_under w hd, Result.andThen_ok, Conv.intToString, Sem.run_pure]
    · cases h1
  · rename_i e hs hd
    split at h1
    · rename_i he
      unfold pToBytes at h1
      split at h1
      · rename_i s
        split at h1
        · rename_i hsz
          cases hv
          have hge : s.size ≤ grownCap w s.size 0 e := by obtain ⟨c, hcut⟩ := cut_append s.size 0 e (w.tape w.drawn (.appendCap s.size 0 e)); unfold grownCap; rw [hcut]; omega
          have hrun := run_bytes_of_string (P := C.P) w src dst e s hs hd he
          generalize grownCap w s.size 0 e = cap at hge hrun
          have hrow : (bytesRow s cap).toList.take s.size = s.data.toList.map fun b => Value.int .u8 (b.toNat : Int) := by
            unfold bytesRow
            simp only [Array.toList_append, Array.toList_map]
            rw [List.take_append_of_le_length (by simp), List.take_of_length_le (by simp)]
          have hrsz : (bytesRow s cap).size = cap := by unfold bytesRow; simp; omega
          obtain ⟨g1, g2⟩ := hR.drew.new_cells (s.data.toList.map fun b => .int .u8 (b.toNat : Int)) (bytesRow s cap) e ((bytesRow s cap).size, (bytesRow s cap).size + 1) s.size
            (by
              rw [hrow]
              refine ⟨rfl, fun j u u' hu hu' => ?_⟩
              rw [hu] at hu'; cases hu'
              rw [List.getElem?_map] at hu
              cases hb : s.data.toList[j]? with
              | none => rw [hb] at hu; cases hu
              | some b => rw [hb] at hu; cases hu; exact .int _ _) (by intro j hj; simp; omega)
          refine Step.heap hN hR hF h1 (v' := .slice (some ⟨w.heap.size, 0, none⟩) s.size cap) (.inl ?_) g1 g2.of_drew
            (.slice S.hp.next 0 1 s.size s.size ⟨w.heap.size, 0, (bytesRow s cap).size⟩ 0 cap (Bt.set_same _ _ _) (Nat.le_refl _) hge (by show _ ≤ (bytesRow s cap).size; omega) (fun _ => rfl))
          simp only [execOp, ho, hq, Sem.run_bind, hrun, Result.andThen_ok, Sem.run_pure]
        · cases h1
      · cases h1
    · cases h1
  · rename_i e hs hd
    split at h1
    · rename_i he
      unfold pToStr at h1
      split at h1
      · rename_i u hu
        unfold toStrV at hu
        split at hu
        · cases hu
          cases hv
          refine Step.val hR hF h1 (v' := .string ⟨#[]⟩) ?_ (.string _)
          simp only [execOp, ho, hq, convert, Sem.run_bind, run_under w hs, run_under w hd, Result.andThen_ok, run_under w he, Conv.bytesToString, Sem.run_pure]
          rfl
        · rename_i ad n c
          split at hu
          · rename_i m cs hsrc
            split at hu
            · rename_i l hl
              cases hu
              obtain ⟨hlen, hnl, hfc⟩ := src_ok hR hsrc hv
              obtain ⟨l', hfr, hfrel⟩ := hfc m (Nat.le_refl _)
              rw [List.take_of_length_le (by omega)] at hfrel
              obtain ⟨ns, rfl, rfl⟩ := bytesOf_ok cs l β l' hl hfrel
              have hmn : m = n := by
                unfold srcCells at hsrc
                split at hsrc
                · rename_i e; cases e
                · rename_i e; cases e
                  split at hsrc
                  · split at hsrc
                    · split at hsrc <;> cases hsrc; rfl
                    · cases hsrc
                  · cases hsrc
                · rename_i e; cases e
                · cases hsrc
              subst hmn
              cases hv with
              | slice i0 oo z n c y o' c' hy hnc hcc ht hoo =>
                simp only [Builtin.firstCells, Nat.mul_one] at hfr
                refine Step.val hR hF h1 (v' := .string ⟨(ns.map fun (n : Int) => UInt8.ofNat n.toNat).toArray⟩) ?_ (.string _)
                have := run_bytesToString w ⟨y.b, o', none⟩ m c' ns hfr
                simp only [execOp, ho, hq, convert, Sem.run_bind, run_under w hs, run_under w hd, Result.andThen_ok, run_under w he, this, foldl_push_bytes, Sem.run_pure]
                have he0 : ByteArray.empty.data = #[] := rfl
                rw [he0]
                simp
            · cases hu
          · cases hu
        · cases hu
      · cases h1
    · cases h1
  · cases h1
end
end Go.AM
/- The abstract machine: building and making. -/
set_option linter.unusedVariables false
namespace Go.AM
open Go

theorem foldl_set (cs : List Value) : ∀ (vs : List Value) (off j0 : Nat), off + j0 + vs.length ≤ cs.length → ∀ (acc : Array Value), acc.size = cs.length →
    ((vs.zipIdx j0).foldl (fun (a : Array Value) (p : Value × Nat) => a.setIfInBounds (off + p.2) p.1) acc).toList = spl acc.toList (off + j0) vs
  | [], off, j0, _, acc, _ => by simp [spl]
  | v :: vs, off, j0, h, acc, ha => by
    simp only [List.length_cons] at h
    simp only [List.zipIdx_cons, List.foldl_cons]
    rw [foldl_set cs vs off (j0 + 1) (by omega) _ (by simp; exact ha)]
    apply List.ext_getElem?
    intro k
    rw [spl_get _ _ _ (by simp; omega), spl_get _ _ _ (by simp; omega)]
    simp only [Array.getElem?_toList, Array.getElem?_setIfInBounds, List.length_cons]
    by_cases h1 : off + (j0 + 1) ≤ k ∧ k < off + (j0 + 1) + vs.length
    · rw [if_pos h1, if_pos (by omega), show k - (off + j0) = (k - (off + (j0 + 1))) + 1 by omega]
      simp
    · rw [if_neg h1]
      by_cases h2 : off + j0 = k
      · subst h2
        rw [if_pos rfl, if_pos (by omega), if_pos (by omega)]
        simp
      · rw [if_neg h2, if_neg (by omega)]

theorem fill_ok {β : Bt} {place : Nat → Option (Nat × Nat)} : ∀ (parts : List (Nat × Value)) (cells out : List Value) (parts' : List (Nat × Value)) (cells' : Array Value),
    fillL place cells parts = some out → LRel β cells cells'.toList → parts.map (·.1) = parts'.map (·.1) → LRel β (parts.map (·.2)) (parts'.map (·.2)) →
    ∃ out' : Array Value, Instr.fill place cells' parts' = some out' ∧ LRel β out out'.toList
  | [], cells, out, parts', cells', h, hc, h1, h2 => by
    cases h
    have : parts' = [] := by cases parts'; rfl; simp at h1
    subst this
    exact ⟨cells', rfl, hc⟩
  | (i, v) :: parts, cells, out, parts', cells', h, hc, h1, h2 => by
    cases parts' with
    | nil => simp at h1
    | cons p' parts' =>
      obtain ⟨i', v'⟩ := p'
      simp only [List.map_cons, List.cons.injEq] at h1
      obtain ⟨rfl, h1⟩ := h1
      have hv : VRel β v v' := h2.2 0 _ _ rfl rfl
      have h2' : LRel β (parts.map (·.2)) (parts'.map (·.2)) := ⟨by have := h2.1; simpa using this, fun k u u' a b => h2.2 (k + 1) u u' (by simpa using a) (by simpa using b)⟩
      unfold fillL at h
      split at h
      · cases h
      · rename_i off size hp
        split at h
        · rename_i hcnd
          have hvc := hv.cells
          have hsz : v'.cells.size = size := by have := hvc.1; simp at this; omega
          have hcl := hc.1
          have hcl' : cells.length = cells'.size := by simpa using hcl
          have hset := foldl_set cells v'.cells.toList off 0 (by simp; omega) cells' hcl'.symm
          have hfold : (v'.cells.zipIdx.foldl (fun cs (c, j) => cs.setIfInBounds (off + j) c) cells').toList = spl cells'.toList off v'.cells.toList := by
            have e : v'.cells.zipIdx.toList = v'.cells.toList.zipIdx 0 := by simp
            rw [← Array.foldl_toList, e]
            exact hset
          have hrel : LRel β (spl cells off (cellsL v)) (v'.cells.zipIdx.foldl (fun cs (c, j) => cs.setIfInBounds (off + j) c) cells').toList := by
            rw [hfold]
            refine LRel.of_get ?_ fun k u hk => ?_
            · rw [spl_length _ _ _ (by omega), spl_length _ _ _ (by simp; omega)]; exact hcl
            · rw [spl_get _ _ _ (by omega)] at hk
              rw [spl_get _ _ _ (by simp; omega)]
              have hvl := hvc.1
              split at hk
              · rw [if_pos (by omega)]; exact hvc.get hk
              · rw [if_neg (by omega)]; exact hc.get hk
          obtain ⟨out', g1, g2⟩ := fill_ok parts _ out parts' _ h hrel h1 h2'
          refine ⟨out', ?_, g2⟩
          unfold Instr.fill
          rw [hp]
          dsimp only
          rw [if_neg (by simp; omega)]
          exact g1
        · cases h

theorem placesOf_ok {P : Program} {w : World} : ∀ (fs : List Field) (l : List (Nat × Nat)), placesOf P fs = some l →
    (fs.mapM (m := Sem) fun f => do pure (f.offset, ← sizeOf f.type)).run P w = .ok l w
  | [], l, h => by cases h; simp
  | f :: fs, l, h => by
    unfold placesOf at h
    split at h
    · cases h
    · rename_i i hi
      split at h
      · cases h
      · rename_i r hr
        cases h
        have := placesOf_ok (w := w) fs r hr
        simp only [List.mapM_cons, Sem.run_bind, run_sizeOf w hi, Result.andThen_ok, Sem.run_pure, this]

section
variable {α : Type} {C : Ctx} {N : Nat} {w : World} {S : St} {β : Bt} {lam : Nat → Nat} {fr : Fr} {a : Act} {o : Oper} {k : Slot → St → Option α} {r : α}

theorem parts_rel {ρ : Operand → Value} {parts : Array (Nat × Operand)} {vs : List Value} (h : LRel β vs ((parts.toList.map (·.2)).map ρ)) :
    (((parts.toList.map (·.1)).zip vs).map (·.1)) = ((parts.map fun (i, x) => (i, ρ x)).toList.map (·.1)) ∧ LRel β (((parts.toList.map (·.1)).zip vs).map (·.2)) ((parts.map fun (i, x) => (i, ρ x)).toList.map (·.2)) := by
  have hl := h.1
  simp only [List.length_map] at hl
  constructor
  · rw [List.map_fst_zip (by simp at hl ⊢; omega)]
    simp [Function.comp_def]
  · rw [List.map_snd_zip (by simp at hl ⊢; omega)]
    simpa [Function.comp_def] using h

theorem sim_build {T : TypeId} {parts : Array (Nat × Operand)} (ho : o.op = .build T parts) (h : opC C fr S o k = some r) (hR : Rel C.P w S.hp β) (hF : FRel N w S.bx β lam fr a) : Step C.P N w S β lam fr a o k r := by
  simp only [opC, ho] at h
  obtain ⟨vs, hvs, h1⟩ := evs_inv hR hF _ h
  clear h
  unfold pBuild at h1
  split at h1
  · rename_i v hb
    unfold buildV at hb
    obtain ⟨i, z, hi, hz, hc, hb⟩ := zeroC_inv hb
    obtain ⟨hp1, hp2⟩ := parts_rel hvs
    have hzr := (constOk_rel (β := β) hc).cells
    split at hb
    · rename_i fs hu
      split at hb
      · cases hb
      · rename_i l hl
        split at hb
        · rename_i cs hf
          cases hb
          obtain ⟨out', g1, g2⟩ := fill_ok _ _ cs _ _ hf hzr hp1 hp2
          refine Step.val hR hF h1 (v' := .agg out') ?_ (agg_iff.2 ⟨out', rfl, by simpa using g2⟩)
          have hpl := placesOf_ok (w := w) fs.toList l hl
          have hm : (fs.mapM (m := Sem) fun f => do pure (f.offset, ← sizeOf f.type)).run C.P w = .ok l.toArray w := by
            rw [← Array.toArray_toList (xs := fs), List.mapM_toArray, Sem.run_map, hpl]
            simp
          have hpa : (fun x => l.toArray[x]?) = placeAt l := by funext x; simp [placeAt]
          simp only [execOp, ho, Instr.build, Sem.run_bind, run_zeroValue w hi hz, Result.andThen_ok, run_under w hu, hm, hpa]
          rw [g1]
          simp
        · cases hb
    · rename_i len e hu
      split at hb
      · cases hb
      · rename_i ti hti
        split at hb
        · rename_i cs hf
          cases hb
          obtain ⟨out', g1, g2⟩ := fill_ok _ _ cs _ _ hf hzr hp1 hp2
          refine Step.val hR hF h1 (v' := .agg out') ?_ (agg_iff.2 ⟨out', rfl, by simpa using g2⟩)
          simp only [execOp, ho, Instr.build, Sem.run_bind, run_zeroValue w hi hz, Result.andThen_ok, run_under w hu, run_sizeOf w hti]
          rw [g1]
          simp
        · cases hb
    · cases hb
  · cases h1

theorem repl_length (n : Nat) (zs : List Value) : (repl n zs).length = n * zs.length := by
  induction n with
  | zero => simp [repl]
  | succ n ih => simp [repl, ih, Nat.add_mul]; omega
theorem repl_get (n : Nat) (zs : List Value) (j : Nat) (h : j < n * zs.length) : (repl n zs)[j]? = zs[j % zs.length]? := by
  induction n generalizing j with
  | zero => simp at h
  | succ n ih =>
    have hz : 0 < zs.length := by rcases Nat.eq_zero_or_pos zs.length with e | e; · rw [e] at h; simp at h
                                  exact e
    simp only [repl]
    by_cases hj : j < zs.length
    · rw [List.getElem?_append_left hj, Nat.mod_eq_of_lt hj]
    · have hs : (n + 1) * zs.length = n * zs.length + zs.length := Nat.succ_mul _ _
      rw [List.getElem?_append_right (by omega), ih (j - zs.length) (by omega)]
      congr 1
      exact (Nat.mod_eq_sub_mod (by omega)).symm
theorem repl_rel {z z' : Value} (hz : VRel β z z') (n : Nat) (h0 : z'.cells.size ≠ 0) :
    LRel β (repl n (cellsL z)) ((Array.range (n * z'.cells.size)).map (z'.cells[· % z'.cells.size]!)).toList := by
  have hc := hz.cells
  have hcl := hc.1
  simp only [Array.length_toList] at hcl
  refine LRel.of_get (by simp [repl_length, hcl]) fun j v hj => ?_
  have hjl : j < n * z'.cells.size := by have := (List.getElem?_eq_some_iff.1 hj).1; rw [repl_length, hcl] at this; exact this
  rw [repl_get _ _ _ (by rw [hcl]; exact hjl), hcl] at hj
  obtain ⟨v', hv', hr⟩ := hc.get hj
  refine ⟨v', ?_, hr⟩
  have hm : j % z'.cells.size < z'.cells.size := Nat.mod_lt _ (by omega)
  simp only [Array.getElem?_toList, Array.getElem?_map]
  rw [Array.getElem?_range]
  simp only [hjl, if_true, Option.map_some]
  have hv2 : z'.cells[j % z'.cells.size]? = some v' := by simpa using hv'
  rw [getElem!_pos z'.cells _ hm]
  rw [Array.getElem?_eq_getElem hm] at hv2
  exact hv2

theorem sim_buildSlice {T : TypeId} {len : Nat} {parts : Array (Nat × Operand)} (ho : o.op = .buildSlice T len parts) (hN : N ≤ w.heap.size) (h : opC C fr S o k = some r) (hR : Rel C.P w S.hp β) (hF : FRel N w S.bx β lam fr a) :
    Step C.P N w S β lam fr a o k r := by
  simp only [opC, ho] at h
  obtain ⟨vs, hvs, h1⟩ := evs_inv hR hF _ h
  clear h
  obtain ⟨e, i, z, hu, hi, hz, h0, hb0, hzl, hz1, hzc, h1⟩ := sliceC_inv h1
  unfold pBuildSlice at h1
  split at h1
  · rename_i v H' hb
    unfold buildSliceV at hb
    split at hb
    · cases hb
    · rename_i hsz
      split at hb
      · rename_i cs hf
        cases hb
        obtain ⟨hp1, hp2⟩ := parts_rel hvs
        have hzsz : z.cells.size = i.size := by simpa [cellsL] using hzl
        have hrr := repl_rel (constOk_rel (β := β) hzc) len (by omega)
        rw [hzsz] at hrr
        obtain ⟨out', g1, g2⟩ := fill_ok _ _ cs _ _ hf hrr hp1 hp2
        obtain ⟨k1, k2⟩ := hR.new_cells cs out' e (0, 0) out'.size (by rw [List.take_of_length_le (by simp)]; exact g2) (by intro j hj; simp)
        have hosz : out'.size = len * i.size := by
          have h3 := g2.1
          have h4 : ∀ (parts : List (Nat × Value)) (cells out : List Value) (pl : Nat → Option (Nat × Nat)), fillL pl cells parts = some out → out.length = cells.length := by
            intro parts
            induction parts with
            | nil => intro cells out pl h; cases h; rfl
            | cons p parts ih =>
              intro cells out pl h
              obtain ⟨q, u⟩ := p
              unfold fillL at h
              split at h
              · cases h
              · split at h
                · rename_i hc
                  rw [ih _ _ _ h, spl_length _ _ _ (by omega)]
                · cases h
          have := h4 _ _ _ _ hf
          rw [repl_length] at this
          simp at h3
          rw [← h3, this, hzl]
        refine Step.heap hN hR hF h1 (v' := .slice (some ⟨w.heap.size, 0, none⟩) len len) (.inl ?_) k1 k2
          (.slice S.hp.next 0 i.size len len ⟨w.heap.size, 0, out'.size⟩ 0 len (Bt.set_same _ _ _) (Nat.le_refl _) (Nat.le_refl _) (by show _ ≤ out'.size; omega) (fun _ => rfl))
        by_cases hl0 : len * i.size = 0
        · have h00 : ¬ (0 > 2 ^ 24) := by decide
          have hr0 : Array.range 0 = #[] := rfl
          simp only [hl0, hr0, Array.map_empty] at g1
          simp only [execOp, ho, Instr.buildSlice, Sem.run_bind, run_under w hu, Result.andThen_ok, run_sizeOf w hi, if_neg h00, Sem.run_pure, hl0, if_true, hr0, Array.map_empty]
          rw [g1]
          simp [newRow]
        · simp only [execOp, ho, Instr.buildSlice, Sem.run_bind, run_under w hu, Result.andThen_ok, run_sizeOf w hi, if_neg hsz, Sem.run_pure, if_neg hl0, run_zeroValue w hi hz, hzsz]
          rw [g1]
          simp [newRow]
      · cases hb
  · cases h1

theorem sim_makeSlice {T : TypeId} {l c : Operand} (ho : o.op = .makeSlice T l c) (hN : N ≤ w.heap.size) (h : opC C fr S o k = some r) (hR : Rel C.P w S.hp β) (hF : FRel N w S.bx β lam fr a) :
    Step C.P N w S β lam fr a o k r := by
  simp only [opC, ho] at h
  obtain ⟨lv, hlv, h1⟩ := evV_inv hR hF h
  clear h
  obtain ⟨cv, hcv, h2⟩ := evV_inv hR hF h1
  clear h1
  obtain ⟨e, i, z, hu, hi, hz, h0, hb0, hzl, hz1, hzc, h3⟩ := sliceC_inv h2
  clear h2
  generalize hql : a.eval l = ql at hlv
  generalize hqc : a.eval c = qc at hcv
  unfold pMakeSlice at h3
  split at h3
  · rename_i v H' hm
    unfold makeSliceV at hm
    split at hm
    · rename_i n m
      split at hm
      · rename_i hc
        cases hm
        cases hlv; cases hcv
        obtain ⟨hn0, hnm, hmb⟩ := hc
        have hzsz : z.cells.size = i.size := by simpa [cellsL] using hzl
        have hrr := repl_rel (constOk_rel (β := β) hzc) m.toNat (by omega)
        let arr := (Array.range (m.toNat * i.size)).map (z.cells[· % z.cells.size]!)
        have harr : arr = (Array.range (m.toNat * z.cells.size)).map (z.cells[· % z.cells.size]!) := by simp only [arr, hzsz]
        rw [← harr] at hrr
        have hasz : arr.size = m.toNat * i.size := by simp [arr]
        obtain ⟨k1, k2⟩ := hR.new_cells (repl m.toNat (cellsL z)) arr e (0, 0) arr.size (by rw [List.take_of_length_le (by simp)]; exact hrr) (by intro j hj; simp)
        refine Step.heap hN hR hF h3 (v' := .slice (some ⟨w.heap.size, 0, none⟩) n.toNat m.toNat) (.inl ?_) k1 k2
          (.slice S.hp.next 0 i.size n.toNat m.toNat ⟨w.heap.size, 0, arr.size⟩ 0 m.toNat (Bt.set_same _ _ _) (by omega) (Nat.le_refl _) (by show _ ≤ arr.size; omega) (fun _ => rfl))
        have hm47 : m ≤ 2 ^ 47 := by
          have : (1 : Int) ≤ (i.bytes : Int) := by omega
          have h5 : m * 1 ≤ m * (i.bytes : Int) := Int.mul_le_mul_of_nonneg_left this (by omega)
          omega
        have hw1 : IntKind.i64.wrap n = n := by simp [IntKind.wrap, IntKind.bits, IntKind.signed]; omega
        have hw2 : IntKind.i64.wrap m = m := by simp [IntKind.wrap, IntKind.bits, IntKind.signed]; omega
        have hcomm : (i.bytes : Int) * m = m * i.bytes := Int.mul_comm _ _
        have hcommn : (i.bytes : Int) * n ≤ m * i.bytes := by rw [Int.mul_comm]; exact Int.mul_le_mul_of_nonneg_right hnm (by omega)
        have ht1 : ¬ (m < 0) := by omega
        have ht2 : ¬ ((i.bytes : Int) * m > 2 ^ 48) := by omega
        simp only [execOp, ho, hql, hqc, Instr.makeSlice, Sem.run_bind, run_under w hu, Result.andThen_ok, asInt, asIntOf, Sem.run_pure, run_typeInfo w hi, hw1, hw2]
        have hg : ((decide (m < 0) || decide ((i.bytes : Int) * m > 2 ^ 48)) || decide (n < 0) || decide (n > m)) = false := by simp; omega
        simp only [hg, Bool.false_eq_true, if_false, Sem.run_bind, run_askRoom, Result.andThen_ok, run_sizeOf w hi]
        by_cases hl0 : m.toNat * i.size = 0
        · have hae : arr = #[] := by apply Array.eq_empty_of_size_eq_zero; omega
          have hr0 : Array.range 0 = #[] := rfl
          simp only [hl0, if_true, Sem.run_pure, Result.andThen_ok, hr0, Array.map_empty, newRow, Sem.run_bind, run_newObj, hae]
          rfl
        · simp only [if_neg hl0, Sem.run_bind, run_zeroValue w hi hz, Sem.run_pure, Result.andThen_ok, newRow, run_newObj]
          rfl
      · cases hm
    · cases hm
  · cases h3
end
end Go.AM
/- The abstract machine: maps. -/
set_option linter.unusedVariables false
namespace Go.AM
open Go

theorem checkKey_ok {P : Program} {β : Bt} (em : Bool) : ∀ (d n : Nat) (t : TypeId) (v v' : Value) (w : World), d ≤ n → shapeOk P d t v = true → VRel β v v' → (Instr.checkKey em n t v').run P w = .ok () w
  | 0, n, t, v, v', w, _, h, _ => by cases h
  | d + 1, 0, t, v, v', w, hd, _, _ => by omega
  | d + 1, n + 1, t, v, v', w, hd, h, hv => by
    unfold shapeOk at h
    split at h
    · rename_i hu; cases hv; simp [Instr.checkKey, run_under w hu]
    · rename_i hu; cases hv; simp [Instr.checkKey, run_under w hu]
    · rename_i hu; cases hv; simp [Instr.checkKey, run_under w hu]
    · rename_i fs cs hu
      obtain ⟨cs', rfl, hl⟩ := agg_iff.1 hv
      simp only [Instr.checkKey, Sem.run_bind, run_under w hu, Result.andThen_ok]
      rw [← Array.forIn_toList]
      have key : ∀ (l : List Field), (l.all fun f => match partT P f.type cs.toList f.offset with | some x => shapeOk P d f.type x | none => false) = true →
          (forIn l PUnit.unit (fun f (r : PUnit) => (if f.name ≠ "_" then do
              Instr.checkKey em n f.type (← part f.type cs' f.offset)
              pure (ForInStep.yield PUnit.unit)
            else pure (ForInStep.yield PUnit.unit) : Sem (ForInStep PUnit)))).run P w = .ok PUnit.unit w := by
        intro l
        induction l with
        | nil => intro _; simp
        | cons f l ih =>
          intro hall
          simp only [List.all_cons, Bool.and_eq_true] at hall
          have ih' := ih hall.2
          have h1 := hall.1
          split at h1
          · rename_i x hx
            obtain ⟨x', hr, hxr⟩ := partT_ok (w := w) hl hx
            have hck := checkKey_ok em d n f.type x x' w (by omega) h1 hxr
            have hr' : (part f.type cs' f.offset).run P w = .ok x' w := by simpa using hr
            simp only [List.forIn_cons, Sem.run_bind]
            by_cases hn : f.name ≠ "_"
            · rw [if_pos hn]
              simp only [Sem.run_bind, hr', Result.andThen_ok, hck, Sem.run_pure]
              exact ih'
            · rw [if_neg hn]
              simp only [Sem.run_pure, Result.andThen_ok]
              exact ih'
          · cases h1
      have := key fs.toList h
      rw [this]
      rfl
    · cases h

/-- Where findNow tells anything it tells what equality tells. -/
theorem sameNow_eq {P : Program} {β : Bt} {t : TypeId} {d : TypeDesc} (hd : P.underlying t = some d) {x y x' y' : Value} {b c : Bool} (h : eqT P 10000 t x y = some b) (hx : VRel β x x') (hy : VRel β y y')
    (hs : Instr.sameNow d x' y' = some c) : c = b := by
  have h1 := eqT_ok (P := P) 10000 t x y b x' y' default h hx hy
  unfold Instr.sameNow at hs
  split at hs
  · split at hs
    · rename_i hk
      cases hs
      rw [Op.equalIn] at h1
      simp [run_under _ hd, hk] at h1
      exact h1
    · cases hs
  · cases hs
    rw [Op.equalIn] at h1
    simp [run_under _ hd] at h1
    exact h1
  · cases hs
    rw [Op.equalIn] at h1
    simp [run_under _ hd] at h1
    exact h1
  · cases hs

def found (es : List MapEntry) : Option (Nat × Value) → Nat → Option (Nat × Value)
  | none, _ => none
  | some (j, _), i0 => (es[j - i0]?).map fun e => (j, e.val)

theorem findT_ge {P : Program} {kt : TypeId} {key : Value} : ∀ (kv : List (Value × Value)) (i j : Nat) (v : Value), findT P kt key kv i = some (some (j, v)) → i ≤ j ∧ ∃ k, kv[j - i]? = some (k, v) ∧ eqT P 10000 kt key k = some true
  | [], i, j, v, h => by cases h
  | (k, u) :: r, i, j, v, h => by
    unfold findT at h
    split at h
    · rename_i he; cases h; exact ⟨Nat.le_refl _, k, by simp, he⟩
    · obtain ⟨h1, k', h2, h3⟩ := findT_ge r (i + 1) j v h
      exact ⟨by omega, k', by rw [show j - i = (j - (i + 1)) + 1 by omega]; simpa using h2, h3⟩
    · cases h

theorem find_ok {P : Program} {w : World} {β : Bt} {kt : TypeId} {d : TypeDesc} (hd : P.underlying kt = some d) {key key' : Value} (hk : VRel β key key') : ∀ (kv : List (Value × Value)) (es : List MapEntry) (i : Nat) (res : Option (Nat × Value)),
    findT P kt key kv i = some res → ERel β kv es →
    (Instr.findAsking kt key' es i).run P w = .ok (found es res i) w ∧ (∀ q, Instr.findNow d key' es i = some q → q = found es res i)
  | [], es, i, res, h, hr => by
    cases h
    have : es = [] := List.length_eq_zero_iff.1 (by have := hr.1; simp at this; omega)
    subst this
    exact ⟨by simp [Instr.findAsking, found], fun q hq => by cases hq; rfl⟩
  | (k, u) :: kv, es, i, res, h, hr => by
    cases es with
    | nil => have := hr.1; simp at this
    | cons e es =>
      have h0 := hr.2 0 k u e rfl rfl
      have hr' : ERel β kv es := ⟨by have := hr.1; simpa using this, fun j a b c h1 h2 => hr.2 (j + 1) a b c (by simpa using h1) (by simpa using h2)⟩
      unfold findT at h
      split at h
      · rename_i he
        cases h
        have heq : (Op.equal kt key' e.key).run P w = .ok true w := eqT_ok 10000 kt key k true key' e.key w he hk h0.1
        refine ⟨by simp [Instr.findAsking, heq, found], fun q hq => ?_⟩
        unfold Instr.findNow at hq
        split at hq
        · cases hq; simp [found]
        · rename_i hs; have := sameNow_eq hd he hk h0.1 hs; cases this
        · cases hq
      · rename_i he
        have heq : (Op.equal kt key' e.key).run P w = .ok false w := eqT_ok 10000 kt key k false key' e.key w he hk h0.1
        obtain ⟨g1, g2⟩ := find_ok (w := w) hd hk kv es (i + 1) res h hr'
        have hshift : found (e :: es) res i = found es res (i + 1) := by
          cases res with
          | none => rfl
          | some p =>
            obtain ⟨j, v⟩ := p
            have := (findT_ge kv (i + 1) j v h).1
            simp only [found]
            rw [show j - i = (j - (i + 1)) + 1 by omega]
            simp
        rw [hshift]
        refine ⟨by simp [Instr.findAsking, heq, g1], fun q hq => ?_⟩
        unfold Instr.findNow at hq
        split at hq
        · rename_i hs; have := sameNow_eq hd he hk h0.1 hs; cases this
        · exact g2 q hq
        · cases hq
      · cases h

theorem findKey_ok {P : Program} {w : World} {β : Bt} {kt : TypeId} {d : TypeDesc} (hd : P.underlying kt = some d) {key key' : Value} (hk : VRel β key key') {kv : List (Value × Value)} {es : List MapEntry} {res : Option (Nat × Value)}
    (h : findT P kt key kv 0 = some res) (hr : ERel β kv es) : (Instr.findKey kt key' es).run P w = .ok (found es res 0) w := by
  obtain ⟨g1, g2⟩ := find_ok (w := w) hd hk kv es 0 res h hr
  simp only [Instr.findKey, Sem.run_bind, run_under w hd, Result.andThen_ok]
  split
  · rename_i q hq
    rw [g2 q hq]; rfl
  · exact g1

theorem mapC_inv {α : Type} {P : Program} {T : TypeId} {k : TypeId → Value → Option α} {r : α} (h : mapC P T k = some r) :
    ∃ kt et d i z, P.underlying T = some (.map kt et) ∧ P.underlying kt = some d ∧ P.info? et = some i ∧ i.zero = some z ∧ constOk z = true ∧ k kt z = some r := by
  unfold mapC at h
  split at h
  · rename_i kt et hu
    split at h
    · rename_i hk
      obtain ⟨i, z, hi, hz, hc, h⟩ := zeroC_inv h
      have : ∃ d, P.underlying kt = some d := by
        unfold keyOk at hk
        cases hd : P.underlying kt with
        | none => rw [hd] at hk; cases hk
        | some d => exact ⟨d, rfl⟩
      obtain ⟨d, hd⟩ := this
      exact ⟨kt, et, d, i, z, hu, hd, hi, hz, hc, h⟩
    · cases h
  · cases h

theorem sameBits_ptr {β : Bt} (n : Nat) (a b : Option Addr) (x' y' : Value) (h : Instr.sameBits n (.pointer a) (.pointer b) = true) (hx : VRel β (.pointer a) x') (hy : VRel β (.pointer b) y') : Instr.sameBits n x' y' = true := by
  have he : a = b := by cases n <;> simpa [Instr.sameBits] using h
  subst he
  cases hx with
  | pnil => cases hy; cases n <;> rfl
  | ptr i o q hq =>
    cases hy with
    | ptr _ _ q' hq' => rw [hq] at hq'; cases hq'; cases n <;> simp [Instr.sameBits]
theorem sameBits_ok {β : Bt} (n : Nat) : ∀ (x y x' y' : Value), Instr.sameBits n x y = true → VRel β x x' → VRel β y y' → Instr.sameBits n x' y' = true := by
  induction n with
  | zero =>
    intro x y x' y' h hx hy
    cases x <;> cases y <;> first
      | (cases hx; done)
      | (simp [Instr.sameBits] at h; done)
      | exact sameBits_ptr 0 _ _ _ _ h hx hy
      | (cases hx; cases hy; exact h)
  | succ n ih =>
    intro x y x' y' h hx hy
    have agg : ∀ a b : Array Value, x = .agg a → y = .agg b → Instr.sameBits (n + 1) x' y' = true := by
      intro a b hxa hyb
      subst hxa; subst hyb
      obtain ⟨a', rfl, ha⟩ := agg_iff.1 hx
      obtain ⟨b', rfl, hb⟩ := agg_iff.1 hy
      simp only [Instr.sameBits, Bool.and_eq_true, beq_iff_eq] at h ⊢
      have h1 := ha.1
      have h2 := hb.1
      simp only [Array.length_toList] at h1 h2
      refine ⟨by omega, ?_⟩
      rw [List.all_eq_true] at h ⊢
      intro p hp
      obtain ⟨j, hj, rfl⟩ := List.getElem_of_mem hp
      simp only [List.length_zip, Array.length_toList] at hj
      simp only [List.getElem_zip]
      have hja : j < a.toList.length := by simp; omega
      have hjb : j < b.toList.length := by simp; omega
      refine ih a.toList[j] b.toList[j] _ _ ?_ (ha.2 j _ _ (by simp) (by simp)) (hb.2 j _ _ (by simp) (by simp))
      have := h.2 (a.toList[j], b.toList[j]) (by
        rw [← List.getElem_zip (l := a.toList) (l' := b.toList) (i := j) (h := by simp; omega)]
        exact List.getElem_mem _)
      exact this
    cases x <;> cases y <;> first
      | (cases hx; done)
      | (simp [Instr.sameBits] at h; done)
      | exact sameBits_ptr (n + 1) _ _ _ _ h hx hy
      | exact agg _ _ rfl rfl
      | (cases hx with
         | iface _ _ v' hv =>
           cases hy with
           | iface _ _ v2' hv2 =>
             simp only [Instr.sameBits, Bool.and_eq_true] at h ⊢
             exact ⟨h.1, ih _ _ v' v2' h.2 hv hv2⟩)
      | (cases hx; cases hy; exact h)
end Go.AM
/- The abstract machine: maps, lengths, copies. -/
set_option linter.unusedVariables false
namespace Go.AM
open Go

def World.setObj (w : World) (b : Nat) (o : Obj) : World := { w with heap := w.heap.setIfInBounds b o }
theorem setObj_same {w : World} {b : Nat} {o : Obj} (h : b < w.heap.size) : (World.setObj w b o).heap[b]? = some o := by
  simp [World.setObj, h]
theorem setObj_other {w : World} {b k : Nat} {o : Obj} (h : k ≠ b) : (World.setObj w b o).heap[k]? = w.heap[k]? := by
  simp only [World.setObj, Array.getElem?_setIfInBounds]
  rw [if_neg (fun e => h e.symm)]

theorem Rel.setMap {P : Program} {w : World} {H : Hp} {β : Bt} (h : Rel P w H β) {i : Nat} {kv kv' : List (Value × Value)} {x : BI} (hi : H.get i = some (.map kv)) (hx : β i = some x)
    {es' : Array MapEntry} {clock' : Nat} (hr : ERel β kv' es'.toList) (hb : ∀ e ∈ es'.toList, e.born < clock') :
    Rel P (World.setObj w x.b (.map es' clock')) (H.set i (some (.map kv'))) β ∧ Ext w.heap.size w H β (World.setObj w x.b (.map es' clock')) (H.set i (some (.map kv'))) β := by
  have hlt := h.lt i x hx
  have hoth : ∀ j o y, j ≠ i → H.get j = some o → β j = some y → (World.setObj w x.b (.map es' clock')).heap[y.b]? = w.heap[y.b]? := fun j o y hji hj hy =>
    setObj_other (fun e => h.apart i j _ _ x y (Ne.symm hji) hi hj rfl hx hy e.symm)
  refine ⟨⟨fun j ds own hj => ?_, fun j kv2 hj => ?_, fun j k o o2 y z hjk hj hk ho hy hz => ?_, fun j hj => ?_, fun j y hy => ?_, h.glob, fun j o hj => (by
      rw [Hp.get_set] at hj
      split at hj
      · cases hj
      · rename_i hji
        obtain ⟨y, hy, h3⟩ := h.fix j o hj
        exact ⟨y, hy, by rw [hoth j _ y hji hj hy]; exact h3⟩), fun j T hj => (by
      obtain ⟨y, arr, fz, hy, h1, h2, h3⟩ := h.tys j T hj
      refine ⟨y, arr, fz, hy, h1, ?_, h3⟩
      obtain ⟨x', hx', es0, c0, h4, _⟩ := h.maps i kv hi
      rw [hx] at hx'; cases hx'
      rw [setObj_other (fun e => by rw [e, h4] at h2; cases h2)]
      exact h2)⟩,
    ⟨rfl, rfl, rfl, by simp [World.setObj], Bt.le_refl _, Nat.le_refl _, fun b hb ho => ?_, fun b => ?_, fun j y hy hn => by rw [hn] at hy; cases hy⟩⟩
  · rw [Hp.get_set] at hj
    split at hj
    · cases hj
    · rename_i hji
      obtain ⟨y, hy, h3, h4⟩ := h.cells j ds own hj
      have hw := hoth j _ y hji hj hy
      refine ⟨y, hy, fun k v hk => ?_, fun ho => ⟨(h4 ho).1.congr hw, (h4 ho).2⟩⟩
      obtain ⟨v', hv', hr⟩ := h3 k v hk
      exact ⟨v', by rw [cell_congr hw]; exact hv', hr⟩
  · rw [Hp.get_set] at hj
    split at hj
    · rename_i e; cases hj; subst e
      exact ⟨x, hx, es', clock', setObj_same hlt, hr, hb⟩
    · rename_i hji
      obtain ⟨y, hy, es, clock, h3, h4⟩ := h.maps j kv2 hj
      exact ⟨y, hy, es, clock, by rw [hoth j _ y hji hj hy]; exact h3, h4⟩
  · rw [Hp.get_set] at hj hk
    have hj' : ∃ q, H.get j = some q ∧ q.own = true := by
      split at hj
      · rename_i e; subst e; exact ⟨_, hi, rfl⟩
      · exact ⟨o, hj, ho⟩
    have hk' : ∃ q, H.get k = some q := by
      split at hk
      · rename_i e; subst e; exact ⟨_, hi⟩
      · exact ⟨_, hk⟩
    obtain ⟨q, g1, g2⟩ := hj'
    obtain ⟨q', g3⟩ := hk'
    exact h.apart j k q q' y z hjk g1 g3 g2 hy hz
  · have := h.fresh j hj
    rw [Hp.get_set, if_neg (fun e => by subst e; rw [hi] at this; cases this.1)]
    exact this
  · simp only [World.setObj, Array.size_setIfInBounds]; exact h.lt j y hy
  · exact setObj_other (fun e => by subst e; exact ho ⟨i, _, x, hi, rfl, hx, rfl⟩)
  · rintro ⟨j, o, y, hj, ho, hy, rfl⟩
    rw [Hp.get_set] at hj
    split at hj
    · rename_i e; subst e; rw [hx] at hy; cases hy; exact .inr ⟨_, _, x, hi, rfl, hx, rfl⟩
    · exact .inr ⟨j, o, y, hj, ho, hy, rfl⟩

theorem run_getMap {P : Program} {w : World} {b : Nat} {es : Array MapEntry} {c : Nat} (h : w.heap[b]? = some (.map es c)) : (getObj b).run P w = .ok (.map es c) w := by simp [getObj, Sem.run, h]
theorem run_setMap {P : Program} {w : World} {b : Nat} {es : Array MapEntry} {c : Nat} {o : Obj} (h : w.heap[b]? = some (.map es c)) : (setObj b o).run P w = .ok () (World.setObj w b o) := by simp [Go.setObj, Sem.run, h, World.setObj]

section
variable {α : Type} {C : Ctx} {N : Nat} {w : World} {S : St} {β : Bt} {lam : Nat → Nat} {fr : Fr} {a : Act} {o : Oper} {k : Slot → St → Option α} {r : α}

theorem look_ok {P : Program} {H : Hp} (hR : Rel P w H β) {T kt et : TypeId} {d : TypeDesc} {i : TypeInfo} {z : Value} (hu : P.underlying T = some (.map kt et)) (hd : P.underlying kt = some d) (hi : P.info? et = some i) (hz : i.zero = some z)
    (hzc : constOk z = true) {m key m' key' : Value} (hm : VRel β m m') (hk : VRel β key key') {v : Value} {b : Bool} (h : lookV P kt z m key H = some (v, b)) :
    ∃ v', VRel β v v' ∧ ∀ ok, (Instr.lookup T m' key' ok).run P w = .ok (if ok then .tuple #[v', .bool b] else v') w := by
  unfold lookV at h
  split at h
  · rename_i hsh
    split at h
    · cases h
    · rename_i kv hmo
      have hes : ∃ es : Array MapEntry, ERel β kv es.toList ∧ ((m' = .map none ∧ es = #[]) ∨ ∃ b clock, m' = .map (some b) ∧ w.heap[b]? = some (.map es clock)) := by
        unfold mapOf at hmo
        split at hmo
        · cases hmo; cases hm; exact ⟨#[], ⟨rfl, by simp⟩, .inl ⟨rfl, rfl⟩⟩
        · rename_i j
          split at hmo
          · rename_i kv' hg
            cases hmo
            cases hm with
            | map _ x hx =>
            obtain ⟨x', hx', es, clock, h1, h2, h3⟩ := hR.maps j kv hg
            rw [hx] at hx'; cases hx'
            exact ⟨es, h2, .inr ⟨x.b, clock, rfl, h1⟩⟩
          · cases hmo
        · cases hmo
      obtain ⟨es, hre, hes⟩ := hes
      have hck := checkKey_ok (P := P) (β := β) es.isEmpty 20 10000 kt key key' w (by omega) hsh hk
      split at h
      · rename_i j u hf
        cases h
        have hfk := findKey_ok (w := w) hd hk hf hre
        obtain ⟨_, k0, hk0, _⟩ := findT_ge kv 0 j v hf
        simp only [Nat.sub_zero] at hk0
        have hjl : j < es.toList.length := by rw [← hre.1]; exact (List.getElem?_eq_some_iff.1 hk0).1
        have hej := hre.2 j k0 v es.toList[j] hk0 (by simp)
        have hfe : found es.toList (some (j, v)) 0 = some (j, es.toList[j].val) := by
          have : es.toList[j]? = some es.toList[j] := by simp
          simp only [found, Nat.sub_zero, this, Option.map_some]
        rw [hfe] at hfk
        refine ⟨_, hej.2, fun ok => ?_⟩
        rcases hes with ⟨rfl, rfl⟩ | ⟨b, clock, rfl, hb⟩
        · simp only [Instr.lookup, Sem.run_bind, run_under w hu, Result.andThen_ok, Sem.run_pure, hck, hfk]
        · simp only [Instr.lookup, Sem.run_bind, run_under w hu, Result.andThen_ok, Sem.run_pure, run_getMap hb, hck, hfk]
      · rename_i hf
        cases h
        have hfk := findKey_ok (w := w) hd hk hf hre
        refine ⟨z, constOk_rel hzc, fun ok => ?_⟩
        rcases hes with ⟨rfl, rfl⟩ | ⟨b, clock, rfl, hb⟩
        · simp only [Instr.lookup, Sem.run_bind, run_under w hu, Result.andThen_ok, Sem.run_pure, hck, hfk, found, run_zeroValue w hi hz]
        · simp only [Instr.lookup, Sem.run_bind, run_under w hu, Result.andThen_ok, Sem.run_pure, run_getMap hb, hck, hfk, found, run_zeroValue w hi hz]
      · cases h
  · cases h

theorem sim_lookup {T : TypeId} {m key : Operand} {ok : Bool} (ho : o.op = .lookup T m key ok) (h : opC C fr S o k = some r) (hR : Rel C.P w S.hp β) (hF : FRel N w S.bx β lam fr a) : Step C.P N w S β lam fr a o k r := by
  simp only [opC, ho] at h
  obtain ⟨mv, hmv, h1⟩ := evV_inv hR hF h
  clear h
  obtain ⟨kv, hkv, h2⟩ := evV_inv hR hF h1
  clear h1
  obtain ⟨kt, et, d, i, z, hu, hd, hi, hz, hzc, h3⟩ := mapC_inv h2
  clear h2
  unfold pLook at h3
  split at h3
  · rename_i v b hl
    obtain ⟨v', hv, hrun⟩ := look_ok hR hu hd hi hz hzc hmv hkv hl
    have hrun := hrun ok
    cases ok with
    | true =>
      refine Step.val hR hF h3 (v' := .tuple #[v', .bool b]) ?_ (tuple_iff.2 ⟨_, rfl, LRel.cons hv (LRel.cons (.bool b) (LRel.nil _))⟩)
      simp only [execOp, ho, Sem.run_bind, hrun, Result.andThen_ok, Sem.run_pure, if_true]
    | false =>
      refine Step.val hR hF h3 (v' := v') ?_ hv
      simp only [execOp, ho, Sem.run_bind, hrun, Result.andThen_ok, Sem.run_pure, Bool.false_eq_true, if_false]
  · cases h3

theorem upd_ok {P : Program} {H H' : Hp} (hR : Rel P w H β) {T kt et : TypeId} {d : TypeDesc} (hu : P.underlying T = some (.map kt et)) (hd : P.underlying kt = some d)
    {m key v m' key' v' : Value} (hm : VRel β m m') (hk : VRel β key key') (hv : VRel β v v') (h : updV P kt m key v H = some H') :
    ∃ w', (Instr.mapUpdate T m' key' v').run P w = .ok () w' ∧ Rel P w' H' β ∧ Ext w.heap.size w H β w' H' β := by
  unfold updV at h
  split at h
  · rename_i hsh
    split at h
    · rename_i i
      split at h
      · rename_i kv hg
        cases hm with
        | map _ x hx =>
        obtain ⟨x', hx', es, clock, h1, h2, h3⟩ := hR.maps i kv hg
        rw [hx] at hx'; cases hx'
        have hck := checkKey_ok (P := P) (β := β) false 20 10000 kt key key' w (by omega) hsh hk
        split at h
        · rename_i j u hf
          split at h
          · rename_i k0 u0 hk0
            split at h
            · rename_i hsb
              cases h
              have hfk := findKey_ok (w := w) hd hk hf h2
              have hjl : j < es.toList.length := by rw [← h2.1]; exact (List.getElem?_eq_some_iff.1 hk0).1
              have hjs : j < es.size := by simpa using hjl
              have hej := h2.2 j k0 u0 es.toList[j] hk0 (by simp)
              have hsb' := sameBits_ok 10000 k0 key _ key' hsb hej.1 hk
              have hent : es[j]? = some es[j] := by simp [hjs]
              obtain ⟨g1, g2⟩ := hR.setMap hg hx (kv' := setAt kv j key v) (es' := es.modify j fun e => { e with key := key', val := v' }) (clock' := clock) (by
                refine ⟨by simp [setAt]; have := h2.1; simpa using this, fun q k2 v2 e2 hq he => ?_⟩
                simp only [setAt, List.getElem?_set] at hq
                rw [Array.getElem?_toList, Array.getElem?_modify] at he
                by_cases hqj : j = q
                · subst hqj
                  rw [if_pos rfl, hent] at he
                  have hkl : j < kv.length := (List.getElem?_eq_some_iff.1 hk0).1
                  rw [if_pos rfl, if_pos hkl] at hq
                  cases hq; cases he
                  exact ⟨hk, hv⟩
                · rw [if_neg hqj] at hq he
                  exact h2.2 q k2 v2 e2 hq (by simpa using he)) (by
                intro e he
                obtain ⟨q, hq, rfl⟩ := List.getElem_of_mem he
                have hq' : q < es.size := by simpa using hq
                have : (es.modify j fun e => { e with key := key', val := v' }).toList[q].born = es[q].born := by
                  simp only [Array.getElem_toList, Array.getElem_modify]
                  split <;> rfl
                rw [this]
                exact h3 _ (by simp))
              refine ⟨_, ?_, g1, g2⟩
              simp only [Instr.mapUpdate, Sem.run_bind, run_under w hu, Result.andThen_ok, run_getMap h1, hck, hfk, found, Nat.sub_zero]
              have he2 : es.toList[j]? = some es.toList[j] := by simp
              rw [he2]
              simp only [Option.map_some, hent, Option.getD_some, Instr.keyThatStays]
              have hsb2 : Instr.sameBits 10000 es[j].key key' = true := by simpa using hsb'
              simp only [hsb2, if_true, Sem.run_bind, Sem.run_pure, Result.andThen_ok, run_setMap h1]
            · cases h
          · cases h
        · rename_i hf
          cases h
          have hfk := findKey_ok (w := w) hd hk hf h2
          obtain ⟨g1, g2⟩ := hR.setMap hg hx (kv' := kv ++ [(key, v)]) (es' := es.push { key := key', val := v', born := clock }) (clock' := clock + 1) (by
            refine ⟨by simp; have := h2.1; simpa using this, fun q k2 v2 e2 hq he => ?_⟩
            have hl := h2.1
            simp only [Array.toList_push] at he
            by_cases hqn : q < kv.length
            · rw [List.getElem?_append_left hqn] at hq
              rw [List.getElem?_append_left (by omega)] at he
              exact h2.2 q k2 v2 e2 hq he
            · rw [List.getElem?_append_right (by omega)] at hq
              rw [List.getElem?_append_right (by omega), ← hl] at he
              have hq0 : q - kv.length = 0 := by
                have := (List.getElem?_eq_some_iff.1 hq).1
                simp at this; omega
              rw [hq0] at hq he
              cases hq; cases he
              exact ⟨hk, hv⟩) (by
            intro e he
            simp only [Array.toList_push, List.mem_append, List.mem_singleton] at he
            rcases he with he | rfl
            · have := h3 e he; omega
            · exact Nat.lt_succ_self _)
          refine ⟨_, ?_, g1, g2⟩
          simp only [Instr.mapUpdate, Sem.run_bind, run_under w hu, Result.andThen_ok, run_getMap h1, hck, hfk, found, run_setMap h1]
        · cases h
      · cases h
    · cases h
  · cases h

theorem sim_mapUpdate {T : TypeId} {m key x : Operand} (ho : o.op = .mapUpdate T m key x ∨ o.op = .insert T m key x) (hN : N ≤ w.heap.size) (h : opC C fr S o k = some r) (hR : Rel C.P w S.hp β) (hF : FRel N w S.bx β lam fr a) :
    Step C.P N w S β lam fr a o k r := by
  have h' : sV (ev C.P.globals.size fr m) (fun m => sV (ev C.P.globals.size fr key) fun key => sV (ev C.P.globals.size fr x) fun x => mapC C.P T fun kt _ => pUpd C.P kt m key x S.hp fun H => k .unk ⟨S.bx, H⟩) = some r := by
    rcases ho with ho | ho <;> simpa only [opC, ho] using h
  obtain ⟨mv, hmv, h1⟩ := evV_inv hR hF h'
  clear h h'
  obtain ⟨kv, hkv, h2⟩ := evV_inv hR hF h1
  clear h1
  obtain ⟨vv, hvv, h3⟩ := evV_inv hR hF h2
  clear h2
  obtain ⟨kt, et, d, i, z, hu, hd, hi, hz, hzc, h4⟩ := mapC_inv h3
  clear h3
  unfold pUpd at h4
  split at h4
  · rename_i H' hup
    obtain ⟨w', hrun, g1, g2⟩ := upd_ok hR hu hd hmv hkv hvv hup
    refine Step.heap hN hR hF h4 (.inr ⟨?_, rfl⟩) g1 g2 trivial
    rcases ho with ho | ho <;> simp only [execOp, ho, Sem.run_bind, hrun, Result.andThen_ok, Sem.run_pure]
  · cases h4
end
end Go.AM
/- The abstract machine: builtins, ranges over strings, calls; every operation. -/
set_option linter.unusedVariables false
namespace Go.AM
open Go

section
variable {α : Type} {C : Ctx} {N : Nat} {w : World} {S : St} {β : Bt} {lam : Nat → Nat} {fr : Fr} {a : Act} {o : Oper} {k : Slot → St → Option α} {r : α}

theorem len_ok {P : Program} {H : Hp} (hR : Rel P w H β) {t ty : TypeId} {d : TypeDesc} {q : LenK} (hu : P.underlying t = some d) (hd : lenK d = some q) {x x' v : Value} (hx : VRel β x x') (h : lenV q x H = some v) :
    (Builtin.len_ #[t] ty #[x']).run P w = .ok v w ∧ VRel β v v := by
  unfold lenV at h
  split at h
  · cases h; cases hx
    refine ⟨?_, .int _ _⟩
    cases d <;> cases hd
    simp [Builtin.len_, run_under w hu, goInt]
  · cases h
    refine ⟨?_, .int _ _⟩
    cases d <;> cases hd
    cases hx <;> simp [Builtin.len_, run_under w hu, goInt]
  · cases h; cases hx
    refine ⟨?_, .int _ _⟩
    cases d <;> cases hd
    simp [Builtin.len_, run_under w hu, goInt]
  · rename_i i
    split at h
    · rename_i kv hg
      cases h
      cases hx with
      | map _ x hx =>
      obtain ⟨x', hx', es, clock, h1, h2, h3⟩ := hR.maps i kv hg
      rw [hx] at hx'; cases hx'
      refine ⟨?_, .int _ _⟩
      have hl := h2.1
      simp only [Array.length_toList] at hl
      cases d <;> cases hd
      simp [Builtin.len_, run_under w hu, goInt, run_getMap h1, hl]
    · cases h
  · cases h

theorem copy_ok {P : Program} {H H' : Hp} (hR : Rel P w H β) {t u ty e : TypeId} {i : TypeInfo} (hu : P.underlying t = some (.slice e)) (hi : P.info? e = some i)
    {d x d' x' v : Value} (hd : VRel β d d') (hx : VRel β x x') (h : copyV i.size d x H = some (v, H')) :
    ∃ w', (Builtin.copy_ #[t, u] ty #[d', x']).run P w = .ok v w' ∧ Rel P w' H' β ∧ Ext w.heap.size w H β w' H' β ∧ VRel β v v := by
  unfold copyV at h
  split at h
  · rename_i m new hsrc
    cases h
    cases hd
    obtain ⟨hlen, hnl, hfc⟩ := src_ok hR hsrc hx
    obtain ⟨l', hfr, hfrel⟩ := hfc 0 (Nat.zero_le _)
    refine ⟨w, ?_, hR, Ext.refl _ _ _ _, .int _ _⟩
    simp [Builtin.copy_, run_under w hu, hlen, run_sizeOf w hi, hfr, goInt]
  · rename_i m new i0 o z n c hsrc
    split at h
    · cases h
    · rename_i hz
      have hz : z = i.size := by omega
      subst hz
      split at h
      · rename_i cs hg
        split at h
        · rename_i hc
          cases h
          obtain ⟨hlen, hnl, hfc⟩ := src_ok hR hsrc hx
          obtain ⟨l', hfr, hfrel⟩ := hfc (min m n) (Nat.min_le_left _ _)
          cases hd with
          | slice _ _ _ _ _ y o' c' hy hnc hcc ht hoo =>
          obtain ⟨y', hy', h1, h2⟩ := hR.cells i0 cs true hg
          rw [hy] at hy'; cases hy'
          obtain ⟨⟨arr, ety, fz, hh, hsz, hfz⟩, hle⟩ := h2 rfl
          have hll : l'.length = (new.take (min m n * i.size)).length := hfrel.1.symm
          have hmm : min m n * i.size ≤ m * i.size := Nat.mul_le_mul_right _ (Nat.min_le_left _ _)
          have htl : (new.take (min m n * i.size)).length = min m n * i.size := by rw [List.length_take, hnl]; omega
          have hall : (new.take (min m n * i.size)).all one = true := by
            rw [List.all_eq_true] at hc ⊢
            intro q hq; exact hc.2 q (List.mem_of_mem_take hq)
          by_cases h0 : min m n * i.size = 0
          · have hl0 : l' = [] := List.length_eq_zero_iff.1 (by omega)
            subst hl0
            have hn0 : new.take (min m n * i.size) = [] := List.length_eq_zero_iff.1 (by omega)
            have hspl : spl cs o (new.take (min m n * i.size)) = cs := by rw [hn0]; simp [spl]
            have hset : H.set i0 (some (.cells cs true)) = H := by
              unfold Hp.set
              have : (fun j => if j = i0 then some (AObj.cells cs true) else H.get j) = H.get := by
                funext j; split
                · rename_i e; rw [e, hg]
                · rfl
              rw [this]
            rw [hspl, hset]
            refine ⟨w, ?_, hR, Ext.refl _ _ _ _, .int _ _⟩
            have hmn : (m.min n) = min m n := rfl
            simp [Builtin.copy_, run_under w hu, hlen, run_sizeOf w hi, hmn, hfr, goInt, storeCells]
          · have hmn0 : 0 < min m n := by rcases Nat.eq_zero_or_pos (min m n) with e | e; · rw [e] at h0; simp at h0
                                          exact e
            have ho' := hoo (by omega)
            subst ho'
            have hcl := hc.1
            obtain ⟨w', hst, hp⟩ := run_storeCells P y.b (y.s + o) arr ety fz (by intro j hj; exact hfz j (by omega)) l' 0 w arr hh rfl (by omega) (all_one hfrel hall)
            obtain ⟨g1, g2⟩ := hR.write hg hy (off := o) (by omega) hfrel (by simpa using hp)
            refine ⟨w', ?_, g1, g2, .int _ _⟩
            have hmn : (m.min n) = min m n := rfl
            simp only [Builtin.copy_, List.getElem?_toArray, List.getElem?_cons_succ, List.getElem?_cons_zero, Sem.run_bind, run_under w hu, Result.andThen_ok, hlen, run_sizeOf w hi, Sem.run_pure, hmn, hfr, hst, goInt]
        · cases h
      · cases h
  · cases h

theorem mm_ok {P : Program} {mx : Bool} {x y z x' y' : Value} (h : mm mx x y = some z) (hx : VRel β x x') (hy : VRel β y y') :
    ((if mx then Builtin.max2 x' y' else Builtin.min2 x' y')).run P w = .ok z w ∧ VRel β z z := by
  unfold mm at h
  split at h
  · cases hx; cases hy; cases h
    refine ⟨?_, .int _ _⟩
    cases mx <;> simp [Builtin.max2, Builtin.min2]
  · cases h
theorem mmL_ok {P : Program} {mx : Bool} : ∀ (ys : List Value) (x z x' : Value) (ys' : List Value), mmL mx x ys = some z → VRel β x x' → LRel β ys ys' →
    ∃ z', (ys'.foldlM (fun a b => if mx then Builtin.max2 a b else Builtin.min2 a b) x').run P w = .ok z' w ∧ VRel β z z'
  | [], x, z, x', ys', h, hx, hl => by
    cases h
    have : ys' = [] := List.length_eq_zero_iff.1 hl.1.symm
    subst this
    exact ⟨x', rfl, hx⟩
  | y :: ys, x, z, x', [], h, hx, hl => by cases hl.1
  | y :: ys, x, z, x', y' :: ys', h, hx, hl => by
    unfold mmL at h
    split at h
    · rename_i u hu
      obtain ⟨h1, h2⟩ := mm_ok (P := P) (w := w) hu hx (hl.2 0 y y' rfl rfl)
      obtain ⟨z', hz, hr⟩ := mmL_ok (P := P) ys u z u ys' h h2 ⟨by simpa using hl.1, fun k a b ha hb => hl.2 (k+1) a b (by simpa using ha) (by simpa using hb)⟩
      exact ⟨z', by simp only [List.foldlM_cons, Sem.run_bind, h1, Result.andThen_ok, hz], hr⟩
    · cases h

theorem del_ok {P : Program} {H H' : Hp} (hR : Rel P w H β) {T kt et t2 ty : TypeId} {d : TypeDesc} (hu : P.underlying T = some (.map kt et)) (hd : P.underlying kt = some d)
    {m key m' key' : Value} (hm : VRel β m m') (hk : VRel β key key') (h : delV P kt m key H = some H') :
    ∃ w', (Builtin.delete_ #[T, t2] ty #[m', key']).run P w = .ok (.tuple #[]) w' ∧ Rel P w' H' β ∧ Ext w.heap.size w H β w' H' β := by
  unfold delV at h
  split at h
  · rename_i hsh
    split at h
    · cases h; cases hm
      have hck := checkKey_ok (P := P) (β := β) true 20 10000 kt key key' w (by omega) hsh hk
      refine ⟨w, ?_, hR, Ext.refl _ _ _ _⟩
      simp [Builtin.delete_, run_under w hu, hck]
    · rename_i i
      split at h
      · rename_i kv hg
        cases hm with
        | map _ x hx =>
        obtain ⟨x', hx', es, clock, h1, h2, h3⟩ := hR.maps i kv hg
        rw [hx] at hx'; cases hx'
        have hck := checkKey_ok (P := P) (β := β) es.isEmpty 20 10000 kt key key' w (by omega) hsh hk
        split at h
        · rename_i j u hf
          cases h
          have hfk := findKey_ok (w := w) hd hk hf h2
          obtain ⟨_, k0, hk0, _⟩ := findT_ge kv 0 j u hf
          simp only [Nat.sub_zero] at hk0
          have hjl : j < es.toList.length := by rw [← h2.1]; exact (List.getElem?_eq_some_iff.1 hk0).1
          have hjs : j < es.size := by simpa using hjl
          have htl : (es.eraseIdxIfInBounds j).toList = es.toList.eraseIdx j := by
            simp [Array.eraseIdxIfInBounds, hjs, Array.toList_eraseIdx]
          obtain ⟨g1, g2⟩ := hR.setMap hg hx (kv' := kv.eraseIdx j) (es' := es.eraseIdxIfInBounds j) (clock' := clock) (by
            rw [htl]
            refine ⟨by simp only [List.length_eraseIdx]; rw [h2.1], fun q k2 v2 e2 hq he => ?_⟩
            rw [List.getElem?_eraseIdx] at hq he
            split at hq
            · rename_i hc; rw [if_pos hc] at he; exact h2.2 q k2 v2 e2 hq he
            · rename_i hc; rw [if_neg hc] at he; exact h2.2 _ k2 v2 e2 hq he) (by
            rw [htl]
            intro e he
            exact h3 e (List.mem_of_mem_eraseIdx he))
          refine ⟨_, ?_, g1, g2⟩
          have he2 : es.toList[j]? = some es.toList[j] := by simp
          simp [Builtin.delete_, run_under w hu, run_getMap h1, hck, hfk, found, hjs, run_setMap h1]
        · rename_i hf
          cases h
          have hfk := findKey_ok (w := w) hd hk hf h2
          have hset : H.set i (some (.map kv)) = H := by
            unfold Hp.set
            have : (fun j => if j = i then some (AObj.map kv) else H.get j) = H.get := by
              funext j; split
              · rename_i e; rw [e, hg]
              · rfl
            rw [this]
          obtain ⟨g1, g2⟩ := hR.setMap hg hx (kv' := kv) (es' := es) (clock' := clock) h2 h3
          rw [hset] at g1 g2
          refine ⟨_, ?_, g1, g2⟩
          simp [Builtin.delete_, run_under w hu, run_getMap h1, hck, hfk, found, run_setMap h1]
        · cases h
      · cases h
    · cases h
  · cases h
end
end Go.AM
/- The abstract machine: builtins as operations, ranges over strings. -/
set_option linter.unusedVariables false
namespace Go.AM
open Go

section
variable {α : Type} {C : Ctx} {N : Nat} {w : World} {S : St} {β : Bt} {lam : Nat → Nat} {fr : Fr} {a : Act} {o : Oper} {k : Slot → St → Option α} {r : α}

theorem arr1 {γ : Type} {A : Array γ} {x : γ} (h : A.toList = [x]) : A = #[x] := by cases A; simp at h; subst h; rfl
theorem arr2 {γ : Type} {A : Array γ} {x y : γ} (h : A.toList = [x, y]) : A = #[x, y] := by cases A; simp at h; subst h; rfl
theorem lrel1 {β : Bt} {x : Value} {l : List Value} (h : LRel β [x] l) : ∃ x', l = [x'] ∧ VRel β x x' := by
  match l, h with
  | [y], h => exact ⟨y, rfl, h.2 0 x y rfl rfl⟩
  | [], h => cases h.1
  | _ :: _ :: _, h => cases h.1
theorem lrel2 {β : Bt} {x y : Value} {l : List Value} (h : LRel β [x, y] l) : ∃ x' y', l = [x', y'] ∧ VRel β x x' ∧ VRel β y y' := by
  match l, h with
  | [u, v], h => exact ⟨u, v, rfl, h.2 0 x u rfl rfl, h.2 1 y v rfl rfl⟩
  | [], h => cases h.1
  | [_], h => cases h.1
  | _ :: _ :: _ :: _, h => cases h.1
theorem map_toList {A : Array Operand} {f : Operand → Value} {l : List Value} (h : A.toList.map f = l) : A.map f = l.toArray := by
  cases A; simp at h ⊢; exact h

theorem sim_builtin {c : Call} {b : Builtin} (ho : o.op = .call c) (hc : c.callee = .builtin b) (hN : N ≤ w.heap.size) (h : opC C fr S o k = some r) (hR : Rel C.P w S.hp β) (hF : FRel N w S.bx β lam fr a) : Step C.P N w S β lam fr a o k r := by
  simp only [opC, ho, hc] at h
  obtain ⟨vs, hvs, h1⟩ := evs_inv hR hF _ h
  clear h
  generalize hl : List.map a.eval c.args.toList = l at hvs
  have hl' := map_toList hl
  split at h1
  · rename_i x t htl
    obtain ⟨x', rfl, hx⟩ := lrel1 hvs
    have hat := arr1 htl
    split at h1
    · rename_i d hd
      split at h1
      · rename_i q hq
        unfold pLen at h1
        split at h1
        · rename_i v hv
          obtain ⟨hrun, hvv⟩ := len_ok (ty := o.type) hR hd hq hx hv
          refine Step.val hR hF h1 (v' := v) ?_ hvv
          simp only [execOp, ho, resolve, hc, hl', hat, Sem.run_bind, Sem.run_pure, Result.andThen_ok, invoke, builtin, hrun]
        · cases h1
      · cases h1
    · cases h1
  · rename_i s x t u htl
    obtain ⟨s', x', rfl, hs, hx⟩ := lrel2 hvs
    have hat := arr2 htl
    obtain ⟨e, i, z, hu, hi, hz, h0, hb0, hzl, _, _, h2⟩ := sliceC_inv h1
    clear h1
    have key : ∀ du, C.P.underlying u = some du → ((∃ q, du = .slice q) ∨ du = .string) → pAppendG (gtOf C.P C.O t) i.size i.bytes s x S.hp (fun v H => k (.val v) ⟨S.bx, H⟩) = some r → Step C.P N w S β lam fr a o k r := by
      intro du hdu hdu' h3
      unfold pAppendG at h3
      split at h3
      · rename_i e' hg
        have hee : e' = e := by
          unfold gtOf at hg
          rw [hu] at hg
          dsimp only at hg
          split at hg <;> cases hg
          rfl
        subst hee
        unfold pAppendT at h3
        split at h3
        · rename_i v H' hap
          obtain ⟨v', w', β', hrun, g1, g2, g3, g4⟩ := append_ok (ty := o.type) hR hu hi hz h0 hb0 hzl hdu hdu' hs hx hap
          have hrun' : (execOp a.eval o).run C.P w = .ok (.value v') w' := by
            simp only [execOp, ho, resolve, hc, hl', hat, Sem.run_bind, Sem.run_pure, Result.andThen_ok, invoke, builtin, hrun]
          unfold markA at h3
          split at h3
          · rename_i hm
            rw [Bool.and_eq_true] at hm
            exact Step.heap (v' := v') hN hR hF h3 (.inl hrun') (g1.mark (g4 (Nat.eq_of_beq_eq_true hm.1) hm.2)) (g2.mark _ _) g3
          · exact Step.heap (v' := v') hN hR hF h3 (.inl hrun') g1 g2 g3
        · cases h3
      · unfold pAppend at h3
        split at h3
        · rename_i v H' hap
          obtain ⟨v', w', β', hrun, g1, g2, g3, g4⟩ := append_ok (ty := o.type) hR hu hi hz h0 hb0 hzl hdu hdu' hs hx hap
          refine Step.heap (v' := v') hN hR hF h3 (.inl ?_) g1 g2 g3
          simp only [execOp, ho, resolve, hc, hl', hat, Sem.run_bind, Sem.run_pure, Result.andThen_ok, invoke, builtin, hrun]
        · cases h3
    split at h2
    · rename_i q hq; exact key _ hq (.inl ⟨q, rfl⟩) h2
    · rename_i hq; exact key _ hq (.inr rfl) h2
    · cases h2
  · rename_i s x t u htl
    obtain ⟨s', x', rfl, hs, hx⟩ := lrel2 hvs
    have hat := arr2 htl
    obtain ⟨e, i, z, hu, hi, hz, h0, hb0, hzl, _, _, h2⟩ := sliceC_inv h1
    clear h1
    unfold pCopy at h2
    split at h2
    · rename_i v H' hap
      obtain ⟨w', hrun, g1, g2, g3⟩ := copy_ok (u := u) (ty := o.type) hR hu hi hs hx hap
      refine Step.heap (v' := v) hN hR hF h2 (.inl ?_) g1 g2 g3
      simp only [execOp, ho, resolve, hc, hl', hat, Sem.run_bind, Sem.run_pure, Result.andThen_ok, invoke, builtin, hrun]
    · cases h2
  · unfold pMM at h1
    split at h1
    · cases h1
    · rename_i x rest
      split at h1
      · rename_i v hv
        match l, hvs with
        | x' :: rest', hvs =>
        obtain ⟨z', hrun, hr⟩ := mmL_ok (P := C.P) (w := w) rest x v x' rest' hv (hvs.2 0 _ _ rfl rfl) ⟨by simpa using hvs.1, fun k a b ha hb => hvs.2 (k+1) a b (by simpa using ha) (by simpa using hb)⟩
        simp only [if_true] at hrun
        refine Step.val hR hF h1 (v' := z') ?_ hr
        simp only [execOp, ho, resolve, hc, hl', Sem.run_bind, Sem.run_pure, Result.andThen_ok, invoke, builtin, Builtin.max_, hrun]
      · cases h1
  · unfold pMM at h1
    split at h1
    · cases h1
    · rename_i x rest
      split at h1
      · rename_i v hv
        match l, hvs with
        | x' :: rest', hvs =>
        obtain ⟨z', hrun, hr⟩ := mmL_ok (P := C.P) (w := w) rest x v x' rest' hv (hvs.2 0 _ _ rfl rfl) ⟨by simpa using hvs.1, fun k a b ha hb => hvs.2 (k+1) a b (by simpa using ha) (by simpa using hb)⟩
        simp only [Bool.false_eq_true, if_false] at hrun
        refine Step.val hR hF h1 (v' := z') ?_ hr
        simp only [execOp, ho, resolve, hc, hl', Sem.run_bind, Sem.run_pure, Result.andThen_ok, invoke, builtin, Builtin.min_, hrun]
      · cases h1
  · rename_i m key T t2 htl
    obtain ⟨m', key', rfl, hm, hk⟩ := lrel2 hvs
    have hat := arr2 htl
    obtain ⟨kt, et, d, i, z, hu, hd, hi, hz, hzc, h2⟩ := mapC_inv h1
    clear h1
    unfold pDel at h2
    split at h2
    · rename_i H' hdel
      obtain ⟨w', hrun, g1, g2⟩ := del_ok (t2 := t2) (ty := o.type) hR hu hd hm hk hdel
      refine Step.heap (v' := .tuple #[]) hN hR hF h2 (.inl ?_) g1 g2 (tuple_iff.2 ⟨_, rfl, LRel.nil _⟩)
      simp only [execOp, ho, resolve, hc, hl', hat, Sem.run_bind, Sem.run_pure, Result.andThen_ok, invoke, builtin, hrun]
    · cases h2
  · cases h1

theorem sim_range {T : TypeId} {x : Operand} (ho : o.op = .range T x) (hN : N ≤ w.heap.size) (h : opC C fr S o k = some r) (hR : Rel C.P w S.hp β) (hF : FRel N w S.bx β lam fr a) : Step C.P N w S β lam fr a o k r := by
  simp only [opC, ho] at h
  obtain ⟨v, hv, h1⟩ := evV_inv hR hF h
  clear h
  split at h1
  · rename_i d hT hd
    split at h1
    · cases h1
    · rename_i hb
      unfold pStrC at h1
      split at h1
      · rename_i s
        generalize hq : a.eval x = q at hv
        cases hv
        obtain ⟨g1, g2, g3, g4⟩ := new_box hN hR hF hb (.iter s 0) (.stringIter s 0) (fun w' hw' => hw')
        refine ⟨_, _, w.alloc (.stringIter s 0), .pointer (some ⟨w.heap.size, 0, none⟩), β, _, h1, .inl ?_, g1, g2, ⟨by simp [St.setB], by rw [g4]⟩, g3, BMv.new hb⟩
        simp only [execOp, ho, hq, Instr.range, Sem.run_bind, run_under w hT, Result.andThen_ok, Sem.run_pure, run_newObj, World.alloc]
      · cases h1
  · cases h1

theorem sim_next {x : Operand} (ho : o.op = .next x true) (hN : N ≤ w.heap.size) (h : opC C fr S o k = some r) (hR : Rel C.P w S.hp β) (hF : FRel N w S.bx β lam fr a) : Step C.P N w S β lam fr a o k r := by
  simp only [opC, ho] at h
  have hx := ev_rel hR hF x
  split at h
  · rename_i d he
    rw [he] at hx
    have hx : a.eval x = .pointer (some ⟨lam d, 0, none⟩) := hx.2
    split at h
    · rename_i s pos hb
      obtain ⟨b1, b2, b3, b4⟩ := hF.box d _ hb
      have b4 : w.heap[lam d]? = some (.stringIter s pos) := b4
      unfold br at h
      split at h
      · rename_i hlt
        have hlt : pos < s.size := Nat.le_of_ble_eq_true hlt
        have hrun : (execOp a.eval o).run C.P w = .ok (.value (.tuple #[.bool true, .int .i64 pos, .int .i32 (Utf8.decode s pos).1])) (World.setObj w (lam d) (.stringIter s (pos + (Utf8.decode s pos).2))) := by
          simp only [execOp, ho, hx, Instr.next, getObj, Go.setObj, Sem.run_bind, Sem.run_pure, Result.andThen_ok]
          simp [Sem.run, b4, hlt, World.setObj, goInt]
        have hoth : ∀ j, j ≠ lam d → (World.setObj w (lam d) (.stringIter s (pos + (Utf8.decode s pos).2))).heap[j]? = w.heap[j]? := fun j hj => setObj_other hj
        have hsz : (World.setObj w (lam d) (.stringIter s (pos + (Utf8.decode s pos).2))).heap.size = w.heap.size := by simp [World.setObj]
        refine ⟨_, _, _, _, β, lam, h, .inl hrun, hR.frame (by rw [hsz]; exact Nat.le_refl _) (fun i x hx => hoth _ (b3 i x hx)), ⟨hF.size, fun q s hs => (hF.slot q s hs).bx (fun q hq => setB_some hb (q := q) rfl q hq), fun q c hq => ?_, fun q q' h1 h2 hne => ?_, hF.defers⟩,
          tuple_iff.2 ⟨_, rfl, LRel.cons (.bool _) (LRel.cons (.int _ _) (LRel.cons (.int _ _) (LRel.nil _)))⟩,
          ⟨rfl, rfl, rfl, by rw [hsz]; exact Nat.le_refl _, Bt.le_refl _, Nat.le_refl _, fun b hb' _ => hoth b (by omega), fun b q => .inr q, fun i x hx hn => by rw [hn] at hx; cases hx⟩, BMv.set (by rw [hb]; exact ⟨_, _, rfl⟩)⟩
        · simp only [St.setB] at hq
          split at hq
          · rename_i e; subst e; cases hq
            exact ⟨b1, by rw [hsz]; exact b2, b3, setObj_same b2⟩
          · rename_i e
            obtain ⟨c1, c2, c3, c4⟩ := hF.box q c hq
            have hne : lam q ≠ lam d := hF.apart q d (by simp [hq]) (by simp [hb]) e
            exact ⟨c1, by rw [hsz]; exact c2, c3, c4.mono (Bt.le_refl _) (hoth _ hne)⟩
        · simp only [St.setB] at h1 h2
          refine hF.apart q q' ?_ ?_ hne
          · split at h1
            · rename_i e; rw [e]; simp [hb]
            · exact h1
          · split at h2
            · rename_i e; rw [e]; simp [hb]
            · exact h2
      · rename_i hlt
        have hlt : ¬ pos < s.size := Nat.not_le_of_not_ble_eq_true (by unfold Nat.blt at hlt; rw [hlt]; exact Bool.false_ne_true)
        have hrun : (execOp a.eval o).run C.P w = .ok (.value (.tuple #[.bool false])) w := by
          simp only [execOp, ho, hx, Instr.next, getObj, Sem.run_bind, Sem.run_pure, Result.andThen_ok]
          simp [Sem.run, b4, hlt]
        exact Step.val hR hF h hrun (tuple_iff.2 ⟨_, rfl, LRel.cons (.bool _) (LRel.nil _)⟩)
    · cases h
  · cases h
end
end Go.AM
/- The abstract machine: one operation is sound; plain regions are. -/
set_option linter.unusedVariables false
namespace Go.AM
open Go

/-- A function that may be entered. -/
def Enters (P : Program) (f : FuncId) : Prop := ∃ fn, P.funcs[f]? = some fn ∧ (fn.name == "runtime.NumGoroutine") = false ∧ fn.body.isNone = false
/-- A call that the model answers at once. -/
def XT (P : Program) (f : FuncId) (args : List Value) (v : Value) : Prop := ∀ args' β w, LRel β args args' → ∃ v', VRel β v v' ∧ (callFunc f args'.toArray).run P w = .ok (.value v') w
def XtC (P : Program) (xt : FuncId → Option (List Value → Option Value)) : Prop := ∀ f e, xt f = some e → ∀ args v, e args = some v → XT P f args v
/-- What a handler says of calls is so. -/
def SimC (P : Program) (h : Handler) : Prop := ∀ f args H v H', h f args H = some (v, H') → (Enters P f ∧ ∀ args' w β, LRel β args args' → Rel P w H β →
  Calls P f args'.toArray w fun e w' => ∃ v' β', e = .returned v' ∧ Rel P w' H' β' ∧ Ext w.heap.size w H β w' H' β' ∧ VRel β' v v') ∨ (H' = H ∧ (∃ fn, P.funcs[f]? = some fn ∧ fn.body = none) ∧ XT P f args v)

theorem callFunc_run {P : Program} {f : FuncId} (h : Enters P f) (args : Array Value) (w : World) : (callFunc f args).run P w = .ok (.enter f args) w := by
  obtain ⟨fn, h1, h2, h3⟩ := h
  simp only [callFunc, Sem.run_bind]
  show ((Sem.program Sem.pure : Sem Program).run P w).andThen _ = _
  have h2a : ¬ fn.name = "runtime.NumGoroutine" := by simpa using h2
  have h3a : ¬ fn.body = none := by intro e; rw [e] at h3; cases h3
  simp [Sem.run, h1, h2a, h3a]

section
variable {α : Type} {C : Ctx} {N : Nat} {w : World} {S : St} {β : Bt} {lam : Nat → Nat} {fr : Fr} {a : Act} {o : Oper} {k : Slot → St → Option α} {r : α}

theorem Step.wp (h : Step C.P N w S β lam fr a o k r) (hN : N ≤ w.heap.size) {next : Act → World → Prop} {Q : Exit → Act → World → Prop}
    (hnext : ∀ s S' w' v' β' lam', k s S' = some r → Rel C.P w' S'.hp β' → FRel N w' S'.bx β' lam' fr a → SRel β' lam' S'.bx s v' → Ext N w S.hp β w' S'.hp β' → BMv S.bx lam S'.bx lam' → next (a.put o.dst v') w') : o.wp C.P a w next Q := by
  obtain ⟨s, S', w', v', β', lam', h1, h2, h3, h4, h5, h6, h7⟩ := h
  have := hnext s S' w' v' β' lam' h1 h3 h4 h5 h6 h7
  unfold Oper.wp
  rcases h2 with h2 | ⟨h2, rfl⟩
  · rw [h2]; exact this
  · rw [h2]; exact this

theorem call_sound (hh : SimC C.P C.h) {c : Call} {fo : Operand} (ho : o.op = .call c) (hc : c.callee = .value fo) (hN : N ≤ w.heap.size) (h : opC C fr S o k = some r) (hR : Rel C.P w S.hp β) (hF : FRel N w S.bx β lam fr a)
    {next : Act → World → Prop} {Q : Exit → Act → World → Prop}
    (hnext : ∀ s S' w' v' β' lam', k s S' = some r → Rel C.P w' S'.hp β' → FRel N w' S'.bx β' lam' fr a → SRel β' lam' S'.bx s v' → Ext N w S.hp β w' S'.hp β' → BMv S.bx lam S'.bx lam' → next (a.put o.dst v') w') : o.wp C.P a w next Q := by
  simp only [opC, ho, hc] at h
  obtain ⟨fv, hfv, h1⟩ := evV_inv hR hF h
  clear h
  obtain ⟨vs, hvs, h2⟩ := evs_inv hR hF _ h1
  clear h1
  unfold pCall at h2
  split at h2
  · rename_i g first captured
    generalize hq : a.eval fo = q at hfv
    obtain ⟨first⟩ := first
    obtain ⟨captured⟩ := captured
    cases hfv with
    | func fn fs fs' cs cs' hl hh1 hl2 hh2 =>
    unfold pCallF at h2
    split at h2
    · rename_i v H' hcall
      have hargs : LRel β (first ++ (vs ++ captured)) (fs' ++ (List.map a.eval c.args.toList ++ cs')) :=
        LRel.append ⟨hl, hh1⟩ (LRel.append hvs ⟨hl2, hh2⟩)
      rcases hh _ _ _ _ _ hcall with ⟨hen, hcalls⟩ | ⟨rfl, _, hxt⟩
      case inr =>
        obtain ⟨v', hv', hcf⟩ := hxt _ β w hargs
        have hrun : (execOp a.eval o).run C.P w = .ok (.value v') w := by
          have e1 : (fs'.toArray ++ (Array.map a.eval c.args) ++ cs'.toArray) = (fs' ++ (List.map a.eval c.args.toList ++ cs')).toArray := by
            apply Array.ext'
            simp
          simp only [execOp, ho, resolve, hc, hq, Deferred.ofValue, Sem.run_bind, Sem.run_pure, Result.andThen_ok, invoke]
          first | exact hcf | (rw [e1]; exact hcf) | (simpa using hcf)
        unfold Oper.wp
        rw [hrun]
        exact hnext (.val v) ⟨S.bx, S.hp⟩ w v' β lam h2 hR hF hv' (Ext.refl _ _ _ _) (BMv.refl _ _)
      have := hcalls _ w β hargs hR
      have hrun : (execOp a.eval o).run C.P w = .ok (.enter g (fs' ++ (List.map a.eval c.args.toList ++ cs')).toArray) w := by
        simp only [execOp, ho, resolve, hc, hq, Deferred.ofValue, Sem.run_bind, Sem.run_pure, Result.andThen_ok, invoke, callFunc_run hen]
        congr 2
        apply Array.ext'
        simp
      unfold Oper.wp
      rw [hrun]
      refine Calls.mono this fun e w' he => ?_
      obtain ⟨v', β', rfl, g1, g2, g3⟩ := he
      exact hnext (.val v) ⟨S.bx, H'⟩ w' v' β' lam h2 g1 (hF.ext hR.has g2) g3 (g2.weaken hN) (BMv.refl _ _)
    · cases h2
  · cases h2

theorem op_sound (hh : SimC C.P C.h) (hN : N ≤ w.heap.size) (h : opC C fr S o k = some r) (hR : Rel C.P w S.hp β) (hF : FRel N w S.bx β lam fr a)
    {next : Act → World → Prop} {Q : Exit → Act → World → Prop}
    (hnext : ∀ s S' w' v' β' lam', k s S' = some r → Rel C.P w' S'.hp β' → FRel N w' S'.bx β' lam' fr a → SRel β' lam' S'.bx s v' → Ext N w S.hp β w' S'.hp β' → BMv S.bx lam S'.bx lam' → next (a.put o.dst v') w') : o.wp C.P a w next Q := by
  have none_of : ∀ {x : Option α}, x = none → x = some r → False := fun h1 h2 => by rw [h1] at h2; cases h2
  cases ho : o.op with
  | move x => exact (sim_move (.inl ho) h hR hF).wp hN hnext
  | assign x => exact (sim_move (.inr ho) h hR hF).wp hN hnext
  | pick c x y => exact (sim_pick ho h hR hF).wp hN hnext
  | alloc T => exact (sim_alloc ho hN h hR hF).wp hN hnext
  | box T x => exact (sim_box ho hN h hR hF).wp hN hnext
  | build T p => exact (sim_build ho h hR hF).wp hN hnext
  | buildSlice T n p => exact (sim_buildSlice ho hN h hR hF).wp hN hnext
  | insert T m x y => exact (sim_mapUpdate (.inr ho) hN h hR hF).wp hN hnext
  | load T x => exact (sim_load ho h hR hF).wp hN hnext
  | store T x y => exact (sim_store ho hN h hR hF).wp hN hnext
  | nilCheck x => exact (sim_nil ho h hR hF).wp hN hnext
  | binOp op T x y T' => exact (sim_binOp ho h hR hF).wp hN hnext
  | unOp op T x => exact (sim_unOp ho h hR hF).wp hN hnext
  | convert s d x => exact (sim_convert ho hN h hR hF).wp hN hnext
  | makeFunc f p q => exact (sim_makeFunc ho h hR hF).wp hN hnext
  | makeMap T x =>
    cases x with
    | none => exact (sim_makeMap ho hN h hR hF).wp hN hnext
    | some x => simp [opC, ho] at h
  | makeSlice T l c => exact (sim_makeSlice ho hN h hR hF).wp hN hnext
  | slice T x lo hi mx =>
    cases mx with
    | none => exact (sim_slice ho h hR hF).wp hN hnext
    | some m => simp [opC, ho] at h
  | fieldAddr T x f => exact (sim_fieldAddr ho h hR hF).wp hN hnext
  | field T x f => exact (sim_field ho h hR hF).wp hN hnext
  | indexAddr T x i => exact (sim_indexAddr ho h hR hF).wp hN hnext
  | index T x i => exact (sim_index ho h hR hF).wp hN hnext
  | lookup T x i ok => exact (sim_lookup ho h hR hF).wp hN hnext
  | mapUpdate T m x y => exact (sim_mapUpdate (.inl ho) hN h hR hF).wp hN hnext
  | range T x => exact (sim_range ho hN h hR hF).wp hN hnext
  | next x b =>
    cases b with
    | true => exact (sim_next ho hN h hR hF).wp hN hnext
    | false => simp [opC, ho] at h
  | extract t i => exact (sim_extract ho h hR hF).wp hN hnext
  | call c =>
    cases hc : c.callee with
    | value fo => exact call_sound hh ho hc hN h hR hF hnext
    | invoke x m => simp [opC, ho, hc] at h
    | builtin b => exact (sim_builtin ho hc hN h hR hF).wp hN hnext
  | _ => simp [opC, ho] at h

/-! ### Frames -/
theorem FRel.put (hF : FRel N w S.bx β lam fr a) {s : Slot} {v : Value} (hs : SRel β lam S.bx s v) (d : Option Tmp) : FRel N w S.bx β lam (putS fr d s) (a.put d v) := by
  cases d with
  | none => exact hF
  | some d =>
    refine ⟨by simp [Act.put, putS, hF.size], fun e s' he => ?_, hF.box, hF.apart, hF.defers⟩
    simp only [putS, List.getElem?_set] at he
    simp only [Act.put, Array.getD_eq_getD_getElem?, Array.getElem?_setIfInBounds]
    by_cases hed : d = e
    · subst hed
      rw [if_pos rfl] at he ⊢
      split at he
      · rename_i hlt
        cases he
        rw [if_pos (by rw [hF.size]; exact hlt)]
        exact hs
      · cases he
    · rw [if_neg hed] at he ⊢
      have := hF.slot e s' he
      rw [Array.getD_eq_getD_getElem?] at this
      exact this
end
end Go.AM
/- The abstract machine: plain regions are sound. -/
set_option linter.unusedVariables false
namespace Go.AM
open Go

/-- What holds of a frame and a state, behind a function's entry in world 'w0'. -/
structure Good (P : Program) (w0 : World) (H0 : Hp) (β0 : Bt) (fr : Fr) (S : St) (a : Act) (w : World) (β : Bt) (lam : Nat → Nat) : Prop where
  rel : Rel P w S.hp β
  fr : FRel w0.heap.size w S.bx β lam fr a
  ext : Ext w0.heap.size w0 H0 β0 w S.hp β
/-- Where code has come to, seen from where it began. -/
structure Moved (W : List Nat) (S : St) (a : Act) (β : Bt) (lam : Nat → Nat) (S' : St) (a' : Act) (β' : Bt) (lam' : Nat → Nat) : Prop where
  tmps : ∀ d, d ∉ W → a'.tmps.getD d undef = a.tmps.getD d undef
  size : a'.tmps.size = a.tmps.size
  bx : BMv S.bx lam S'.bx lam'
  le : β.le β'
theorem Moved.refl (W : List Nat) (S : St) (a : Act) (β : Bt) (lam : Nat → Nat) : Moved W S a β lam S a β lam := ⟨fun _ _ => rfl, rfl, BMv.refl _ _, Bt.le_refl _⟩
theorem Moved.trans {W W1 W2 : List Nat} {S1 S2 S3 : St} {a1 a2 a3 : Act} {β1 β2 β3 : Bt} {l1 l2 l3 : Nat → Nat} (h : Moved W1 S1 a1 β1 l1 S2 a2 β2 l2) (k : Moved W2 S2 a2 β2 l2 S3 a3 β3 l3)
    (h1 : ∀ d, d ∉ W → d ∉ W1) (h2 : ∀ d, d ∉ W → d ∉ W2) : Moved W S1 a1 β1 l1 S3 a3 β3 l3 :=
  ⟨fun d hd => (k.tmps d (h2 d hd)).trans (h.tmps d (h1 d hd)), k.size.trans h.size, h.bx.trans k.bx, Bt.le_trans h.le k.le⟩
theorem Moved.put {W : List Nat} {S1 S2 S3 : St} {a1 a2 : Act} {β1 β2 β3 : Bt} {l1 l2 l3 : Nat → Nat} (h : Moved W S1 a1 β1 l1 S2 a2 β2 l2) {d : Option Tmp} (hd : ∀ e, d = some e → e ∈ W) (v : Value)
    (hb : BMv S2.bx l2 S3.bx l3) (hl : β2.le β3) : Moved W S1 a1 β1 l1 S3 (a2.put d v) β3 l3 := by
  refine ⟨fun e he => ?_, ?_, h.bx.trans hb, Bt.le_trans h.le hl⟩
  · rw [← h.tmps e he]
    cases d with
    | none => rfl
    | some d =>
      have hne : d ≠ e := fun q => he (q ▸ hd d rfl)
      simp [Act.put, Array.getD_eq_getD_getElem?, Array.getElem?_setIfInBounds_ne hne]
  · rw [← h.size]; cases d <;> simp [Act.put]
theorem Good.n {P : Program} {w0 : World} {H0 : Hp} {β0 : Bt} {fr : Fr} {S : St} {a : Act} {w : World} {β : Bt} {lam : Nat → Nat} (h : Good P w0 H0 β0 fr S a w β lam) : w0.heap.size ≤ w.heap.size := h.ext.size

section
variable {α : Type} {C : Ctx} {w0 : World} {H0 : Hp} {β0 : Bt} {r : α}

theorem guard_sound {N : Nat} {w : World} {bx : Nat → Option Bx} {β : Bt} {lam : Nat → Nat} {fr : Fr} {a : Act} {ops : List Oper} {o : Oper} {k : Bool → Fr → Option α} (h : guardC ops fr o k = some r) (hF : FRel N w bx β lam fr a) :
    ∃ b fr', k b fr' = some r ∧ FRel N w bx β lam fr' a ∧ Region.wanted o (yielded ops.toArray a.tmps) = b := by
  unfold guardC at h
  split at h
  · rename_i hg
    exact ⟨true, fr, h, hF, by simp [Region.wanted, hg]⟩
  · rename_i j want hg
    split at h
    · rename_i g hj
      split at h
      · rename_i d hd
        have hin : ∀ s, getS fr d = s → s ≠ .unk → fr[d]? = some s ∧ d < a.tmps.size := fun s hs hn => by
          unfold getS at hs
          rw [List.getD_eq_getElem?_getD] at hs
          cases hq : fr[d]? with
          | none => rw [hq] at hs; exact absurd hs.symm hn
          | some s' => rw [hq] at hs; exact ⟨by rw [← hs]; rfl, by rw [hF.size]; exact (List.getElem?_eq_some_iff.1 hq).1⟩
        have hy : ∀ v, d < a.tmps.size → a.tmps.getD d undef = v → yielded ops.toArray a.tmps j = match v with | .bool b => some b | _ => none := fun v hlt hv => by
          have hv' : a.tmps[d]? = some v := by
            rw [Array.getD_eq_getD_getElem?] at hv
            simp [hlt] at hv ⊢; exact hv
          unfold yielded
          simp only [List.getElem?_toArray, hj, Option.bind_some, hd, hv']
          cases v <;> rfl
        split at h
        · rename_i hu
          obtain ⟨h1, h2⟩ := hin _ hu (by simp)
          have h3 : a.tmps.getD d undef = undef := hF.slot d _ h1
          refine ⟨false, fr, h, hF, ?_⟩
          simp only [Region.wanted, hg, hy _ h2 h3]
          rfl
        · obtain ⟨v, hv, h⟩ := sV_inv h
          unfold pBool at h
          split at h
          · rename_i b
            obtain ⟨h1, h2⟩ := hin _ hv (by simp)
            have h3 : VRel β (.bool b) (a.tmps.getD d undef) := hF.slot d _ h1
            generalize hq : a.tmps.getD d undef = q at h3
            cases h3
            have hw : Region.wanted o (yielded ops.toArray a.tmps) = (b == want) := by
              simp only [Region.wanted, hg, hy _ h2 hq]
              cases b <;> cases want <;> rfl
            have hfr : FRel N w bx β lam (fr.set d (.val (.bool b))) a := by
              refine ⟨by simp [hF.size], fun e s' he => ?_, hF.box, hF.apart, hF.defers⟩
              rw [List.getElem?_set] at he
              by_cases hed : d = e
              · subst hed
                rw [if_pos rfl] at he
                split at he
                · cases he; rw [hq]; exact VRel.bool b
                · cases he
              · rw [if_neg hed] at he; exact hF.slot e s' he
            unfold br at h
            cases b with
            | true => exact ⟨want, _, h, hfr, by rw [hw]; cases want <;> rfl⟩
            | false => exact ⟨!want, _, h, hfr, by rw [hw]; cases want <;> rfl⟩
          · cases h
      · cases h
    · cases h

theorem opsC_sound (hh : SimC C.P C.h) {ops : List Oper} {k : Fr → St → Option α} {Q : Exit → Act → World → Prop} {W : List Nat} {S1 : St} {a1 : Act} {β1 : Bt} {l1 : Nat → Nat}
    (hW : ∀ o ∈ ops, ∀ d, o.dst = some d → d ∈ W)
    (hk : ∀ fr S a w β lam, k fr S = some r → Good C.P w0 H0 β0 fr S a w β lam → Moved W S1 a1 β1 l1 S a β lam → Q .normal a w) :
    ∀ (rest : List Oper) (n : Nat) (fr : Fr) (S : St) (a : Act) (w : World) (β : Bt) (lam : Nat → Nat), ops.drop n = rest → opsC C ops k rest fr S = some r → Good C.P w0 H0 β0 fr S a w β lam → Moved W S1 a1 β1 l1 S a β lam →
      wpOps C.P ops.toArray Q (List.range' n rest.length) a w
  | [], n, fr, S, a, w, β, lam, hd, h, hG, hM => by
    simp only [List.length_nil, List.range'_zero, wpOps]
    exact hk fr S a w β lam h hG hM
  | o :: rest, n, fr, S, a, w, β, lam, hd, h, hG, hM => by
    have hn : ops[n]? = some o := by
      have : (ops.drop n)[0]? = some o := by rw [hd]; rfl
      rw [List.getElem?_drop] at this; simpa using this
    have hd' : ops.drop (n + 1) = rest := by rw [← List.drop_drop, hd]; rfl
    have hWo := hW o (List.mem_of_getElem? hn)
    simp only [opsC] at h
    obtain ⟨b, fr', h1, hF', hw⟩ := guard_sound h hG.fr
    simp only [List.length_cons, List.range'_succ, wpOps, List.getElem?_toArray, hn, hw]
    cases b with
    | true =>
      simp only [if_true]
      refine .inl (op_sound hh hG.n h1 hG.rel hF' fun s S' w' v' β' lam' g1 g2 g3 g4 g5 g6 => ?_)
      exact opsC_sound hh hW hk rest (n + 1) _ S' _ w' β' lam' hd' g1 ⟨g2, g3.put g4 _, hG.ext.trans g5⟩ (hM.put hWo _ g6 g5.le)
    | false =>
      simp only [Bool.false_eq_true, if_false]
      exact opsC_sound hh hW hk rest (n + 1) _ S _ w β lam hd' h1 ⟨hG.rel, FRel.put hF' (s := .und) rfl _, hG.ext⟩ (hM.put hWo _ (BMv.refl _ _) (Bt.le_refl _))
end
end Go.AM
/- The abstract machine: results; what is kept at joins. -/
set_option linter.unusedVariables false
namespace Go.AM
open Go

section
variable {α : Type} {C : Ctx} {w0 : World} {H0 : Hp} {β0 : Bt} {r : α}

def resM (tmps : Array Value) (x : ResultVar) : Sem Value :=
  match x with
  | .tmp t => pure (tmps.getD t undef)
  | .cell a t => do loadVar t (← asAddr (tmps.getD a undef))
theorem results_eq (fn : Func) (tmps : Array Value) (P : Program) (w : World) :
    (results fn tmps).run P w = ((fn.results.toList.mapM (resM tmps)).run P w).andThen fun l w' => .ok (if h : l.length = 1 then l[0] else .tuple l.toArray) w' := by
  have : (results fn tmps) = (fn.results.mapM (resM tmps) >>= fun vs => pure (if h : vs.size = 1 then vs[0] else .tuple vs)) := rfl
  rw [this, Array.mapM_eq_mapM_toList]
  simp only [Sem.run_bind, Functor.map, Sem.run_pure]
  have e : ∀ x : Sem (List Value), x.bind (Sem.pure ∘ List.toArray) = (x >>= fun l => pure l.toArray) := fun _ => rfl
  rw [e, Sem.run_bind]
  generalize (List.mapM (resM tmps) fn.results.toList).run P w = q
  cases q with
  | ok l w' => simp only [Result.andThen_ok, Sem.run_pure]; rfl
  | halt x w' => rfl

theorem resV_rel {β : Bt} {vs vs' : List Value} (h : LRel β vs vs') : VRel β (resV vs) (if h : vs'.length = 1 then vs'[0] else .tuple vs'.toArray) := by
  have hl := h.1
  match vs, vs', h, hl with
  | [], [], h, _ => exact tuple_iff.2 ⟨_, rfl, h⟩
  | [v], [v'], h, _ => exact h.2 0 v v' rfl rfl
  | v :: u :: l, v' :: u' :: l', h, _ => exact tuple_iff.2 ⟨_, rfl, h⟩

theorem resC_sound {P : Program} {N : Nat} {w : World} {S : St} {β : Bt} {lam : Nat → Nat} {fr : Fr} {a : Act} (hR : Rel P w S.hp β) (hF : FRel N w S.bx β lam fr a) :
    ∀ (rs : List ResultVar) (k : List Value → Option α), resC P fr S rs k = some r → ∃ vs vs', k vs = some r ∧ LRel β vs vs' ∧ (rs.mapM (resM a.tmps)).run P w = .ok vs' w
  | [], k, h => ⟨[], [], h, LRel.nil _, rfl⟩
  | .tmp t :: rs, k, h => by
    unfold resC at h
    obtain ⟨v, hv, h1⟩ := evV_inv hR hF (x := .tmp t) h
    obtain ⟨vs, vs', h2, h3, h4⟩ := resC_sound hR hF rs _ h1
    refine ⟨v :: vs, a.tmps.getD t undef :: vs', h2, h3.cons hv, ?_⟩
    simp only [List.mapM_cons, Sem.run_bind, resM, Sem.run_pure, Result.andThen_ok, h4]
  | .cell t T :: rs, k, h => by
    unfold resC at h
    obtain ⟨i, d, hi, hd, h⟩ := tyC_inv h
    have hx := ev_rel hR hF (.tmp t)
    have hx : SRel β lam S.bx (getS fr t) (a.tmps.getD t undef) := hx
    split at h
    · rename_i d' off he
      rw [he] at hx
      obtain ⟨_, hx⟩ := hx
      split at h
      · rename_i cs ro hb
        obtain ⟨arr, e, hw, hl⟩ := box_cells hF hb
        unfold pCell at h
        split at h
        · rename_i v hv
          obtain ⟨v', hrun, hrel⟩ := rdCells_ok (s := 0) hi hd (heap_cells hw hl) hv
          rw [Nat.zero_add] at hrun
          obtain ⟨vs, vs', h2, h3, h4⟩ := resC_sound hR hF rs _ h
          refine ⟨v :: vs, v' :: vs', h2, h3.cons hrel, ?_⟩
          simp only [List.mapM_cons, Sem.run_bind, resM, hx, asAddr, Sem.run_pure, Result.andThen_ok, hrun, h4]
        · cases h
      · cases h
    · rename_i p he
      rw [he] at hx
      have hx : VRel β p (a.tmps.getD t undef) := hx
      unfold pLoad at h
      split at h
      · rename_i v hv
        unfold Hp.rdP at hv
        split at hv
        · rename_i i0 off _
          generalize hq : a.tmps.getD t undef = q at hx
          cases hx with
          | ptr _ _ y hy =>
          unfold Hp.rd at hv
          split at hv
          · rename_i cs own hg
            obtain ⟨y', hy', h1, _⟩ := hR.cells i0 cs own hg
            rw [hy] at hy'; cases hy'
            obtain ⟨v', hrun, hrel⟩ := rdCells_ok hi hd h1 hv
            obtain ⟨vs, vs', h2, h3, h4⟩ := resC_sound hR hF rs _ h
            refine ⟨v :: vs, v' :: vs', h2, h3.cons hrel, ?_⟩
            simp only [List.mapM_cons, Sem.run_bind, resM, hq, asAddr, Sem.run_pure, Result.andThen_ok, hrun, h4]
          · cases hv
        · cases hv
      · cases h
    · cases h

/-! ### What is kept -/
theorem saveS_inv {fr : Fr} : ∀ (ks : List Nat) (k : List Value → Option α), saveS fr ks k = some r → ∃ vs, k vs = some r ∧ vs.length = ks.length ∧ ∀ (j d : Nat), ks[j]? = some d → ∃ v, vs[j]? = some v ∧ getS fr d = .val v
  | [], k, h => ⟨[], h, rfl, fun j d hd => by cases hd⟩
  | e :: ks, k, h => by
    unfold saveS at h
    obtain ⟨v, hv, h1⟩ := sV_inv h
    obtain ⟨vs, h2, h3, h4⟩ := saveS_inv ks _ h1
    refine ⟨v :: vs, h2, by simp [h3], fun j d hd => ?_⟩
    cases j with
    | zero => cases hd; exact ⟨v, rfl, hv⟩
    | succ j => exact h4 j d hd
theorem saveB_inv {S : St} : ∀ (ks : List Nat) (k : List Value → Option α), saveB S ks k = some r → ∃ vs, k vs = some r ∧ vs.length = ks.length ∧ ∀ (j d : Nat), ks[j]? = some d → ∃ v, vs[j]? = some v ∧ boxV (S.bx d) some = some v
  | [], k, h => ⟨[], h, rfl, fun j d hd => by cases hd⟩
  | e :: ks, k, h => by
    unfold saveB at h
    have : ∃ v, boxV (S.bx e) some = some v ∧ saveB S ks (fun vs => k (v :: vs)) = some r := by
      unfold boxV at h ⊢
      split at h
      · exact ⟨_, rfl, h⟩
      · exact ⟨_, rfl, h⟩
      · cases h
    obtain ⟨v, hv, h1⟩ := this
    obtain ⟨vs, h2, h3, h4⟩ := saveB_inv ks _ h1
    refine ⟨v :: vs, h2, by simp [h3], fun j d hd => ?_⟩
    cases j with
    | zero => cases hd; exact ⟨v, rfl, hv⟩
    | succ j => exact h4 j d hd
theorem idxOf?_get {d : Nat} : ∀ {l : List Nat} {j : Nat}, l.idxOf? d = some j → l[j]? = some d
  | [], j, h => by cases h
  | e :: l, j, h => by
    rw [List.idxOf?_cons] at h
    split at h
    · rename_i he
      cases h
      have : e = d := by simpa using he
      simp [this]
    · cases hq : l.idxOf? d with
      | none => rw [hq] at h; cases h
      | some i =>
        rw [hq] at h
        have h : i + 1 = j := by simpa using h
        subst h
        have := idxOf?_get hq
        simpa using this
theorem fillS_length (w keep : List Nat) (l : List Value) : ∀ (fr : Fr) (n : Nat), (fillS w keep l fr n).length = fr.length
  | [], n => rfl
  | s :: r, n => by simp [fillS, fillS_length w keep l r (n + 1)]
def fillOne (w keep : List Nat) (l : List Value) (i : Nat) (s : Slot) : Slot :=
  match keep.idxOf? i with
  | some j => .val (l.getD j undef)
  | none => match w.elem i with
    | true => .unk
    | false => s
theorem fillS_get (w keep : List Nat) (l : List Value) : ∀ (fr : Fr) (n d : Nat), (fillS w keep l fr n)[d]? = (fr[d]?).map (fillOne w keep l (n + d))
  | [], n, d => by simp [fillS]
  | s :: r, n, 0 => rfl
  | s :: r, n, d + 1 => by
    simp only [fillS, List.getElem?_cons_succ]
    rw [fillS_get w keep l r (n + 1) d, show n + 1 + d = n + (d + 1) by omega]

/-- What a box's kept value says of it. -/
theorem backBx_rel {w : World} {β : Bt} {b : Nat} {x x' : Option Bx} {v : Value} (hle : BxLe x x') (hv : boxV x' some = some v) {c : Bx} (hc : backBx x v = some c) (h : ∀ c', x' = some c' → BxRel w β b c') : BxRel w β b c := by
  unfold backBx at hc
  split at hc
  · cases hc
    obtain ⟨s, p, rfl⟩ := hle
    cases hv
    exact h _ rfl
  · cases hc
    obtain ⟨cs, rfl⟩ := hle
    cases hv
    exact h _ rfl
  · have : x' = x := by
      unfold BxLe at hle
      split at hle
      · cases hc
      · rename_i hn; exact absurd rfl (hn _)
      · rename_i hn _; exact absurd rfl (hn _ _)
      · exact hle
    exact h c (by rw [this]; exact hc)
theorem backBx_some {x : Option Bx} {v : Value} : (backBx x v).isSome = x.isSome := by
  unfold backBx; split <;> rfl
theorem roBx_some {x : Option Bx} : (roBx x).isSome = x.isSome := by
  unfold roBx; split <;> rfl
end
end Go.AM
/- The abstract machine: code is sound. -/
set_option linter.unusedVariables false
namespace Go.AM
open Go

/-- Regions that draw are sound (shown elsewhere). -/
def DrawS (C : Ctx) : Prop := ∀ {α : Type} {w0 : World} {H0 : Hp} {β0 : Bt} {r : α} {ops : List Oper} {k : Fr → St → Option α} {Q : Exit → Act → World → Prop} {W : List Nat} {S1 : St} {a1 : Act} {β1 : Bt} {l1 : Nat → Nat},
  inOrder C.P C.O C.f ops (ancs ops) = true → (∀ o ∈ ops, ∀ d, o.dst = some d → d ∈ W) →
  (∀ fr S a w β lam, k fr S = some r → Good C.P w0 H0 β0 fr S a w β lam → Moved W S1 a1 β1 l1 S a β lam → Q .normal a w) →
  ∀ fr S a w β lam, drawH C ops k fr S = some r → Good C.P w0 H0 β0 fr S a w β lam → Moved W S1 a1 β1 l1 S a β lam →
    wpAny C.P .any ops.toArray Q ops.length (Array.replicate ops.length false) a w

theorem wr_acc : ∀ (c : Code) (acc : List Nat) (d : Nat), d ∈ wr c acc ↔ d ∈ wr c [] ∨ d ∈ acc
  | .region id ops dr, acc, d => by
    simp only [wr]
    generalize ops.toList = l
    induction l with
    | nil => simp
    | cons o l ih =>
      simp only [List.foldr_cons]
      cases o.dst with
      | none => exact ih
      | some e => simp only [List.mem_cons, ih, or_assoc]
  | .seq a b, acc, d => by simp only [wr]; rw [wr_acc a (wr b acc), wr_acc a (wr b []), wr_acc b acc]; simp only [or_assoc]
  | .cond c a b, acc, d => by simp only [wr]; rw [wr_acc a (wr b acc), wr_acc a (wr b []), wr_acc b acc]; simp only [or_assoc]
  | .block id c, acc, d => by simp only [wr]; exact wr_acc c acc d
  | .loop c, acc, d => by simp only [wr]; exact wr_acc c acc d
  | .scope c, acc, d => by simp only [wr]; exact wr_acc c acc d
  | .skip, acc, d => by simp [wr]
  | .exit _, acc, d => by simp [wr]
  | .ret, acc, d => by simp [wr]
  | .label _, acc, d => by simp [wr]
  | .goto _, acc, d => by simp [wr]
  | .refuse _, acc, d => by simp [wr]
  | .rangeFunc _ _ _ _, acc, d => by simp [wr]
theorem wr_region {id : Nat} {ops : Array Oper} {dr : Bool} : ∀ o ∈ ops.toList, ∀ d, o.dst = some d → d ∈ wr (.region id ops dr) [] := by
  simp only [wr]
  generalize ops.toList = l
  induction l with
  | nil => simp
  | cons p l ih =>
    intro o ho d hd
    simp only [List.foldr_cons]
    rcases List.mem_cons.1 ho with rfl | ho
    · rw [hd]; exact List.mem_cons_self ..
    · have := ih o ho d hd
      split
      · exact List.mem_cons_of_mem _ this
      · exact this

section
variable {C : Ctx} {w0 : World} {H0 : Hp} {β0 : Bt} {fn : Func}

structure Cont {α : Type} (C : Ctx) (w0 : World) (H0 : Hp) (β0 : Bt) (fn : Func) (W : List Nat) (S1 : St) (a1 : Act) (β1 : Bt) (l1 : Nat → Nat) (k : K α) (r : α) (Q : Exit → Act → World → Prop) : Prop where
  norm : ∀ fr S a w β lam, k.norm fr S = some r → Good C.P w0 H0 β0 fr S a w β lam → Moved W S1 a1 β1 l1 S a β lam → Q .normal a w
  exit : ∀ id fr S a w β lam, k.exit id fr S = some r → Good C.P w0 H0 β0 fr S a w β lam → Moved W S1 a1 β1 l1 S a β lam → Q (.exit id) a w
  ret : ∀ v H a w β v', k.ret v H = some r → a.defers = [] → Rel C.P w H β → Ext w0.heap.size w0 H0 β0 w H β → VRel β v v' → (results fn a.tmps).run C.P w = .ok v' w → Q .ret a w

theorem Cont.step {α : Type} {W W1 W2 : List Nat} {S1 S2 : St} {a1 a2 : Act} {β1 β2 : Bt} {l1 l2 : Nat → Nat} {k : K α} {r : α} {Q : Exit → Act → World → Prop}
    (h : Cont C w0 H0 β0 fn W S1 a1 β1 l1 k r Q) (hM : Moved W1 S1 a1 β1 l1 S2 a2 β2 l2) (h1 : ∀ d, d ∉ W → d ∉ W1) (h2 : ∀ d, d ∉ W → d ∉ W2) : Cont C w0 H0 β0 fn W2 S2 a2 β2 l2 k r Q :=
  ⟨fun fr S a w β lam g1 g2 g3 => h.norm fr S a w β lam g1 g2 (hM.trans g3 h1 h2), fun id fr S a w β lam g1 g2 g3 => h.exit id fr S a w β lam g1 g2 (hM.trans g3 h1 h2), h.ret⟩

/-- Where code is left with a frame's kept values, the frame of the entry's shape stands. -/
theorem join_good {W ks kb : List Nat} {fr fr' : Fr} {S S' : St} {a a' : Act} {w w' : World} {β β' : Bt} {lam lam' : Nat → Nat} {vs bs : List Value} {bx1 : Nat → Option Bx}
    (hG : FRel w0.heap.size w S.bx β lam fr a) (hbx1 : ∀ d, bx1 d = (match kb.elem d with | true => S.bx d | false => roBx (S.bx d)))
    (hG' : Good C.P w0 H0 β0 fr' S' a' w' β' lam') (hM : Moved W ⟨bx1, S.hp⟩ a β lam S' a' β' lam')
    (hvl : vs.length = ks.length) (hv : ∀ (j d : Nat), ks[j]? = some d → ∃ v, vs[j]? = some v ∧ getS fr' d = .val v)
    (hbl : bs.length = kb.length) (hb : ∀ (j d : Nat), kb[j]? = some d → ∃ v, bs[j]? = some v ∧ boxV (S'.bx d) some = some v) :
    Good C.P w0 H0 β0 (fillS W ks (vs ++ bs) fr 0) ⟨backB kb ((vs ++ bs).drop ks.length) S.bx, S'.hp⟩ a' w' β' lam' ∧
    BMv S.bx lam (backB kb ((vs ++ bs).drop ks.length) S.bx) lam' := by
  have hdrop : (vs ++ bs).drop ks.length = bs := by rw [← hvl]; simp
  have hbsome : ∀ d, (backB kb bs S.bx d).isSome = (S.bx d).isSome := fun d => by
    unfold backB; split
    · exact backBx_some
    · rfl
  have h1some : ∀ d, (bx1 d).isSome = (S.bx d).isSome := fun d => by
    rw [hbx1]; split
    · rfl
    · exact roBx_some
  have hlam : ∀ d, (S.bx d).isSome = true → lam' d = lam d := fun d hd => (hM.bx d).2 (by rw [h1some]; exact hd)
  have hS' : ∀ d, (S.bx d).isSome = true → (S'.bx d).isSome = true := fun d hd => (hM.bx d).1.some (by rw [h1some]; exact hd)
  rw [hdrop]
  refine ⟨⟨hG'.rel, ⟨?_, fun d s hs => ?_, fun d c hc => ?_, fun d d' hd hd' hne => ?_, hG'.fr.defers⟩, hG'.ext⟩, fun d => ⟨?_, hlam d⟩⟩
  · rw [fillS_length, ← hG.size, hM.size]
  · rw [fillS_get] at hs
    cases hfr : fr[d]? with
    | none => rw [hfr] at hs; cases hs
    | some s0 =>
      rw [hfr] at hs
      simp only [Option.map_some, Nat.zero_add] at hs
      cases hs
      unfold fillOne
      split
      · rename_i j hj
        obtain ⟨v, hv1, hv2⟩ := hv j d (idxOf?_get hj)
        have hjl : j < vs.length := (List.getElem?_eq_some_iff.1 hv1).1
        have hgv : (vs ++ bs).getD j undef = v := by
          rw [List.getD_eq_getElem?_getD, List.getElem?_append_left hjl, hv1]; rfl
        rw [hgv]
        have := ev_rel hG'.rel hG'.fr (.tmp d)
        have this : SRel β' lam' S'.bx (getS fr' d) (a'.tmps.getD d undef) := this
        rw [hv2] at this
        exact this
      · split
        · trivial
        · rename_i hnW
          have hnW : d ∉ W := by intro hm; have : W.elem d = true := by simpa using hm
                                 rw [this] at hnW; cases hnW
          rw [hM.tmps d hnW]
          have := (hG.slot d s0 hfr).mono hM.le
          cases s0 with
          | loc e off =>
            refine ⟨by rw [hbsome]; exact this.1, ?_⟩
            rw [hlam e this.1]; exact this.2
          | _ => exact this
  · have hc : backB kb bs S.bx d = some c := hc
    unfold backB at hc
    split at hc
    · rename_i j hj
      have hjd := idxOf?_get hj
      obtain ⟨v, hv1, hv2⟩ := hb j d hjd
      have hgv : bs.getD j undef = v := by rw [List.getD_eq_getElem?_getD, hv1]; rfl
      rw [hgv] at hc
      have hin : kb.elem d = true := by simpa using List.mem_of_getElem? hjd
      have hle : BxLe (bx1 d) (S'.bx d) := (hM.bx d).1
      have hsd : (S.bx d).isSome = true := by rw [← backBx_some (v := v), hc]; rfl
      have hb1 := hbx1 d
      rw [hin] at hb1
      rw [hb1] at hle
      have hle : BxLe (S.bx d) (S'.bx d) := hle
      obtain ⟨c', hc'⟩ := Option.isSome_iff_exists.1 (hS' d hsd)
      obtain ⟨b1, b2, b3, b4⟩ := hG'.fr.box d c' hc'
      exact ⟨b1, b2, b3, backBx_rel hle hv2 hc (fun c2 hc2 => by rw [hc'] at hc2; cases hc2; exact b4)⟩
    · rename_i hj
      have hin : kb.elem d = false := by
        cases hq : kb.elem d with
        | false => rfl
        | true =>
          have hm : d ∈ kb := by simpa using hq
          have : kb.idxOf? d ≠ none := by simpa [List.idxOf?_eq_none_iff] using hm
          exact absurd hj this
      have hb1 := hbx1 d
      rw [hin] at hb1
      have hle : BxLe (bx1 d) (S'.bx d) := (hM.bx d).1
      rw [hb1] at hle
      have hle : BxLe (roBx (S.bx d)) (S'.bx d) := hle
      rw [hc] at hle
      cases c with
      | cells cs ro =>
        have hc' : S'.bx d = some (.cells cs true) := hle
        obtain ⟨b1, b2, b3, b4⟩ := hG'.fr.box d (.cells cs true) hc'
        exact ⟨b1, b2, b3, b4⟩
      | iter s p =>
        have hc' : S'.bx d = some (.iterRo s p) := hle
        obtain ⟨b1, b2, b3, b4⟩ := hG'.fr.box d (.iterRo s p) hc'
        exact ⟨b1, b2, b3, b4⟩
      | iterRo s p =>
        have hc' : S'.bx d = some (.iterRo s p) := hle
        exact hG'.fr.box d _ hc'
  · rw [hbsome] at hd hd'
    exact hG'.fr.apart d d' (hS' d hd) (hS' d' hd') hne
  · show BxLe (S.bx d) (backB kb bs S.bx d)
    unfold backB
    split
    · unfold backBx
      split
      · rename_i e; rw [e]; exact ⟨_, _, rfl⟩
      · rename_i e; rw [e]; exact ⟨_, rfl⟩
      · exact BxLe.refl _
    · exact BxLe.refl _
end
end Go.AM
