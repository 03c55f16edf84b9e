/- Part of the proof of TermDumpsUptoCardSaid: see the last file.  -/
import Derived.Laws.IdiomStrings
import Derived.Laws.BytesArg
import Derived.Laws.Sem
import Derived.Orders
import Derived.WalkKit
import Derived.ProofKit
import Derived.JoinedCond
import Derived.OpenShut
import Derived.Test.YtkfhklmklhnfaaaDoorT0
set_option linter.unusedSimpArgs false
set_option linter.unusedVariables false
set_option linter.unusedSectionVars false
/- The abstract machine: slices, copies, conversions, building. -/
set_option linter.unusedVariables false
namespace Go.AM
open Go

section
variable {α : Type} {C : Ctx} {N : Nat} {w : World} {S : St} {β : Bt} {lam : Nat → Nat} {fr : Fr} {a : Act} {o : Oper} {k : Slot → St → Option α} {r : α}

theorem optInt_rel {β : Bt} {d : Nat} {v : Option Value} {v' : Option Value} {n : Int} (h : optInt d v = some n) (hr : ORel β v v') :
    (v' = none ∧ n = d) ∨ ∃ k, v' = some (.int k n) := by
  unfold optInt at h
  unfold ORel at hr
  split at h
  · cases h
    cases v' with
    | none => exact .inl ⟨rfl, rfl⟩
    | some _ => exact hr.elim
  · cases h
    cases v' with
    | none => exact hr.elim
    | some u => cases hr; exact .inr ⟨_, rfl⟩
  · cases h

theorem run_bounds {P : Program} {w : World} {isS : Bool} {len cap : Nat} {lo hi : Option Value} {l h : Int} (hl : (lo = none ∧ l = 0) ∨ ∃ k, lo = some (.int k l)) (hh : (hi = none ∧ h = len) ∨ ∃ k, hi = some (.int k h))
    (h0 : 0 ≤ l) (h1 : l ≤ h) (h2 : h ≤ cap) : (Instr.sliceBounds isS len cap lo hi none).run P w = .ok (l.toNat, h.toNat, cap) w := by
  have hb : ∀ (k : IntKind) (x : Int) (y : Nat) (c : BoundsCode), 0 ≤ x → x ≤ y → (Instr.sliceBound (.int k x) y c).run P w = .ok x.toNat w := by
    intro k x y c hx hy
    simp only [Instr.sliceBound, asIntOf, Sem.run_bind, Sem.run_pure, Result.andThen_ok, hx, hy, and_self, if_true]
  have h3 : 0 ≤ h := Int.le_trans h0 h1
  have hc2 : l ≤ ((h.toNat : Nat) : Int) := by omega
  unfold Instr.sliceBounds
  rcases hl with ⟨rfl, rfl⟩ | ⟨k1, rfl⟩ <;> rcases hh with ⟨rfl, rfl⟩ | ⟨k2, rfl⟩
  · simp
  · simp [hb k2 h cap _ h3 h2]
  · simp [hb k1 l len _ h0 h1]
  · simp [hb k2 h cap _ h3 h2, hb k1 l h.toNat _ h0 hc2]

theorem sim_slice {T : TypeId} {x : Operand} {lo hi : Option Operand} (ho : o.op = .slice T x lo hi none) (h : opC C fr S o k = some r) (hR : Rel C.P w S.hp β) (hF : FRel N w S.bx β lam fr a) : Step C.P N w S β lam fr a o k r := by
  simp only [opC, ho] at h
  obtain ⟨v, hv, h1⟩ := evV_inv hR hF h
  clear h
  obtain ⟨vl, h2, hvl⟩ := optV_inv hR hF h1
  clear h1
  obtain ⟨vh, h, hvh⟩ := optV_inv hR hF h2
  clear h2
  generalize hq : a.eval x = q at hv
  split at h
  · rename_i hu
    unfold pSliceS at h
    split at h
    · rename_i u hs
      unfold sliceS at hs
      split at hs
      · rename_i s
        cases hv
        split at hs
        · rename_i l hh hl hh'
          split at hs
          · rename_i hc
            cases hs
            have g1 := optInt_rel hl hvl
            have g2 := optInt_rel hh' hvh
            refine Step.val hR hF h (v' := .string (s.extract l.toNat hh.toNat)) ?_ (.string _)
            simp only [execOp, ho, hq, Instr.sliceAt, Instr.slice, Option.map_none, Sem.run_bind, run_under w hu, Result.andThen_ok, Option.isSome_none, Bool.false_eq_true, if_false, run_bounds g1 g2 hc.1 hc.2.1 hc.2.2, Sem.run_pure]
          · cases hs
        · cases hs
      · cases hs
    · cases h
  · rename_i e hu
    split at h
    · rename_i ti hi'
      unfold pSlice at h
      split at h
      · rename_i u hs
        unfold sliceV at hs
        split at hs
        · cases hv
          split at hs
          · rename_i l hh hl hh'
            split at hs
            · rename_i hc
              cases hs
              have g1 := optInt_rel hl hvl
              have g2 := optInt_rel hh' hvh
              refine Step.val hR hF h (v' := .slice none 0 0) ?_ .snil
              have hb := run_bounds (P := C.P) (w := w) (isS := true) (len := 0) (cap := 0) g1 g2 (by omega) (by omega) (by omega)
              simp only [execOp, ho, hq, Instr.sliceAt, Instr.slice, Option.map_none, Sem.run_bind, run_under w hu, Result.andThen_ok, hb, run_sizeOf w hi', Sem.run_pure, hc.1, hc.2]
              simp
            · cases hs
          · cases hs
        · rename_i i0 off z n c
          split at hs
          · rename_i l hh hl hh'
            split at hs
            · rename_i hc
              cases hs
              obtain ⟨rfl, hc0, hc1, hc2⟩ := hc
              cases hv with
              | slice _ _ _ _ _ y o' c' hy hnc hcc ht hoo =>
              have g1 := optInt_rel hl hvl
              have g2 := optInt_rel hh' hvh
              have hb := run_bounds (P := C.P) (w := w) (isS := true) (len := n) (cap := c') g1 g2 hc0 hc1 (by omega)
              refine Step.val hR hF h (v' := .slice (some ⟨y.b, (if c' = l.toNat then o' else o' + l.toNat * ti.size), none⟩) (hh.toNat - l.toNat) (c' - l.toNat)) ?_ ?_
              · simp only [execOp, ho, hq, Instr.sliceAt, Instr.slice, Option.map_none, Sem.run_bind, run_under w hu, Result.andThen_ok, hb, run_sizeOf w hi', Sem.run_pure, Option.map_some, addr_add]
                split <;> rfl
              · have hsub : (hh - l).toNat = hh.toNat - l.toNat := by omega
                show VRel β _ _
                rw [hsub]
                refine .slice _ _ _ _ _ y _ _ hy (by omega) (by omega) ?_ (fun hp => ?_)
                · split
                  · rename_i e; rw [e, Nat.sub_self, Nat.zero_mul]; have := Nat.le_trans (Nat.le_add_right o' (c' * ti.size)) ht; omega
                  · have : l.toNat * ti.size + (c' - l.toNat) * ti.size = c' * ti.size := by rw [← Nat.add_mul]; congr 1; omega
                    omega
                · rw [if_neg (by omega), hoo (by omega), Nat.add_assoc]
            · cases hs
          · cases hs
        · cases hs
      · cases h
    · cases h
  · rename_i n e hu
    split at h
    · rename_i ti hi'
      unfold pSliceA at h
      split at h
      · rename_i u hs
        unfold sliceAV at hs
        split at hs
        · rename_i i0 off
          split at hs
          · rename_i cs hg
            split at hs
            · rename_i l hh hl hh'
              split at hs
              · rename_i hc
                cases hs
                cases hv with
                | ptr _ _ y hy =>
                obtain ⟨y', hy', _, h2⟩ := hR.cells i0 cs true hg
                rw [hy] at hy'; cases hy'
                have hle := (h2 rfl).2
                have g1 := optInt_rel hl hvl
                have g2 := optInt_rel hh' hvh
                have hb := run_bounds (P := C.P) (w := w) (isS := false) (len := n) (cap := n) g1 g2 hc.2.1 hc.2.2.1 (by omega)
                have hsub : (hh - l).toNat = hh.toNat - l.toNat := by omega
                refine Step.val hR hF h (v' := .slice (some ⟨y.b, (if n = l.toNat then y.s + off else y.s + off + l.toNat * ti.size), none⟩) (hh.toNat - l.toNat) (n - l.toNat)) ?_ ?_
                · simp only [execOp, ho, hq, Instr.sliceAt, Instr.slice, Option.map_none, Sem.run_bind, run_under w hu, Result.andThen_ok, Instr.sureAddr, hb, run_sizeOf w hi', Sem.run_pure, addr_add]
                  split <;> rfl
                · show VRel β _ _
                  rw [hsub]
                  refine .slice _ _ _ _ _ y _ _ hy (by omega) (Nat.le_refl _) ?_ (fun hp => ?_)
                  · split
                    · rename_i e; rw [e, Nat.sub_self, Nat.zero_mul]; omega
                    · have : l.toNat * ti.size + (n - l.toNat) * ti.size = n * ti.size := by rw [← Nat.add_mul]; congr 1; omega
                      omega
                  · rw [if_neg (by omega), Nat.add_assoc]
              · cases hs
            · cases hs
          · cases hs
        · cases hs
      · cases h
    · cases h
  · cases h
end
end Go.AM
/- The abstract machine: conversions, building, making. -/
set_option linter.unusedVariables false
namespace Go.AM
open Go

section
variable {α : Type} {C : Ctx} {N : Nat} {w : World} {S : St} {β : Bt} {lam : Nat → Nat} {fr : Fr} {a : Act} {o : Oper} {k : Slot → St → Option α} {r : α}

theorem bytesOf_ok : ∀ (cs : List Value) (l : List UInt8) (β : Bt) (cs' : List Value), bytesOf cs = some l → LRel β cs cs' → ∃ ns : List Int, cs' = ns.map (Value.int .u8) ∧ l = ns.map fun n => UInt8.ofNat n.toNat
  | [], l, β, cs', h, hr => by
    cases h
    have : cs' = [] := List.length_eq_zero_iff.1 (by have := hr.1; simp at this; omega)
    subst this
    exact ⟨[], rfl, rfl⟩
  | v :: r, l, β, cs', h, hr => by
    cases v with
    | int k n =>
      cases k <;> simp only [bytesOf] at h <;> try (cases h; done)
      split at h
      · rename_i l' hl'
        cases h
        cases cs' with
        | nil => have := hr.1; simp at this
        | cons v' r2 =>
          have h0 := hr.2 0 _ _ rfl rfl
          cases h0
          have hr2 : LRel β r r2 := ⟨by have := hr.1; simpa using this, fun k u u' hu hu' => hr.2 (k + 1) u u' (by simpa using hu) (by simpa using hu')⟩
          obtain ⟨ns, he, hl⟩ := bytesOf_ok r l' β r2 hl' hr2
          exact ⟨n :: ns, by rw [he]; rfl, by rw [hl]; rfl⟩
      · cases h
    | _ => simp only [bytesOf] at h; cases h

theorem sim_convert {src dst : TypeId} {x : Operand} (ho : o.op = .convert src dst x) (hN : N ≤ w.heap.size) (h : opC C fr S o k = some r) (hR : Rel C.P w S.hp β) (hF : FRel N w S.bx β lam fr a) : Step C.P N w S β lam fr a o k r := by
  simp only [opC, ho] at h
  obtain ⟨v, hv, h1⟩ := evV_inv hR hF h
  clear h
  generalize hq : a.eval x = q at hv
  split at h1
  · rename_i k1 kd hs hd
    unfold pConvInt at h1
    split at h1
    · rename_i u hu
      unfold convIntV at hu
      split at hu
      · cases hu
        cases hv
        refine Step.val hR hF h1 (v' := _) ?_ (.int _ _)
        simp only [execOp, ho, hq, convert, Sem.run_bind, run_under w hs, run_under w hd, Result.andThen_ok, Conv.intToInt, Sem.run_pure]
      · cases hu
    · cases h1
  · rename_i hs hd
    unfold pStr at h1
    split at h1
    · cases hv
      refine Step.val hR hF h1 (v' := _) ?_ (.string _)
      simp only [execOp, ho, hq, convert, Sem.run_bind, run_under w hs, run_under w hd, Result.andThen_ok, Sem.run_pure]
    · cases h1
  · rename_i k1 hs hd
    unfold pRune at h1
    split at h1
    · cases hv
      refine Step.val hR hF h1 (v' := _) ?_ (.string _)
      simp only [execOp, ho, hq, convert, Sem.run_bind, run_under w hs, run_under w hd, Result.andThen_ok, Conv.intToString, Sem.run_pure]
    · cases h1
  · rename_i e hs hd
    split at h1
    · rename_i he
      unfold pToBytes at h1
      split at h1
      · rename_i s
        split at h1
        · rename_i hsz
          cases hv
          have hge : s.size ≤ grownCap w s.size 0 e := by obtain ⟨c, hcut⟩ := cut_append s.size 0 e (w.tape w.drawn (.appendCap s.size 0 e)); unfold grownCap; rw [hcut]; omega
          have hrun := run_bytes_of_string (P := C.P) w src dst e s hs hd he
          generalize grownCap w s.size 0 e = cap at hge hrun
          have hrow : (bytesRow s cap).toList.take s.size = s.data.toList.map fun b => Value.int .u8 (b.toNat : Int) := by
            unfold bytesRow
            simp only [Array.toList_append, Array.toList_map]
            rw [List.take_append_of_le_length (by simp), List.take_of_length_le (by simp)]
          have hrsz : (bytesRow s cap).size = cap := by unfold bytesRow; simp; omega
          obtain ⟨g1, g2⟩ := hR.drew.new_cells (s.data.toList.map fun b => .int .u8 (b.toNat : Int)) (bytesRow s cap) e ((bytesRow s cap).size, (bytesRow s cap).size + 1) s.size
            (by
              rw [hrow]
              refine ⟨rfl, fun j u u' hu hu' => ?_⟩
              rw [hu] at hu'; cases hu'
              rw [List.getElem?_map] at hu
              cases hb : s.data.toList[j]? with
              | none => rw [hb] at hu; cases hu
              | some b => rw [hb] at hu; cases hu; exact .int _ _) (by intro j hj; simp; omega)
          refine Step.heap hN hR hF h1 (v' := .slice (some ⟨w.heap.size, 0, none⟩) s.size cap) (.inl ?_) g1 g2.of_drew
            (.slice S.hp.next 0 1 s.size s.size ⟨w.heap.size, 0, (bytesRow s cap).size⟩ 0 cap (Bt.set_same _ _ _) (Nat.le_refl _) hge (by show _ ≤ (bytesRow s cap).size; omega) (fun _ => rfl))
          simp only [execOp, ho, hq, Sem.run_bind, hrun, Result.andThen_ok, Sem.run_pure]
        · cases h1
      · cases h1
    · cases h1
  · rename_i e hs hd
    split at h1
    · rename_i he
      unfold pToStr at h1
      split at h1
      · rename_i u hu
        unfold toStrV at hu
        split at hu
        · cases hu
          cases hv
          refine Step.val hR hF h1 (v' := .string ⟨#[]⟩) ?_ (.string _)
          simp only [execOp, ho, hq, convert, Sem.run_bind, run_under w hs, run_under w hd, Result.andThen_ok, run_under w he, Conv.bytesToString, Sem.run_pure]
          rfl
        · rename_i ad n c
          split at hu
          · rename_i m cs hsrc
            split at hu
            · rename_i l hl
              cases hu
              obtain ⟨hlen, hnl, hfc⟩ := src_ok hR hsrc hv
              obtain ⟨l', hfr, hfrel⟩ := hfc m (Nat.le_refl _)
              rw [List.take_of_length_le (by omega)] at hfrel
              obtain ⟨ns, rfl, rfl⟩ := bytesOf_ok cs l β l' hl hfrel
              have hmn : m = n := by
                unfold srcCells at hsrc
                split at hsrc
                · rename_i e; cases e
                · rename_i e; cases e
                  split at hsrc
                  · split at hsrc
                    · split at hsrc <;> cases hsrc; rfl
                    · cases hsrc
                  · cases hsrc
                · rename_i e; cases e
                · cases hsrc
              subst hmn
              cases hv with
              | slice i0 oo z n c y o' c' hy hnc hcc ht hoo =>
                simp only [Builtin.firstCells, Nat.mul_one] at hfr
                refine Step.val hR hF h1 (v' := .string ⟨(ns.map fun (n : Int) => UInt8.ofNat n.toNat).toArray⟩) ?_ (.string _)
                have := run_bytesToString w ⟨y.b, o', none⟩ m c' ns hfr
                simp only [execOp, ho, hq, convert, Sem.run_bind, run_under w hs, run_under w hd, Result.andThen_ok, run_under w he, this, foldl_push_bytes, Sem.run_pure]
                have he0 : ByteArray.empty.data = #[] := rfl
                rw [he0]
                simp
            · cases hu
          · cases hu
        · cases hu
      · cases h1
    · cases h1
  · cases h1
end
end Go.AM
/- The abstract machine: building and making. -/
set_option linter.unusedVariables false
namespace Go.AM
open Go

theorem foldl_set (cs : List Value) : ∀ (vs : List Value) (off j0 : Nat), off + j0 + vs.length ≤ cs.length → ∀ (acc : Array Value), acc.size = cs.length →
    ((vs.zipIdx j0).foldl (fun (a : Array Value) (p : Value × Nat) => a.setIfInBounds (off + p.2) p.1) acc).toList = spl acc.toList (off + j0) vs
  | [], off, j0, _, acc, _ => by simp [spl]
  | v :: vs, off, j0, h, acc, ha => by
    simp only [List.length_cons] at h
    simp only [List.zipIdx_cons, List.foldl_cons]
    rw [foldl_set cs vs off (j0 + 1) (by omega) _ (by simp; exact ha)]
    apply List.ext_getElem?
    intro k
    rw [spl_get _ _ _ (by simp; omega), spl_get _ _ _ (by simp; omega)]
    simp only [Array.getElem?_toList, Array.getElem?_setIfInBounds, List.length_cons]
    by_cases h1 : off + (j0 + 1) ≤ k ∧ k < off + (j0 + 1) + vs.length
    · rw [if_pos h1, if_pos (by omega), show k - (off + j0) = (k - (off + (j0 + 1))) + 1 by omega]
      simp
    · rw [if_neg h1]
      by_cases h2 : off + j0 = k
      · subst h2
        rw [if_pos rfl, if_pos (by omega), if_pos (by omega)]
        simp
      · rw [if_neg h2, if_neg (by omega)]

theorem fill_ok {β : Bt} {place : Nat → Option (Nat × Nat)} : ∀ (parts : List (Nat × Value)) (cells out : List Value) (parts' : List (Nat × Value)) (cells' : Array Value),
    fillL place cells parts = some out → LRel β cells cells'.toList → parts.map (·.1) = parts'.map (·.1) → LRel β (parts.map (·.2)) (parts'.map (·.2)) →
    ∃ out' : Array Value, Instr.fill place cells' parts' = some out' ∧ LRel β out out'.toList
  | [], cells, out, parts', cells', h, hc, h1, h2 => by
    cases h
    have : parts' = [] := by cases parts'; rfl; simp at h1
    subst this
    exact ⟨cells', rfl, hc⟩
  | (i, v) :: parts, cells, out, parts', cells', h, hc, h1, h2 => by
    cases parts' with
    | nil => simp at h1
    | cons p' parts' =>
      obtain ⟨i', v'⟩ := p'
      simp only [List.map_cons, List.cons.injEq] at h1
      obtain ⟨rfl, h1⟩ := h1
      have hv : VRel β v v' := h2.2 0 _ _ rfl rfl
      have h2' : LRel β (parts.map (·.2)) (parts'.map (·.2)) := ⟨by have := h2.1; simpa using this, fun k u u' a b => h2.2 (k + 1) u u' (by simpa using a) (by simpa using b)⟩
      unfold fillL at h
      split at h
      · cases h
      · rename_i off size hp
        split at h
        · rename_i hcnd
          have hvc := hv.cells
          have hsz : v'.cells.size = size := by have := hvc.1; simp at this; omega
          have hcl := hc.1
          have hcl' : cells.length = cells'.size := by simpa using hcl
          have hset := foldl_set cells v'.cells.toList off 0 (by simp; omega) cells' hcl'.symm
          have hfold : (v'.cells.zipIdx.foldl (fun cs (c, j) => cs.setIfInBounds (off + j) c) cells').toList = spl cells'.toList off v'.cells.toList := by
            have e : v'.cells.zipIdx.toList = v'.cells.toList.zipIdx 0 := by simp
            rw [← Array.foldl_toList, e]
            exact hset
          have hrel : LRel β (spl cells off (cellsL v)) (v'.cells.zipIdx.foldl (fun cs (c, j) => cs.setIfInBounds (off + j) c) cells').toList := by
            rw [hfold]
            refine LRel.of_get ?_ fun k u hk => ?_
            · rw [spl_length _ _ _ (by omega), spl_length _ _ _ (by simp; omega)]; exact hcl
            · rw [spl_get _ _ _ (by omega)] at hk
              rw [spl_get _ _ _ (by simp; omega)]
              have hvl := hvc.1
              split at hk
              · rw [if_pos (by omega)]; exact hvc.get hk
              · rw [if_neg (by omega)]; exact hc.get hk
          obtain ⟨out', g1, g2⟩ := fill_ok parts _ out parts' _ h hrel h1 h2'
          refine ⟨out', ?_, g2⟩
          unfold Instr.fill
          rw [hp]
          dsimp only
          rw [if_neg (by simp; omega)]
          exact g1
        · cases h

theorem placesOf_ok {P : Program} {w : World} : ∀ (fs : List Field) (l : List (Nat × Nat)), placesOf P fs = some l →
    (fs.mapM (m := Sem) fun f => do pure (f.offset, ← sizeOf f.type)).run P w = .ok l w
  | [], l, h => by cases h; simp
  | f :: fs, l, h => by
    unfold placesOf at h
    split at h
    · cases h
    · rename_i i hi
      split at h
      · cases h
      · rename_i r hr
        cases h
        have := placesOf_ok (w := w) fs r hr
        simp only [List.mapM_cons, Sem.run_bind, run_sizeOf w hi, Result.andThen_ok, Sem.run_pure, this]

section
variable {α : Type} {C : Ctx} {N : Nat} {w : World} {S : St} {β : Bt} {lam : Nat → Nat} {fr : Fr} {a : Act} {o : Oper} {k : Slot → St → Option α} {r : α}

theorem parts_rel {ρ : Operand → Value} {parts : Array (Nat × Operand)} {vs : List Value} (h : LRel β vs ((parts.toList.map (·.2)).map ρ)) :
    (((parts.toList.map (·.1)).zip vs).map (·.1)) = ((parts.map fun (i, x) => (i, ρ x)).toList.map (·.1)) ∧ LRel β (((parts.toList.map (·.1)).zip vs).map (·.2)) ((parts.map fun (i, x) => (i, ρ x)).toList.map (·.2)) := by
  have hl := h.1
  simp only [List.length_map] at hl
  constructor
  · rw [List.map_fst_zip (by simp at hl ⊢; omega)]
    simp [Function.comp_def]
  · rw [List.map_snd_zip (by simp at hl ⊢; omega)]
    simpa [Function.comp_def] using h

theorem sim_build {T : TypeId} {parts : Array (Nat × Operand)} (ho : o.op = .build T parts) (h : opC C fr S o k = some r) (hR : Rel C.P w S.hp β) (hF : FRel N w S.bx β lam fr a) : Step C.P N w S β lam fr a o k r := by
  simp only [opC, ho] at h
  obtain ⟨vs, hvs, h1⟩ := evs_inv hR hF _ h
  clear h
  unfold pBuild at h1
  split at h1
  · rename_i v hb
    unfold buildV at hb
    obtain ⟨i, z, hi, hz, hc, hb⟩ := zeroC_inv hb
    obtain ⟨hp1, hp2⟩ := parts_rel hvs
    have hzr := (constOk_rel (β := β) hc).cells
    split at hb
    · rename_i fs hu
      split at hb
      · cases hb
      · rename_i l hl
        split at hb
        · rename_i cs hf
          cases hb
          obtain ⟨out', g1, g2⟩ := fill_ok _ _ cs _ _ hf hzr hp1 hp2
          refine Step.val hR hF h1 (v' := .agg out') ?_ (agg_iff.2 ⟨out', rfl, by simpa using g2⟩)
          have hpl := placesOf_ok (w := w) fs.toList l hl
          have hm : (fs.mapM (m := Sem) fun f => do pure (f.offset, ← sizeOf f.type)).run C.P w = .ok l.toArray w := by
            rw [← Array.toArray_toList (xs := fs), List.mapM_toArray, Sem.run_map, hpl]
            simp
          have hpa : (fun x => l.toArray[x]?) = placeAt l := by funext x; simp [placeAt]
          simp only [execOp, ho, Instr.build, Sem.run_bind, run_zeroValue w hi hz, Result.andThen_ok, run_under w hu, hm, hpa]
          rw [g1]
          simp
        · cases hb
    · rename_i len e hu
      split at hb
      · cases hb
      · rename_i ti hti
        split at hb
        · rename_i cs hf
          cases hb
          obtain ⟨out', g1, g2⟩ := fill_ok _ _ cs _ _ hf hzr hp1 hp2
          refine Step.val hR hF h1 (v' := .agg out') ?_ (agg_iff.2 ⟨out', rfl, by simpa using g2⟩)
          simp only [execOp, ho, Instr.build, Sem.run_bind, run_zeroValue w hi hz, Result.andThen_ok, run_under w hu, run_sizeOf w hti]
          rw [g1]
          simp
        · cases hb
    · cases hb
  · cases h1

theorem repl_length (n : Nat) (zs : List Value) : (repl n zs).length = n * zs.length := by
  induction n with
  | zero => simp [repl]
  | succ n ih => simp [repl, ih, Nat.add_mul]; omega
theorem repl_get (n : Nat) (zs : List Value) (j : Nat) (h : j < n * zs.length) : (repl n zs)[j]? = zs[j % zs.length]? := by
  induction n generalizing j with
  | zero => simp at h
  | succ n ih =>
    have hz : 0 < zs.length := by rcases Nat.eq_zero_or_pos zs.length with e | e; · rw [e] at h; simp at h
                                  exact e
    simp only [repl]
    by_cases hj : j < zs.length
    · rw [List.getElem?_append_left hj, Nat.mod_eq_of_lt hj]
    · have hs : (n + 1) * zs.length = n * zs.length + zs.length := Nat.succ_mul _ _
      rw [List.getElem?_append_right (by omega), ih (j - zs.length) (by omega)]
      congr 1
      exact (Nat.mod_eq_sub_mod (by omega)).symm
theorem repl_rel {z z' : Value} (hz : VRel β z z') (n : Nat) (h0 : z'.cells.size ≠ 0) :
    LRel β (repl n (cellsL z)) ((Array.range (n * z'.cells.size)).map (z'.cells[· % z'.cells.size]!)).toList := by
  have hc := hz.cells
  have hcl := hc.1
  simp only [Array.length_toList] at hcl
  refine LRel.of_get (by simp [repl_length, hcl]) fun j v hj => ?_
  have hjl : j < n * z'.cells.size := by have := (List.getElem?_eq_some_iff.1 hj).1; rw [repl_length, hcl] at this; exact this
  rw [repl_get _ _ _ (by rw [hcl]; exact hjl), hcl] at hj
  obtain ⟨v', hv', hr⟩ := hc.get hj
  refine ⟨v', ?_, hr⟩
  have hm : j % z'.cells.size < z'.cells.size := Nat.mod_lt _ (by omega)
  simp only [Array.getElem?_toList, Array.getElem?_map]
  rw [Array.getElem?_range]
  simp only [hjl, if_true, Option.map_some]
  have hv2 : z'.cells[j % z'.cells.size]? = some v' := by simpa using hv'
  rw [getElem!_pos z'.cells _ hm]
  rw [Array.getElem?_eq_getElem hm] at hv2
  exact hv2

theorem sim_buildSlice {T : TypeId} {len : Nat} {parts : Array (Nat × Operand)} (ho : o.op = .buildSlice T len parts) (hN : N ≤ w.heap.size) (h : opC C fr S o k = some r) (hR : Rel C.P w S.hp β) (hF : FRel N w S.bx β lam fr a) :
    Step C.P N w S β lam fr a o k r := by
  simp only [opC, ho] at h
  obtain ⟨vs, hvs, h1⟩ := evs_inv hR hF _ h
  clear h
  obtain ⟨e, i, z, hu, hi, hz, h0, hb0, hzl, hz1, hzc, h1⟩ := sliceC_inv h1
  unfold pBuildSlice at h1
  split at h1
  · rename_i v H' hb
    unfold buildSliceV at hb
    split at hb
    · cases hb
    · rename_i hsz
      split at hb
      · rename_i cs hf
        cases hb
        obtain ⟨hp1, hp2⟩ := parts_rel hvs
        have hzsz : z.cells.size = i.size := by simpa [cellsL] using hzl
        have hrr := repl_rel (constOk_rel (β := β) hzc) len (by omega)
        rw [hzsz] at hrr
        obtain ⟨out', g1, g2⟩ := fill_ok _ _ cs _ _ hf hrr hp1 hp2
        obtain ⟨k1, k2⟩ := hR.new_cells cs out' e (0, 0) out'.size (by rw [List.take_of_length_le (by simp)]; exact g2) (by intro j hj; simp)
        have hosz : out'.size = len * i.size := by
          have h3 := g2.1
          have h4 : ∀ (parts : List (Nat × Value)) (cells out : List Value) (pl : Nat → Option (Nat × Nat)), fillL pl cells parts = some out → out.length = cells.length := by
            intro parts
            induction parts with
            | nil => intro cells out pl h; cases h; rfl
            | cons p parts ih =>
              intro cells out pl h
              obtain ⟨q, u⟩ := p
              unfold fillL at h
              split at h
              · cases h
              · split at h
                · rename_i hc
                  rw [ih _ _ _ h, spl_length _ _ _ (by omega)]
                · cases h
          have := h4 _ _ _ _ hf
          rw [repl_length] at this
          simp at h3
          rw [← h3, this, hzl]
        refine Step.heap hN hR hF h1 (v' := .slice (some ⟨w.heap.size, 0, none⟩) len len) (.inl ?_) k1 k2
          (.slice S.hp.next 0 i.size len len ⟨w.heap.size, 0, out'.size⟩ 0 len (Bt.set_same _ _ _) (Nat.le_refl _) (Nat.le_refl _) (by show _ ≤ out'.size; omega) (fun _ => rfl))
        by_cases hl0 : len * i.size = 0
        · have h00 : ¬ (0 > 2 ^ 24) := by decide
          have hr0 : Array.range 0 = #[] := rfl
          simp only [hl0, hr0, Array.map_empty] at g1
          simp only [execOp, ho, Instr.buildSlice, Sem.run_bind, run_under w hu, Result.andThen_ok, run_sizeOf w hi, if_neg h00, Sem.run_pure, hl0, if_true, hr0, Array.map_empty]
          rw [g1]
          simp [newRow]
        · simp only [execOp, ho, Instr.buildSlice, Sem.run_bind, run_under w hu, Result.andThen_ok, run_sizeOf w hi, if_neg hsz, Sem.run_pure, if_neg hl0, run_zeroValue w hi hz, hzsz]
          rw [g1]
          simp [newRow]
      · cases hb
  · cases h1

theorem sim_makeSlice {T : TypeId} {l c : Operand} (ho : o.op = .makeSlice T l c) (hN : N ≤ w.heap.size) (h : opC C fr S o k = some r) (hR : Rel C.P w S.hp β) (hF : FRel N w S.bx β lam fr a) :
    Step C.P N w S β lam fr a o k r := by
  simp only [opC, ho] at h
  obtain ⟨lv, hlv, h1⟩ := evV_inv hR hF h
  clear h
  obtain ⟨cv, hcv, h2⟩ := evV_inv hR hF h1
  clear h1
  obtain ⟨e, i, z, hu, hi, hz, h0, hb0, hzl, hz1, hzc, h3⟩ := sliceC_inv h2
  clear h2
  generalize hql : a.eval l = ql at hlv
  generalize hqc : a.eval c = qc at hcv
  unfold pMakeSlice at h3
  split at h3
  · rename_i v H' hm
    unfold makeSliceV at hm
    split at hm
    · rename_i n m
      split at hm
      · rename_i hc
        cases hm
        cases hlv; cases hcv
        obtain ⟨hn0, hnm, hmb⟩ := hc
        have hzsz : z.cells.size = i.size := by simpa [cellsL] using hzl
        have hrr := repl_rel (constOk_rel (β := β) hzc) m.toNat (by omega)
        let arr := (Array.range (m.toNat * i.size)).map (z.cells[· % z.cells.size]!)
        have harr : arr = (Array.range (m.toNat * z.cells.size)).map (z.cells[· % z.cells.size]!) := by simp only [arr, hzsz]
        rw [← harr] at hrr
        have hasz : arr.size = m.toNat * i.size := by simp [arr]
        obtain ⟨k1, k2⟩ := hR.new_cells (repl m.toNat (cellsL z)) arr e (0, 0) arr.size (by rw [List.take_of_length_le (by simp)]; exact hrr) (by intro j hj; simp)
        refine Step.heap hN hR hF h3 (v' := .slice (some ⟨w.heap.size, 0, none⟩) n.toNat m.toNat) (.inl ?_) k1 k2
          (.slice S.hp.next 0 i.size n.toNat m.toNat ⟨w.heap.size, 0, arr.size⟩ 0 m.toNat (Bt.set_same _ _ _) (by omega) (Nat.le_refl _) (by show _ ≤ arr.size; omega) (fun _ => rfl))
        have hm47 : m ≤ 2 ^ 47 := by
          have : (1 : Int) ≤ (i.bytes : Int) := by omega
          have h5 : m * 1 ≤ m * (i.bytes : Int) := Int.mul_le_mul_of_nonneg_left this (by omega)
          omega
        have hw1 : IntKind.i64.wrap n = n := by simp [IntKind.wrap, IntKind.bits, IntKind.signed]; omega
        have hw2 : IntKind.i64.wrap m = m := by simp [IntKind.wrap, IntKind.bits, IntKind.signed]; omega
        have hcomm : (i.bytes : Int) * m = m * i.bytes := Int.mul_comm _ _
        have hcommn : (i.bytes : Int) * n ≤ m * i.bytes := by rw [Int.mul_comm]; exact Int.mul_le_mul_of_nonneg_right hnm (by omega)
        have ht1 : ¬ (m < 0) := by omega
        have ht2 : ¬ ((i.bytes : Int) * m > 2 ^ 48) := by omega
        simp only [execOp, ho, hql, hqc, Instr.makeSlice, Sem.run_bind, run_under w hu, Result.andThen_ok, asInt, asIntOf, Sem.run_pure, run_typeInfo w hi, hw1, hw2]
        have hg : ((decide (m < 0) || decide ((i.bytes : Int) * m > 2 ^ 48)) || decide (n < 0) || decide (n > m)) = false := by simp; omega
        simp only [hg, Bool.false_eq_true, if_false, Sem.run_bind, run_askRoom, Result.andThen_ok, run_sizeOf w hi]
        by_cases hl0 : m.toNat * i.size = 0
        · have hae : arr = #[] := by apply Array.eq_empty_of_size_eq_zero; omega
          have hr0 : Array.range 0 = #[] := rfl
          simp only [hl0, if_true, Sem.run_pure, Result.andThen_ok, hr0, Array.map_empty, newRow, Sem.run_bind, run_newObj, hae]
          rfl
        · simp only [if_neg hl0, Sem.run_bind, run_zeroValue w hi hz, Sem.run_pure, Result.andThen_ok, newRow, run_newObj]
          rfl
      · cases hm
    · cases hm
  · cases h3
end
end Go.AM
/- The abstract machine: maps. -/
set_option linter.unusedVariables false
namespace Go.AM
open Go

theorem checkKey_ok {P : Program} {β : Bt} (em : Bool) : ∀ (d n : Nat) (t : TypeId) (v v' : Value) (w : World), d ≤ n → shapeOk P d t v = true → VRel β v v' → (Instr.checkKey em n t v').run P w = .ok () w
  | 0, n, t, v, v', w, _, h, _ => by cases h
  | d + 1, 0, t, v, v', w, hd, _, _ => by omega
  | d + 1, n + 1, t, v, v', w, hd, h, hv => by
    unfold shapeOk at h
    split at h
    · rename_i hu; cases hv; simp [Instr.checkKey, run_under w hu]
    · rename_i hu; cases hv; simp [Instr.checkKey, run_under w hu]
    · rename_i hu; cases hv; simp [Instr.checkKey, run_under w hu]
    · rename_i fs cs hu
      obtain ⟨cs', rfl, hl⟩ := agg_iff.1 hv
      simp only [Instr.checkKey, Sem.run_bind, run_under w hu, Result.andThen_ok]
      rw [← Array.forIn_toList]
      have key : ∀ (l : List Field), (l.all fun f => match partT P f.type cs.toList f.offset with | some x => shapeOk P d f.type x | none => false) = true →
          (forIn l PUnit.unit (fun f (r : PUnit) => (if f.name ≠ "_" then do
              Instr.checkKey em n f.type (← part f.type cs' f.offset)
              pure (ForInStep.yield PUnit.unit)
            else pure (ForInStep.yield PUnit.unit) : Sem (ForInStep PUnit)))).run P w = .ok PUnit.unit w := by
        intro l
        induction l with
        | nil => intro _; simp
        | cons f l ih =>
          intro hall
          simp only [List.all_cons, Bool.and_eq_true] at hall
          have ih' := ih hall.2
          have h1 := hall.1
          split at h1
          · rename_i x hx
            obtain ⟨x', hr, hxr⟩ := partT_ok (w := w) hl hx
            have hck := checkKey_ok em d n f.type x x' w (by omega) h1 hxr
            have hr' : (part f.type cs' f.offset).run P w = .ok x' w := by simpa using hr
            simp only [List.forIn_cons, Sem.run_bind]
            by_cases hn : f.name ≠ "_"
            · rw [if_pos hn]
              simp only [Sem.run_bind, hr', Result.andThen_ok, hck, Sem.run_pure]
              exact ih'
            · rw [if_neg hn]
              simp only [Sem.run_pure, Result.andThen_ok]
              exact ih'
          · cases h1
      have := key fs.toList h
      rw [this]
      rfl
    · cases h

/-- Where findNow tells anything it tells what equality tells. -/
theorem sameNow_eq {P : Program} {β : Bt} {t : TypeId} {d : TypeDesc} (hd : P.underlying t = some d) {x y x' y' : Value} {b c : Bool} (h : eqT P 10000 t x y = some b) (hx : VRel β x x') (hy : VRel β y y')
    (hs : Instr.sameNow d x' y' = some c) : c = b := by
  have h1 := eqT_ok (P := P) 10000 t x y b x' y' default h hx hy
  unfold Instr.sameNow at hs
  split at hs
  · split at hs
    · rename_i hk
      cases hs
      rw [Op.equalIn] at h1
      simp [run_under _ hd, hk] at h1
      exact h1
    · cases hs
  · cases hs
    rw [Op.equalIn] at h1
    simp [run_under _ hd] at h1
    exact h1
  · cases hs
    rw [Op.equalIn] at h1
    simp [run_under _ hd] at h1
    exact h1
  · cases hs

def found (es : List MapEntry) : Option (Nat × Value) → Nat → Option (Nat × Value)
  | none, _ => none
  | some (j, _), i0 => (es[j - i0]?).map fun e => (j, e.val)

theorem findT_ge {P : Program} {kt : TypeId} {key : Value} : ∀ (kv : List (Value × Value)) (i j : Nat) (v : Value), findT P kt key kv i = some (some (j, v)) → i ≤ j ∧ ∃ k, kv[j - i]? = some (k, v) ∧ eqT P 10000 kt key k = some true
  | [], i, j, v, h => by cases h
  | (k, u) :: r, i, j, v, h => by
    unfold findT at h
    split at h
    · rename_i he; cases h; exact ⟨Nat.le_refl _, k, by simp, he⟩
    · obtain ⟨h1, k', h2, h3⟩ := findT_ge r (i + 1) j v h
      exact ⟨by omega, k', by rw [show j - i = (j - (i + 1)) + 1 by omega]; simpa using h2, h3⟩
    · cases h

theorem find_ok {P : Program} {w : World} {β : Bt} {kt : TypeId} {d : TypeDesc} (hd : P.underlying kt = some d) {key key' : Value} (hk : VRel β key key') : ∀ (kv : List (Value × Value)) (es : List MapEntry) (i : Nat) (res : Option (Nat × Value)),
    findT P kt key kv i = some res → ERel β kv es →
    (Instr.findAsking kt key' es i).run P w = .ok (found es res i) w ∧ (∀ q, Instr.findNow d key' es i = some q → q = found es res i)
  | [], es, i, res, h, hr => by
    cases h
    have : es = [] := List.length_eq_zero_iff.1 (by have := hr.1; simp at this; omega)
    subst this
    exact ⟨by simp [Instr.findAsking, found], fun q hq => by cases hq; rfl⟩
  | (k, u) :: kv, es, i, res, h, hr => by
    cases es with
    | nil => have := hr.1; simp at this
    | cons e es =>
      have h0 := hr.2 0 k u e rfl rfl
      have hr' : ERel β kv es := ⟨by have := hr.1; simpa using this, fun j a b c h1 h2 => hr.2 (j + 1) a b c (by simpa using h1) (by simpa using h2)⟩
      unfold findT at h
      split at h
      · rename_i he
        cases h
        have heq : (Op.equal kt key' e.key).run P w = .ok true w := eqT_ok 10000 kt key k true key' e.key w he hk h0.1
        refine ⟨by simp [Instr.findAsking, heq, found], fun q hq => ?_⟩
        unfold Instr.findNow at hq
        split at hq
        · cases hq; simp [found]
        · rename_i hs; have := sameNow_eq hd he hk h0.1 hs; cases this
        · cases hq
      · rename_i he
        have heq : (Op.equal kt key' e.key).run P w = .ok false w := eqT_ok 10000 kt key k false key' e.key w he hk h0.1
        obtain ⟨g1, g2⟩ := find_ok (w := w) hd hk kv es (i + 1) res h hr'
        have hshift : found (e :: es) res i = found es res (i + 1) := by
          cases res with
          | none => rfl
          | some p =>
            obtain ⟨j, v⟩ := p
            have := (findT_ge kv (i + 1) j v h).1
            simp only [found]
            rw [show j - i = (j - (i + 1)) + 1 by omega]
            simp
        rw [hshift]
        refine ⟨by simp [Instr.findAsking, heq, g1], fun q hq => ?_⟩
        unfold Instr.findNow at hq
        split at hq
        · rename_i hs; have := sameNow_eq hd he hk h0.1 hs; cases this
        · exact g2 q hq
        · cases hq
      · cases h

theorem findKey_ok {P : Program} {w : World} {β : Bt} {kt : TypeId} {d : TypeDesc} (hd : P.underlying kt = some d) {key key' : Value} (hk : VRel β key key') {kv : List (Value × Value)} {es : List MapEntry} {res : Option (Nat × Value)}
    (h : findT P kt key kv 0 = some res) (hr : ERel β kv es) : (Instr.findKey kt key' es).run P w = .ok (found es res 0) w := by
  obtain ⟨g1, g2⟩ := find_ok (w := w) hd hk kv es 0 res h hr
  simp only [Instr.findKey, Sem.run_bind, run_under w hd, Result.andThen_ok]
  split
  · rename_i q hq
    rw [g2 q hq]; rfl
  · exact g1

theorem mapC_inv {α : Type} {P : Program} {T : TypeId} {k : TypeId → Value → Option α} {r : α} (h : mapC P T k = some r) :
    ∃ kt et d i z, P.underlying T = some (.map kt et) ∧ P.underlying kt = some d ∧ P.info? et = some i ∧ i.zero = some z ∧ constOk z = true ∧ k kt z = some r := by
  unfold mapC at h
  split at h
  · rename_i kt et hu
    split at h
    · rename_i hk
      obtain ⟨i, z, hi, hz, hc, h⟩ := zeroC_inv h
      have : ∃ d, P.underlying kt = some d := by
        unfold keyOk at hk
        cases hd : P.underlying kt with
        | none => rw [hd] at hk; cases hk
        | some d => exact ⟨d, rfl⟩
      obtain ⟨d, hd⟩ := this
      exact ⟨kt, et, d, i, z, hu, hd, hi, hz, hc, h⟩
    · cases h
  · cases h

theorem sameBits_ptr {β : Bt} (n : Nat) (a b : Option Addr) (x' y' : Value) (h : Instr.sameBits n (.pointer a) (.pointer b) = true) (hx : VRel β (.pointer a) x') (hy : VRel β (.pointer b) y') : Instr.sameBits n x' y' = true := by
  have he : a = b := by cases n <;> simpa [Instr.sameBits] using h
  subst he
  cases hx with
  | pnil => cases hy; cases n <;> rfl
  | ptr i o q hq =>
    cases hy with
    | ptr _ _ q' hq' => rw [hq] at hq'; cases hq'; cases n <;> simp [Instr.sameBits]
theorem sameBits_ok {β : Bt} (n : Nat) : ∀ (x y x' y' : Value), Instr.sameBits n x y = true → VRel β x x' → VRel β y y' → Instr.sameBits n x' y' = true := by
  induction n with
  | zero =>
    intro x y x' y' h hx hy
    cases x <;> cases y <;> first
      | (cases hx; done)
      | (simp [Instr.sameBits] at h; done)
      | exact sameBits_ptr 0 _ _ _ _ h hx hy
      | (cases hx; cases hy; exact h)
  | succ n ih =>
    intro x y x' y' h hx hy
    have agg : ∀ a b : Array Value, x = .agg a → y = .agg b → Instr.sameBits (n + 1) x' y' = true := by
      intro a b hxa hyb
      subst hxa; subst hyb
      obtain ⟨a', rfl, ha⟩ := agg_iff.1 hx
      obtain ⟨b', rfl, hb⟩ := agg_iff.1 hy
      simp only [Instr.sameBits, Bool.and_eq_true, beq_iff_eq] at h ⊢
      have h1 := ha.1
      have h2 := hb.1
      simp only [Array.length_toList] at h1 h2
      refine ⟨by omega, ?_⟩
      rw [List.all_eq_true] at h ⊢
      intro p hp
      obtain ⟨j, hj, rfl⟩ := List.getElem_of_mem hp
      simp only [List.length_zip, Array.length_toList] at hj
      simp only [List.getElem_zip]
      have hja : j < a.toList.length := by simp; omega
      have hjb : j < b.toList.length := by simp; omega
      refine ih a.toList[j] b.toList[j] _ _ ?_ (ha.2 j _ _ (by simp) (by simp)) (hb.2 j _ _ (by simp) (by simp))
      have := h.2 (a.toList[j], b.toList[j]) (by
        rw [← List.getElem_zip (l := a.toList) (l' := b.toList) (i := j) (h := by simp; omega)]
        exact List.getElem_mem _)
      exact this
    cases x <;> cases y <;> first
      | (cases hx; done)
      | (simp [Instr.sameBits] at h; done)
      | exact sameBits_ptr (n + 1) _ _ _ _ h hx hy
      | exact agg _ _ rfl rfl
      | (cases hx with
         | iface _ _ v' hv =>
           cases hy with
           | iface _ _ v2' hv2 =>
             simp only [Instr.sameBits, Bool.and_eq_true] at h ⊢
             exact ⟨h.1, ih _ _ v' v2' h.2 hv hv2⟩)
      | (cases hx; cases hy; exact h)
end Go.AM
/- The abstract machine: maps, lengths, copies. -/
set_option linter.unusedVariables false
namespace Go.AM
open Go

def World.setObj (w : World) (b : Nat) (o : Obj) : World := { w with heap := w.heap.setIfInBounds b o }
theorem setObj_same {w : World} {b : Nat} {o : Obj} (h : b < w.heap.size) : (World.setObj w b o).heap[b]? = some o := by
  simp [World.setObj, h]
theorem setObj_other {w : World} {b k : Nat} {o : Obj} (h : k ≠ b) : (World.setObj w b o).heap[k]? = w.heap[k]? := by
  simp only [World.setObj, Array.getElem?_setIfInBounds]
  rw [if_neg (fun e => h e.symm)]

theorem Rel.setMap {P : Program} {w : World} {H : Hp} {β : Bt} (h : Rel P w H β) {i : Nat} {kv kv' : List (Value × Value)} {x : BI} (hi : H.get i = some (.map kv)) (hx : β i = some x)
    {es' : Array MapEntry} {clock' : Nat} (hr : ERel β kv' es'.toList) (hb : ∀ e ∈ es'.toList, e.born < clock') :
    Rel P (World.setObj w x.b (.map es' clock')) (H.set i (some (.map kv'))) β ∧ Ext w.heap.size w H β (World.setObj w x.b (.map es' clock')) (H.set i (some (.map kv'))) β := by
  have hlt := h.lt i x hx
  have hoth : ∀ j o y, j ≠ i → H.get j = some o → β j = some y → (World.setObj w x.b (.map es' clock')).heap[y.b]? = w.heap[y.b]? := fun j o y hji hj hy =>
    setObj_other (fun e => h.apart i j _ _ x y (Ne.symm hji) hi hj rfl hx hy e.symm)
  refine ⟨⟨fun j ds own hj => ?_, fun j kv2 hj => ?_, fun j k o o2 y z hjk hj hk ho hy hz => ?_, fun j hj => ?_, fun j y hy => ?_, h.glob, fun j o hj => (by
      rw [Hp.get_set] at hj
      split at hj
      · cases hj
      · rename_i hji
        obtain ⟨y, hy, h0, h3⟩ := h.fix j o hj
        exact ⟨y, hy, h0, by rw [hoth j _ y hji hj hy]; exact h3⟩), fun j T hj => (by
      obtain ⟨y, arr, fz, hy, h1, h2, h3⟩ := h.tys j T hj
      refine ⟨y, arr, fz, hy, h1, ?_, h3⟩
      obtain ⟨x', hx', es0, c0, h4, _⟩ := h.maps i kv hi
      rw [hx] at hx'; cases hx'
      rw [setObj_other (fun e => by rw [e, h4] at h2; cases h2)]
      exact h2)⟩,
    ⟨rfl, rfl, rfl, by simp [World.setObj], Bt.le_refl _, Nat.le_refl _, fun b hb ho => ?_, fun b => ?_, fun j y hy hn => by rw [hn] at hy; cases hy⟩⟩
  · rw [Hp.get_set] at hj
    split at hj
    · cases hj
    · rename_i hji
      obtain ⟨y, hy, h3, h4⟩ := h.cells j ds own hj
      have hw := hoth j _ y hji hj hy
      refine ⟨y, hy, fun k v hk => ?_, fun ho => ⟨(h4 ho).1.congr hw, (h4 ho).2⟩⟩
      obtain ⟨v', hv', hr⟩ := h3 k v hk
      exact ⟨v', by rw [cell_congr hw]; exact hv', hr⟩
  · rw [Hp.get_set] at hj
    split at hj
    · rename_i e; cases hj; subst e
      exact ⟨x, hx, es', clock', setObj_same hlt, hr, hb⟩
    · rename_i hji
      obtain ⟨y, hy, es, clock, h3, h4⟩ := h.maps j kv2 hj
      exact ⟨y, hy, es, clock, by rw [hoth j _ y hji hj hy]; exact h3, h4⟩
  · rw [Hp.get_set] at hj hk
    have hj' : ∃ q, H.get j = some q ∧ q.own = true := by
      split at hj
      · rename_i e; subst e; exact ⟨_, hi, rfl⟩
      · exact ⟨o, hj, ho⟩
    have hk' : ∃ q, H.get k = some q := by
      split at hk
      · rename_i e; subst e; exact ⟨_, hi⟩
      · exact ⟨_, hk⟩
    obtain ⟨q, g1, g2⟩ := hj'
    obtain ⟨q', g3⟩ := hk'
    exact h.apart j k q q' y z hjk g1 g3 g2 hy hz
  · have := h.fresh j hj
    rw [Hp.get_set, if_neg (fun e => by subst e; rw [hi] at this; cases this.1)]
    exact this
  · simp only [World.setObj, Array.size_setIfInBounds]; exact h.lt j y hy
  · exact setObj_other (fun e => by subst e; exact ho ⟨i, _, x, hi, rfl, hx, rfl⟩)
  · rintro ⟨j, o, y, hj, ho, hy, rfl⟩
    rw [Hp.get_set] at hj
    split at hj
    · rename_i e; subst e; rw [hx] at hy; cases hy; exact .inr ⟨_, _, x, hi, rfl, hx, rfl⟩
    · exact .inr ⟨j, o, y, hj, ho, hy, rfl⟩

theorem run_getMap {P : Program} {w : World} {b : Nat} {es : Array MapEntry} {c : Nat} (h : w.heap[b]? = some (.map es c)) : (getObj b).run P w = .ok (.map es c) w := by simp [getObj, Sem.run, h]
theorem run_setMap {P : Program} {w : World} {b : Nat} {es : Array MapEntry} {c : Nat} {o : Obj} (h : w.heap[b]? = some (.map es c)) : (setObj b o).run P w = .ok () (World.setObj w b o) := by simp [Go.setObj, Sem.run, h, World.setObj]

section
variable {α : Type} {C : Ctx} {N : Nat} {w : World} {S : St} {β : Bt} {lam : Nat → Nat} {fr : Fr} {a : Act} {o : Oper} {k : Slot → St → Option α} {r : α}

theorem look_ok {P : Program} {H : Hp} (hR : Rel P w H β) {T kt et : TypeId} {d : TypeDesc} {i : TypeInfo} {z : Value} (hu : P.underlying T = some (.map kt et)) (hd : P.underlying kt = some d) (hi : P.info? et = some i) (hz : i.zero = some z)
    (hzc : constOk z = true) {m key m' key' : Value} (hm : VRel β m m') (hk : VRel β key key') {v : Value} {b : Bool} (h : lookV P kt z m key H = some (v, b)) :
    ∃ v', VRel β v v' ∧ ∀ ok, (Instr.lookup T m' key' ok).run P w = .ok (if ok then .tuple #[v', .bool b] else v') w := by
  unfold lookV at h
  split at h
  · rename_i hsh
    split at h
    · cases h
    · rename_i kv hmo
      have hes : ∃ es : Array MapEntry, ERel β kv es.toList ∧ ((m' = .map none ∧ es = #[]) ∨ ∃ b clock, m' = .map (some b) ∧ w.heap[b]? = some (.map es clock)) := by
        unfold mapOf at hmo
        split at hmo
        · cases hmo; cases hm; exact ⟨#[], ⟨rfl, by simp⟩, .inl ⟨rfl, rfl⟩⟩
        · rename_i j
          split at hmo
          · rename_i kv' hg
            cases hmo
            cases hm with
            | map _ x hx =>
            obtain ⟨x', hx', es, clock, h1, h2, h3⟩ := hR.maps j kv hg
            rw [hx] at hx'; cases hx'
            exact ⟨es, h2, .inr ⟨x.b, clock, rfl, h1⟩⟩
          · cases hmo
        · cases hmo
      obtain ⟨es, hre, hes⟩ := hes
      have hck := checkKey_ok (P := P) (β := β) es.isEmpty 20 10000 kt key key' w (by omega) hsh hk
      split at h
      · rename_i j u hf
        cases h
        have hfk := findKey_ok (w := w) hd hk hf hre
        obtain ⟨_, k0, hk0, _⟩ := findT_ge kv 0 j v hf
        simp only [Nat.sub_zero] at hk0
        have hjl : j < es.toList.length := by rw [← hre.1]; exact (List.getElem?_eq_some_iff.1 hk0).1
        have hej := hre.2 j k0 v es.toList[j] hk0 (by simp)
        have hfe : found es.toList (some (j, v)) 0 = some (j, es.toList[j].val) := by
          have : es.toList[j]? = some es.toList[j] := by simp
          simp only [found, Nat.sub_zero, this, Option.map_some]
        rw [hfe] at hfk
        refine ⟨_, hej.2, fun ok => ?_⟩
        rcases hes with ⟨rfl, rfl⟩ | ⟨b, clock, rfl, hb⟩
        · simp only [Instr.lookup, Sem.run_bind, run_under w hu, Result.andThen_ok, Sem.run_pure, hck, hfk]
        · simp only [Instr.lookup, Sem.run_bind, run_under w hu, Result.andThen_ok, Sem.run_pure, run_getMap hb, hck, hfk]
      · rename_i hf
        cases h
        have hfk := findKey_ok (w := w) hd hk hf hre
        refine ⟨z, constOk_rel hzc, fun ok => ?_⟩
        rcases hes with ⟨rfl, rfl⟩ | ⟨b, clock, rfl, hb⟩
        · simp only [Instr.lookup, Sem.run_bind, run_under w hu, Result.andThen_ok, Sem.run_pure, hck, hfk, found, run_zeroValue w hi hz]
        · simp only [Instr.lookup, Sem.run_bind, run_under w hu, Result.andThen_ok, Sem.run_pure, run_getMap hb, hck, hfk, found, run_zeroValue w hi hz]
      · cases h
  · cases h

theorem sim_lookup {T : TypeId} {m key : Operand} {ok : Bool} (ho : o.op = .lookup T m key ok) (h : opC C fr S o k = some r) (hR : Rel C.P w S.hp β) (hF : FRel N w S.bx β lam fr a) : Step C.P N w S β lam fr a o k r := by
  simp only [opC, ho] at h
  obtain ⟨mv, hmv, h1⟩ := evV_inv hR hF h
  clear h
  obtain ⟨kv, hkv, h2⟩ := evV_inv hR hF h1
  clear h1
  obtain ⟨kt, et, d, i, z, hu, hd, hi, hz, hzc, h3⟩ := mapC_inv h2
  clear h2
  unfold pLook at h3
  split at h3
  · rename_i v b hl
    obtain ⟨v', hv, hrun⟩ := look_ok hR hu hd hi hz hzc hmv hkv hl
    have hrun := hrun ok
    cases ok with
    | true =>
      refine Step.val hR hF h3 (v' := .tuple #[v', .bool b]) ?_ (tuple_iff.2 ⟨_, rfl, LRel.cons hv (LRel.cons (.bool b) (LRel.nil _))⟩)
      simp only [execOp, ho, Sem.run_bind, hrun, Result.andThen_ok, Sem.run_pure, if_true]
    | false =>
      refine Step.val hR hF h3 (v' := v') ?_ hv
      simp only [execOp, ho, Sem.run_bind, hrun, Result.andThen_ok, Sem.run_pure, Bool.false_eq_true, if_false]
  · cases h3

theorem upd_ok {P : Program} {H H' : Hp} (hR : Rel P w H β) {T kt et : TypeId} {d : TypeDesc} (hu : P.underlying T = some (.map kt et)) (hd : P.underlying kt = some d)
    {m key v m' key' v' : Value} (hm : VRel β m m') (hk : VRel β key key') (hv : VRel β v v') (h : updV P kt m key v H = some H') :
    ∃ w', (Instr.mapUpdate T m' key' v').run P w = .ok () w' ∧ Rel P w' H' β ∧ Ext w.heap.size w H β w' H' β := by
  unfold updV at h
  split at h
  · rename_i hsh
    split at h
    · rename_i i
      split at h
      · rename_i kv hg
        cases hm with
        | map _ x hx =>
        obtain ⟨x', hx', es, clock, h1, h2, h3⟩ := hR.maps i kv hg
        rw [hx] at hx'; cases hx'
        have hck := checkKey_ok (P := P) (β := β) false 20 10000 kt key key' w (by omega) hsh hk
        split at h
        · rename_i j u hf
          split at h
          · rename_i k0 u0 hk0
            split at h
            · rename_i hsb
              cases h
              have hfk := findKey_ok (w := w) hd hk hf h2
              have hjl : j < es.toList.length := by rw [← h2.1]; exact (List.getElem?_eq_some_iff.1 hk0).1
              have hjs : j < es.size := by simpa using hjl
              have hej := h2.2 j k0 u0 es.toList[j] hk0 (by simp)
              have hsb' := sameBits_ok 10000 k0 key _ key' hsb hej.1 hk
              have hent : es[j]? = some es[j] := by simp [hjs]
              obtain ⟨g1, g2⟩ := hR.setMap hg hx (kv' := setAt kv j key v) (es' := es.modify j fun e => { e with key := key', val := v' }) (clock' := clock) (by
                refine ⟨by simp [setAt]; have := h2.1; simpa using this, fun q k2 v2 e2 hq he => ?_⟩
                simp only [setAt, List.getElem?_set] at hq
                rw [Array.getElem?_toList, Array.getElem?_modify] at he
                by_cases hqj : j = q
                · subst hqj
                  rw [if_pos rfl, hent] at he
                  have hkl : j < kv.length := (List.getElem?_eq_some_iff.1 hk0).1
                  rw [if_pos rfl, if_pos hkl] at hq
                  cases hq; cases he
                  exact ⟨hk, hv⟩
                · rw [if_neg hqj] at hq he
                  exact h2.2 q k2 v2 e2 hq (by simpa using he)) (by
                intro e he
                obtain ⟨q, hq, rfl⟩ := List.getElem_of_mem he
                have hq' : q < es.size := by simpa using hq
                have : (es.modify j fun e => { e with key := key', val := v' }).toList[q].born = es[q].born := by
                  simp only [Array.getElem_toList, Array.getElem_modify]
                  split <;> rfl
                rw [this]
                exact h3 _ (by simp))
              refine ⟨_, ?_, g1, g2⟩
              simp only [Instr.mapUpdate, Sem.run_bind, run_under w hu, Result.andThen_ok, run_getMap h1, hck, hfk, found, Nat.sub_zero]
              have he2 : es.toList[j]? = some es.toList[j] := by simp
              rw [he2]
              simp only [Option.map_some, hent, Option.getD_some, Instr.keyThatStays]
              have hsb2 : Instr.sameBits 10000 es[j].key key' = true := by simpa using hsb'
              simp only [hsb2, if_true, Sem.run_bind, Sem.run_pure, Result.andThen_ok, run_setMap h1]
            · cases h
          · cases h
        · rename_i hf
          cases h
          have hfk := findKey_ok (w := w) hd hk hf h2
          obtain ⟨g1, g2⟩ := hR.setMap hg hx (kv' := kv ++ [(key, v)]) (es' := es.push { key := key', val := v', born := clock }) (clock' := clock + 1) (by
            refine ⟨by simp; have := h2.1; simpa using this, fun q k2 v2 e2 hq he => ?_⟩
            have hl := h2.1
            simp only [Array.toList_push] at he
            by_cases hqn : q < kv.length
            · rw [List.getElem?_append_left hqn] at hq
              rw [List.getElem?_append_left (by omega)] at he
              exact h2.2 q k2 v2 e2 hq he
            · rw [List.getElem?_append_right (by omega)] at hq
              rw [List.getElem?_append_right (by omega), ← hl] at he
              have hq0 : q - kv.length = 0 := by
                have := (List.getElem?_eq_some_iff.1 hq).1
                simp at this; omega
              rw [hq0] at hq he
              cases hq; cases he
              exact ⟨hk, hv⟩) (by
            intro e he
            simp only [Array.toList_push, List.mem_append, List.mem_singleton] at he
            rcases he with he | rfl
            · have := h3 e he; omega
            · exact Nat.lt_succ_self _)
          refine ⟨_, ?_, g1, g2⟩
          simp only [Instr.mapUpdate, Sem.run_bind, run_under w hu, Result.andThen_ok, run_getMap h1, hck, hfk, found, run_setMap h1]
        · cases h
      · cases h
    · cases h
  · cases h

theorem sim_mapUpdate {T : TypeId} {m key x : Operand} (ho : o.op = .mapUpdate T m key x ∨ o.op = .insert T m key x) (hN : N ≤ w.heap.size) (h : opC C fr S o k = some r) (hR : Rel C.P w S.hp β) (hF : FRel N w S.bx β lam fr a) :
    Step C.P N w S β lam fr a o k r := by
  have h' : sV (ev C.P.globals.size fr m) (fun m => sV (ev C.P.globals.size fr key) fun key => sV (ev C.P.globals.size fr x) fun x => mapC C.P T fun kt _ => pUpd C.P kt m key x S.hp fun H => k .unk ⟨S.bx, H⟩) = some r := by
    rcases ho with ho | ho <;> simpa only [opC, ho] using h
  obtain ⟨mv, hmv, h1⟩ := evV_inv hR hF h'
  clear h h'
  obtain ⟨kv, hkv, h2⟩ := evV_inv hR hF h1
  clear h1
  obtain ⟨vv, hvv, h3⟩ := evV_inv hR hF h2
  clear h2
  obtain ⟨kt, et, d, i, z, hu, hd, hi, hz, hzc, h4⟩ := mapC_inv h3
  clear h3
  unfold pUpd at h4
  split at h4
  · rename_i H' hup
    obtain ⟨w', hrun, g1, g2⟩ := upd_ok hR hu hd hmv hkv hvv hup
    refine Step.heap hN hR hF h4 (.inr ⟨?_, rfl⟩) g1 g2 trivial
    rcases ho with ho | ho <;> simp only [execOp, ho, Sem.run_bind, hrun, Result.andThen_ok, Sem.run_pure]
  · cases h4
end
end Go.AM
/- The abstract machine: builtins, ranges over strings, calls; every operation. -/
set_option linter.unusedVariables false
namespace Go.AM
open Go

section
variable {α : Type} {C : Ctx} {N : Nat} {w : World} {S : St} {β : Bt} {lam : Nat → Nat} {fr : Fr} {a : Act} {o : Oper} {k : Slot → St → Option α} {r : α}

theorem len_ok {P : Program} {H : Hp} (hR : Rel P w H β) {t ty : TypeId} {d : TypeDesc} {q : LenK} (hu : P.underlying t = some d) (hd : lenK d = some q) {x x' v : Value} (hx : VRel β x x') (h : lenV q x H = some v) :
    (Builtin.len_ #[t] ty #[x']).run P w = .ok v w ∧ VRel β v v := by
  unfold lenV at h
  split at h
  · cases h; cases hx
    refine ⟨?_, .int _ _⟩
    cases d <;> cases hd
    simp [Builtin.len_, run_under w hu, goInt]
  · cases h
    refine ⟨?_, .int _ _⟩
    cases d <;> cases hd
    cases hx <;> simp [Builtin.len_, run_under w hu, goInt]
  · cases h; cases hx
    refine ⟨?_, .int _ _⟩
    cases d <;> cases hd
    simp [Builtin.len_, run_under w hu, goInt]
  · rename_i i
    split at h
    · rename_i kv hg
      cases h
      cases hx with
      | map _ x hx =>
      obtain ⟨x', hx', es, clock, h1, h2, h3⟩ := hR.maps i kv hg
      rw [hx] at hx'; cases hx'
      refine ⟨?_, .int _ _⟩
      have hl := h2.1
      simp only [Array.length_toList] at hl
      cases d <;> cases hd
      simp [Builtin.len_, run_under w hu, goInt, run_getMap h1, hl]
    · cases h
  · cases h

theorem copy_ok {P : Program} {H H' : Hp} (hR : Rel P w H β) {t u ty e : TypeId} {i : TypeInfo} (hu : P.underlying t = some (.slice e)) (hi : P.info? e = some i)
    {d x d' x' v : Value} (hd : VRel β d d') (hx : VRel β x x') (h : copyV i.size d x H = some (v, H')) :
    ∃ w', (Builtin.copy_ #[t, u] ty #[d', x']).run P w = .ok v w' ∧ Rel P w' H' β ∧ Ext w.heap.size w H β w' H' β ∧ VRel β v v := by
  unfold copyV at h
  split at h
  · rename_i m new hsrc
    cases h
    cases hd
    obtain ⟨hlen, hnl, hfc⟩ := src_ok hR hsrc hx
    obtain ⟨l', hfr, hfrel⟩ := hfc 0 (Nat.zero_le _)
    refine ⟨w, ?_, hR, Ext.refl _ _ _ _, .int _ _⟩
    simp [Builtin.copy_, run_under w hu, hlen, run_sizeOf w hi, hfr, goInt]
  · rename_i m new i0 o z n c hsrc
    split at h
    · cases h
    · rename_i hz
      have hz : z = i.size := by omega
      subst hz
      split at h
      · rename_i cs hg
        split at h
        · rename_i hc
          cases h
          obtain ⟨hlen, hnl, hfc⟩ := src_ok hR hsrc hx
          obtain ⟨l', hfr, hfrel⟩ := hfc (min m n) (Nat.min_le_left _ _)
          cases hd with
          | slice _ _ _ _ _ y o' c' hy hnc hcc ht hoo =>
          obtain ⟨y', hy', h1, h2⟩ := hR.cells i0 cs true hg
          rw [hy] at hy'; cases hy'
          obtain ⟨⟨arr, ety, fz, hh, hsz, hfz⟩, hle⟩ := h2 rfl
          have hll : l'.length = (new.take (min m n * i.size)).length := hfrel.1.symm
          have hmm : min m n * i.size ≤ m * i.size := Nat.mul_le_mul_right _ (Nat.min_le_left _ _)
          have htl : (new.take (min m n * i.size)).length = min m n * i.size := by rw [List.length_take, hnl]; omega
          have hall : (new.take (min m n * i.size)).all one = true := by
            rw [List.all_eq_true] at hc ⊢
            intro q hq; exact hc.2 q (List.mem_of_mem_take hq)
          by_cases h0 : min m n * i.size = 0
          · have hl0 : l' = [] := List.length_eq_zero_iff.1 (by omega)
            subst hl0
            have hn0 : new.take (min m n * i.size) = [] := List.length_eq_zero_iff.1 (by omega)
            have hspl : spl cs o (new.take (min m n * i.size)) = cs := by rw [hn0]; simp [spl]
            have hset : H.set i0 (some (.cells cs true)) = H := by
              unfold Hp.set
              have : (fun j => if j = i0 then some (AObj.cells cs true) else H.get j) = H.get := by
                funext j; split
                · rename_i e; rw [e, hg]
                · rfl
              rw [this]
            rw [hspl, hset]
            refine ⟨w, ?_, hR, Ext.refl _ _ _ _, .int _ _⟩
            have hmn : (m.min n) = min m n := rfl
            simp [Builtin.copy_, run_under w hu, hlen, run_sizeOf w hi, hmn, hfr, goInt, storeCells]
          · have hmn0 : 0 < min m n := by rcases Nat.eq_zero_or_pos (min m n) with e | e; · rw [e] at h0; simp at h0
                                          exact e
            have ho' := hoo (by omega)
            subst ho'
            have hcl := hc.1
            obtain ⟨w', hst, hp⟩ := run_storeCells P y.b (y.s + o) arr ety fz (by intro j hj; exact hfz j (by omega)) l' 0 w arr hh rfl (by omega) (all_one hfrel hall)
            obtain ⟨g1, g2⟩ := hR.write hg hy (off := o) (by omega) hfrel (by simpa using hp)
            refine ⟨w', ?_, g1, g2, .int _ _⟩
            have hmn : (m.min n) = min m n := rfl
            simp only [Builtin.copy_, List.getElem?_toArray, List.getElem?_cons_succ, List.getElem?_cons_zero, Sem.run_bind, run_under w hu, Result.andThen_ok, hlen, run_sizeOf w hi, Sem.run_pure, hmn, hfr, hst, goInt]
        · cases h
      · cases h
  · cases h

theorem mm_ok {P : Program} {mx : Bool} {x y z x' y' : Value} (h : mm mx x y = some z) (hx : VRel β x x') (hy : VRel β y y') :
    ((if mx then Builtin.max2 x' y' else Builtin.min2 x' y')).run P w = .ok z w ∧ VRel β z z := by
  unfold mm at h
  split at h
  · cases hx; cases hy; cases h
    refine ⟨?_, .int _ _⟩
    cases mx <;> simp [Builtin.max2, Builtin.min2]
  · cases h
theorem mmL_ok {P : Program} {mx : Bool} : ∀ (ys : List Value) (x z x' : Value) (ys' : List Value), mmL mx x ys = some z → VRel β x x' → LRel β ys ys' →
    ∃ z', (ys'.foldlM (fun a b => if mx then Builtin.max2 a b else Builtin.min2 a b) x').run P w = .ok z' w ∧ VRel β z z'
  | [], x, z, x', ys', h, hx, hl => by
    cases h
    have : ys' = [] := List.length_eq_zero_iff.1 hl.1.symm
    subst this
    exact ⟨x', rfl, hx⟩
  | y :: ys, x, z, x', [], h, hx, hl => by cases hl.1
  | y :: ys, x, z, x', y' :: ys', h, hx, hl => by
    unfold mmL at h
    split at h
    · rename_i u hu
      obtain ⟨h1, h2⟩ := mm_ok (P := P) (w := w) hu hx (hl.2 0 y y' rfl rfl)
      obtain ⟨z', hz, hr⟩ := mmL_ok (P := P) ys u z u ys' h h2 ⟨by simpa using hl.1, fun k a b ha hb => hl.2 (k+1) a b (by simpa using ha) (by simpa using hb)⟩
      exact ⟨z', by simp only [List.foldlM_cons, Sem.run_bind, h1, Result.andThen_ok, hz], hr⟩
    · cases h

theorem del_ok {P : Program} {H H' : Hp} (hR : Rel P w H β) {T kt et t2 ty : TypeId} {d : TypeDesc} (hu : P.underlying T = some (.map kt et)) (hd : P.underlying kt = some d)
    {m key m' key' : Value} (hm : VRel β m m') (hk : VRel β key key') (h : delV P kt m key H = some H') :
    ∃ w', (Builtin.delete_ #[T, t2] ty #[m', key']).run P w = .ok (.tuple #[]) w' ∧ Rel P w' H' β ∧ Ext w.heap.size w H β w' H' β := by
  unfold delV at h
  split at h
  · rename_i hsh
    split at h
    · cases h; cases hm
      have hck := checkKey_ok (P := P) (β := β) true 20 10000 kt key key' w (by omega) hsh hk
      refine ⟨w, ?_, hR, Ext.refl _ _ _ _⟩
      simp [Builtin.delete_, run_under w hu, hck]
    · rename_i i
      split at h
      · rename_i kv hg
        cases hm with
        | map _ x hx =>
        obtain ⟨x', hx', es, clock, h1, h2, h3⟩ := hR.maps i kv hg
        rw [hx] at hx'; cases hx'
        have hck := checkKey_ok (P := P) (β := β) es.isEmpty 20 10000 kt key key' w (by omega) hsh hk
        split at h
        · rename_i j u hf
          cases h
          have hfk := findKey_ok (w := w) hd hk hf h2
          obtain ⟨_, k0, hk0, _⟩ := findT_ge kv 0 j u hf
          simp only [Nat.sub_zero] at hk0
          have hjl : j < es.toList.length := by rw [← h2.1]; exact (List.getElem?_eq_some_iff.1 hk0).1
          have hjs : j < es.size := by simpa using hjl
          have htl : (es.eraseIdxIfInBounds j).toList = es.toList.eraseIdx j := by
            simp [Array.eraseIdxIfInBounds, hjs, Array.toList_eraseIdx]
          obtain ⟨g1, g2⟩ := hR.setMap hg hx (kv' := kv.eraseIdx j) (es' := es.eraseIdxIfInBounds j) (clock' := clock) (by
            rw [htl]
            refine ⟨by simp only [List.length_eraseIdx]; rw [h2.1], fun q k2 v2 e2 hq he => ?_⟩
            rw [List.getElem?_eraseIdx] at hq he
            split at hq
            · rename_i hc; rw [if_pos hc] at he; exact h2.2 q k2 v2 e2 hq he
            · rename_i hc; rw [if_neg hc] at he; exact h2.2 _ k2 v2 e2 hq he) (by
            rw [htl]
            intro e he
            exact h3 e (List.mem_of_mem_eraseIdx he))
          refine ⟨_, ?_, g1, g2⟩
          have he2 : es.toList[j]? = some es.toList[j] := by simp
          simp [Builtin.delete_, run_under w hu, run_getMap h1, hck, hfk, found, hjs, run_setMap h1]
        · rename_i hf
          cases h
          have hfk := findKey_ok (w := w) hd hk hf h2
          have hset : H.set i (some (.map kv)) = H := by
            unfold Hp.set
            have : (fun j => if j = i then some (AObj.map kv) else H.get j) = H.get := by
              funext j; split
              · rename_i e; rw [e, hg]
              · rfl
            rw [this]
          obtain ⟨g1, g2⟩ := hR.setMap hg hx (kv' := kv) (es' := es) (clock' := clock) h2 h3
          rw [hset] at g1 g2
          refine ⟨_, ?_, g1, g2⟩
          simp [Builtin.delete_, run_under w hu, run_getMap h1, hck, hfk, found, run_setMap h1]
        · cases h
      · cases h
    · cases h
  · cases h
end
end Go.AM
/- The abstract machine: builtins as operations, ranges over strings. -/
set_option linter.unusedVariables false
namespace Go.AM
open Go

section
variable {α : Type} {C : Ctx} {N : Nat} {w : World} {S : St} {β : Bt} {lam : Nat → Nat} {fr : Fr} {a : Act} {o : Oper} {k : Slot → St → Option α} {r : α}

theorem arr1 {γ : Type} {A : Array γ} {x : γ} (h : A.toList = [x]) : A = #[x] := by cases A; simp at h; subst h; rfl
theorem arr2 {γ : Type} {A : Array γ} {x y : γ} (h : A.toList = [x, y]) : A = #[x, y] := by cases A; simp at h; subst h; rfl
theorem lrel1 {β : Bt} {x : Value} {l : List Value} (h : LRel β [x] l) : ∃ x', l = [x'] ∧ VRel β x x' := by
  match l, h with
  | [y], h => exact ⟨y, rfl, h.2 0 x y rfl rfl⟩
  | [], h => cases h.1
  | _ :: _ :: _, h => cases h.1
theorem lrel2 {β : Bt} {x y : Value} {l : List Value} (h : LRel β [x, y] l) : ∃ x' y', l = [x', y'] ∧ VRel β x x' ∧ VRel β y y' := by
  match l, h with
  | [u, v], h => exact ⟨u, v, rfl, h.2 0 x u rfl rfl, h.2 1 y v rfl rfl⟩
  | [], h => cases h.1
  | [_], h => cases h.1
  | _ :: _ :: _ :: _, h => cases h.1
theorem map_toList {A : Array Operand} {f : Operand → Value} {l : List Value} (h : A.toList.map f = l) : A.map f = l.toArray := by
  cases A; simp at h ⊢; exact h

theorem sim_builtin {c : Call} {b : Builtin} (ho : o.op = .call c) (hc : c.callee = .builtin b) (hN : N ≤ w.heap.size) (h : opC C fr S o k = some r) (hR : Rel C.P w S.hp β) (hF : FRel N w S.bx β lam fr a) : Step C.P N w S β lam fr a o k r := by
  simp only [opC, ho, hc] at h
  obtain ⟨vs, hvs, h1⟩ := evs_inv hR hF _ h
  clear h
  generalize hl : List.map a.eval c.args.toList = l at hvs
  have hl' := map_toList hl
  split at h1
  · rename_i x t htl
    obtain ⟨x', rfl, hx⟩ := lrel1 hvs
    have hat := arr1 htl
    split at h1
    · rename_i d hd
      split at h1
      · rename_i q hq
        unfold pLen at h1
        split at h1
        · rename_i v hv
          obtain ⟨hrun, hvv⟩ := len_ok (ty := o.type) hR hd hq hx hv
          refine Step.val hR hF h1 (v' := v) ?_ hvv
          simp only [execOp, ho, resolve, hc, hl', hat, Sem.run_bind, Sem.run_pure, Result.andThen_ok, invoke, builtin, hrun]
        · cases h1
      · cases h1
    · cases h1
  · rename_i s x t u htl
    obtain ⟨s', x', rfl, hs, hx⟩ := lrel2 hvs
    have hat := arr2 htl
    obtain ⟨e, i, z, hu, hi, hz, h0, hb0, hzl, _, _, h2⟩ := sliceC_inv h1
    clear h1
    have key : ∀ du, C.P.underlying u = some du → ((∃ q, du = .slice q) ∨ du = .string) → pAppendG (gtOf C.P C.O t) i.size i.bytes s x S.hp (fun v H => k (.val v) ⟨S.bx, H⟩) = some r → Step C.P N w S β lam fr a o k r := by
      intro du hdu hdu' h3
      unfold pAppendG at h3
      split at h3
      · rename_i e' hg
        have hee : e' = e := by
          unfold gtOf at hg
          rw [hu] at hg
          dsimp only at hg
          split at hg <;> cases hg
          rfl
        subst hee
        unfold pAppendT at h3
        split at h3
        · rename_i v H' hap
          obtain ⟨v', w', β', hrun, g1, g2, g3, g4⟩ := append_ok (ty := o.type) hR hu hi hz h0 hb0 hzl hdu hdu' hs hx hap
          have hrun' : (execOp a.eval o).run C.P w = .ok (.value v') w' := by
            simp only [execOp, ho, resolve, hc, hl', hat, Sem.run_bind, Sem.run_pure, Result.andThen_ok, invoke, builtin, hrun]
          unfold markA at h3
          split at h3
          · rename_i hm
            rw [Bool.and_eq_true] at hm
            exact Step.heap (v' := v') hN hR hF h3 (.inl hrun') (g1.mark (g4 (Nat.eq_of_beq_eq_true hm.1) hm.2)) (g2.mark _ _) g3
          · exact Step.heap (v' := v') hN hR hF h3 (.inl hrun') g1 g2 g3
        · cases h3
      · unfold pAppend at h3
        split at h3
        · rename_i v H' hap
          obtain ⟨v', w', β', hrun, g1, g2, g3, g4⟩ := append_ok (ty := o.type) hR hu hi hz h0 hb0 hzl hdu hdu' hs hx hap
          refine Step.heap (v' := v') hN hR hF h3 (.inl ?_) g1 g2 g3
          simp only [execOp, ho, resolve, hc, hl', hat, Sem.run_bind, Sem.run_pure, Result.andThen_ok, invoke, builtin, hrun]
        · cases h3
    split at h2
    · rename_i q hq; exact key _ hq (.inl ⟨q, rfl⟩) h2
    · rename_i hq; exact key _ hq (.inr rfl) h2
    · cases h2
  · rename_i s x t u htl
    obtain ⟨s', x', rfl, hs, hx⟩ := lrel2 hvs
    have hat := arr2 htl
    obtain ⟨e, i, z, hu, hi, hz, h0, hb0, hzl, _, _, h2⟩ := sliceC_inv h1
    clear h1
    unfold pCopy at h2
    split at h2
    · rename_i v H' hap
      obtain ⟨w', hrun, g1, g2, g3⟩ := copy_ok (u := u) (ty := o.type) hR hu hi hs hx hap
      refine Step.heap (v' := v) hN hR hF h2 (.inl ?_) g1 g2 g3
      simp only [execOp, ho, resolve, hc, hl', hat, Sem.run_bind, Sem.run_pure, Result.andThen_ok, invoke, builtin, hrun]
    · cases h2
  · unfold pMM at h1
    split at h1
    · cases h1
    · rename_i x rest
      split at h1
      · rename_i v hv
        match l, hvs with
        | x' :: rest', hvs =>
        obtain ⟨z', hrun, hr⟩ := mmL_ok (P := C.P) (w := w) rest x v x' rest' hv (hvs.2 0 _ _ rfl rfl) ⟨by simpa using hvs.1, fun k a b ha hb => hvs.2 (k+1) a b (by simpa using ha) (by simpa using hb)⟩
        simp only [if_true] at hrun
        refine Step.val hR hF h1 (v' := z') ?_ hr
        simp only [execOp, ho, resolve, hc, hl', Sem.run_bind, Sem.run_pure, Result.andThen_ok, invoke, builtin, Builtin.max_, hrun]
      · cases h1
  · unfold pMM at h1
    split at h1
    · cases h1
    · rename_i x rest
      split at h1
      · rename_i v hv
        match l, hvs with
        | x' :: rest', hvs =>
        obtain ⟨z', hrun, hr⟩ := mmL_ok (P := C.P) (w := w) rest x v x' rest' hv (hvs.2 0 _ _ rfl rfl) ⟨by simpa using hvs.1, fun k a b ha hb => hvs.2 (k+1) a b (by simpa using ha) (by simpa using hb)⟩
        simp only [Bool.false_eq_true, if_false] at hrun
        refine Step.val hR hF h1 (v' := z') ?_ hr
        simp only [execOp, ho, resolve, hc, hl', Sem.run_bind, Sem.run_pure, Result.andThen_ok, invoke, builtin, Builtin.min_, hrun]
      · cases h1
  · rename_i m key T t2 htl
    obtain ⟨m', key', rfl, hm, hk⟩ := lrel2 hvs
    have hat := arr2 htl
    obtain ⟨kt, et, d, i, z, hu, hd, hi, hz, hzc, h2⟩ := mapC_inv h1
    clear h1
    unfold pDel at h2
    split at h2
    · rename_i H' hdel
      obtain ⟨w', hrun, g1, g2⟩ := del_ok (t2 := t2) (ty := o.type) hR hu hd hm hk hdel
      refine Step.heap (v' := .tuple #[]) hN hR hF h2 (.inl ?_) g1 g2 (tuple_iff.2 ⟨_, rfl, LRel.nil _⟩)
      simp only [execOp, ho, resolve, hc, hl', hat, Sem.run_bind, Sem.run_pure, Result.andThen_ok, invoke, builtin, hrun]
    · cases h2
  · cases h1

theorem sim_range {T : TypeId} {x : Operand} (ho : o.op = .range T x) (hN : N ≤ w.heap.size) (h : opC C fr S o k = some r) (hR : Rel C.P w S.hp β) (hF : FRel N w S.bx β lam fr a) : Step C.P N w S β lam fr a o k r := by
  simp only [opC, ho] at h
  obtain ⟨v, hv, h1⟩ := evV_inv hR hF h
  clear h
  split at h1
  · rename_i d hT hd
    split at h1
    · cases h1
    · rename_i hb
      unfold pStrC at h1
      split at h1
      · rename_i s
        generalize hq : a.eval x = q at hv
        cases hv
        obtain ⟨g1, g2, g3, g4⟩ := new_box hN hR hF hb (.iter s 0) (.stringIter s 0) (fun w' hw' => hw')
        refine ⟨_, _, w.alloc (.stringIter s 0), .pointer (some ⟨w.heap.size, 0, none⟩), β, _, h1, .inl ?_, g1, g2, ⟨by simp [St.setB], by rw [g4]⟩, g3, BMv.new hb⟩
        simp only [execOp, ho, hq, Instr.range, Sem.run_bind, run_under w hT, Result.andThen_ok, Sem.run_pure, run_newObj, World.alloc]
      · cases h1
  · cases h1

theorem sim_next {x : Operand} (ho : o.op = .next x true) (hN : N ≤ w.heap.size) (h : opC C fr S o k = some r) (hR : Rel C.P w S.hp β) (hF : FRel N w S.bx β lam fr a) : Step C.P N w S β lam fr a o k r := by
  simp only [opC, ho] at h
  have hx := ev_rel hR hF x
  split at h
  · rename_i d he
    rw [he] at hx
    have hx : a.eval x = .pointer (some ⟨lam d, 0, none⟩) := hx.2
    split at h
    · rename_i s pos hb
      obtain ⟨b1, b2, b3, b4⟩ := hF.box d _ hb
      have b4 : w.heap[lam d]? = some (.stringIter s pos) := b4
      unfold br at h
      split at h
      · rename_i hlt
        have hlt : pos < s.size := Nat.le_of_ble_eq_true hlt
        have hrun : (execOp a.eval o).run C.P w = .ok (.value (.tuple #[.bool true, .int .i64 pos, .int .i32 (Utf8.decode s pos).1])) (World.setObj w (lam d) (.stringIter s (pos + (Utf8.decode s pos).2))) := by
          simp only [execOp, ho, hx, Instr.next, getObj, Go.setObj, Sem.run_bind, Sem.run_pure, Result.andThen_ok]
          simp [Sem.run, b4, hlt, World.setObj, goInt]
        have hoth : ∀ j, j ≠ lam d → (World.setObj w (lam d) (.stringIter s (pos + (Utf8.decode s pos).2))).heap[j]? = w.heap[j]? := fun j hj => setObj_other hj
        have hsz : (World.setObj w (lam d) (.stringIter s (pos + (Utf8.decode s pos).2))).heap.size = w.heap.size := by simp [World.setObj]
        refine ⟨_, _, _, _, β, lam, h, .inl hrun, hR.frame (by rw [hsz]; exact Nat.le_refl _) (fun i x hx => hoth _ (b3 i x hx)), ⟨hF.size, fun q s hs => (hF.slot q s hs).bx (fun q hq => setB_some hb (q := q) rfl q hq), fun q c hq => ?_, fun q q' h1 h2 hne => ?_, hF.defers⟩,
          tuple_iff.2 ⟨_, rfl, LRel.cons (.bool _) (LRel.cons (.int _ _) (LRel.cons (.int _ _) (LRel.nil _)))⟩,
          ⟨rfl, rfl, rfl, by rw [hsz]; exact Nat.le_refl _, Bt.le_refl _, Nat.le_refl _, fun b hb' _ => hoth b (by omega), fun b q => .inr q, fun i x hx hn => by rw [hn] at hx; cases hx⟩, BMv.set (by rw [hb]; exact ⟨_, _, rfl⟩)⟩
        · simp only [St.setB] at hq
          split at hq
          · rename_i e; subst e; cases hq
            exact ⟨b1, by rw [hsz]; exact b2, b3, setObj_same b2⟩
          · rename_i e
            obtain ⟨c1, c2, c3, c4⟩ := hF.box q c hq
            have hne : lam q ≠ lam d := hF.apart q d (by simp [hq]) (by simp [hb]) e
            exact ⟨c1, by rw [hsz]; exact c2, c3, c4.mono (Bt.le_refl _) (hoth _ hne)⟩
        · simp only [St.setB] at h1 h2
          refine hF.apart q q' ?_ ?_ hne
          · split at h1
            · rename_i e; rw [e]; simp [hb]
            · exact h1
          · split at h2
            · rename_i e; rw [e]; simp [hb]
            · exact h2
      · rename_i hlt
        have hlt : ¬ pos < s.size := Nat.not_le_of_not_ble_eq_true (by unfold Nat.blt at hlt; rw [hlt]; exact Bool.false_ne_true)
        have hrun : (execOp a.eval o).run C.P w = .ok (.value (.tuple #[.bool false])) w := by
          simp only [execOp, ho, hx, Instr.next, getObj, Sem.run_bind, Sem.run_pure, Result.andThen_ok]
          simp [Sem.run, b4, hlt]
        exact Step.val hR hF h hrun (tuple_iff.2 ⟨_, rfl, LRel.cons (.bool _) (LRel.nil _)⟩)
    · cases h
  · cases h
end
end Go.AM
/- The abstract machine: one operation is sound; plain regions are. -/
set_option linter.unusedVariables false
namespace Go.AM
open Go

/-- A function that may be entered. -/
def Enters (P : Program) (f : FuncId) : Prop := ∃ fn, P.funcs[f]? = some fn ∧ (fn.name == "runtime.NumGoroutine") = false ∧ fn.body.isNone = false
/-- A call that the model answers at once. -/
def XT (P : Program) (f : FuncId) (args : List Value) (v : Value) : Prop := ∀ args' β w, LRel β args args' → ∃ v', VRel β v v' ∧ (callFunc f args'.toArray).run P w = .ok (.value v') w
def XtC (P : Program) (xt : FuncId → Option (List Value → Option Value)) : Prop := ∀ f e, xt f = some e → ∀ args v, e args = some v → XT P f args v
/-- What a handler says of calls is so. -/
def SimC (P : Program) (h : Handler) : Prop := ∀ f args H v H', h f args H = some (v, H') → (Enters P f ∧ ∀ args' w β, LRel β args args' → Rel P w H β →
  Calls P f args'.toArray w fun e w' => ∃ v' β', e = .returned v' ∧ Rel P w' H' β' ∧ Ext w.heap.size w H β w' H' β' ∧ VRel β' v v') ∨ (H' = H ∧ (∃ fn, P.funcs[f]? = some fn ∧ fn.body = none) ∧ XT P f args v)

theorem callFunc_run {P : Program} {f : FuncId} (h : Enters P f) (args : Array Value) (w : World) : (callFunc f args).run P w = .ok (.enter f args) w := by
  obtain ⟨fn, h1, h2, h3⟩ := h
  simp only [callFunc, Sem.run_bind]
  show ((Sem.program Sem.pure : Sem Program).run P w).andThen _ = _
  have h2a : ¬ fn.name = "runtime.NumGoroutine" := by simpa using h2
  have h3a : ¬ fn.body = none := by intro e; rw [e] at h3; cases h3
  simp [Sem.run, h1, h2a, h3a]

section
variable {α : Type} {C : Ctx} {N : Nat} {w : World} {S : St} {β : Bt} {lam : Nat → Nat} {fr : Fr} {a : Act} {o : Oper} {k : Slot → St → Option α} {r : α}

theorem Step.wp (h : Step C.P N w S β lam fr a o k r) (hN : N ≤ w.heap.size) {next : Act → World → Prop} {Q : Exit → Act → World → Prop}
    (hnext : ∀ s S' w' v' β' lam', k s S' = some r → Rel C.P w' S'.hp β' → FRel N w' S'.bx β' lam' fr a → SRel β' lam' S'.bx s v' → Ext N w S.hp β w' S'.hp β' → BMv S.bx lam S'.bx lam' → next (a.put o.dst v') w') : o.wp C.P a w next Q := by
  obtain ⟨s, S', w', v', β', lam', h1, h2, h3, h4, h5, h6, h7⟩ := h
  have := hnext s S' w' v' β' lam' h1 h3 h4 h5 h6 h7
  unfold Oper.wp
  rcases h2 with h2 | ⟨h2, rfl⟩
  · rw [h2]; exact this
  · rw [h2]; exact this

theorem call_sound (hh : SimC C.P C.h) {c : Call} {fo : Operand} (ho : o.op = .call c) (hc : c.callee = .value fo) (hN : N ≤ w.heap.size) (h : opC C fr S o k = some r) (hR : Rel C.P w S.hp β) (hF : FRel N w S.bx β lam fr a)
    {next : Act → World → Prop} {Q : Exit → Act → World → Prop}
    (hnext : ∀ s S' w' v' β' lam', k s S' = some r → Rel C.P w' S'.hp β' → FRel N w' S'.bx β' lam' fr a → SRel β' lam' S'.bx s v' → Ext N w S.hp β w' S'.hp β' → BMv S.bx lam S'.bx lam' → next (a.put o.dst v') w') : o.wp C.P a w next Q := by
  simp only [opC, ho, hc] at h
  obtain ⟨fv, hfv, h1⟩ := evV_inv hR hF h
  clear h
  obtain ⟨vs, hvs, h2⟩ := evs_inv hR hF _ h1
  clear h1
  unfold pCall at h2
  split at h2
  · rename_i g first captured
    generalize hq : a.eval fo = q at hfv
    obtain ⟨first⟩ := first
    obtain ⟨captured⟩ := captured
    cases hfv with
    | func fn fs fs' cs cs' hl hh1 hl2 hh2 =>
    unfold pCallF at h2
    split at h2
    · rename_i v H' hcall
      have hargs : LRel β (first ++ (vs ++ captured)) (fs' ++ (List.map a.eval c.args.toList ++ cs')) :=
        LRel.append ⟨hl, hh1⟩ (LRel.append hvs ⟨hl2, hh2⟩)
      rcases hh _ _ _ _ _ hcall with ⟨hen, hcalls⟩ | ⟨rfl, _, hxt⟩
      case inr =>
        obtain ⟨v', hv', hcf⟩ := hxt _ β w hargs
        have hrun : (execOp a.eval o).run C.P w = .ok (.value v') w := by
          have e1 : (fs'.toArray ++ (Array.map a.eval c.args) ++ cs'.toArray) = (fs' ++ (List.map a.eval c.args.toList ++ cs')).toArray := by
            apply Array.ext'
            simp
          simp only [execOp, ho, resolve, hc, hq, Deferred.ofValue, Sem.run_bind, Sem.run_pure, Result.andThen_ok, invoke]
          first | exact hcf | (rw [e1]; exact hcf) | (simpa using hcf)
        unfold Oper.wp
        rw [hrun]
        exact hnext (.val v) ⟨S.bx, S.hp⟩ w v' β lam h2 hR hF hv' (Ext.refl _ _ _ _) (BMv.refl _ _)
      have := hcalls _ w β hargs hR
      have hrun : (execOp a.eval o).run C.P w = .ok (.enter g (fs' ++ (List.map a.eval c.args.toList ++ cs')).toArray) w := by
        simp only [execOp, ho, resolve, hc, hq, Deferred.ofValue, Sem.run_bind, Sem.run_pure, Result.andThen_ok, invoke, callFunc_run hen]
        congr 2
        apply Array.ext'
        simp
      unfold Oper.wp
      rw [hrun]
      refine Calls.mono this fun e w' he => ?_
      obtain ⟨v', β', rfl, g1, g2, g3⟩ := he
      exact hnext (.val v) ⟨S.bx, H'⟩ w' v' β' lam h2 g1 (hF.ext hR.has g2) g3 (g2.weaken hN) (BMv.refl _ _)
    · cases h2
  · cases h2

theorem op_sound (hh : SimC C.P C.h) (hN : N ≤ w.heap.size) (h : opC C fr S o k = some r) (hR : Rel C.P w S.hp β) (hF : FRel N w S.bx β lam fr a)
    {next : Act → World → Prop} {Q : Exit → Act → World → Prop}
    (hnext : ∀ s S' w' v' β' lam', k s S' = some r → Rel C.P w' S'.hp β' → FRel N w' S'.bx β' lam' fr a → SRel β' lam' S'.bx s v' → Ext N w S.hp β w' S'.hp β' → BMv S.bx lam S'.bx lam' → next (a.put o.dst v') w') : o.wp C.P a w next Q := by
  have none_of : ∀ {x : Option α}, x = none → x = some r → False := fun h1 h2 => by rw [h1] at h2; cases h2
  cases ho : o.op with
  | move x => exact (sim_move (.inl ho) h hR hF).wp hN hnext
  | assign x => exact (sim_move (.inr ho) h hR hF).wp hN hnext
  | pick c x y => exact (sim_pick ho h hR hF).wp hN hnext
  | alloc T => exact (sim_alloc ho hN h hR hF).wp hN hnext
  | box T x => exact (sim_box ho hN h hR hF).wp hN hnext
  | build T p => exact (sim_build ho h hR hF).wp hN hnext
  | buildSlice T n p => exact (sim_buildSlice ho hN h hR hF).wp hN hnext
  | insert T m x y => exact (sim_mapUpdate (.inr ho) hN h hR hF).wp hN hnext
  | load T x => exact (sim_load ho h hR hF).wp hN hnext
  | store T x y => exact (sim_store ho hN h hR hF).wp hN hnext
  | nilCheck x => exact (sim_nil ho h hR hF).wp hN hnext
  | binOp op T x y T' => exact (sim_binOp ho h hR hF).wp hN hnext
  | unOp op T x => exact (sim_unOp ho h hR hF).wp hN hnext
  | convert s d x => exact (sim_convert ho hN h hR hF).wp hN hnext
  | makeFunc f p q => exact (sim_makeFunc ho h hR hF).wp hN hnext
  | makeMap T x =>
    cases x with
    | none => exact (sim_makeMap ho hN h hR hF).wp hN hnext
    | some x => simp [opC, ho] at h
  | makeSlice T l c => exact (sim_makeSlice ho hN h hR hF).wp hN hnext
  | slice T x lo hi mx =>
    cases mx with
    | none => exact (sim_slice ho h hR hF).wp hN hnext
    | some m => simp [opC, ho] at h
  | fieldAddr T x f => exact (sim_fieldAddr ho h hR hF).wp hN hnext
  | field T x f => exact (sim_field ho h hR hF).wp hN hnext
  | indexAddr T x i => exact (sim_indexAddr ho h hR hF).wp hN hnext
  | index T x i => exact (sim_index ho h hR hF).wp hN hnext
  | lookup T x i ok => exact (sim_lookup ho h hR hF).wp hN hnext
  | mapUpdate T m x y => exact (sim_mapUpdate (.inl ho) hN h hR hF).wp hN hnext
  | range T x => exact (sim_range ho hN h hR hF).wp hN hnext
  | next x b =>
    cases b with
    | true => exact (sim_next ho hN h hR hF).wp hN hnext
    | false => simp [opC, ho] at h
  | extract t i => exact (sim_extract ho h hR hF).wp hN hnext
  | call c =>
    cases hc : c.callee with
    | value fo => exact call_sound hh ho hc hN h hR hF hnext
    | invoke x m => simp [opC, ho, hc] at h
    | builtin b => exact (sim_builtin ho hc hN h hR hF).wp hN hnext
  | _ => simp [opC, ho] at h

/-! ### Frames -/
theorem FRel.put (hF : FRel N w S.bx β lam fr a) {s : Slot} {v : Value} (hs : SRel β lam S.bx s v) (d : Option Tmp) : FRel N w S.bx β lam (putS fr d s) (a.put d v) := by
  cases d with
  | none => exact hF
  | some d =>
    refine ⟨by simp [Act.put, putS, hF.size], fun e s' he => ?_, hF.box, hF.apart, hF.defers⟩
    simp only [putS, List.getElem?_set] at he
    simp only [Act.put, Array.getD_eq_getD_getElem?, Array.getElem?_setIfInBounds]
    by_cases hed : d = e
    · subst hed
      rw [if_pos rfl] at he ⊢
      split at he
      · rename_i hlt
        cases he
        rw [if_pos (by rw [hF.size]; exact hlt)]
        exact hs
      · cases he
    · rw [if_neg hed] at he ⊢
      have := hF.slot e s' he
      rw [Array.getD_eq_getD_getElem?] at this
      exact this
end
end Go.AM
/- The abstract machine: plain regions are sound. -/
set_option linter.unusedVariables false
namespace Go.AM
open Go

/-- What holds of a frame and a state, behind a function's entry in world 'w0'. -/
structure Good (P : Program) (w0 : World) (H0 : Hp) (β0 : Bt) (fr : Fr) (S : St) (a : Act) (w : World) (β : Bt) (lam : Nat → Nat) : Prop where
  rel : Rel P w S.hp β
  fr : FRel w0.heap.size w S.bx β lam fr a
  ext : Ext w0.heap.size w0 H0 β0 w S.hp β
/-- Where code has come to, seen from where it began. -/
structure Moved (W : List Nat) (S : St) (a : Act) (β : Bt) (lam : Nat → Nat) (S' : St) (a' : Act) (β' : Bt) (lam' : Nat → Nat) : Prop where
  tmps : ∀ d, d ∉ W → a'.tmps.getD d undef = a.tmps.getD d undef
  size : a'.tmps.size = a.tmps.size
  bx : BMv S.bx lam S'.bx lam'
  le : β.le β'
theorem Moved.refl (W : List Nat) (S : St) (a : Act) (β : Bt) (lam : Nat → Nat) : Moved W S a β lam S a β lam := ⟨fun _ _ => rfl, rfl, BMv.refl _ _, Bt.le_refl _⟩
theorem Moved.trans {W W1 W2 : List Nat} {S1 S2 S3 : St} {a1 a2 a3 : Act} {β1 β2 β3 : Bt} {l1 l2 l3 : Nat → Nat} (h : Moved W1 S1 a1 β1 l1 S2 a2 β2 l2) (k : Moved W2 S2 a2 β2 l2 S3 a3 β3 l3)
    (h1 : ∀ d, d ∉ W → d ∉ W1) (h2 : ∀ d, d ∉ W → d ∉ W2) : Moved W S1 a1 β1 l1 S3 a3 β3 l3 :=
  ⟨fun d hd => (k.tmps d (h2 d hd)).trans (h.tmps d (h1 d hd)), k.size.trans h.size, h.bx.trans k.bx, Bt.le_trans h.le k.le⟩
theorem Moved.put {W : List Nat} {S1 S2 S3 : St} {a1 a2 : Act} {β1 β2 β3 : Bt} {l1 l2 l3 : Nat → Nat} (h : Moved W S1 a1 β1 l1 S2 a2 β2 l2) {d : Option Tmp} (hd : ∀ e, d = some e → e ∈ W) (v : Value)
    (hb : BMv S2.bx l2 S3.bx l3) (hl : β2.le β3) : Moved W S1 a1 β1 l1 S3 (a2.put d v) β3 l3 := by
  refine ⟨fun e he => ?_, ?_, h.bx.trans hb, Bt.le_trans h.le hl⟩
  · rw [← h.tmps e he]
    cases d with
    | none => rfl
    | some d =>
      have hne : d ≠ e := fun q => he (q ▸ hd d rfl)
      simp [Act.put, Array.getD_eq_getD_getElem?, Array.getElem?_setIfInBounds_ne hne]
  · rw [← h.size]; cases d <;> simp [Act.put]
theorem Good.n {P : Program} {w0 : World} {H0 : Hp} {β0 : Bt} {fr : Fr} {S : St} {a : Act} {w : World} {β : Bt} {lam : Nat → Nat} (h : Good P w0 H0 β0 fr S a w β lam) : w0.heap.size ≤ w.heap.size := h.ext.size

section
variable {α : Type} {C : Ctx} {w0 : World} {H0 : Hp} {β0 : Bt} {r : α}

theorem guard_sound {N : Nat} {w : World} {bx : Nat → Option Bx} {β : Bt} {lam : Nat → Nat} {fr : Fr} {a : Act} {ops : List Oper} {o : Oper} {k : Bool → Fr → Option α} (h : guardC ops fr o k = some r) (hF : FRel N w bx β lam fr a) :
    ∃ b fr', k b fr' = some r ∧ FRel N w bx β lam fr' a ∧ Region.wanted o (yielded ops.toArray a.tmps) = b := by
  unfold guardC at h
  split at h
  · rename_i hg
    exact ⟨true, fr, h, hF, by simp [Region.wanted, hg]⟩
  · rename_i j want hg
    split at h
    · rename_i g hj
      split at h
      · rename_i d hd
        have hin : ∀ s, getS fr d = s → s ≠ .unk → fr[d]? = some s ∧ d < a.tmps.size := fun s hs hn => by
          unfold getS at hs
          rw [List.getD_eq_getElem?_getD] at hs
          cases hq : fr[d]? with
          | none => rw [hq] at hs; exact absurd hs.symm hn
          | some s' => rw [hq] at hs; exact ⟨by rw [← hs]; rfl, by rw [hF.size]; exact (List.getElem?_eq_some_iff.1 hq).1⟩
        have hy : ∀ v, d < a.tmps.size → a.tmps.getD d undef = v → yielded ops.toArray a.tmps j = match v with | .bool b => some b | _ => none := fun v hlt hv => by
          have hv' : a.tmps[d]? = some v := by
            rw [Array.getD_eq_getD_getElem?] at hv
            simp [hlt] at hv ⊢; exact hv
          unfold yielded
          simp only [List.getElem?_toArray, hj, Option.bind_some, hd, hv']
          cases v <;> rfl
        split at h
        · rename_i hu
          obtain ⟨h1, h2⟩ := hin _ hu (by simp)
          have h3 : a.tmps.getD d undef = undef := hF.slot d _ h1
          refine ⟨false, fr, h, hF, ?_⟩
          simp only [Region.wanted, hg, hy _ h2 h3]
          rfl
        · obtain ⟨v, hv, h⟩ := sV_inv h
          unfold pBool at h
          split at h
          · rename_i b
            obtain ⟨h1, h2⟩ := hin _ hv (by simp)
            have h3 : VRel β (.bool b) (a.tmps.getD d undef) := hF.slot d _ h1
            generalize hq : a.tmps.getD d undef = q at h3
            cases h3
            have hw : Region.wanted o (yielded ops.toArray a.tmps) = (b == want) := by
              simp only [Region.wanted, hg, hy _ h2 hq]
              cases b <;> cases want <;> rfl
            have hfr : FRel N w bx β lam (fr.set d (.val (.bool b))) a := by
              refine ⟨by simp [hF.size], fun e s' he => ?_, hF.box, hF.apart, hF.defers⟩
              rw [List.getElem?_set] at he
              by_cases hed : d = e
              · subst hed
                rw [if_pos rfl] at he
                split at he
                · cases he; rw [hq]; exact VRel.bool b
                · cases he
              · rw [if_neg hed] at he; exact hF.slot e s' he
            unfold br at h
            cases b with
            | true => exact ⟨want, _, h, hfr, by rw [hw]; cases want <;> rfl⟩
            | false => exact ⟨!want, _, h, hfr, by rw [hw]; cases want <;> rfl⟩
          · cases h
      · cases h
    · cases h

theorem opsC_sound (hh : SimC C.P C.h) {ops : List Oper} {k : Fr → St → Option α} {Q : Exit → Act → World → Prop} {W : List Nat} {S1 : St} {a1 : Act} {β1 : Bt} {l1 : Nat → Nat}
    (hW : ∀ o ∈ ops, ∀ d, o.dst = some d → d ∈ W)
    (hk : ∀ fr S a w β lam, k fr S = some r → Good C.P w0 H0 β0 fr S a w β lam → Moved W S1 a1 β1 l1 S a β lam → Q .normal a w) :
    ∀ (rest : List Oper) (n : Nat) (fr : Fr) (S : St) (a : Act) (w : World) (β : Bt) (lam : Nat → Nat), ops.drop n = rest → opsC C ops k rest fr S = some r → Good C.P w0 H0 β0 fr S a w β lam → Moved W S1 a1 β1 l1 S a β lam →
      wpOps C.P ops.toArray Q (List.range' n rest.length) a w
  | [], n, fr, S, a, w, β, lam, hd, h, hG, hM => by
    simp only [List.length_nil, List.range'_zero, wpOps]
    exact hk fr S a w β lam h hG hM
  | o :: rest, n, fr, S, a, w, β, lam, hd, h, hG, hM => by
    have hn : ops[n]? = some o := by
      have : (ops.drop n)[0]? = some o := by rw [hd]; rfl
      rw [List.getElem?_drop] at this; simpa using this
    have hd' : ops.drop (n + 1) = rest := by rw [← List.drop_drop, hd]; rfl
    have hWo := hW o (List.mem_of_getElem? hn)
    simp only [opsC] at h
    obtain ⟨b, fr', h1, hF', hw⟩ := guard_sound h hG.fr
    simp only [List.length_cons, List.range'_succ, wpOps, List.getElem?_toArray, hn, hw]
    cases b with
    | true =>
      simp only [if_true]
      refine .inl (op_sound hh hG.n h1 hG.rel hF' fun s S' w' v' β' lam' g1 g2 g3 g4 g5 g6 => ?_)
      exact opsC_sound hh hW hk rest (n + 1) _ S' _ w' β' lam' hd' g1 ⟨g2, g3.put g4 _, hG.ext.trans g5⟩ (hM.put hWo _ g6 g5.le)
    | false =>
      simp only [Bool.false_eq_true, if_false]
      exact opsC_sound hh hW hk rest (n + 1) _ S _ w β lam hd' h1 ⟨hG.rel, FRel.put hF' (s := .und) rfl _, hG.ext⟩ (hM.put hWo _ (BMv.refl _ _) (Bt.le_refl _))
end
end Go.AM
/- The abstract machine: results; what is kept at joins. -/
set_option linter.unusedVariables false
namespace Go.AM
open Go

section
variable {α : Type} {C : Ctx} {w0 : World} {H0 : Hp} {β0 : Bt} {r : α}

def resM (tmps : Array Value) (x : ResultVar) : Sem Value :=
  match x with
  | .tmp t => pure (tmps.getD t undef)
  | .cell a t => do loadVar t (← asAddr (tmps.getD a undef))
theorem results_eq (fn : Func) (tmps : Array Value) (P : Program) (w : World) :
    (results fn tmps).run P w = ((fn.results.toList.mapM (resM tmps)).run P w).andThen fun l w' => .ok (if h : l.length = 1 then l[0] else .tuple l.toArray) w' := by
  have : (results fn tmps) = (fn.results.mapM (resM tmps) >>= fun vs => pure (if h : vs.size = 1 then vs[0] else .tuple vs)) := rfl
  rw [this, Array.mapM_eq_mapM_toList]
  simp only [Sem.run_bind, Functor.map, Sem.run_pure]
  have e : ∀ x : Sem (List Value), x.bind (Sem.pure ∘ List.toArray) = (x >>= fun l => pure l.toArray) := fun _ => rfl
  rw [e, Sem.run_bind]
  generalize (List.mapM (resM tmps) fn.results.toList).run P w = q
  cases q with
  | ok l w' => simp only [Result.andThen_ok, Sem.run_pure]; rfl
  | halt x w' => rfl

theorem resV_rel {β : Bt} {vs vs' : List Value} (h : LRel β vs vs') : VRel β (resV vs) (if h : vs'.length = 1 then vs'[0] else .tuple vs'.toArray) := by
  have hl := h.1
  match vs, vs', h, hl with
  | [], [], h, _ => exact tuple_iff.2 ⟨_, rfl, h⟩
  | [v], [v'], h, _ => exact h.2 0 v v' rfl rfl
  | v :: u :: l, v' :: u' :: l', h, _ => exact tuple_iff.2 ⟨_, rfl, h⟩

theorem resC_sound {P : Program} {N : Nat} {w : World} {S : St} {β : Bt} {lam : Nat → Nat} {fr : Fr} {a : Act} (hR : Rel P w S.hp β) (hF : FRel N w S.bx β lam fr a) :
    ∀ (rs : List ResultVar) (k : List Value → Option α), resC P fr S rs k = some r → ∃ vs vs', k vs = some r ∧ LRel β vs vs' ∧ (rs.mapM (resM a.tmps)).run P w = .ok vs' w
  | [], k, h => ⟨[], [], h, LRel.nil _, rfl⟩
  | .tmp t :: rs, k, h => by
    unfold resC at h
    obtain ⟨v, hv, h1⟩ := evV_inv hR hF (x := .tmp t) h
    obtain ⟨vs, vs', h2, h3, h4⟩ := resC_sound hR hF rs _ h1
    refine ⟨v :: vs, a.tmps.getD t undef :: vs', h2, h3.cons hv, ?_⟩
    simp only [List.mapM_cons, Sem.run_bind, resM, Sem.run_pure, Result.andThen_ok, h4]
  | .cell t T :: rs, k, h => by
    unfold resC at h
    obtain ⟨i, d, hi, hd, h⟩ := tyC_inv h
    have hx := ev_rel hR hF (.tmp t)
    have hx : SRel β lam S.bx (getS fr t) (a.tmps.getD t undef) := hx
    split at h
    · rename_i d' off he
      rw [he] at hx
      obtain ⟨_, hx⟩ := hx
      split at h
      · rename_i cs ro hb
        obtain ⟨arr, e, hw, hl⟩ := box_cells hF hb
        unfold pCell at h
        split at h
        · rename_i v hv
          obtain ⟨v', hrun, hrel⟩ := rdCells_ok (s := 0) hi hd (heap_cells hw hl) hv
          rw [Nat.zero_add] at hrun
          obtain ⟨vs, vs', h2, h3, h4⟩ := resC_sound hR hF rs _ h
          refine ⟨v :: vs, v' :: vs', h2, h3.cons hrel, ?_⟩
          simp only [List.mapM_cons, Sem.run_bind, resM, hx, asAddr, Sem.run_pure, Result.andThen_ok, hrun, h4]
        · cases h
      · cases h
    · rename_i p he
      rw [he] at hx
      have hx : VRel β p (a.tmps.getD t undef) := hx
      unfold pLoad at h
      split at h
      · rename_i v hv
        unfold Hp.rdP at hv
        split at hv
        · rename_i i0 off _
          generalize hq : a.tmps.getD t undef = q at hx
          cases hx with
          | ptr _ _ y hy =>
          unfold Hp.rd at hv
          split at hv
          · rename_i cs own hg
            obtain ⟨y', hy', h1, _⟩ := hR.cells i0 cs own hg
            rw [hy] at hy'; cases hy'
            obtain ⟨v', hrun, hrel⟩ := rdCells_ok hi hd h1 hv
            obtain ⟨vs, vs', h2, h3, h4⟩ := resC_sound hR hF rs _ h
            refine ⟨v :: vs, v' :: vs', h2, h3.cons hrel, ?_⟩
            simp only [List.mapM_cons, Sem.run_bind, resM, hq, asAddr, Sem.run_pure, Result.andThen_ok, hrun, h4]
          · rename_i cs e fz hg
            obtain ⟨v', hrun, hrel⟩ := rdFix_ok hR hi hd hg hy hv
            obtain ⟨vs, vs', h2, h3, h4⟩ := resC_sound hR hF rs _ h
            refine ⟨v :: vs, v' :: vs', h2, h3.cons hrel, ?_⟩
            simp only [List.mapM_cons, Sem.run_bind, resM, hq, asAddr, Sem.run_pure, Result.andThen_ok, hrun, h4]
          · cases hv
        · cases hv
      · cases h
    · cases h

/-! ### What is kept -/
theorem saveS_inv {fr : Fr} : ∀ (ks : List Nat) (k : List Value → Option α), saveS fr ks k = some r → ∃ vs, k vs = some r ∧ vs.length = ks.length ∧ ∀ (j d : Nat), ks[j]? = some d → ∃ v, vs[j]? = some v ∧ getS fr d = .val v
  | [], k, h => ⟨[], h, rfl, fun j d hd => by cases hd⟩
  | e :: ks, k, h => by
    unfold saveS at h
    obtain ⟨v, hv, h1⟩ := sV_inv h
    obtain ⟨vs, h2, h3, h4⟩ := saveS_inv ks _ h1
    refine ⟨v :: vs, h2, by simp [h3], fun j d hd => ?_⟩
    cases j with
    | zero => cases hd; exact ⟨v, rfl, hv⟩
    | succ j => exact h4 j d hd
theorem saveB_inv {S : St} : ∀ (ks : List Nat) (k : List Value → Option α), saveB S ks k = some r → ∃ vs, k vs = some r ∧ vs.length = ks.length ∧ ∀ (j d : Nat), ks[j]? = some d → ∃ v, vs[j]? = some v ∧ boxV (S.bx d) some = some v
  | [], k, h => ⟨[], h, rfl, fun j d hd => by cases hd⟩
  | e :: ks, k, h => by
    unfold saveB at h
    have : ∃ v, boxV (S.bx e) some = some v ∧ saveB S ks (fun vs => k (v :: vs)) = some r := by
      unfold boxV at h ⊢
      split at h
      · exact ⟨_, rfl, h⟩
      · exact ⟨_, rfl, h⟩
      · cases h
    obtain ⟨v, hv, h1⟩ := this
    obtain ⟨vs, h2, h3, h4⟩ := saveB_inv ks _ h1
    refine ⟨v :: vs, h2, by simp [h3], fun j d hd => ?_⟩
    cases j with
    | zero => cases hd; exact ⟨v, rfl, hv⟩
    | succ j => exact h4 j d hd
theorem idxOf?_get {d : Nat} : ∀ {l : List Nat} {j : Nat}, l.idxOf? d = some j → l[j]? = some d
  | [], j, h => by cases h
  | e :: l, j, h => by
    rw [List.idxOf?_cons] at h
    split at h
    · rename_i he
      cases h
      have : e = d := by simpa using he
      simp [this]
    · cases hq : l.idxOf? d with
      | none => rw [hq] at h; cases h
      | some i =>
        rw [hq] at h
        have h : i + 1 = j := by simpa using h
        subst h
        have := idxOf?_get hq
        simpa using this
theorem fillS_length (w keep : List Nat) (l : List Value) : ∀ (fr : Fr) (n : Nat), (fillS w keep l fr n).length = fr.length
  | [], n => rfl
  | s :: r, n => by simp [fillS, fillS_length w keep l r (n + 1)]
def fillOne (w keep : List Nat) (l : List Value) (i : Nat) (s : Slot) : Slot :=
  match keep.idxOf? i with
  | some j => .val (l.getD j undef)
  | none => match w.elem i with
    | true => .unk
    | false => s
theorem fillS_get (w keep : List Nat) (l : List Value) : ∀ (fr : Fr) (n d : Nat), (fillS w keep l fr n)[d]? = (fr[d]?).map (fillOne w keep l (n + d))
  | [], n, d => by simp [fillS]
  | s :: r, n, 0 => rfl
  | s :: r, n, d + 1 => by
    simp only [fillS, List.getElem?_cons_succ]
    rw [fillS_get w keep l r (n + 1) d, show n + 1 + d = n + (d + 1) by omega]

/-- What a box's kept value says of it. -/
theorem backBx_rel {w : World} {β : Bt} {b : Nat} {x x' : Option Bx} {v : Value} (hle : BxLe x x') (hv : boxV x' some = some v) {c : Bx} (hc : backBx x v = some c) (h : ∀ c', x' = some c' → BxRel w β b c') : BxRel w β b c := by
  unfold backBx at hc
  split at hc
  · cases hc
    obtain ⟨s, p, rfl⟩ := hle
    cases hv
    exact h _ rfl
  · cases hc
    obtain ⟨cs, rfl⟩ := hle
    cases hv
    exact h _ rfl
  · have : x' = x := by
      unfold BxLe at hle
      split at hle
      · cases hc
      · rename_i hn; exact absurd rfl (hn _)
      · rename_i hn _; exact absurd rfl (hn _ _)
      · exact hle
    exact h c (by rw [this]; exact hc)
theorem backBx_some {x : Option Bx} {v : Value} : (backBx x v).isSome = x.isSome := by
  unfold backBx; split <;> rfl
theorem roBx_some {x : Option Bx} : (roBx x).isSome = x.isSome := by
  unfold roBx; split <;> rfl
end
end Go.AM
/- The abstract machine: code is sound. -/
set_option linter.unusedVariables false
namespace Go.AM
open Go

/-- Regions that draw are sound (shown elsewhere). -/
def DrawS (C : Ctx) : Prop := ∀ {α : Type} {w0 : World} {H0 : Hp} {β0 : Bt} {r : α} {ops : List Oper} {k : Fr → St → Option α} {Q : Exit → Act → World → Prop} {W : List Nat} {S1 : St} {a1 : Act} {β1 : Bt} {l1 : Nat → Nat},
  inOrder C.P C.O C.f ops (ancs ops) = true → (∀ o ∈ ops, ∀ d, o.dst = some d → d ∈ W) →
  (∀ fr S a w β lam, k fr S = some r → Good C.P w0 H0 β0 fr S a w β lam → Moved W S1 a1 β1 l1 S a β lam → Q .normal a w) →
  ∀ fr S a w β lam, drawH C ops k fr S = some r → Good C.P w0 H0 β0 fr S a w β lam → Moved W S1 a1 β1 l1 S a β lam →
    wpAny C.P .any ops.toArray Q ops.length (Array.replicate ops.length false) a w

theorem wr_acc : ∀ (c : Code) (acc : List Nat) (d : Nat), d ∈ wr c acc ↔ d ∈ wr c [] ∨ d ∈ acc
  | .region id ops dr, acc, d => by
    simp only [wr]
    generalize ops.toList = l
    induction l with
    | nil => simp
    | cons o l ih =>
      simp only [List.foldr_cons]
      cases o.dst with
      | none => exact ih
      | some e => simp only [List.mem_cons, ih, or_assoc]
  | .seq a b, acc, d => by simp only [wr]; rw [wr_acc a (wr b acc), wr_acc a (wr b []), wr_acc b acc]; simp only [or_assoc]
  | .cond c a b, acc, d => by simp only [wr]; rw [wr_acc a (wr b acc), wr_acc a (wr b []), wr_acc b acc]; simp only [or_assoc]
  | .block id c, acc, d => by simp only [wr]; exact wr_acc c acc d
  | .loop c, acc, d => by simp only [wr]; exact wr_acc c acc d
  | .scope c, acc, d => by simp only [wr]; exact wr_acc c acc d
  | .skip, acc, d => by simp [wr]
  | .exit _, acc, d => by simp [wr]
  | .ret, acc, d => by simp [wr]
  | .label _, acc, d => by simp [wr]
  | .goto _, acc, d => by simp [wr]
  | .refuse _, acc, d => by simp [wr]
  | .rangeFunc _ _ _ _, acc, d => by simp [wr]
theorem wr_region {id : Nat} {ops : Array Oper} {dr : Bool} : ∀ o ∈ ops.toList, ∀ d, o.dst = some d → d ∈ wr (.region id ops dr) [] := by
  simp only [wr]
  generalize ops.toList = l
  induction l with
  | nil => simp
  | cons p l ih =>
    intro o ho d hd
    simp only [List.foldr_cons]
    rcases List.mem_cons.1 ho with rfl | ho
    · rw [hd]; exact List.mem_cons_self ..
    · have := ih o ho d hd
      split
      · exact List.mem_cons_of_mem _ this
      · exact this

section
variable {C : Ctx} {w0 : World} {H0 : Hp} {β0 : Bt} {fn : Func}

structure Cont {α : Type} (C : Ctx) (w0 : World) (H0 : Hp) (β0 : Bt) (fn : Func) (W : List Nat) (S1 : St) (a1 : Act) (β1 : Bt) (l1 : Nat → Nat) (k : K α) (r : α) (Q : Exit → Act → World → Prop) : Prop where
  norm : ∀ fr S a w β lam, k.norm fr S = some r → Good C.P w0 H0 β0 fr S a w β lam → Moved W S1 a1 β1 l1 S a β lam → Q .normal a w
  exit : ∀ id fr S a w β lam, k.exit id fr S = some r → Good C.P w0 H0 β0 fr S a w β lam → Moved W S1 a1 β1 l1 S a β lam → Q (.exit id) a w
  ret : ∀ v H a w β v', k.ret v H = some r → a.defers = [] → Rel C.P w H β → Ext w0.heap.size w0 H0 β0 w H β → VRel β v v' → (results fn a.tmps).run C.P w = .ok v' w → Q .ret a w

theorem Cont.step {α : Type} {W W1 W2 : List Nat} {S1 S2 : St} {a1 a2 : Act} {β1 β2 : Bt} {l1 l2 : Nat → Nat} {k : K α} {r : α} {Q : Exit → Act → World → Prop}
    (h : Cont C w0 H0 β0 fn W S1 a1 β1 l1 k r Q) (hM : Moved W1 S1 a1 β1 l1 S2 a2 β2 l2) (h1 : ∀ d, d ∉ W → d ∉ W1) (h2 : ∀ d, d ∉ W → d ∉ W2) : Cont C w0 H0 β0 fn W2 S2 a2 β2 l2 k r Q :=
  ⟨fun fr S a w β lam g1 g2 g3 => h.norm fr S a w β lam g1 g2 (hM.trans g3 h1 h2), fun id fr S a w β lam g1 g2 g3 => h.exit id fr S a w β lam g1 g2 (hM.trans g3 h1 h2), h.ret⟩

/-- Where code is left with a frame's kept values, the frame of the entry's shape stands. -/
theorem join_good {W ks kb : List Nat} {fr fr' : Fr} {S S' : St} {a a' : Act} {w w' : World} {β β' : Bt} {lam lam' : Nat → Nat} {vs bs : List Value} {bx1 : Nat → Option Bx}
    (hG : FRel w0.heap.size w S.bx β lam fr a) (hbx1 : ∀ d, bx1 d = (match kb.elem d with | true => S.bx d | false => roBx (S.bx d)))
    (hG' : Good C.P w0 H0 β0 fr' S' a' w' β' lam') (hM : Moved W ⟨bx1, S.hp⟩ a β lam S' a' β' lam')
    (hvl : vs.length = ks.length) (hv : ∀ (j d : Nat), ks[j]? = some d → ∃ v, vs[j]? = some v ∧ getS fr' d = .val v)
    (hbl : bs.length = kb.length) (hb : ∀ (j d : Nat), kb[j]? = some d → ∃ v, bs[j]? = some v ∧ boxV (S'.bx d) some = some v) :
    Good C.P w0 H0 β0 (fillS W ks (vs ++ bs) fr 0) ⟨backB kb ((vs ++ bs).drop ks.length) S.bx, S'.hp⟩ a' w' β' lam' ∧
    BMv S.bx lam (backB kb ((vs ++ bs).drop ks.length) S.bx) lam' := by
  have hdrop : (vs ++ bs).drop ks.length = bs := by rw [← hvl]; simp
  have hbsome : ∀ d, (backB kb bs S.bx d).isSome = (S.bx d).isSome := fun d => by
    unfold backB; split
    · exact backBx_some
    · rfl
  have h1some : ∀ d, (bx1 d).isSome = (S.bx d).isSome := fun d => by
    rw [hbx1]; split
    · rfl
    · exact roBx_some
  have hlam : ∀ d, (S.bx d).isSome = true → lam' d = lam d := fun d hd => (hM.bx d).2 (by rw [h1some]; exact hd)
  have hS' : ∀ d, (S.bx d).isSome = true → (S'.bx d).isSome = true := fun d hd => (hM.bx d).1.some (by rw [h1some]; exact hd)
  rw [hdrop]
  refine ⟨⟨hG'.rel, ⟨?_, fun d s hs => ?_, fun d c hc => ?_, fun d d' hd hd' hne => ?_, hG'.fr.defers⟩, hG'.ext⟩, fun d => ⟨?_, hlam d⟩⟩
  · rw [fillS_length, ← hG.size, hM.size]
  · rw [fillS_get] at hs
    cases hfr : fr[d]? with
    | none => rw [hfr] at hs; cases hs
    | some s0 =>
      rw [hfr] at hs
      simp only [Option.map_some, Nat.zero_add] at hs
      cases hs
      unfold fillOne
      split
      · rename_i j hj
        obtain ⟨v, hv1, hv2⟩ := hv j d (idxOf?_get hj)
        have hjl : j < vs.length := (List.getElem?_eq_some_iff.1 hv1).1
        have hgv : (vs ++ bs).getD j undef = v := by
          rw [List.getD_eq_getElem?_getD, List.getElem?_append_left hjl, hv1]; rfl
        rw [hgv]
        have := ev_rel hG'.rel hG'.fr (.tmp d)
        have this : SRel β' lam' S'.bx (getS fr' d) (a'.tmps.getD d undef) := this
        rw [hv2] at this
        exact this
      · split
        · trivial
        · rename_i hnW
          have hnW : d ∉ W := by intro hm; have : W.elem d = true := by simpa using hm
                                 rw [this] at hnW; cases hnW
          rw [hM.tmps d hnW]
          have := (hG.slot d s0 hfr).mono hM.le
          cases s0 with
          | loc e off =>
            refine ⟨by rw [hbsome]; exact this.1, ?_⟩
            rw [hlam e this.1]; exact this.2
          | _ => exact this
  · have hc : backB kb bs S.bx d = some c := hc
    unfold backB at hc
    split at hc
    · rename_i j hj
      have hjd := idxOf?_get hj
      obtain ⟨v, hv1, hv2⟩ := hb j d hjd
      have hgv : bs.getD j undef = v := by rw [List.getD_eq_getElem?_getD, hv1]; rfl
      rw [hgv] at hc
      have hin : kb.elem d = true := by simpa using List.mem_of_getElem? hjd
      have hle : BxLe (bx1 d) (S'.bx d) := (hM.bx d).1
      have hsd : (S.bx d).isSome = true := by rw [← backBx_some (v := v), hc]; rfl
      have hb1 := hbx1 d
      rw [hin] at hb1
      rw [hb1] at hle
      have hle : BxLe (S.bx d) (S'.bx d) := hle
      obtain ⟨c', hc'⟩ := Option.isSome_iff_exists.1 (hS' d hsd)
      obtain ⟨b1, b2, b3, b4⟩ := hG'.fr.box d c' hc'
      exact ⟨b1, b2, b3, backBx_rel hle hv2 hc (fun c2 hc2 => by rw [hc'] at hc2; cases hc2; exact b4)⟩
    · rename_i hj
      have hin : kb.elem d = false := by
        cases hq : kb.elem d with
        | false => rfl
        | true =>
          have hm : d ∈ kb := by simpa using hq
          have : kb.idxOf? d ≠ none := by simpa [List.idxOf?_eq_none_iff] using hm
          exact absurd hj this
      have hb1 := hbx1 d
      rw [hin] at hb1
      have hle : BxLe (bx1 d) (S'.bx d) := (hM.bx d).1
      rw [hb1] at hle
      have hle : BxLe (roBx (S.bx d)) (S'.bx d) := hle
      rw [hc] at hle
      cases c with
      | cells cs ro =>
        have hc' : S'.bx d = some (.cells cs true) := hle
        obtain ⟨b1, b2, b3, b4⟩ := hG'.fr.box d (.cells cs true) hc'
        exact ⟨b1, b2, b3, b4⟩
      | iter s p =>
        have hc' : S'.bx d = some (.iterRo s p) := hle
        obtain ⟨b1, b2, b3, b4⟩ := hG'.fr.box d (.iterRo s p) hc'
        exact ⟨b1, b2, b3, b4⟩
      | iterRo s p =>
        have hc' : S'.bx d = some (.iterRo s p) := hle
        exact hG'.fr.box d _ hc'
  · rw [hbsome] at hd hd'
    exact hG'.fr.apart d d' (hS' d hd) (hS' d' hd') hne
  · show BxLe (S.bx d) (backB kb bs S.bx d)
    unfold backB
    split
    · unfold backBx
      split
      · rename_i e; rw [e]; exact ⟨_, _, rfl⟩
      · rename_i e; rw [e]; exact ⟨_, rfl⟩
      · exact BxLe.refl _
    · exact BxLe.refl _
end
end Go.AM
/- The abstract machine: code is sound, by its shape. -/
set_option linter.unusedVariables false
namespace Go.AM
open Go

theorem exists_least (p : Nat → Prop) : ∀ n, p n → ∃ m, p m ∧ ∀ j, p j → m ≤ j := by
  intro n
  induction n using Nat.strongRecOn with
  | _ n ih =>
    intro hn
    by_cases h : ∃ j, j < n ∧ p j
    · obtain ⟨j, hj, hp⟩ := h; exact ih j hj hp
    · refine ⟨n, hn, fun j hj => ?_⟩
      rcases Nat.lt_or_ge j n with q | q
      · exact absurd ⟨j, q, hj⟩ h
      · exact q
theorem wp_loop_ix {P : Program} {c : Code} {Q : Exit → Act → World → Prop} {a : Act} {w : World} (I : Nat → Act → World → Prop) {n : Nat} (h0 : I n a w)
    (round : ∀ n a w, I n a w → c.wp P (Exit.then (fun a' w' => ∃ m, m < n ∧ I m a' w') Q) a w) : (Code.loop c).wp P Q a w := by
  classical
  have hl : ∀ a w, (∃ n, I n a w) → ∃ m, I m a w ∧ ∀ j, I j a w → m ≤ j := fun a w ⟨n, hn⟩ => exists_least (fun n => I n a w) n hn
  refine wp_loop (fun a w => ∃ n, I n a w) (fun a w => if h : ∃ n, I n a w then (hl a w h).choose else 0) ⟨n, h0⟩ fun a w hI => ?_
  have hs := (hl a w hI).choose_spec
  refine wp_mono (round _ a w hs.1) fun e a' w' he => ?_
  cases e with
  | normal =>
    obtain ⟨m, hm, hI'⟩ := he
    refine ⟨⟨m, hI'⟩, ?_⟩
    have hs' := (hl a' w' ⟨m, hI'⟩).choose_spec
    have h1 : ∃ n, I n a' w' := ⟨m, hI'⟩
    simp only [dif_pos hI, dif_pos h1]
    exact Nat.lt_of_le_of_lt (hs'.2 m hI') hm
  | _ => exact he

section
variable {C : Ctx} {w0 : World} {H0 : Hp} {β0 : Bt} {fn : Func}

theorem ro_rel {w : World} {β : Bt} {b : Nat} {x : Option Bx} {c : Bx} (h : roBx x = some c) (hr : ∀ c', x = some c' → BxRel w β b c') : BxRel w β b c := by
  unfold roBx at h
  split at h
  · rename_i cs ro; cases h; exact hr (.cells cs ro) rfl
  · rename_i s p; cases h; exact hr (.iter s p) rfl
  · exact hr c h
theorem FRel.ro {N : Nat} {w : World} {bx bx' : Nat → Option Bx} {β : Bt} {lam : Nat → Nat} {fr : Fr} {a : Act} (h : FRel N w bx β lam fr a) (hb : ∀ d, bx' d = bx d ∨ bx' d = roBx (bx d)) : FRel N w bx' β lam fr a := by
  have hs : ∀ d, (bx' d).isSome = (bx d).isSome := fun d => by rcases hb d with e | e <;> rw [e]; exact roBx_some
  refine ⟨h.size, fun d s hd => (h.slot d s hd).bx (fun d hd => by rw [hs]; exact hd), fun d c hc => ?_, fun d d' h1 h2 hne => h.apart d d' (by rw [← hs]; exact h1) (by rw [← hs]; exact h2) hne, h.defers⟩
  have hsd : (bx d).isSome = true := by rw [← hs, hc]; rfl
  obtain ⟨c', hc'⟩ := Option.isSome_iff_exists.1 hsd
  obtain ⟨b1, b2, b3, b4⟩ := h.box d c' hc'
  refine ⟨b1, b2, b3, ?_⟩
  rcases hb d with e | e
  · rw [e, hc'] at hc; cases hc; exact b4
  · rw [e] at hc; exact ro_rel hc (fun c2 h2 => by rw [hc'] at h2; cases h2; exact b4)
theorem Good.ro {P : Program} {fr : Fr} {S : St} {a : Act} {w : World} {β : Bt} {lam : Nat → Nat} {bx' : Nat → Option Bx} (h : Good P w0 H0 β0 fr S a w β lam) (hb : ∀ d, bx' d = S.bx d ∨ bx' d = roBx (S.bx d)) :
    Good P w0 H0 β0 fr ⟨bx', S.hp⟩ a w β lam := ⟨h.rel, h.fr.ro hb, h.ext⟩

theorem roB_or (kb : List Nat) (bx : Nat → Option Bx) (d : Nat) : roB kb bx d = bx d ∨ roB kb bx d = roBx (bx d) := by
  unfold roB; split
  · exact .inl rfl
  · exact .inr rfl
theorem fillB_eq (kb : List Nat) (l : List Value) (bx : Nat → Option Bx) (d : Nat) : fillB kb l bx d = roB kb (backB kb l bx) d := by
  unfold fillB roB backB
  cases h : kb.idxOf? d with
  | some j =>
    have : kb.elem d = true := by simpa using List.mem_of_getElem? (idxOf?_get h)
    rw [this]
  | none =>
    have : kb.elem d = false := by
      cases hq : kb.elem d with
      | false => rfl
      | true =>
        have hm : d ∈ kb := by simpa using hq
        have : kb.idxOf? d ≠ none := by simpa [List.idxOf?_eq_none_iff] using hm
        exact absurd h this
    rw [this]
theorem backB_none {kb : List Nat} {l : List Value} {bx : Nat → Option Bx} {d : Nat} (h : kb.elem d = false) : backB kb l bx d = bx d := by
  unfold backB
  split
  · rename_i j hj
    have : kb.elem d = true := by simpa using List.mem_of_getElem? (idxOf?_get hj)
    rw [h] at this; cases this
  · rfl

theorem saveAll_inv {ks kb : List Nat} {c : Ctl} {fr : Fr} {S : St} {o : Outc} (h : saveAll ks kb c fr S = some o) : ∃ vs bs, o = (c, vs ++ bs, S.hp) ∧ vs.length = ks.length ∧
    (∀ (j d : Nat), ks[j]? = some d → ∃ v, vs[j]? = some v ∧ getS fr d = .val v) ∧ bs.length = kb.length ∧ (∀ (j d : Nat), kb[j]? = some d → ∃ v, bs[j]? = some v ∧ boxV (S.bx d) some = some v) := by
  unfold saveAll at h
  obtain ⟨vs, h1, h2, h3⟩ := saveS_inv ks _ h
  obtain ⟨bs, h4, h5, h6⟩ := saveB_inv kb _ h1
  cases h4
  exact ⟨vs, bs, rfl, h2, h3, h5, h6⟩

/-- What holds where code with kept values is left. -/
theorem leave {W ks kb : List Nat} {fr fr' : Fr} {S S' : St} {a a' : Act} {w w' : World} {β β' : Bt} {lam lam' : Nat → Nat} {vs bs : List Value}
    (hG : FRel w0.heap.size w S.bx β lam fr a) (hG' : Good C.P w0 H0 β0 fr' S' a' w' β' lam') (hM : Moved W ⟨roB kb S.bx, S.hp⟩ a β lam S' a' β' lam')
    (hvl : vs.length = ks.length) (hv : ∀ (j d : Nat), ks[j]? = some d → ∃ v, vs[j]? = some v ∧ getS fr' d = .val v)
    (hbl : bs.length = kb.length) (hb : ∀ (j d : Nat), kb[j]? = some d → ∃ v, bs[j]? = some v ∧ boxV (S'.bx d) some = some v) :
    Good C.P w0 H0 β0 (fillS W ks (vs ++ bs) fr 0) ⟨backB kb ((vs ++ bs).drop ks.length) S.bx, S'.hp⟩ a' w' β' lam' ∧
    Moved W S a β lam ⟨backB kb ((vs ++ bs).drop ks.length) S.bx, S'.hp⟩ a' β' lam' := by
  obtain ⟨g1, g2⟩ := join_good hG (bx1 := roB kb S.bx) (fun d => rfl) hG' hM hvl hv hbl hb
  exact ⟨g1, ⟨hM.tmps, hM.size, g2, hM.le⟩⟩

theorem results_ok {P : Program} {N : Nat} {w : World} {S : St} {β : Bt} {lam : Nat → Nat} {fr : Fr} {a : Act} {α : Type} {r : α} (hR : Rel P w S.hp β) (hF : FRel N w S.bx β lam fr a) {k : List Value → Option α} (h : resC P fr S fn.results.toList k = some r) :
    ∃ vs v', k vs = some r ∧ VRel β (resV vs) v' ∧ (results fn a.tmps).run P w = .ok v' w := by
  obtain ⟨vs, vs', h1, h2, h3⟩ := resC_sound hR hF _ _ h
  exact ⟨vs, _, h1, resV_rel h2, by rw [results_eq, h3]; rfl⟩

theorem exec_sound (hh : SimC C.P C.h) (hdraw : DrawS C) (hm : C.P.follows .mixedOrders = true) : ∀ (c : Code) {α : Type} {fr : Fr} {S : St} {k : K α} {r : α} {Q : Exit → Act → World → Prop} {a : Act} {w : World} {β : Bt} {lam : Nat → Nat},
    exec C fn.results.toList c α fr S k = some r → Good C.P w0 H0 β0 fr S a w β lam → Cont C w0 H0 β0 fn (wr c []) S a β lam k r Q → c.wp C.P Q a w
  | .skip, α, fr, S, k, r, Q, a, w, β, lam, h, hG, hC => wp_skip (hC.norm _ _ _ _ _ _ h hG (Moved.refl _ _ _ _ _))
  | .region id ops draw, α, fr, S, k, r, Q, a, w, β, lam, h, hG, hC => by
    simp only [exec] at h
    cases draw with
    | false =>
      have := opsC_sound hh (W := wr (.region id ops false) []) (Q := Q) wr_region hC.norm ops.toList 0 fr S a w β lam rfl h hG (Moved.refl _ _ _ _ _)
      refine wp_region ?_
      rw [List.range_eq_range']
      simpa using this
    | true =>
      dsimp only at h
      split at h
      · rename_i ho
        have hG' : Good C.P w0 H0 β0 fr S a { w with drawn := w.drawn + 1 } β lam := ⟨hG.rel.drew, hG.fr.drew, hG.ext.drew⟩
        have := hdraw (W := wr (.region id ops true) []) (Q := Q) ho wr_region hC.norm fr S a _ β lam h hG' (Moved.refl _ _ _ _ _)
        refine wp_region_any hm ?_
        simpa using this
      · cases h
  | .seq x y, α, fr, S, k, r, Q, a, w, β, lam, h, hG, hC => by
    have hx : ∀ d, d ∉ wr (.seq x y) [] → d ∉ wr x [] := fun d hd hm => hd (by simp only [wr]; rw [wr_acc]; exact .inl hm)
    have hy : ∀ d, d ∉ wr (.seq x y) [] → d ∉ wr y [] := fun d hd hm => hd (by simp only [wr]; rw [wr_acc]; exact .inr hm)
    simp only [exec] at h
    split at h
    · refine wp_seq (exec_sound hh hdraw hm x h hG ⟨fun fr' S' a' w' β' lam' g1 g2 g3 => ?_, fun id fr' S' a' w' β' lam' g1 g2 g3 => ?_, ?_⟩)
      · exact exec_sound hh hdraw hm y g1 g2 (hC.step g3 hx hy)
      · exact hC.exit id fr' S' a' w' β' lam' g1 g2 ⟨fun d hd => g3.tmps d (hx d hd), g3.size, g3.bx, g3.le⟩
      · exact hC.ret
    · rename_i ks kb hj
      unfold bindO at h
      split at h
      · rename_i c l H' hx1
        refine wp_seq (exec_sound hh hdraw hm x hx1 (hG.ro (roB_or kb S.bx)) ⟨fun fr' S' a' w' β' lam' g1 g2 g3 => ?_, fun id fr' S' a' w' β' lam' g1 g2 g3 => ?_, fun v H a' w' β' v' g1 g2 g3 g4 g5 g6 => ?_⟩)
        · obtain ⟨vs, bs, he, h1, h2, h3, h4⟩ := saveAll_inv g1
          cases he
          obtain ⟨q1, q2⟩ := leave hG.fr g2 g3 h1 h2 h3 h4
          exact exec_sound hh hdraw hm y h q1 (hC.step q2 hx hy)
        · obtain ⟨vs, bs, he, h1, h2, h3, h4⟩ := saveAll_inv g1
          cases he
          obtain ⟨q1, q2⟩ := leave hG.fr g2 g3 h1 h2 h3 h4
          exact hC.exit id _ _ a' w' β' lam' h q1 ⟨fun d hd => q2.tmps d (hx d hd), q2.size, q2.bx, q2.le⟩
        · cases g1
          exact hC.ret v _ a' w' β' v' h g2 g3 g4 g5 g6
      · cases h
  | .cond c x y, α, fr, S, k, r, Q, a, w, β, lam, h, hG, hC => by
    have hx : ∀ d, d ∉ wr (.cond c x y) [] → d ∉ wr x [] := fun d hd hm => hd (by simp only [wr]; rw [wr_acc]; exact .inl hm)
    have hy : ∀ d, d ∉ wr (.cond c x y) [] → d ∉ wr y [] := fun d hd hm => hd (by simp only [wr]; rw [wr_acc]; exact .inr hm)
    simp only [exec] at h
    obtain ⟨v, hv, h1⟩ := evV_inv hG.rel hG.fr h
    unfold pBool at h1
    split at h1
    · rename_i t
      have hc : a.eval c = .bool t := by generalize a.eval c = q at hv; cases hv; rfl
      unfold br at h1
      cases t with
      | true => exact wp_cond_true hc (exec_sound hh hdraw hm x h1 hG (hC.step (Moved.refl [] _ _ _ _) (fun d _ hd => by cases hd) hx))
      | false => exact wp_cond_false hc (exec_sound hh hdraw hm y h1 hG (hC.step (Moved.refl [] _ _ _ _) (fun d _ hd => by cases hd) hy))
    · cases h1
  | .block id c, α, fr, S, k, r, Q, a, w, β, lam, h, hG, hC => by
    simp only [exec] at h
    refine wp_block (exec_sound hh hdraw hm c h hG ⟨hC.norm, fun j fr' S' a' w' β' lam' g1 g2 g3 => ?_, hC.ret⟩)
    have g1 : onExit j id (k.norm fr' S') (k.exit j fr' S') = some r := g1
    unfold onExit at g1
    simp only [Exit.inBlock]
    split at g1
    · rename_i e
      rw [if_pos (Nat.eq_of_beq_eq_true e)]
      exact hC.norm _ _ _ _ _ _ g1 g2 g3
    · rename_i e
      rw [if_neg (Nat.ne_of_beq_eq_false e)]
      exact hC.exit j _ _ _ _ _ _ g1 g2 g3
  | .loop c, α, fr, S, k, r, Q, a, w, β, lam, h, hG, hC => by
    unfold exec at h
    split at h
    rename_i ks kb hq
    obtain ⟨vs, h1, hvl, hv⟩ := saveS_inv ks _ h
    obtain ⟨bs, h2, hbl, hb⟩ := saveB_inv kb _ h1
    clear h h1
    generalize hW : wr (.loop c) [] = W at hC
    have hWc : wr c [] = W := by rw [← hW]; rfl
    rw [hWc] at h2
    generalize hstep : (fun (l : List Value) (H : Hp) => exec C fn.results.toList c Outc (fillS W ks l fr 0) ⟨fillB kb (l.drop ks.length) S.bx, H⟩ (Kout ks kb)) = step at h2
    unfold bindO at h2
    split at h2
    · rename_i ctl lo Ho hlo
      unfold loopD at hlo
      split at hlo
      · rename_i hex
        obtain ⟨n, hn⟩ := hex.choose_spec
        have hlo : hex.choose = (ctl, lo, Ho) := by simpa using hlo
        rw [hlo] at hn
        -- the head of a round
        have head : ∀ {vs bs : List Value} {S' : St} {a' : Act} {w' : World} {β' : Bt} {lam' : Nat → Nat},
            Good C.P w0 H0 β0 (fillS W ks (vs ++ bs) fr 0) ⟨backB kb ((vs ++ bs).drop ks.length) S.bx, S'.hp⟩ a' w' β' lam' → Moved W S a β lam ⟨backB kb ((vs ++ bs).drop ks.length) S.bx, S'.hp⟩ a' β' lam' →
            Good C.P w0 H0 β0 (fillS W ks (vs ++ bs) fr 0) ⟨fillB kb ((vs ++ bs).drop ks.length) S.bx, S'.hp⟩ a' w' β' lam' ∧ Moved W ⟨roB kb S.bx, S.hp⟩ a β lam ⟨fillB kb ((vs ++ bs).drop ks.length) S.bx, S'.hp⟩ a' β' lam' := by
          intro vs bs S' a' w' β' lam' g1 g2
          refine ⟨g1.ro (fun d => by rw [fillB_eq]; exact roB_or kb _ d), ⟨g2.tmps, g2.size, fun d => ⟨?_, fun hd => ?_⟩, g2.le⟩⟩
          · show BxLe (roB kb S.bx d) (fillB kb ((vs ++ bs).drop ks.length) S.bx d)
            rw [fillB_eq]
            have hle : BxLe (S.bx d) (backB kb ((vs ++ bs).drop ks.length) S.bx d) := (g2.bx d).1
            cases he : kb.elem d with
            | true => unfold roB; rw [he]; exact hle
            | false => unfold roB; rw [he, backB_none he]; exact BxLe.refl _
          · refine (g2.bx d).2 ?_
            have hd : (roB kb S.bx d).isSome = true := hd
            rcases roB_or kb S.bx d with e | e
            · rw [e] at hd; exact hd
            · rw [e, roBx_some] at hd; exact hd
        have hG1 := hG.ro (roB_or kb S.bx)
        have hb1 : ∀ (j d : Nat), kb[j]? = some d → ∃ v, bs[j]? = some v ∧ boxV ((⟨roB kb S.bx, S.hp⟩ : St).bx d) some = some v := fun j d hd => by
          obtain ⟨v, q1, q2⟩ := hb j d hd
          refine ⟨v, q1, ?_⟩
          have : kb.elem d = true := by simpa using List.mem_of_getElem? hd
          show boxV (roB kb S.bx d) some = some v
          unfold roB; rw [this]; exact q2
        obtain ⟨e1, e2⟩ := leave (W := W) (kb := kb) hG.fr hG1 (Moved.refl _ _ _ _ _) hvl hv hbl hb1
        obtain ⟨e3, e4⟩ := head (S' := ⟨roB kb S.bx, S.hp⟩) e1 e2
        refine wp_loop_ix (fun n a' w' => ∃ vs bs H β' lam', iterL step n (vs ++ bs) H = some (ctl, lo, Ho) ∧ Good C.P w0 H0 β0 (fillS W ks (vs ++ bs) fr 0) ⟨fillB kb ((vs ++ bs).drop ks.length) S.bx, H⟩ a' w' β' lam' ∧
          Moved W ⟨roB kb S.bx, S.hp⟩ a β lam ⟨fillB kb ((vs ++ bs).drop ks.length) S.bx, H⟩ a' β' lam') (n := n) ⟨vs, bs, S.hp, β, lam, hn, e3, e4⟩ ?_
        intro n a1 w1 ⟨vs1, bs1, H1, β1, lam1, hit, f1, f2⟩
        cases n with
        | zero => cases hit
        | succ n =>
          unfold iterL at hit
          have htr : ∀ {fr' S' a' w' β' lam' c' o'}, saveAll ks kb c' fr' S' = some o' → Good C.P w0 H0 β0 fr' S' a' w' β' lam' → Moved (wr c []) ⟨fillB kb ((vs1 ++ bs1).drop ks.length) S.bx, H1⟩ a1 β1 lam1 S' a' β' lam' →
              ∃ vs' bs', o' = (c', vs' ++ bs', S'.hp) ∧ Good C.P w0 H0 β0 (fillS W ks (vs' ++ bs') fr 0) ⟨backB kb ((vs' ++ bs').drop ks.length) S.bx, S'.hp⟩ a' w' β' lam' ∧ Moved W S a β lam ⟨backB kb ((vs' ++ bs').drop ks.length) S.bx, S'.hp⟩ a' β' lam' := by
            intro fr' S' a' w' β' lam' c' o' q1 q2 q3
            obtain ⟨vs', bs', he, k1, k2, k3, k4⟩ := saveAll_inv q1
            obtain ⟨p1, p2⟩ := leave (W := W) hG.fr q2 (f2.trans q3 (fun d hd => hd) (fun d hd => by rw [hWc]; exact hd)) k1 k2 k3 k4
            exact ⟨vs', bs', he, p1, p2⟩
          split at hit
          · rename_i l' H' hs
            rw [← hstep] at hs
            refine exec_sound hh hdraw hm c hs f1 ⟨fun fr' S' a' w' β' lam' g1 g2 g3 => ?_, fun id fr' S' a' w' β' lam' g1 g2 g3 => ?_, fun v H a' w' β' v' g1 g2 g3 g4 g5 g6 => ?_⟩
            · obtain ⟨vs', bs', he, p1, p2⟩ := htr g1 g2 g3
              cases he
              obtain ⟨p3, p4⟩ := head p1 p2
              exact ⟨n, Nat.lt_succ_self n, vs', bs', _, β', lam', hit, p3, p4⟩
            · obtain ⟨vs', bs', he, p1, p2⟩ := htr g1 g2 g3
              cases he
            · cases g1
          · rename_i hne
            have hs := hit
            rw [← hstep] at hs
            refine exec_sound hh hdraw hm c hs f1 ⟨fun fr' S' a' w' β' lam' g1 g2 g3 => ?_, fun id fr' S' a' w' β' lam' g1 g2 g3 => ?_, fun v H a' w' β' v' g1 g2 g3 g4 g5 g6 => ?_⟩
            · obtain ⟨vs', bs', he, p1, p2⟩ := htr g1 g2 g3
              cases he
              exact absurd hit (hne _ _)
            · obtain ⟨vs', bs', he, p1, p2⟩ := htr g1 g2 g3
              cases he
              exact hC.exit id _ _ _ _ _ _ h2 p1 p2
            · cases g1
              exact hC.ret v _ a' w' β' v' h2 g2 g3 g4 g5 g6
      · cases hlo
    · cases h2
  | .exit id, α, fr, S, k, r, Q, a, w, β, lam, h, hG, hC => wp_exit (hC.exit id _ _ _ _ _ _ h hG (Moved.refl _ _ _ _ _))
  | .ret, α, fr, S, k, r, Q, a, w, β, lam, h, hG, hC => by
    simp only [exec] at h
    obtain ⟨vs, v', h1, h2, h3⟩ := results_ok hG.rel hG.fr h
    exact wp_ret (hC.ret _ _ a w β v' h1 hG.fr.defers hG.rel hG.ext h2 h3)
  | .rangeFunc _ _ _ _, _, _, _, _, _, _, _, _, _, _, h, _, _ => by simp [exec] at h
  | .scope _, _, _, _, _, _, _, _, _, _, _, h, _, _ => by simp [exec] at h
  | .label _, _, _, _, _, _, _, _, _, _, _, h, _, _ => by simp [exec] at h
  | .goto _, _, _, _, _, _, _, _, _, _, _, h, _, _ => by simp [exec] at h
  | .refuse _, _, _, _, _, _, _, _, _, _, _, h, _, _ => by simp [exec] at h
end
end Go.AM
/- The abstract machine: functions are sound. -/
set_option linter.unusedVariables false
namespace Go.AM
open Go

abbrev Ext1 := FuncId → Option (List Value → Hp → Option (Value × Hp))
/-- What is said of functions that are taken whole is so. -/
def ExtC (P : Program) (ext : Ext1) : Prop := ∀ f e, ext f = some e → ∀ args H v H', e args H = some (v, H') → ∀ args' w β, LRel β args args' → Rel P w H β →
  Calls P f args'.toArray w fun x w' => ∃ v' β', x = .returned v' ∧ Rel P w' H' β' ∧ Ext w.heap.size w H β w' H' β' ∧ VRel β' v v'
def DrawsS (P : Program) : Prop := ∀ O h f, SimC P h → DrawS ⟨P, O, h, f⟩

theorem callF_sound {P : Program} {O : Orc} {ext : Ext1} {h : Handler} (hm : P.follows .mixedOrders = true) (hd : DrawsS P) (he : ExtC P ext) (hx : XtC P O.xt) (hh : SimC P h) : SimC P (callF P O ext h) := by
  intro f args H v H' hc
  unfold callF at hc
  split at hc
  · cases hc
  · rename_i fn hf
    split at hc
    · cases hc
    · rename_i hname
      split at hc
      · rename_i hb
        split at hc
        · rename_i e hxe
          split at hc
          · rename_i v1 hv1
            cases hc
            exact .inr ⟨rfl, ⟨fn, hf, hb⟩, hx f e hxe _ _ hv1⟩
          · cases hc
        · cases hc
      · rename_i c hb
        refine .inl ⟨⟨fn, hf, hname, by rw [hb]; rfl⟩, fun args' w β hargs hR => ?_⟩
        split at hc
        · rename_i e hext
          exact he f e hext _ _ _ _ hc _ _ _ hargs hR
        · have hl := hargs.1
          refine calls_of_wp hf hb ?_
          have hG : Good P w H β (args.map .val ++ List.replicate (fn.ntmps - args.length) .unk) ⟨fun _ => none, H⟩ { tmps := args'.toArray ++ Array.replicate (fn.ntmps - args'.toArray.size) undef, defers := [] } w β (fun _ => 0) := by
            refine ⟨hR, ⟨?_, fun d s hs => ?_, fun d c hc => (by cases hc), fun d d' hd => (by cases hd), rfl⟩, Ext.refl _ _ _ _⟩
            · simp [hl]
            · by_cases hlt : d < args.length
              · rw [List.getElem?_append_left (by simpa using hlt)] at hs
                simp only [List.getElem?_map] at hs
                cases ha : args[d]? with
                | none => rw [ha] at hs; cases hs
                | some u =>
                  rw [ha] at hs
                  cases hs
                  obtain ⟨u', hu', hr⟩ := hargs.get ha
                  have hlt' : d < args'.length := hl ▸ hlt
                  show VRel β u _
                  rw [Array.getD_eq_getD_getElem?, Array.getElem?_append_left (by simpa using hlt')]
                  simp only [List.getElem?_toArray, hu', Option.getD_some]
                  exact hr
              · rw [List.getElem?_append_right (by simpa using hlt)] at hs
                have := List.mem_of_getElem? hs
                rw [List.mem_replicate] at this
                rw [this.2]
                trivial
          refine exec_sound (C := ⟨P, O, h, f⟩) (w0 := w) (H0 := H) (β0 := β) hh (hd O h f hh) hm c hc hG ⟨fun fr S a w' β' lam g1 g2 g3 => ?_, fun id fr S a w' β' lam g1 g2 g3 => (by cases g1), fun v1 H1 a w' β' v' g1 g2 g3 g4 g5 g6 => ?_⟩
          · obtain ⟨vs, v', h1, h2, h3⟩ := results_ok g2.rel g2.fr g1
            cases h1
            exact ⟨g2.fr.defers, v', h3, v', β', rfl, g2.rel, g2.ext, h2⟩
          · cases g1
            exact ⟨g2, v', g6, v', β', rfl, g3, g4, g5⟩

theorem runN_sound {P : Program} {O : Orc} {ext : Ext1} (hm : P.follows .mixedOrders = true) (hd : DrawsS P) (he : ExtC P ext) (hx : XtC P O.xt) : ∀ n, SimC P (runN P O ext n)
  | 0 => fun f args H v H' h => by cases h
  | n + 1 => callF_sound hm hd he hx (runN_sound hm hd he hx n)

theorem run_some {P : Program} {O : Orc} {ext : Ext1} {f : FuncId} {args : List Value} {H : Hp} {r : Value × Hp} (h : run P O ext f args H = some r) : ∃ n, runN P O ext n f args H = some r := by
  unfold run at h
  split at h
  · rename_i hex
    obtain ⟨n, hn⟩ := hex.choose_spec
    have h : hex.choose = r := by simpa using h
    exact ⟨n, by rw [hn, h]⟩
  · cases h
theorem run_sound {P : Program} {O : Orc} {ext : Ext1} (hm : P.follows .mixedOrders = true) (hd : DrawsS P) (he : ExtC P ext) (hx : XtC P O.xt) : SimC P (run P O ext) := fun f args H v H' h => by
  obtain ⟨n, hn⟩ := run_some h
  exact runN_sound hm hd he hx n f args H v H' hn
/-- A run of a function that is not taken at once has a body. -/
theorem run_body {P : Program} {O : Orc} {ext : Ext1} {f : FuncId} {args : List Value} {H : Hp} {r : Value × Hp} (hx : O.xt f = none) (h : run P O ext f args H = some r) : ¬ ∃ fn, P.funcs[f]? = some fn ∧ fn.body = none := by
  rintro ⟨fn, hf, hb⟩
  obtain ⟨n, hn⟩ := run_some h
  cases n with
  | zero => cases hn
  | succ n =>
    have hn : callF P O ext (runN P O ext n) f args H = some r := hn
    unfold callF at hn
    simp only [hf, hb, hx] at hn
    split at hn <;> cases hn
end Go.AM
/- The abstract machine: regions that draw are sound. -/
set_option linter.unusedVariables false
namespace Go.AM
open Go

section
/-- One operation of a region that draws. -/
def opRD (C : Ctx) (fr : Fr) (S : St) (o : Oper) : Option (Slot × St) := opD C fr S o fun s S' => some (s, S')
theorem opD_nat {α : Type} (C : Ctx) (fr : Fr) (S : St) (o : Oper) (k : Slot → St → Option α) : opD C fr S o k = (opRD C fr S o).bind fun p => k p.1 p.2 := by
  unfold opRD opD
  cases isLA C.O C.f o with
  | true =>
    dsimp only
    cases o.dst <;> rfl
  | false => exact opC_nat _ _ _ _ _
theorem opRD_ord {C : Ctx} {o : Oper} (h : isLA C.O C.f o = false) (fr : Fr) (S : St) : opRD C fr S o = opR C fr S o := by
  unfold opRD opD opR; rw [h]
theorem kindD_ord {P : Program} {O : Orc} {f : FuncId} {o : Oper} (h : isLA O f o = false) : kindD P O f o = kindOf P o.op := by unfold kindD; rw [h]
theorem kindD_LA {P : Program} {O : Orc} {f : FuncId} {o : Oper} (h : isLA O f o = true) : kindD P O f o = .pure := by unfold kindD; rw [h]
theorem opRD_pr {C : Ctx} {fr : Fr} {S S' S2 : St} {o : Oper} {s : Slot} (h : opRD C fr S o = some (s, S')) (hp : kindD C.P C.O C.f o = .pure ∨ (kindD C.P C.O C.f o = .read ∧ S2 = S)) :
    S' = S ∧ opRD C fr S2 o = some (s, S2) := by
  cases hl : isLA C.O C.f o with
  | false =>
    rw [kindD_ord hl] at hp
    rw [opRD_ord hl] at h ⊢
    exact opR_pr h hp
  | true =>
    unfold opRD opD at h ⊢
    rw [hl] at h ⊢
    dsimp only at h ⊢
    split at h
    · cases h; exact ⟨rfl, rfl⟩
    · cases h
theorem opRD_congr {C : Ctx} {fr fr' : Fr} {S : St} {o : Oper} (h : ∀ x ∈ o.op.operands, ev C.P.globals.size fr x = ev C.P.globals.size fr' x) : opRD C fr S o = opRD C fr' S o := by
  cases hl : isLA C.O C.f o with
  | false => rw [opRD_ord hl, opRD_ord hl]; exact opR_congr h
  | true =>
    unfold opRD opD
    rw [hl]
theorem ord_of_read {P : Program} {O : Orc} {f : FuncId} {o : Oper} (h : kindD P O f o = .read) : isLA O f o = false := by
  cases hl : isLA O f o with
  | false => rfl
  | true => rw [kindD_LA hl] at h; cases h
theorem ord_of_eff {P : Program} {O : Orc} {f : FuncId} {o : Oper} (h : kindD P O f o = .eff) : isLA O f o = false := by
  cases hl : isLA O f o with
  | false => rfl
  | true => rw [kindD_LA hl] at h; cases h
theorem read_sameD {C : Ctx} {fr : Fr} {S S2 : St} {o : Oper} {s : Slot} (h : opRD C fr S o = some (s, S)) (hk : kindD C.P C.O C.f o = .read) (hs : sameOn (tagOf C fr o) S S2) : opRD C fr S2 o = some (s, S2) := by
  have hl := ord_of_read hk
  rw [opRD_ord hl] at h ⊢
  rw [kindD_ord hl] at hk
  exact read_same h hk hs
theorem again_okD {α : Type} {C : Ctx} {fr : Fr} {S S2 : St} {o : Oper} {s : Slot} {k : Option α} {r : α} (h : opRD C fr S o = some (s, S)) (hk : kindD C.P C.O C.f o = .read) (ha : again C fr S2 o s k = some r) : k = some r ∧ opRD C fr S2 o = some (s, S2) := by
  have hl := ord_of_read hk
  rw [opRD_ord hl] at h ⊢
  rw [kindD_ord hl] at hk
  exact again_ok h hk ha
theorem eff_tagD {C : Ctx} {fr : Fr} {S S' : St} {o : Oper} {s : Slot} (h : opRD C fr S o = some (s, S')) (hk : kindD C.P C.O C.f o = .eff) : TagR (tagOf C fr o) S S' := by
  have hl := ord_of_eff hk
  rw [opRD_ord hl] at h
  rw [kindD_ord hl] at hk
  exact eff_tag h hk
end

section
variable (C : Ctx) (ops : List Oper) (fr0 : Fr) (S0 : St)

/-- The run in the text's order. -/
def stp : Nat → Fr × St
  | 0 => (fr0, S0)
  | i + 1 => match ops[i]? with
    | none => stp i
    | some o => match guardV ops (stp i).1 o with
      | some true => match opRD C (stp i).1 (stp i).2 o with
        | some (s, S') => (putS (stp i).1 o.dst s, S')
        | none => stp i
      | _ => (putS (stp i).1 o.dst .und, (stp i).2)
def sl (i : Nat) : Slot :=
  match ops[i]? with
  | none => .und
  | some o => match guardV ops (stp C ops fr0 S0 i).1 o with
    | some true => match opRD C (stp C ops fr0 S0 i).1 (stp C ops fr0 S0 i).2 o with
      | some (s, _) => s
      | none => .und
    | _ => .und
def Wd (i : Nat) (o : Oper) : Prop := guardV ops (stp C ops fr0 S0 i).1 o = some true

structure OKi (i : Nat) (o : Oper) (b : Bool) : Prop where
  guard : guardV ops (stp C ops fr0 S0 i).1 o = some b
  yes : b = true → opRD C (stp C ops fr0 S0 i).1 (stp C ops fr0 S0 i).2 o = some (sl C ops fr0 S0 i, (stp C ops fr0 S0 (i + 1)).2)
  no : b = false → sl C ops fr0 S0 i = .und ∧ (stp C ops fr0 S0 (i + 1)).2 = (stp C ops fr0 S0 i).2
  next : (stp C ops fr0 S0 (i + 1)).1 = putS (stp C ops fr0 S0 i).1 o.dst (sl C ops fr0 S0 i)

def Chk (an : List Nat) (j : Nat) (o : Oper) : Prop :=
  (Wd C ops fr0 S0 j o → kindD C.P C.O C.f o = .read → ∀ l o', l < j → ops[l]? = some o' → Wd C ops fr0 S0 l o' → kindD C.P C.O C.f o' = .eff → (an.getD j 0).testBit l = false →
    sameTag (tagOf C (stp C ops fr0 S0 l).1 o') (tagOf C (stp C ops fr0 S0 j).1 o) = true → opRD C (stp C ops fr0 S0 j).1 (stp C ops fr0 S0 l).2 o = some (sl C ops fr0 S0 j, (stp C ops fr0 S0 l).2)) ∧
  (Wd C ops fr0 S0 j o → kindD C.P C.O C.f o = .eff → ∀ l o', l < j → ops[l]? = some o' → Wd C ops fr0 S0 l o' → kindD C.P C.O C.f o' = .read → (an.getD j 0).testBit l = false →
    sameTag (tagOf C (stp C ops fr0 S0 l).1 o') (tagOf C (stp C ops fr0 S0 j).1 o) = true → opRD C (stp C ops fr0 S0 l).1 (stp C ops fr0 S0 (j + 1)).2 o' = some (sl C ops fr0 S0 l, (stp C ops fr0 S0 (j + 1)).2))
end

section
variable {α : Type} {C : Ctx} {ops : List Oper} {fr0 : Fr} {S0 : St} {r : α} {an : List Nat}

theorem chkBack_inv {a i : Nat} {o : Oper} {fr : Fr} {s : Slot} {tag : Option Nat} {k : Option α} {S1 : St} (h0 : opRD C fr S1 o = some (s, S1)) (hk : kindD C.P C.O C.f o = .read) :
    ∀ es : List (Nat × Option Nat × St), chkBack C a i o fr s tag k es = some r → k = some r ∧ ∀ q ∈ es, a.testBit q.1 = false → sameTag q.2.1 tag = true → opRD C fr q.2.2 o = some (s, q.2.2)
  | [], h => ⟨h, fun q hq => by cases hq⟩
  | (j, t, S) :: es, h => by
    unfold chkBack at h
    split at h
    · rename_i hb
      obtain ⟨h1, h2⟩ := chkBack_inv h0 hk es h
      refine ⟨h1, fun q hq hb' ht => ?_⟩
      rcases List.mem_cons.1 hq with rfl | hq
      · dsimp only at hb' ht
        rw [hb', ht] at hb; cases hb
      · exact h2 q hq hb' ht
    · obtain ⟨h3, h4⟩ := again_okD h0 hk h
      obtain ⟨h1, h2⟩ := chkBack_inv h0 hk es h3
      refine ⟨h1, fun q hq hb' ht => ?_⟩
      rcases List.mem_cons.1 hq with rfl | hq
      · exact h4
      · exact h2 q hq hb' ht
theorem chkFore_inv {a : Nat} {tag : Option Nat} {S : St} {k : Option α} : ∀ rs : List Rd, (∀ q ∈ rs, kindD C.P C.O C.f q.o = .read ∧ ∃ S1, opRD C q.fr S1 q.o = some (q.s, S1)) → chkFore C a tag S k rs = some r →
    k = some r ∧ ∀ q ∈ rs, a.testBit q.i = false → sameTag q.tag tag = true → opRD C q.fr S q.o = some (q.s, S)
  | [], _, h => ⟨h, fun q hq => by cases hq⟩
  | p :: rs, hr, h => by
    unfold chkFore at h
    split at h
    · rename_i hb
      obtain ⟨h1, h2⟩ := chkFore_inv rs (fun q hq => hr q (List.mem_cons_of_mem _ hq)) h
      refine ⟨h1, fun q hq hb' ht => ?_⟩
      rcases List.mem_cons.1 hq with rfl | hq
      · rw [hb', ht] at hb; cases hb
      · exact h2 q hq hb' ht
    · obtain ⟨hk, S1, h0⟩ := hr p (List.mem_cons_self ..)
      obtain ⟨h3, h4⟩ := again_okD h0 hk h
      obtain ⟨h1, h2⟩ := chkFore_inv rs (fun q hq => hr q (List.mem_cons_of_mem _ hq)) h3
      refine ⟨h1, fun q hq hb' ht => ?_⟩
      rcases List.mem_cons.1 hq with rfl | hq
      · exact h4
      · exact h2 q hq hb' ht

theorem OKi.of_no {i : Nat} {o : Oper} (ho : ops[i]? = some o) (hg : guardV ops (stp C ops fr0 S0 i).1 o = some false) : OKi C ops fr0 S0 i o false := by
  refine ⟨hg, fun h => (by cases h), fun _ => ⟨?_, ?_⟩, ?_⟩
  · unfold sl; rw [ho]; dsimp only; rw [hg]
  · rw [stp, ho]; dsimp only; rw [hg]
  · have : sl C ops fr0 S0 i = .und := by unfold sl; rw [ho]; dsimp only; rw [hg]
    rw [this, stp, ho]; dsimp only; rw [hg]
theorem OKi.of_yes {i : Nat} {o : Oper} {s : Slot} {S' : St} (ho : ops[i]? = some o) (hg : guardV ops (stp C ops fr0 S0 i).1 o = some true) (hr : opRD C (stp C ops fr0 S0 i).1 (stp C ops fr0 S0 i).2 o = some (s, S')) :
    OKi C ops fr0 S0 i o true ∧ sl C ops fr0 S0 i = s ∧ (stp C ops fr0 S0 (i + 1)).2 = S' := by
  have h1 : sl C ops fr0 S0 i = s := by unfold sl; rw [ho]; dsimp only; rw [hg]; dsimp only; rw [hr]
  have h2 : stp C ops fr0 S0 (i + 1) = (putS (stp C ops fr0 S0 i).1 o.dst s, S') := by rw [stp, ho]; dsimp only; rw [hg]; dsimp only; rw [hr]
  refine ⟨⟨hg, fun _ => (by rw [h1, h2]; exact hr), fun h => (by cases h), by rw [h2, h1]⟩, h1, by rw [h2]⟩

theorem drawC_inv {k : Fr → St → Option α} : ∀ (rest : List Oper) (i : Nat) (es : List (Nat × Option Nat × St)) (rs : List Rd), ops.drop i = rest →
    drawC C ops an k rest i (stp C ops fr0 S0 i).1 (stp C ops fr0 S0 i).2 es rs = some r →
    (∀ l o', l < i → ops[l]? = some o' → Wd C ops fr0 S0 l o' → kindD C.P C.O C.f o' = .eff → (l, tagOf C (stp C ops fr0 S0 l).1 o', (stp C ops fr0 S0 l).2) ∈ es) →
    (∀ l o', l < i → ops[l]? = some o' → Wd C ops fr0 S0 l o' → kindD C.P C.O C.f o' = .read → (⟨l, o', (stp C ops fr0 S0 l).1, sl C ops fr0 S0 l, tagOf C (stp C ops fr0 S0 l).1 o'⟩ : Rd) ∈ rs) →
    (∀ q ∈ rs, kindD C.P C.O C.f q.o = .read ∧ ∃ S1, opRD C q.fr S1 q.o = some (q.s, S1)) →
    k (stp C ops fr0 S0 ops.length).1 (stp C ops fr0 S0 ops.length).2 = some r ∧ ∀ j o, i ≤ j → ops[j]? = some o → (∃ b, OKi C ops fr0 S0 j o b) ∧ Chk C ops fr0 S0 an j o
  | [], i, es, rs, hd, h, he, hr, hq => by
    have hle : ops.length ≤ i := by simpa using hd
    refine ⟨?_, fun j o hij ho => ?_⟩
    · have : ∀ m, ops.length ≤ m → stp C ops fr0 S0 m = stp C ops fr0 S0 ops.length := by
        intro m hm
        induction m with
        | zero => have : ops.length = 0 := by omega
                  rw [this]
        | succ m ih =>
          rcases Nat.lt_or_ge m ops.length with q | q
          · have : m + 1 = ops.length := by omega
            rw [this]
          · rw [stp, List.getElem?_eq_none q]; exact ih q
      rw [this i hle] at h
      exact h
    · have := (List.getElem?_eq_some_iff.1 ho).1
      omega
  | o :: rest, i, es, rs, hd, h, he, hr, hq => by
    have hi : ops[i]? = some o := by
      have : (ops.drop i)[0]? = some o := by rw [hd]; rfl
      rw [List.getElem?_drop] at this; simpa using this
    have hd' : ops.drop (i + 1) = rest := by rw [← List.drop_drop, hd]; rfl
    unfold drawC at h
    obtain ⟨b, hg, h1⟩ := guardC_inv h
    clear h
    cases b with
    | false =>
      dsimp only at h1
      have hok := OKi.of_no (C := C) (fr0 := fr0) (S0 := S0) hi hg
      rw [← (hok.no rfl).1, ← hok.next, ← (hok.no rfl).2] at h1
      have hnw : ¬ Wd C ops fr0 S0 i o := fun hw => by unfold Wd at hw; rw [hg] at hw; cases hw
      obtain ⟨g1, g2⟩ := drawC_inv rest (i + 1) es rs hd' h1
        (fun l o' hl ho' hw hk => by
          rcases Nat.lt_or_ge l i with q | q
          · exact he l o' q ho' hw hk
          · have : l = i := by omega
            subst this; rw [hi] at ho'; cases ho'; exact absurd hw hnw)
        (fun l o' hl ho' hw hk => by
          rcases Nat.lt_or_ge l i with q | q
          · exact hr l o' q ho' hw hk
          · have : l = i := by omega
            subst this; rw [hi] at ho'; cases ho'; exact absurd hw hnw) hq
      refine ⟨g1, fun j o' hij ho' => ?_⟩
      rcases Nat.lt_or_ge i j with q | q
      · exact g2 j o' q ho'
      · have : j = i := by omega
        subst this; rw [hi] at ho'; cases ho'
        exact ⟨⟨false, hok⟩, fun hw => absurd hw hnw, fun hw => absurd hw hnw⟩
    | true =>
      dsimp only at h1
      -- in each kind, the operation is carried out
      have fin : ∀ {es' : List (Nat × Option Nat × St)} {rs' : List Rd} (hok : OKi C ops fr0 S0 i o true), Chk C ops fr0 S0 an i o →
          drawC C ops an k rest (i + 1) (stp C ops fr0 S0 (i + 1)).1 (stp C ops fr0 S0 (i + 1)).2 es' rs' = some r →
          (∀ q ∈ es, q ∈ es') → (kindD C.P C.O C.f o = .eff → (i, tagOf C (stp C ops fr0 S0 i).1 o, (stp C ops fr0 S0 i).2) ∈ es') →
          (∀ q ∈ rs, q ∈ rs') → (kindD C.P C.O C.f o = .read → (⟨i, o, (stp C ops fr0 S0 i).1, sl C ops fr0 S0 i, tagOf C (stp C ops fr0 S0 i).1 o⟩ : Rd) ∈ rs') →
          (∀ q ∈ rs', kindD C.P C.O C.f q.o = .read ∧ ∃ S1, opRD C q.fr S1 q.o = some (q.s, S1)) →
          k (stp C ops fr0 S0 ops.length).1 (stp C ops fr0 S0 ops.length).2 = some r ∧ ∀ j o, i ≤ j → ops[j]? = some o → (∃ b, OKi C ops fr0 S0 j o b) ∧ Chk C ops fr0 S0 an j o := by
        intro es' rs' hok hchk h2 he1 he2 hr1 hr2 hq'
        obtain ⟨g1, g2⟩ := drawC_inv rest (i + 1) es' rs' hd' h2
          (fun l o' hl ho' hw hk => by
            rcases Nat.lt_or_ge l i with q | q
            · exact he1 _ (he l o' q ho' hw hk)
            · have : l = i := by omega
              subst this; rw [hi] at ho'; cases ho'; exact he2 hk)
          (fun l o' hl ho' hw hk => by
            rcases Nat.lt_or_ge l i with q | q
            · exact hr1 _ (hr l o' q ho' hw hk)
            · have : l = i := by omega
              subst this; rw [hi] at ho'; cases ho'; exact hr2 hk) hq'
        refine ⟨g1, fun j o' hij ho' => ?_⟩
        rcases Nat.lt_or_ge i j with q | q
        · exact g2 j o' q ho'
        · have : j = i := by omega
          subst this; rw [hi] at ho'; cases ho'
          exact ⟨⟨true, hok⟩, hchk⟩
      have conv : ∀ {k' : Slot → St → Option α}, opD C (stp C ops fr0 S0 i).1 (stp C ops fr0 S0 i).2 o k' = some r → ∃ hok : OKi C ops fr0 S0 i o true, k' (sl C ops fr0 S0 i) (stp C ops fr0 S0 (i + 1)).2 = some r := by
        intro k' hk'
        rw [opD_nat] at hk'
        cases hR : opRD C (stp C ops fr0 S0 i).1 (stp C ops fr0 S0 i).2 o with
        | none => rw [hR] at hk'; cases hk'
        | some p =>
          obtain ⟨s, S'⟩ := p
          rw [hR] at hk'
          obtain ⟨hok, e1, e2⟩ := OKi.of_yes hi hg hR
          exact ⟨hok, by rw [e1, e2]; exact hk'⟩
      split at h1
      · rename_i hkind
        obtain ⟨hok, h2⟩ := conv h1
        rw [← hok.next] at h2
        exact fin hok ⟨fun _ hk => (by rw [hkind] at hk; cases hk), fun _ hk => (by rw [hkind] at hk; cases hk)⟩ h2 (fun q hq => hq) (fun hk => (by rw [hkind] at hk; cases hk)) (fun q hq => hq) (fun hk => (by rw [hkind] at hk; cases hk)) hq
      · rename_i hkind
        obtain ⟨hok, h2⟩ := conv h1
        have hR := hok.yes rfl
        obtain ⟨e1, e2⟩ := opRD_pr (S2 := (stp C ops fr0 S0 i).2) hR (.inr ⟨hkind, rfl⟩)
        obtain ⟨h3, h4⟩ := chkBack_inv e2 hkind es h2
        rw [← hok.next] at h3
        refine fin hok ⟨fun hw hk l o' hl ho' hw' hk' hb ht => h4 _ (he l o' hl ho' hw' hk') hb ht, fun _ hk => (by rw [hkind] at hk; cases hk)⟩ h3 (fun q hq => hq) (fun hk => (by rw [hkind] at hk; cases hk))
          (fun q hq => List.mem_append_left _ hq) (fun _ => List.mem_append_right _ (List.mem_singleton.2 rfl)) ?_
        intro q hq'
        rcases List.mem_append.1 hq' with hq' | hq'
        · exact hq q hq'
        · cases List.mem_singleton.1 hq'
          exact ⟨hkind, _, e2⟩
      · rename_i hkind
        obtain ⟨hok, h2⟩ := conv h1
        obtain ⟨h3, h4⟩ := chkFore_inv rs hq h2
        rw [← hok.next] at h3
        exact fin hok ⟨fun _ hk => (by rw [hkind] at hk; cases hk), fun hw hk l o' hl ho' hw' hk' hb ht => h4 _ (hr l o' hl ho' hw' hk') hb ht⟩ h3 (fun q hq => List.mem_append_left _ hq) (fun _ => List.mem_append_right _ (List.mem_singleton.2 rfl)) (fun q hq => hq) (fun hk => (by rw [hkind] at hk; cases hk)) hq
end
end Go.AM
/- The abstract machine: regions that draw are sound, II. -/
set_option linter.unusedVariables false
namespace Go.AM
open Go

section
variable {C : Ctx} {ops : List Oper} {fr0 : Fr} {S0 : St} {an : List Nat}

theorem sameTag_comm (a b : Option Nat) : sameTag a b = sameTag b a := by
  cases a <;> cases b <;> first | rfl | skip
  rename_i x y
  show Nat.beq x y = Nat.beq y x
  rw [Bool.eq_iff_iff, Nat.beq_eq, Nat.beq_eq]
  exact ⟨Eq.symm, Eq.symm⟩
theorem putS_get (fr : Fr) (d : Option Nat) (s : Slot) (t : Nat) : (putS fr d s)[t]? = if d = some t then (fr[t]?).map fun _ => s else fr[t]? := by
  cases d with
  | none => rfl
  | some d =>
    simp only [putS, List.getElem?_set, Option.some.injEq]
    by_cases h : d = t
    · subst h
      rw [if_pos rfl, if_pos rfl]
      split
      · rename_i hl; rw [List.getElem?_eq_getElem hl]; rfl
      · rename_i hl; rw [List.getElem?_eq_none (by omega)]; rfl
    · rw [if_neg h, if_neg h]
theorem getS_of {fr fr' : Fr} {t : Nat} (h : fr[t]? = fr'[t]?) : getS fr t = getS fr' t := by
  unfold getS; rw [List.getD_eq_getElem?_getD, List.getD_eq_getElem?_getD, h]

variable (C ops fr0 S0) in
/-- The frame where the operations that are listed have been carried out. -/
def FD (L : Array Bool) : Nat → Fr
  | 0 => fr0
  | i + 1 => match L.getD i false with
    | true => match ops[i]? with
      | some o => putS (FD L i) o.dst (sl C ops fr0 S0 i)
      | none => FD L i
    | false => FD L i

theorem FD_slot {L : Array Bool} (hok : ∀ j o, ops[j]? = some o → ∃ b, OKi C ops fr0 S0 j o b) {t j : Nat} (hj : j ≤ ops.length)
    (h1 : ∀ i o, i < j → ops[i]? = some o → o.dst = some t → L.getD i false = true) (h2 : ∀ i o, j ≤ i → ops[i]? = some o → o.dst = some t → L.getD i false = false) :
    ∀ m, m ≤ ops.length → (FD C ops fr0 S0 L m)[t]? = ((stp C ops fr0 S0 (min m j)).1)[t]?
  | 0, _ => by rw [Nat.zero_min]; rfl
  | m + 1, hm => by
    have ih := FD_slot hok hj h1 h2 m (by omega)
    have hom : ∃ o, ops[m]? = some o := ⟨ops[m], by simp⟩
    obtain ⟨o, ho⟩ := hom
    obtain ⟨b, hb⟩ := hok m o ho
    unfold FD
    rcases Nat.lt_or_ge m j with q | q
    · rw [Nat.min_eq_left q, hb.next, putS_get]
      rw [Nat.min_eq_left (by omega)] at ih
      cases hL : L.getD m false with
      | true =>
        dsimp only
        rw [ho]
        dsimp only
        rw [putS_get, ih]
      | false =>
        dsimp only
        rw [ih]
        split
        · rename_i hd; rw [h1 m o q ho hd] at hL; cases hL
        · rfl
    · rw [Nat.min_eq_right (by omega)]
      rw [Nat.min_eq_right q] at ih
      cases hL : L.getD m false with
      | true =>
        dsimp only
        rw [ho]
        dsimp only
        rw [putS_get, ih]
        split
        · rename_i hd; rw [h2 m o q ho hd] at hL; cases hL
        · rfl
      | false => dsimp only; exact ih

theorem getD_set {L : Array Bool} {j i : Nat} (hj : j < L.size) : (L.setIfInBounds j true).getD i false = if i = j then true else L.getD i false := by
  simp only [Array.getD_eq_getD_getElem?, Array.getElem?_setIfInBounds]
  by_cases h : j = i
  · subst h; rw [if_pos rfl, if_pos rfl, if_pos hj]; rfl
  · rw [if_neg h, if_neg (fun e => h e.symm)]

theorem FD_set {L : Array Bool} {j : Nat} {oj : Oper} (hoj : ops[j]? = some oj) (hjL : j < L.size) (hnj : L.getD j false = false)
    (h2 : ∀ i o, j < i → ops[i]? = some o → L.getD i false = true → ∀ d, oj.dst = some d → o.dst ≠ some d) :
    ∀ m, m ≤ ops.length → FD C ops fr0 S0 (L.setIfInBounds j true) m = if m ≤ j then FD C ops fr0 S0 L m else putS (FD C ops fr0 S0 L m) oj.dst (sl C ops fr0 S0 j)
  | 0, _ => by rw [if_pos (Nat.zero_le _)]; rfl
  | m + 1, hm => by
    have ih := FD_set hoj hjL hnj h2 m (by omega)
    unfold FD
    rw [getD_set hjL]
    obtain ⟨o, ho⟩ : ∃ o, ops[m]? = some o := ⟨ops[m], by simp⟩
    rcases Nat.lt_trichotomy m j with q | q | q
    · rw [if_neg (by omega), if_pos (by omega)]
      rw [if_pos (by omega)] at ih
      rw [ih]
    · subst q
      rw [if_pos rfl, if_neg (by omega), hnj]
      rw [if_pos (Nat.le_refl _)] at ih
      rw [hoj]
      dsimp only
      rw [ih]
    · rw [if_neg (by omega), if_neg (by omega)]
      rw [if_neg (by omega)] at ih
      cases hL : L.getD m false with
      | false => dsimp only; exact ih
      | true =>
        dsimp only
        rw [ho]
        dsimp only
        rw [ih]
        apply List.ext_getElem?
        intro t
        simp only [putS_get]
        have := h2 m o q ho hL
        by_cases e1 : o.dst = some t
        · by_cases e2 : oj.dst = some t
          · exact absurd e1 (this t e2)
          · rw [if_pos e1, if_neg e2, if_neg e2, if_pos e1]
        · rw [if_neg e1, if_neg e1]

variable (C ops fr0 S0) in
def Effw (i : Nat) : Prop := ∃ o, ops[i]? = some o ∧ Wd C ops fr0 S0 i o ∧ kindD C.P C.O C.f o = .eff

theorem T_const (hok : ∀ j o, ops[j]? = some o → ∃ b, OKi C ops fr0 S0 j o b) {m : Nat} : ∀ m', m ≤ m' → m' ≤ ops.length → (∀ i, m ≤ i → i < m' → ¬ Effw C ops fr0 S0 i) → (stp C ops fr0 S0 m').2 = (stp C ops fr0 S0 m).2 := by
  intro m' hm
  induction m' with
  | zero => intro _ _; have : m = 0 := by omega
            rw [this]
  | succ n ih =>
    intro hn h
    rcases Nat.lt_or_ge n m with q | q
    · have : m = n + 1 := by omega
      rw [this]
    · rw [← ih q (by omega) (fun i h1 h2 => h i h1 (by omega))]
      obtain ⟨o, ho⟩ : ∃ o, ops[n]? = some o := ⟨ops[n], by simp⟩
      obtain ⟨b, hb⟩ := hok n o ho
      cases b with
      | false => exact (hb.no rfl).2
      | true =>
        have hk : kindD C.P C.O C.f o ≠ .eff := fun hk => h n q (Nat.lt_succ_self n) ⟨o, ho, hb.guard, hk⟩
        have hR := hb.yes rfl
        refine (opRD_pr (S2 := (stp C ops fr0 S0 n).2) hR ?_).1
        cases hq : kindD C.P C.O C.f o with
        | pure => exact .inl rfl
        | read => exact .inr ⟨rfl, rfl⟩
        | eff => exact absurd hq hk

/-- What a reading yields, wherever it stands. -/
theorem read_any (hok : ∀ j o, ops[j]? = some o → ∃ b, OKi C ops fr0 S0 j o b) (hchk : ∀ j o, ops[j]? = some o → Chk C ops fr0 S0 an j o)
    {j : Nat} {o : Oper} (ho : ops[j]? = some o) (hb : OKi C ops fr0 S0 j o true) (hk : kindD C.P C.O C.f o = .read) :
    (∀ n, ∀ m, m + n = j → (∀ i, m ≤ i → i < j → Effw C ops fr0 S0 i → (an.getD j 0).testBit i = false) → opRD C (stp C ops fr0 S0 j).1 (stp C ops fr0 S0 m).2 o = some (sl C ops fr0 S0 j, (stp C ops fr0 S0 m).2)) ∧
    (∀ m, j ≤ m → m ≤ ops.length → (∀ i, j < i → i < m → Effw C ops fr0 S0 i → (an.getD i 0).testBit j = false) → opRD C (stp C ops fr0 S0 j).1 (stp C ops fr0 S0 m).2 o = some (sl C ops fr0 S0 j, (stp C ops fr0 S0 m).2)) := by
  have h0 : opRD C (stp C ops fr0 S0 j).1 (stp C ops fr0 S0 j).2 o = some (sl C ops fr0 S0 j, (stp C ops fr0 S0 j).2) := (opRD_pr (hb.yes rfl) (.inr ⟨hk, rfl⟩)).2
  have hjl := (List.getElem?_eq_some_iff.1 ho).1
  refine ⟨fun n => ?_, fun m => ?_⟩
  · induction n with
    | zero => intro m hm _; have : m = j := by omega
              rw [this]; exact h0
    | succ n ih =>
      intro m hm hno
      have h1 := ih (m + 1) (by omega) (fun i h1 h2 => hno i (by omega) h2)
      obtain ⟨om, hom⟩ : ∃ om, ops[m]? = some om := ⟨ops[m], by simp⟩
      by_cases hw : Wd C ops fr0 S0 m om ∧ kindD C.P C.O C.f om = .eff
      · have hbit := hno m (Nat.le_refl _) (by omega) ⟨om, hom, hw.1, hw.2⟩
        cases ht : sameTag (tagOf C (stp C ops fr0 S0 m).1 om) (tagOf C (stp C ops fr0 S0 j).1 o) with
        | true => exact (hchk j o ho).1 hb.guard hk m om (by omega) hom hw.1 hw.2 hbit ht
        | false =>
          obtain ⟨b, hbm⟩ := hok m om hom
          have hbt : b = true := by have := hbm.guard; rw [hw.1] at this; cases this; rfl
          subst hbt
          have htag := eff_tagD (hbm.yes rfl) hw.2
          have hst : sameTag (tagOf C (stp C ops fr0 S0 j).1 o) (tagOf C (stp C ops fr0 S0 m).1 om) = false := by rw [sameTag_comm]; exact ht
          have := htag.other hst
          refine read_sameD h1 hk ?_
          unfold sameOn at this ⊢
          split at this
          · exact this.symm
          · exact this.symm
      · have hT : (stp C ops fr0 S0 (m + 1)).2 = (stp C ops fr0 S0 m).2 := T_const hok (m + 1) (by omega) (by omega) (fun i h1 h2 he => by
          have : i = m := by omega
          subst this
          obtain ⟨o', ho', hw1, hw2⟩ := he
          rw [hom] at ho'; cases ho'
          exact hw ⟨hw1, hw2⟩)
        rw [hT] at h1; exact h1
  · induction m with
    | zero => intro hm _ _; have : j = 0 := by omega
              subst this; exact h0
    | succ m ih =>
      intro hm hml hno
      rcases Nat.lt_or_ge m j with q | q
      · have : m + 1 = j := by omega
        rw [this]; exact h0
      · have h1 := ih q (by omega) (fun i h1 h2 => hno i h1 (by omega))
        obtain ⟨om, hom⟩ : ∃ om, ops[m]? = some om := ⟨ops[m], by simp⟩
        by_cases hw : Wd C ops fr0 S0 m om ∧ kindD C.P C.O C.f om = .eff
        · have hjm : j < m := by
            rcases Nat.lt_or_ge j m with q' | q'
            · exact q'
            · have : m = j := by omega
              subst this
              rw [ho] at hom; cases hom
              rw [hk] at hw; cases hw.2
          have hbit := hno m hjm (Nat.lt_succ_self m) ⟨om, hom, hw.1, hw.2⟩
          cases ht : sameTag (tagOf C (stp C ops fr0 S0 j).1 o) (tagOf C (stp C ops fr0 S0 m).1 om) with
          | true => exact (hchk m om hom).2 hw.1 hw.2 j o hjm ho hb.guard hk hbit ht
          | false =>
            obtain ⟨b, hbm⟩ := hok m om hom
            have hbt : b = true := by have := hbm.guard; rw [hw.1] at this; cases this; rfl
            subst hbt
            exact read_sameD h1 hk ((eff_tagD (hbm.yes rfl) hw.2).other ht)
        · have hT : (stp C ops fr0 S0 (m + 1)).2 = (stp C ops fr0 S0 m).2 := T_const hok (m + 1) (by omega) (by omega) (fun i h1 h2 he => by
            have : i = m := by omega
            subst this
            obtain ⟨o', ho', hw1, hw2⟩ := he
            rw [hom] at ho'; cases ho'
            exact hw ⟨hw1, hw2⟩)
          rw [hT]; exact h1
end

/-! ### Boxes that lie there already -/
section
variable {C : Ctx} {ops : List Oper} {α : Type}
theorem LA_inv {o : Oper} (h : isLA C.O C.f o = true) : ∃ T d, o.guard = none ∧ o.op = .alloc T ∧ o.dst = some d ∧ (C.O.loc C.f).elem d = true := by
  unfold isLA at h
  split at h
  · rename_i T d h1 h2 h3; exact ⟨T, d, h1, h2, h3, h⟩
  · cases h
theorem LA_step {o : Oper} (h : isLA C.O C.f o = true) {S : St} {k : Slot → St → Option α} {r : α} (hk : opC C [] S o k = some r) :
    ∃ d c, o.dst = some d ∧ S.bx d = none ∧ k (.loc d 0) (S.setB d (some c)) = some r ∧ ∀ fr S2, S2.bx d = none → opR C fr S2 o = some (.loc d 0, S2.setB d (some c)) := by
  obtain ⟨T, d, h1, h2, h3, h4⟩ := LA_inv h
  unfold opC at hk
  rw [h2] at hk
  dsimp only at hk
  unfold zeroC at hk
  rcases hi : C.P.info? T with _ | i
  · rw [hi] at hk; cases hk
  · rw [hi] at hk
    dsimp only at hk
    rcases hz : i.zero with _ | z
    · rw [hz] at hk; cases hk
    · rw [hz] at hk
      dsimp only at hk
      cases hc : constOk z with
      | false => rw [hc] at hk; cases hk
      | true =>
        rw [hc] at hk
        dsimp only at hk
        cases ha : (cellsL z).all one with
        | false => rw [ha] at hk; cases hk
        | true =>
          rw [ha] at hk
          dsimp only at hk
          unfold newBox at hk
          rw [h3] at hk
          dsimp only at hk
          rw [h4] at hk
          dsimp only at hk
          rcases hb : S.bx d with _ | b
          · rw [hb] at hk
            refine ⟨d, .cells (cellsL z) false, h3, hb, hk, fun fr S2 h5 => ?_⟩
            unfold opR opC
            rw [h2]
            dsimp only
            unfold zeroC
            rw [hi]
            dsimp only
            rw [hz]
            dsimp only
            rw [hc]
            dsimp only
            rw [ha]
            dsimp only
            unfold newBox
            rw [h3]
            dsimp only
            rw [h4]
            dsimp only
            rw [h5]
          · rw [hb] at hk; cases hk
theorem hoist_inv {k : St → Option α} {r : α} : ∀ (l : List Oper) (S : St), hoistC C k l S = some r → ∃ S0, k S0 = some r ∧ S0.hp = S.hp ∧ (∀ d, (∀ o ∈ l, isLA C.O C.f o = true → o.dst ≠ some d) → S0.bx d = S.bx d) ∧
    (∀ o ∈ l, isLA C.O C.f o = true → ∃ d c, o.dst = some d ∧ S.bx d = none ∧ S0.bx d = some c ∧ ∀ fr S2, S2.bx d = none → opR C fr S2 o = some (.loc d 0, S2.setB d (some c))) ∧
    (∀ (i j : Nat) oi oj, l[i]? = some oi → l[j]? = some oj → isLA C.O C.f oi = true → isLA C.O C.f oj = true → oi.dst = oj.dst → i = j)
  | [], S, h => ⟨S, h, rfl, fun _ _ => rfl, fun o ho => absurd ho List.not_mem_nil, fun i j oi oj h1 => absurd h1 (by simp)⟩
  | o :: l, S, h => by
    unfold hoistC at h
    cases hl : isLA C.O C.f o with
    | false =>
      rw [hl] at h
      obtain ⟨S0, h1, h2, h3, h4, h5⟩ := hoist_inv l S h
      refine ⟨S0, h1, h2, fun d hd => h3 d fun o' ho' => hd o' (List.mem_cons_of_mem _ ho'), fun o' ho' hl' => ?_, fun i j oi oj hi hj li lj hd => ?_⟩
      · rcases List.mem_cons.1 ho' with rfl | ho'
        · rw [hl] at hl'; cases hl'
        · exact h4 o' ho' hl'
      · cases i with
        | zero => simp at hi; subst hi; rw [hl] at li; cases li
        | succ i => cases j with
          | zero => simp at hj; subst hj; rw [hl] at lj; cases lj
          | succ j => exact congrArg (· + 1) (h5 i j oi oj (by simpa using hi) (by simpa using hj) li lj hd)
    | true =>
      rw [hl] at h
      obtain ⟨d, c, e1, e2, e3, e4⟩ := LA_step hl h
      obtain ⟨S0, h1, h2, h3, h4, h5⟩ := hoist_inv l _ e3
      have hne : ∀ o' ∈ l, isLA C.O C.f o' = true → o'.dst ≠ some d := fun o' ho' hl' hd => by
        obtain ⟨d', c', q1, q2, _⟩ := h4 o' ho' hl'
        rw [hd] at q1; cases q1
        rw [St.setB_same] at q2; cases q2
      refine ⟨S0, h1, h2, fun d' hd' => ?_, fun o' ho' hl' => ?_, fun i j oi oj hi hj li lj hd => ?_⟩
      · rw [h3 d' fun o' ho' => hd' o' (List.mem_cons_of_mem _ ho')]
        exact St.setB_ne _ _ fun q => hd' o (List.mem_cons_self ..) hl (by rw [e1, q])
      · rcases List.mem_cons.1 ho' with rfl | ho'
        · refine ⟨d, c, e1, e2, ?_, e4⟩
          rw [h3 d hne, St.setB_same]
        · obtain ⟨d', c', q1, q2, q3, q4⟩ := h4 o' ho' hl'
          refine ⟨d', c', q1, ?_, q3, q4⟩
          rw [St.setB_ne _ _ (fun q => hne o' ho' hl' (by rw [q1, q]))] at q2
          exact q2
      · cases i with
        | zero =>
          simp at hi
          subst hi
          cases j with
          | zero => rfl
          | succ j => exact absurd (hd.symm.trans e1) (hne oj (List.mem_of_getElem? (by simpa using hj)) lj)
        | succ i => cases j with
          | zero =>
            simp at hj
            subst hj
            exact absurd (hd.trans e1) (hne oi (List.mem_of_getElem? (by simpa using hi)) li)
          | succ j => exact congrArg (· + 1) (h5 i j oi oj (by simpa using hi) (by simpa using hj) li lj hd)
variable (C ops) in
/-- A box that is laid already, but is not yet carried out. -/
def Due (L : Array Bool) (d : Nat) : Prop := ∃ (j : Nat) (o : Oper), ops[j]? = some o ∧ isLA C.O C.f o = true ∧ o.dst = some d ∧ L.getD j false = false
open Classical in
variable (C ops) in
noncomputable def rst (L : Array Bool) (S : St) : St := ⟨fun d => if Due C ops L d then none else S.bx d, S.hp⟩
open Classical in
theorem rst_due {L : Array Bool} {S : St} {d : Nat} (h : Due C ops L d) : (rst C ops L S).bx d = none := by
  show (if Due C ops L d then none else S.bx d) = none
  rw [if_pos h]
open Classical in
theorem rst_not {L : Array Bool} {S : St} {d : Nat} (h : ¬ Due C ops L d) : (rst C ops L S).bx d = S.bx d := by
  show (if Due C ops L d then none else S.bx d) = _
  rw [if_neg h]
theorem St.ext' {S S' : St} (h1 : ∀ d, S.bx d = S'.bx d) (h2 : S.hp = S'.hp) : S = S' := by
  cases S; cases S'
  simp only [St.mk.injEq]
  exact ⟨funext h1, h2⟩
theorem rst_all {L : Array Bool} {S : St} (h : ∀ i, i < ops.length → L.getD i false = true) : rst C ops L S = S :=
  St.ext' (fun d => rst_not fun ⟨j, o, h1, _, _, h4⟩ => by rw [h j (List.getElem?_eq_some_iff.1 h1).1] at h4; cases h4) rfl
theorem due_set {L : Array Bool} {j : Nat} {oj : Oper} (hoj : ops[j]? = some oj) (hjL : j < L.size) {e : Nat} (hd : isLA C.O C.f oj = false ∨ oj.dst ≠ some e) : Due C ops (L.setIfInBounds j true) e ↔ Due C ops L e := by
  constructor
  · rintro ⟨i, o, h1, h2, h3, h4⟩
    rw [getD_set hjL] at h4
    split at h4
    · cases h4
    · exact ⟨i, o, h1, h2, h3, h4⟩
  · rintro ⟨i, o, h1, h2, h3, h4⟩
    refine ⟨i, o, h1, h2, h3, ?_⟩
    rw [getD_set hjL, if_neg (fun q => by
      subst q
      rw [hoj] at h1; cases h1
      rcases hd with hd | hd
      · rw [hd] at h2; cases h2
      · exact hd h3)]
    exact h4
theorem rst_ord {L : Array Bool} {j : Nat} {oj : Oper} (hoj : ops[j]? = some oj) (hjL : j < L.size) (hl : isLA C.O C.f oj = false) (S : St) : rst C ops (L.setIfInBounds j true) S = rst C ops L S := by
  refine St.ext' (fun d => ?_) rfl
  by_cases h : Due C ops L d
  · rw [rst_due h, rst_due ((due_set hoj hjL (.inl hl)).2 h)]
  · rw [rst_not h, rst_not fun q => h ((due_set hoj hjL (.inl hl)).1 q)]
theorem tag_loc {fr : Fr} {o : Oper} {d : Nat} (h : tagOf C fr o = some d) : (∃ x off, ev C.P.globals.size fr x = .loc d off) ∨ ∀ S r, opR C fr S o = some r → S.bx d = none := by
  unfold tagOf at h
  split at h
  · rename_i T x hop
    split at h
    · rename_i e off he
      cases h; exact .inl ⟨x, off, he⟩
    · cases h
  · rename_i T x y hop
    split at h
    · rename_i e off he
      cases h; exact .inl ⟨x, off, he⟩
    · cases h
  · rename_i T hop
    right
    intro S r hr
    split at h
    · rename_i e hd
      split at h
      · rename_i he
        cases h
        cases hb : S.bx d with
        | none => rfl
        | some b =>
          unfold opR opC at hr
          rw [hop] at hr
          dsimp only at hr
          unfold newBox zeroC at hr
          rw [hd] at hr
          dsimp only at hr
          rw [he, hb] at hr
          dsimp only at hr
          repeat' split at hr
          all_goals cases hr
      · cases h
    · cases h
  · rename_i T x hop
    right
    intro S r hr
    split at h
    · rename_i e hd
      split at h
      · rename_i he
        cases h
        cases hb : S.bx d with
        | none => rfl
        | some b =>
          unfold opR opC at hr
          rw [hop] at hr
          dsimp only at hr
          unfold newBox sV at hr
          rw [hd] at hr
          dsimp only at hr
          rw [he, hb] at hr
          dsimp only at hr
          repeat' split at hr
          all_goals cases hr
      · cases h
    · cases h
  · rename_i T x hop
    right
    intro S r hr
    cases hb : S.bx d with
    | none => rfl
    | some b =>
      unfold opR opC at hr
      rw [hop] at hr
      dsimp only at hr
      unfold sV at hr
      rw [h] at hr
      split at hr
      · split at hr
        · rename_i q; cases q
          rw [hb] at hr; cases hr
        · cases hr
      · cases hr
  · rename_i x b hop
    split at h
    · rename_i e off he
      cases h; exact .inl ⟨x, off, he⟩
    · cases h
  · cases h
theorem LA_guard {o : Oper} (h : isLA C.O C.f o = true) (fr : Fr) : guardV ops fr o = some true := by
  obtain ⟨T, d, h1, _⟩ := LA_inv h
  unfold guardV guardC
  rw [h1]
end

theorem draws_sound {P : Program} (O : Orc) (h : Handler) (f : FuncId) (hh : SimC P h) : DrawS ⟨P, O, h, f⟩ := by
  intro α w0 H0 β0 r ops k Q W S1 a1 β1 l1 hord hW hk fr0 Sb a w β lam hrun hG hM
  generalize hC : (⟨P, O, h, f⟩ : Ctx) = C at *
  have hhC : SimC C.P C.h := by rw [← hC]; exact hh
  clear hC hh
  obtain ⟨S0, hrun, hhp, hoth, hla, huniq⟩ := hoist_inv _ _ hrun
  have hla' : ∀ (j : Nat) o d, ops[j]? = some o → isLA C.O C.f o = true → o.dst = some d → ∃ c, Sb.bx d = none ∧ S0.bx d = some c ∧ ∀ fr S2, S2.bx d = none → opR C fr S2 o = some (.loc d 0, S2.setB d (some c)) := fun j o d h1 h2 h3 => by
    obtain ⟨d', c, q1, q2, q3, q4⟩ := hla o (List.mem_of_getElem? h1) h2
    rw [h3] at q1; cases q1
    exact ⟨c, q2, q3, q4⟩
  obtain ⟨hend, hall⟩ := drawC_inv (C := C) (ops := ops) (fr0 := fr0) (S0 := S0) (an := ancs ops) ops 0 [] [] rfl hrun (fun l o' hl => by omega) (fun l o' hl => by omega) (fun q hq => by cases hq)
  have hok : ∀ j o, ops[j]? = some o → ∃ b, OKi C ops fr0 S0 j o b := fun j o ho => (hall j o (Nat.zero_le _) ho).1
  have hchk : ∀ j o, ops[j]? = some o → Chk C ops fr0 S0 (ancs ops) j o := fun j o ho => (hall j o (Nat.zero_le _) ho).2
  have fin : ∀ (L : Array Bool) (a : Act) (w : World) (β : Bt) (lam : Nat → Nat) (m : Nat), (∀ i, i < ops.length → L.getD i false = true) → m ≤ ops.length → (∀ i, m ≤ i → Effw C ops fr0 S0 i → L.getD i false = false) →
      Good C.P w0 H0 β0 (FD C ops fr0 S0 L ops.length) (rst C ops L (stp C ops fr0 S0 m).2) a w β lam → Moved W S1 a1 β1 l1 (rst C ops L (stp C ops fr0 S0 m).2) a β lam → Q .normal a w := by
    intro L a w β lam m hL hm hm2 hG hM
    rw [rst_all hL] at hG hM
    have hF : ∀ q, q ≤ ops.length → FD C ops fr0 S0 L q = (stp C ops fr0 S0 q).1 := by
      intro q
      induction q with
      | zero => intro _; rfl
      | succ q ih =>
        intro hq
        obtain ⟨o, ho⟩ : ∃ o, ops[q]? = some o := ⟨ops[q], by simp⟩
        obtain ⟨b, hb⟩ := hok q o ho
        unfold FD
        rw [hL q (by omega)]
        dsimp only
        rw [ho]
        dsimp only
        rw [ih (by omega), hb.next]
    have hT : (stp C ops fr0 S0 ops.length).2 = (stp C ops fr0 S0 m).2 := T_const hok _ hm (Nat.le_refl _) (fun i h1 h2 he => by
      have := hm2 i h1 he
      rw [hL i h2] at this; cases this)
    rw [hF _ (Nat.le_refl _)] at hG
    rw [← hT] at hG hM
    exact hk _ _ a w β lam hend hG hM
  have full : ∀ (L : Array Bool), L.size = ops.length → Region.ready .any ops.toArray L = [] → ∀ i, i < ops.length → L.getD i false = true := by
    intro L hs hr i
    induction i using Nat.strongRecOn with
    | _ i ih =>
      intro hi
      cases hL : L.getD i false with
      | true => rfl
      | false =>
        exfalso
        have : i ∈ Region.ready .any ops.toArray L := by
          refine mem_ready.2 ⟨?_, ops[i], by simp [hi], fun e he hb => ?_⟩
          · rw [Array.getD_eq_getD_getElem?] at hL ⊢
            rw [Array.getElem?_eq_getElem (by omega)] at hL ⊢
            exact hL
          · have hlt := inOrder_edges hord (j := i) (o := ops[i]) (by simp) e he hb
            exact ih e.on hlt (by omega)
        rw [hr] at this; cases this
  have main : ∀ (fuel : Nat) (L : Array Bool) (a : Act) (w : World) (β : Bt) (lam : Nat → Nat) (U : List Nat) (m : Nat), L.size = ops.length → U.length = fuel → (∀ i, i < ops.length → L.getD i false = false → i ∈ U) →
      (∀ i o, L.getD i false = true → ops[i]? = some o → ∀ e ∈ o.after, Region.binds .any e = true → L.getD e.on false = true) →
      m ≤ ops.length → (∀ i, i < m → Effw C ops fr0 S0 i → L.getD i false = true) → (∀ i, m ≤ i → Effw C ops fr0 S0 i → L.getD i false = false) →
      (∀ (i : Nat) o d, ops[i]? = some o → isLA C.O C.f o = true → o.dst = some d → L.getD i false = false → (stp C ops fr0 S0 m).2.bx d = S0.bx d) →
      Good C.P w0 H0 β0 (FD C ops fr0 S0 L ops.length) (rst C ops L (stp C ops fr0 S0 m).2) a w β lam → Moved W S1 a1 β1 l1 (rst C ops L (stp C ops fr0 S0 m).2) a β lam →
      wpAny C.P .any ops.toArray Q fuel L a w := by
    intro fuel
    induction fuel with
    | zero =>
      intro L a w β lam U m hs hU hUm hcl hm hm1 hm2 hI hG hM
      have hU0 : U = [] := List.length_eq_zero_iff.1 hU
      subst hU0
      have hL : ∀ i, i < ops.length → L.getD i false = true := fun i hi => by
        cases hq : L.getD i false with
        | true => rfl
        | false => exact absurd (hUm i hi hq) (by simp)
      refine ⟨?_, fin L a w β lam m hL hm hm2 hG hM⟩
      cases hr : Region.ready .any ops.toArray L with
      | nil => rfl
      | cons j js =>
        obtain ⟨h1, o, h2, _⟩ := mem_ready.1 (show j ∈ Region.ready .any ops.toArray L by rw [hr]; exact List.mem_cons_self ..)
        have hj : j < ops.length := by have := (Array.getElem?_eq_some_iff.1 h2).1; simpa using this
        have h3 := hL j hj
        rw [Array.getD_eq_getD_getElem?, Array.getElem?_eq_getElem (by omega)] at h1 h3
        simp only [Option.getD_some] at h1 h3
        rw [h1] at h3; cases h3
    | succ fuel ih =>
      intro L a w β lam U m hs hU hUm hcl hm hm1 hm2 hI hG hM
      refine ⟨fun hr => fin L a w β lam m (full L hs hr) hm hm2 hG hM, fun j hj => ?_⟩
      obtain ⟨hnj, o, ho, he⟩ := mem_ready.1 hj
      have ho : ops[j]? = some o := by simpa using ho
      have hjn := (List.getElem?_eq_some_iff.1 ho).1
      have hjL : j < L.size := by omega
      have hnj' : L.getD j false = false := by
        rw [Array.getD_eq_getD_getElem?, Array.getElem?_eq_getElem hjL] at hnj ⊢
        exact hnj
      have hanc : ∀ l, ((ancs ops).getD j 0).testBit l = true → L.getD l false = true := anc_in (D := fun i => L.getD i false = true) hcl j o ho he
      have hdesc : ∀ i oi, ops[i]? = some oi → L.getD i false = true → ((ancs ops).getD i 0).testBit j = true → False := fun i oi hoi hi hbit => by
        have := anc_in (D := fun i => L.getD i false = true) hcl i oi hoi (hcl i oi hi hoi) j hbit
        have this : L.getD j false = true := this
        rw [hnj'] at this; cases this
      have hslot : ∀ t ∈ touches ops o, getS (FD C ops fr0 S0 L ops.length) t = getS (stp C ops fr0 S0 j).1 t := by
        intro t ht
        have := FD_slot (L := L) (t := t) (j := j) hok (Nat.le_of_lt hjn) (fun i oi hij hoi hd => by
          rcases inOrder_pair hord hij hoi ho with q | q
          · exact hanc i q
          · exact absurd ht ((clash_false q.1).1 t hd).1) (fun i oi hij hoi hd => by
          cases hL : L.getD i false with
          | false => rfl
          | true =>
            rcases Nat.lt_or_ge j i with q | q
            · rcases inOrder_pair hord q ho hoi with q' | q'
              · exact (hdesc i oi hoi hL q').elim
              · exact absurd ht ((clash_false q'.1).2 t hd)
            · have : i = j := by omega
              subst this; rw [hnj'] at hL; cases hL) ops.length (Nat.le_refl _)
        rw [Nat.min_eq_right (Nat.le_of_lt hjn)] at this
        exact getS_of this
      obtain ⟨b, hb⟩ := hok j o ho
      have hwant : Region.wanted o (yielded ops.toArray a.tmps) = b := by
        have hg : guardV ops (FD C ops fr0 S0 L ops.length) o = some b := by rw [guardV_congr hslot]; exact hb.guard
        obtain ⟨b', fr', e1, _, e2⟩ := guard_sound hg hG.fr
        cases e1; exact e2
      have hset : FD C ops fr0 S0 (L.setIfInBounds j true) ops.length = putS (FD C ops fr0 S0 L ops.length) o.dst (sl C ops fr0 S0 j) := by
        rw [FD_set ho hjL hnj' (fun i oi hij hoi hL d hd => by
          rcases inOrder_pair hord hij ho hoi with q | q
          · exact (hdesc i oi hoi hL q).elim
          · exact ((clash_false q.1).1 d hd).2) ops.length (Nat.le_refl _), if_neg (by omega)]
      have hmono : ∀ x, L.getD x false = true → (L.setIfInBounds j true).getD x false = true := fun x hx => by
        rw [getD_set hjL]; split
        · rfl
        · exact hx
      have hjj : (L.setIfInBounds j true).getD j false = true := by rw [getD_set hjL, if_pos rfl]
      have hne : ∀ x, x ≠ j → (L.setIfInBounds j true).getD x false = L.getD x false := fun x hx => by rw [getD_set hjL, if_neg hx]
      have hjU : j ∈ U := hUm j hjn hnj'
      have hWo := hW o (List.mem_of_getElem? ho)
      have hIj : ∀ m', (∀ (i : Nat) o d, ops[i]? = some o → isLA C.O C.f o = true → o.dst = some d → L.getD i false = false → (stp C ops fr0 S0 m').2.bx d = S0.bx d) →
          ∀ (i : Nat) o d, ops[i]? = some o → isLA C.O C.f o = true → o.dst = some d → (L.setIfInBounds j true).getD i false = false → (stp C ops fr0 S0 m').2.bx d = S0.bx d := fun m' h i o' d h1 h2 h3 h4 => by
        rw [getD_set hjL] at h4
        split at h4
        · cases h4
        · exact h i o' d h1 h2 h3 h4
      -- the next stage
      have next : ∀ (a' : Act) (w' : World) (β' : Bt) (lam' : Nat → Nat) (m' : Nat), m' ≤ ops.length → (∀ i, i < m' → Effw C ops fr0 S0 i → (L.setIfInBounds j true).getD i false = true) → (∀ i, m' ≤ i → Effw C ops fr0 S0 i → (L.setIfInBounds j true).getD i false = false) →
          (∀ (i : Nat) o d, ops[i]? = some o → isLA C.O C.f o = true → o.dst = some d → (L.setIfInBounds j true).getD i false = false → (stp C ops fr0 S0 m').2.bx d = S0.bx d) →
          Good C.P w0 H0 β0 (putS (FD C ops fr0 S0 L ops.length) o.dst (sl C ops fr0 S0 j)) (rst C ops (L.setIfInBounds j true) (stp C ops fr0 S0 m').2) a' w' β' lam' → Moved W S1 a1 β1 l1 (rst C ops (L.setIfInBounds j true) (stp C ops fr0 S0 m').2) a' β' lam' → wpAny C.P .any ops.toArray Q fuel (L.setIfInBounds j true) a' w' := by
        intro a' w' β' lam' m' q1 q2 q3 q0 q4 q5
        refine ih (L.setIfInBounds j true) a' w' β' lam' (U.erase j) m' (by simpa using hs) (by rw [List.length_erase_of_mem hjU, hU]; rfl) (fun i hi hLi => ?_) (fun i oi hLi hoi e hem hbd => ?_) q1 q2 q3 q0 (by rw [hset]; exact q4) q5
        · have hij : i ≠ j := fun q => by subst q; rw [hjj] at hLi; cases hLi
          rw [hne i hij] at hLi
          exact (List.mem_erase_of_ne hij).2 (hUm i hi hLi)
        · by_cases hij : i = j
          · subst hij
            rw [ho] at hoi; cases hoi
            exact hmono _ (he e hem hbd)
          · rw [hne i hij] at hLi
            exact hmono _ (hcl i oi hLi hoi e hem hbd)
      unfold wpOp
      simp only [List.getElem?_toArray, ho, hwant]
      cases b with
      | false =>
        simp only [Bool.false_eq_true, if_false]
        have hnoteff : ∀ i, Effw C ops fr0 S0 i → i ≠ j := fun i ⟨oi, hoi, hw, _⟩ q => by
          subst q; rw [ho] at hoi; cases hoi
          have h1 := hb.guard
          unfold Wd at hw
          rw [hw] at h1; cases h1
        have hl : isLA C.O C.f o = false := by
          cases hl : isLA C.O C.f o with
          | false => rfl
          | true =>
            have h1 := hb.guard
            rw [LA_guard hl] at h1; cases h1
        refine next _ w β lam m hm (fun i hi hei => hmono i (hm1 i hi hei)) (fun i hi hei => by rw [hne i (hnoteff i hei)]; exact hm2 i hi hei) (hIj m hI) ?_ ?_
        rotate_left
        · rw [rst_ord ho hjL hl]
          exact hM.put hWo _ (BMv.refl _ _) (Bt.le_refl _)
        rw [rst_ord ho hjL hl]
        refine ⟨hG.rel, ?_, hG.ext⟩
        rw [(hb.no rfl).1]
        exact hG.fr.put (s := .und) rfl _
      | true =>
        simp only [if_true]
        have hcong : ∀ S, opRD C (FD C ops fr0 S0 L ops.length) S o = opRD C (stp C ops fr0 S0 j).1 S o := fun S => opRD_congr (ev_touch hslot)
        refine .inl ?_
        cases hl : isLA C.O C.f o with
        | true =>
          obtain ⟨T, d, _, hop, hd, _⟩ := LA_inv hl
          obtain ⟨c, g1, g2, g3⟩ := hla' j o d ho hl hd
          have hdue : Due C ops L d := ⟨j, o, ho, hl, hd, hnj'⟩
          have hsl : sl C ops fr0 S0 j = .loc d 0 := by
            have := hb.yes rfl
            unfold opRD opD at this
            rw [hl, hd] at this
            exact (congrArg Prod.fst (Option.some.inj this)).symm
          have hnotd : ¬ Due C ops (L.setIfInBounds j true) d := fun ⟨i, o', h1, h2, h3, h4⟩ => by
            have hij := huniq i j o' o h1 ho h2 hl (h3.trans hd.symm)
            subst hij
            rw [hjj] at h4; cases h4
          have hst : rst C ops (L.setIfInBounds j true) (stp C ops fr0 S0 m).2 = (rst C ops L (stp C ops fr0 S0 m).2).setB d (some c) := by
            refine St.ext' (fun e => ?_) rfl
            by_cases he : e = d
            · subst he
              rw [rst_not hnotd, St.setB_same, hI j o e ho hl hd hnj', g2]
            · rw [St.setB_ne _ _ he]
              have hde := due_set (C := C) ho hjL (e := e) (.inr (fun q => he (by rw [hd] at q; cases q; rfl)))
              by_cases hu : Due C ops L e
              · rw [rst_due hu, rst_due (hde.2 hu)]
              · rw [rst_not hu, rst_not fun q => hu (hde.1 q)]
          have hnoteff : ∀ i, Effw C ops fr0 S0 i → i ≠ j := fun i ⟨oi, hoi, hw, hk⟩ q => by
            subst q; rw [ho] at hoi; cases hoi
            rw [kindD_LA hl] at hk; cases hk
          refine op_sound (r := (sl C ops fr0 S0 j, rst C ops (L.setIfInBounds j true) (stp C ops fr0 S0 m).2)) hhC hG.n (by rw [hst, hsl]; exact g3 _ _ (rst_due hdue)) hG.rel hG.fr fun s S' w' v' β' lam' k1 k2 k3 k4 k5 k6 => ?_
          cases k1
          exact next _ w' β' lam' m hm (fun i hi hei => hmono i (hm1 i hi hei)) (fun i hi hei => by rw [hne i (hnoteff i hei)]; exact hm2 i hi hei) (hIj m hI) ⟨k2, k3.put k4 _, hG.ext.trans k5⟩ (hM.put hWo _ k6 k5.le)
        | false =>
        have step : ∀ m', m' ≤ ops.length → (∀ i, i < m' → Effw C ops fr0 S0 i → (L.setIfInBounds j true).getD i false = true) → (∀ i, m' ≤ i → Effw C ops fr0 S0 i → (L.setIfInBounds j true).getD i false = false) →
            (∀ (i : Nat) o d, ops[i]? = some o → isLA C.O C.f o = true → o.dst = some d → L.getD i false = false → (stp C ops fr0 S0 m').2.bx d = S0.bx d) →
            opRD C (FD C ops fr0 S0 L ops.length) (rst C ops L (stp C ops fr0 S0 m).2) o = some (sl C ops fr0 S0 j, rst C ops L (stp C ops fr0 S0 m').2) → o.wp C.P a w (wpAny C.P .any ops.toArray Q fuel (L.setIfInBounds j true)) Q := by
          intro m' q1 q2 q3 q0 q4
          rw [opRD_ord hl] at q4
          refine op_sound (r := (sl C ops fr0 S0 j, rst C ops L (stp C ops fr0 S0 m').2)) hhC hG.n q4 hG.rel hG.fr fun s S' w' v' β' lam' g1 g2 g3 g4 g5 g6 => ?_
          cases g1
          exact next _ w' β' lam' m' q1 q2 q3 (hIj m' q0) (by rw [rst_ord ho hjL hl]; exact ⟨g2, g3.put g4 _, hG.ext.trans g5⟩) (by rw [rst_ord ho hjL hl]; exact hM.put hWo _ g6 g5.le)
        have htagd : ∀ r, opR C (FD C ops fr0 S0 L ops.length) (stp C ops fr0 S0 m).2 o = some r → ∀ d, tagOf C (FD C ops fr0 S0 L ops.length) o = some d → (rst C ops L (stp C ops fr0 S0 m).2).bx d = (stp C ops fr0 S0 m).2.bx d := fun r hr d hd => by
          by_cases hu : Due C ops L d
          · rcases tag_loc hd with ⟨x, off, hx⟩ | h2
            · have h1 := ev_rel hG.rel hG.fr x
              rw [hx] at h1
              have h1 : ((rst C ops L (stp C ops fr0 S0 m).2).bx d).isSome = true := h1.1
              rw [rst_due hu] at h1; cases h1
            · rw [rst_due hu, h2 _ _ hr]
          · exact rst_not hu
        cases hkd : kindD C.P C.O C.f o with
        | pure =>
          have hnoteff : ∀ i, Effw C ops fr0 S0 i → i ≠ j := fun i ⟨oi, hoi, hw, hk⟩ q => by
            subst q; rw [ho] at hoi; cases hoi
            rw [hkd] at hk; cases hk
          exact step m hm (fun i hi hei => hmono i (hm1 i hi hei)) (fun i hi hei => by rw [hne i (hnoteff i hei)]; exact hm2 i hi hei) hI (by rw [hcong]; exact (opRD_pr (S2 := rst C ops L (stp C ops fr0 S0 m).2) (hb.yes rfl) (.inl hkd)).2)
        | read =>
          have hnoteff : ∀ i, Effw C ops fr0 S0 i → i ≠ j := fun i ⟨oi, hoi, hw, hk⟩ q => by
            subst q; rw [ho] at hoi; cases hoi
            rw [hkd] at hk; cases hk
          suffices hsuf : opRD C (stp C ops fr0 S0 j).1 (stp C ops fr0 S0 m).2 o = some (sl C ops fr0 S0 j, (stp C ops fr0 S0 m).2) by
            refine step m hm (fun i hi hei => hmono i (hm1 i hi hei)) (fun i hi hei => by rw [hne i (hnoteff i hei)]; exact hm2 i hi hei) hI ?_
            rw [← hcong] at hsuf
            refine read_sameD hsuf hkd ?_
            rw [opRD_ord hl] at hsuf
            have ht := htagd _ hsuf
            unfold sameOn
            split
            · rfl
            · rename_i d hd; exact ht d hd
          obtain ⟨r1, r2⟩ := read_any hok hchk ho hb hkd
          rcases Nat.le_total m j with q | q
          · refine r1 (j - m) m (by omega) fun i h1 h2 hei => ?_
            cases hbit : ((ancs ops).getD j 0).testBit i with
            | false => rfl
            | true =>
              have h3 := hanc i hbit
              rw [hm2 i h1 hei] at h3; cases h3
          · refine r2 m q hm fun i h1 h2 hei => ?_
            cases hbit : ((ancs ops).getD i 0).testBit j with
            | false => rfl
            | true =>
              have h3 := hm1 i h2 hei
              obtain ⟨oi, hoi, _⟩ := hei
              exact (hdesc i oi hoi h3 hbit).elim
        | eff =>
          have hej : Effw C ops fr0 S0 j := ⟨o, ho, hb.guard, hkd⟩
          have hmj : m ≤ j := by
            rcases Nat.lt_or_ge j m with q | q
            · have := hm1 j q hej
              rw [hnj'] at this; cases this
            · exact q
          have hno : ∀ i, m ≤ i → i < j → ¬ Effw C ops fr0 S0 i := fun i h1 h2 hei => by
            have h3 := hm2 i h1 hei
            obtain ⟨oi, hoi, hw, hk⟩ := hei
            rcases inOrder_pair hord h2 hoi ho with q | q
            · rw [hanc i q] at h3; cases h3
            · exact q.2 ⟨hk, hkd⟩
          have hT := T_const hok j hmj (Nat.le_of_lt hjn) hno
          have hy := hb.yes rfl
          rw [hT, ← hcong, opRD_ord hl] at hy
          have hk' : kindOf C.P o.op = .eff := by rw [← kindD_ord hl]; exact hkd
          have htag := eff_tag hy hk'
          have hbx := htagd _ hy
          refine step (j + 1) hjn (fun i hi hei => ?_) (fun i hi hei => ?_) (fun i o' d h1 h2 h3 h4 => ?_) ?_
          · rcases Nat.lt_or_ge i m with q | q
            · exact hmono i (hm1 i q hei)
            · rcases Nat.lt_or_ge i j with q' | q'
              · exact absurd hei (hno i q q')
              · have : i = j := by omega
                subst this; exact hjj
          · rw [hne i (by omega)]
            exact hm2 i (by omega) hei
          · have hdue : Due C ops L d := ⟨i, o', h1, h2, h3, h4⟩
            have hm0 := hI i o' d h1 h2 h3 h4
            obtain ⟨c, _, hc, _⟩ := hla' i o' d h1 h2 h3
            have hnt : tagOf C (FD C ops fr0 S0 L ops.length) o ≠ some d := fun q => by
              have := hbx d q
              rw [rst_due hdue, hm0, hc] at this; cases this
            rw [← hm0]
            cases ht : tagOf C (FD C ops fr0 S0 L ops.length) o with
            | none => rw [ht] at htag; exact congrFun htag d
            | some e => rw [ht] at htag; exact htag.2 d fun q => hnt (by rw [ht, q])
          · rw [opRD_ord hl]
            refine (eff_bx (bx2 := (rst C ops L (stp C ops fr0 S0 m).2).bx) hy hk' hbx).trans ?_
            congr 2
            refine St.ext' (fun d => ?_) rfl
            have he : tagOf C (FD C ops fr0 S0 L ops.length) o ≠ some d → (stp C ops fr0 S0 (j + 1)).2.bx d = (stp C ops fr0 S0 m).2.bx d := fun q => by
              cases ht : tagOf C (FD C ops fr0 S0 L ops.length) o with
              | none => rw [ht] at htag; exact congrFun htag d
              | some e => rw [ht] at htag; exact htag.2 d fun q' => q (by rw [ht, q'])
            have hd : tagOf C (FD C ops fr0 S0 L ops.length) o = some d → ¬ Due C ops L d := fun q hu => by
              obtain ⟨i, o', h1, h2, h3, h4⟩ := id hu
              obtain ⟨c, _, hc, _⟩ := hla' i o' d h1 h2 h3
              have := hbx d q
              rw [rst_due hu, hI i o' d h1 h2 h3 h4, hc] at this; cases this
            show pickB (tagOf C (FD C ops fr0 S0 L ops.length) o) (stp C ops fr0 S0 (j + 1)).2.bx (rst C ops L (stp C ops fr0 S0 m).2).bx d = _
            have keep : tagOf C (FD C ops fr0 S0 L ops.length) o ≠ some d → (rst C ops L (stp C ops fr0 S0 m).2).bx d = (rst C ops L (stp C ops fr0 S0 (j + 1)).2).bx d := fun q => by
              by_cases hu : Due C ops L d
              · rw [rst_due hu, rst_due hu]
              · rw [rst_not hu, rst_not hu, he q]
            cases ht : tagOf C (FD C ops fr0 S0 L ops.length) o with
            | none => exact keep (by rw [ht]; exact fun q => by cases q)
            | some e =>
              show (if d = e then (stp C ops fr0 S0 (j + 1)).2.bx d else (rst C ops L (stp C ops fr0 S0 m).2).bx d) = _
              by_cases q : d = e
              · subst q
                rw [if_pos rfl, rst_not (hd ht)]
              · rw [if_neg q]
                exact keep (by rw [ht]; exact fun q' => q (by cases q'; rfl))
  have hrep : ∀ i, (Array.replicate ops.length false).getD i false = false := fun i => by
    rw [Array.getD_eq_getD_getElem?, Array.getElem?_replicate]
    split <;> rfl
  have hFD : ∀ m, FD C ops fr0 S0 (Array.replicate ops.length false) m = fr0 := by
    intro m
    induction m with
    | zero => rfl
    | succ m ih => unfold FD; rw [hrep]; exact ih
  have hst0 : rst C ops (Array.replicate ops.length false) S0 = Sb := by
    refine St.ext' (fun d => ?_) hhp
    by_cases hu : Due C ops (Array.replicate ops.length false) d
    · rw [rst_due hu]
      obtain ⟨i, o', h1, h2, h3, h4⟩ := hu
      exact (hla' i o' d h1 h2 h3).choose_spec.1.symm
    · rw [rst_not hu]
      refine hoth d fun o ho hl hd => ?_
      obtain ⟨i, hi⟩ := List.mem_iff_getElem?.1 ho
      exact hu ⟨i, o, hi, hl, hd, hrep i⟩
  refine main ops.length _ a w β lam (List.range ops.length) 0 (by simp) (by simp) (fun i hi _ => List.mem_range.2 hi) ?_ (Nat.zero_le _) (fun i hi => by omega) (fun i _ _ => hrep i) (fun i o d _ _ _ _ => rfl) ?_ ?_
  · intro i o hi
    rw [hrep] at hi; cases hi
  · rw [hFD]
    show Good C.P w0 H0 β0 fr0 (rst C ops _ S0) a w β lam
    rw [hst0]; exact hG
  · show Moved W S1 a1 β1 l1 (rst C ops _ S0) a β lam
    rw [hst0]; exact hM
end Go.AM
/- The abstract machine: it is sound. -/
set_option linter.unusedVariables false
namespace Go.AM
open Go
theorem sound {P : Program} {O : Orc} {ext : Ext1} (hm : P.follows .mixedOrders = true) (he : ExtC P ext) (hx : XtC P O.xt) : SimC P (run P O ext) := run_sound hm (fun O h f hh => draws_sound O h f hh) he hx
theorem sound1 {P : Program} {O : Orc} {ext : Ext1} (hm : P.follows .mixedOrders = true) (he : ExtC P ext) (hx : XtC P O.xt) {f : FuncId} (hf : O.xt f = none) {args : List Value} {H : Hp} {v : Value} {H' : Hp} (h : run P O ext f args H = some (v, H')) :
    Enters P f ∧ ∀ args' w β, LRel β args args' → Rel P w H β → Calls P f args'.toArray w fun e w' => ∃ v' β', e = .returned v' ∧ Rel P w' H' β' ∧ Ext w.heap.size w H β w' H' β' ∧ VRel β' v v' := by
  rcases sound (O := O) hm he hx f args H v H' h with h1 | ⟨_, h2, _⟩
  · exact h1
  · exact absurd h2 (run_body hf h)
#print axioms sound
end Go.AM
/- The abstract machine: from a run to a row. -/
set_option linter.unusedVariables false
namespace Go.AM
open Go Go.ChangeShapes Go.WideShapes Go.ChangeAt Go.RowKit

/-- A run that ends in 'true' over a heap that owns nothing. -/
theorem below_of_run {P : Program} {O : Orc} {ext : Ext1} (hm : P.follows .mixedOrders = true) (he : ExtC P ext) {f : FuncId} {W : World} {args : Array Value} {H H' : Hp} {β : Bt} {xs : List Value}
    (hR : Rel P W H β) (hno : ∀ i o, H.get i = some o → o.own = false) (ha : LRel β xs args.toList) (hrun : run P O ext f xs H = some (.bool true, H')) (hx : XtC P O.xt := by intro f e h; cases h) (hxf : O.xt f = none := by rfl) :
    Calls P f args W fun e W' => e = .returned (.bool true) ∧ Below W.heap.size W W' := by
  have h := (sound1 (O := O) hm he hx hxf hrun).2 args.toList W β ha hR
  rw [show args.toList.toArray = args from by simp] at h
  refine h.mono fun e W' ⟨v', β', h1, h2, h3, h4⟩ => ?_
  cases h4
  exact ⟨h1, h3.os, h3.tape, h3.output, h3.size, fun k hk => h3.frame k hk fun ⟨i, o, x, g1, g2, _, _⟩ => by rw [hno i o g1] at g2; cases g2⟩

theorem trodAll_below {HH : Type} {enc : TypeId × Value → HH} {P : Program} (hl : laidOutB P = true) {W W' : World} (hb : Below W.heap.size W W') :
    ∀ {ts : List TypeId} {vs : List Value} {ds : List (DataW HH)} {ps : List MemPlace}, (∀ t ∈ ts, P.readableRec t = true ∧ t < P.types.size) → DataW.TrodAll enc P W 0 (fun _ => true) true ts vs ds ps →
      (∀ x ∈ ps, x.block < W.heap.size) → DataW.TrodAll enc P W' 0 (fun b => decide (b < W.heap.size)) true ts vs ds ps
  | [], [], [], ps, _, h, _ => h
  | t :: ts, v :: vs, d :: ds, ps, ht, h, hlt => by
    obtain ⟨p, q, h1, h2, e⟩ := h
    have h0 := ht t (List.mem_cons_self ..)
    exact ⟨p, q, Below.trod hl h0.1 h0.2 h1 hb (fun x hx => hlt x (by rw [e]; simp [hx])), trodAll_below hl hb (fun t h => ht t (List.mem_cons_of_mem _ h)) h2 (fun x hx => hlt x (by rw [e]; simp [hx])), e⟩
  | [], _ :: _, _, _, _, h, _ => h.elim
  | [], [], _ :: _, _, _, h, _ => h.elim
  | _ :: _, [], _, _, _, h, _ => h.elim
  | _ :: _, _ :: _, [], _, _, h, _ => h.elim

theorem post_true {HH : Type} {enc : TypeId × Value → HH} {P : Program} {f : Func} {s : ChangeSpec} (hl : laidOutB P = true) (hp : ∀ t ∈ f.params.toList, P.readableRec t = true ∧ t < P.types.size) (hv : s.vars = [])
    {tb : TypeId} (hr : f.resultTypes = #[tb]) (hb : P.underlying tb = some .bool) {W W' : World} {args : Array Value} {ds gs : List (DataW HH)} {before : List MemPlace}
    (hW : DataW.Whole enc P f.params.toList s.vars false W args.toList ds gs before) (hB : Below W.heap.size W W') (hfn : s.fn HH (ds ++ gs) = { results := [.lit (.bool true)], args := ds }) :
    s.post enc P f false true false false W args (.bool true) W' := by
  have hlt := hW.lt
  obtain ⟨p, q, h1, h2, e, h3, h4⟩ := id hW
  rw [hv] at h2
  have hq : gs = [] ∧ q = [] := by
    cases gs with
    | nil => exact ⟨rfl, h2⟩
    | cons g gs => exact h2.elim
  refine ⟨ds, gs, before, [], p, [], hW, ?_, ?_, ?_, ?_, fun h => by cases h⟩
  · rw [hfn, hr]
    exact trodAll_cons_mk (shut_bool hb _) trodAll_mk0
  · rw [hfn]
    exact trodAll_below hl hB hp h1 (fun x hx => hlt x (by rw [e]; simp [hx]))
  · rw [hfn, hv]; rfl
  · exact hB.frame _

/-- The package variables have their blocks. -/
theorem shaped_size {P : Program} {W : World} (h : W.ShapedOpen P) (hg : P.globals.size = 0 ∨ ∃ x, (((begin P (fun _ _ => 0) default).world.heap[P.globals.size - 1]?).bind Obj.row?) = some x) : P.globals.size ≤ W.heap.size := by
  rcases hg with hg | ⟨⟨z, t⟩, hx⟩
  · omega
  · rcases Nat.eq_zero_or_pos P.globals.size with h0 | h0
    · omega
    · obtain ⟨cs, hc, _⟩ := h.1 (P.globals.size - 1) z t (by omega) hx
      have := (Array.getElem?_eq_some_iff.1 hc).1
      omega

/-- **From a run to a row**, for a row without package variables and with a condition. -/
theorem returns_true {C : Checked} {os : Os} {f : FuncId} {fn : Func} {s : OpenSpec} {HH : Type} {enc : TypeId × Value → HH} {k : (H : Type) → List (DataW H) → Bool} (hk : s.cond = some k) {F : Stop.Interp} {conds : List PathCond}
    (own : ownKnob C.prog.godebug = none) (started : os.Started) (noInit : C.prog.inits.idxOf? f = none) (hfn : C.prog.funcs[f]? = some fn)
    (witness : ∃ (w : World) (tape : Tape) (i : Input), w.os = os ∧ (w.forCall tape i).Shaped C.prog ∧ i.vars = [] ∧ Input.okWide C.prog (w.forCall tape i) .any w.heap.size f i ∧
      s.pre6 enc C.prog fn conds false (w.forCall tape i).memory i.args ∧ ({} : Assume).holds C.prog (lone (Frame.enter C.prog f i.args .normal) [] (w.forCall tape i)))
    (hl : laidOutB C.prog = true) (hp : ∀ t ∈ fn.params.toList, C.prog.readableRec t = true ∧ t < C.prog.types.size) (hv : s.vars = []) {tb : TypeId} (hr : fn.resultTypes = #[tb]) (hb : C.prog.underlying tb = some .bool)
    (hg : C.prog.globals.size = 0 ∨ ∃ x, (((begin C.prog (fun _ _ => 0) default).world.heap[C.prog.globals.size - 1]?).bind Obj.row?) = some x)
    (hsp : ∀ ds : List (DataW HH), ds.length = fn.params.size → (s.at F).fn HH ds = { results := [.lit (.bool true)], args := ds })
    {O : Orc} {ext : Ext1} (hm : C.prog.follows .mixedOrders = true) (he : ExtC C.prog ext)
    (main : ∀ (W : World) (base : Nat) (args : Array Value) (ds : List (DataW HH)) (ps : List MemPlace), C.prog.globals.size ≤ W.heap.size →
      (∀ (j : Nat) t v, fn.params[j]? = some t → args[j]? = some v → Value.okWide C.prog W .any base t v) → DataW.TrodAll enc C.prog W 0 (fun _ => true) true fn.params.toList args.toList ds ps → k HH ds = true →
      ∃ (H0 H1 : Hp) (β : Bt) (xs : List Value), Rel C.prog W H0 β ∧ (∀ i o, H0.get i = some o → o.own = false) ∧ LRel β xs args.toList ∧ run C.prog O ext f xs H0 = some (.bool true, H1))
    (hx : XtC C.prog O.xt := by intro f e h; cases h) (hxf : O.xt f = none := by rfl) :
    ReturnsInHanded {} C os f .any (s.pre6 enc C.prog fn conds false) ((s.at F).post enc C.prog fn false true false false) := by
  refine returnsInHanded_of_calls own started noInit witness ?_
  intro w tape i _ hsh _ hok hpre _
  obtain ⟨_, _, _, fn', hfn', _, _, _, _, hval⟩ := hok
  have e : fn' = fn := Option.some.inj (hfn'.symm.trans hfn)
  subst e
  obtain ⟨ds, gs, before, hw, hc, hkk⟩ := (OpenSpec.pre_some hk conds false _ _).1 hpre.1
  have hw' := DataW.Whole.of_heap (w' := w.forCall tape i) (by rfl) hw
  obtain ⟨p, q, h1, h2, e, _, _⟩ := id hw'
  have hgs : gs = [] := by
    rw [hv] at h2
    cases gs with
    | nil => rfl
    | cons g gs => exact h2.elim
  subst hgs
  rw [List.append_nil] at hkk
  obtain ⟨H0, H1, β, xs, g1, g2, g3, g4⟩ := main (w.forCall tape i) _ i.args ds p (shaped_size hsh hg) hval h1 hkk
  refine (below_of_run hm he g1 g2 g3 g4 hx hxf).mono fun e W' ⟨h3, h4⟩ => ?_
  subst h3
  have hlen : ds.length = fn'.params.size := by
    have : ∀ {ts : List TypeId} {vs : List Value} {ds : List (DataW HH)} {ps : List MemPlace}, DataW.TrodAll enc C.prog (w.forCall tape i) 0 (fun _ => true) true ts vs ds ps → ds.length = ts.length := by
      intro ts
      induction ts with
      | nil => intro vs ds ps h; cases vs <;> cases ds <;> first | rfl | exact h.elim
      | cons t ts ih => intro vs ds ps h; cases vs <;> cases ds <;> first | exact h.elim | (obtain ⟨p, q, _, h2, _⟩ := h; simp [ih h2])
    simpa using this h1
  exact ChangeSpec.post_blind (post_true (s := s.at F) hl hp hv hr hb hw' h4 (by rw [List.append_nil]; exact hsp ds hlen))
end Go.AM
/- The abstract machine: arguments. -/
set_option linter.unusedVariables false
namespace Go.AM
open Go Go.ChangeShapes Go.WideShapes Go.ChangeAt Go.RowKit

inductive Sc where
  | bool | int (k : IntKind) | str
def okSc : Sc → Value → Prop
  | .bool, v => ∃ b, v = .bool b
  | .int k, v => ∃ n, v = .int k n ∧ k.min ≤ n ∧ n ≤ k.max
  | .str, v => ∃ s : ByteArray, v = .string s
theorem okSc.rel {k : Sc} {v : Value} (h : okSc k v) (β : Bt) : VRel β v v := by
  cases k with
  | bool => obtain ⟨b, rfl⟩ := h; exact .bool b
  | int k => obtain ⟨n, rfl, _⟩ := h; exact .int k n
  | str => obtain ⟨s, rfl⟩ := h; exact .string s

/-- The cells of a type that holds nothing but truths, numbers and texts. -/
def flatFs (P : Program) (c : TypeId → Option (List Sc)) : List Field → Nat → Option (List Sc)
  | [], _ => some []
  | f :: fs, off => match c f.type with
    | none => none
    | some ks => match Nat.beq f.offset off && Nat.beq ks.length (P.cellsOf f.type) with
      | true => match flatFs P c fs (off + ks.length) with
        | some r => some (ks ++ r)
        | none => none
      | false => none
def flat (P : Program) : Nat → TypeId → Option (List Sc)
  | 0, _ => none
  | d + 1, t => match P.underlying t with
    | some .bool => some [.bool]
    | some (.int k) => some [.int k]
    | some .string => some [.str]
    | some (.struct fs) => match flatFs P (flat P d) fs.toList 0 with
      | some ks => match Nat.beq ks.length (P.cellsOf t) with
        | true => some ks
        | false => none
      | none => none
    | _ => none

def OkL (ks : List Sc) (cs : List Value) : Prop := cs.length = ks.length ∧ ∀ (j : Nat) k, ks[j]? = some k → ∃ v, cs[j]? = some v ∧ okSc k v
theorem OkL.one {k : Sc} {v : Value} (h : okSc k v) : OkL [k] [v] := ⟨rfl, fun j k' hk => by
  cases j with
  | zero => cases hk; exact ⟨v, rfl, h⟩
  | succ j => cases hk⟩

variable {HH : Type} {enc : TypeId × Value → HH} {P : Program} {w : World} {base : Nat} {sp : Nat → Bool} {held : Bool}

theorem flatFs_ok {n : Nat} {c : TypeId → Option (List Sc)} (hc : ∀ t ks cs x, c t = some ks → DataW.trod enc P w base sp held n t cs = some x → OkL ks cs) {cs : List Value} :
    ∀ (fs : List Field) (off : Nat) (ks : List Sc), flatFs P c fs off = some ks → (∀ f ∈ fs, ∃ x, DataW.trod enc P w base sp held n f.type ((cs.drop f.offset).take (P.cellsOf f.type)) = some x) → off + ks.length ≤ cs.length →
      ∀ (j : Nat) k, ks[j]? = some k → ∃ v, cs[off + j]? = some v ∧ okSc k v
  | [], off, ks, h, _, _, j, k, hk => by cases h; cases hk
  | f :: fs, off, ks, h, hx, hl, j, k, hk => by
    unfold flatFs at h
    split at h
    · cases h
    · rename_i k1 h1
      split at h
      · rename_i hb
        rw [Bool.and_eq_true] at hb
        have ho : f.offset = off := Nat.eq_of_beq_eq_true hb.1
        have hk1 : k1.length = P.cellsOf f.type := Nat.eq_of_beq_eq_true hb.2
        split at h
        · rename_i r hr
          cases h
          obtain ⟨x, hx1⟩ := hx f (List.mem_cons_self ..)
          have hok := hc _ _ _ _ h1 hx1
          rcases Nat.lt_or_ge j k1.length with q | q
          · rw [List.getElem?_append_left q] at hk
            obtain ⟨v, hv, hs⟩ := hok.2 j k hk
            rw [List.getElem?_take] at hv
            split at hv
            · rw [List.getElem?_drop, ho] at hv
              exact ⟨v, hv, hs⟩
            · cases hv
          · rw [List.getElem?_append_right q] at hk
            simp only [List.length_append] at hl
            obtain ⟨v, hv, hs⟩ := flatFs_ok hc fs (off + k1.length) r hr (fun f hf => hx f (List.mem_cons_of_mem _ hf)) (by omega) (j - k1.length) k hk
            exact ⟨v, by rw [show off + j = off + k1.length + (j - k1.length) by omega]; exact hv, hs⟩
        · cases h
      · cases h

theorem flat_ok : ∀ (d : Nat) (t : TypeId) (ks : List Sc), flat P d t = some ks → ∀ (fuel : Nat) (cs : List Value) (x : DataW HH × List MemPlace), DataW.trod enc P w base sp held fuel t cs = some x → OkL ks cs
  | 0, t, ks, h, _, _, _, _ => by cases h
  | d + 1, t, ks, h, fuel, cs, x, hx => by
    unfold flat at h
    split at h
    · rename_i hu
      cases h
      obtain ⟨b, rfl, _⟩ := DataW.trod_bool hu hx
      exact OkL.one ⟨b, rfl⟩
    · rename_i k hu
      cases h
      obtain ⟨n, rfl, _, hw⟩ := DataW.trod_int hu hx
      refine OkL.one ⟨n, rfl, ?_⟩
      simpa [Lit.wf] using hw
    · rename_i hu
      cases h
      obtain ⟨s, rfl, _⟩ := DataW.trod_string hu hx
      exact OkL.one ⟨s, rfl⟩
    · rename_i fs hu
      split at h
      · rename_i k1 hf
        split at h
        · rename_i hb
          cases h
          have hlen : ks.length = P.cellsOf t := Nat.eq_of_beq_eq_true hb
          obtain ⟨xs, n, rfl, _, hl, hxl, hall⟩ := DataW.trod_struct hu hx
          refine ⟨by omega, fun j k hk => ?_⟩
          obtain ⟨v, hv, hs⟩ := flatFs_ok (n := n) (fun t ks cs x h1 h2 => flat_ok d t ks h1 n cs x h2) (cs := cs) fs.toList 0 ks hf (fun f hf => by
            obtain ⟨i, hi, rfl⟩ := List.getElem_of_mem hf
            have hi' : i < fs.size := by simpa using hi
            have := hall i fs.toList[i] (by simp [hi'])
            rw [this]
            exact ⟨xs[i], by simp⟩) (by omega) j k hk
          exact ⟨v, by simpa using hv, hs⟩
        · cases h
      · cases h
    · cases h

/-! ### Start heaps -/
def H00 (P : Program) : Hp := ⟨P.globals.size, fun _ => none, fun _ => none⟩
def B00 (P : Program) : Bt := fun g => if g < P.globals.size then some ⟨g, 0, 0⟩ else none
theorem rel00 {W : World} (h : P.globals.size ≤ W.heap.size) : Rel P W (H00 P) (B00 P) :=
  ⟨fun i cs own hi => (by cases hi), fun i kv hi => (by cases hi), fun i j o o' x y _ hi => (by cases hi), fun i hi => ⟨rfl, by unfold B00; rw [if_neg (by have : P.globals.size ≤ i := hi; omega)]⟩,
    fun i x hx => by unfold B00 at hx; split at hx <;> cases hx; show i < _; omega, fun g hg => ⟨0, by unfold B00; rw [if_pos hg]⟩, fun i o hi => (by cases hi), fun i T hi => (by cases hi)⟩
/-- A start with package variables that are known. -/
def HFix (P : Program) (F : Nat → Option Obj) : Hp := ⟨P.globals.size, fun i => if i < P.globals.size then (F i).map .fix else none, fun _ => none⟩
theorem relFix {W : World} (h : P.globals.size ≤ W.heap.size) {F : Nat → Option Obj} (hF : ∀ i o, F i = some o → W.heap[i]? = some o) : Rel P W (HFix P F) (B00 P) ∧ (∀ i o, (HFix P F).get i = some o → o.own = false) := by
  have key : ∀ i o, (HFix P F).get i = some o → i < P.globals.size ∧ ∃ q, F i = some q ∧ o = .fix q := fun i o hi => by
    have hi : (if i < P.globals.size then (F i).map AObj.fix else none) = some o := hi
    split at hi
    · rename_i hlt
      cases hq : F i with
      | none => rw [hq] at hi; cases hi
      | some q => rw [hq] at hi; cases hi; exact ⟨hlt, q, rfl, rfl⟩
    · cases hi
  have hno : ∀ i o, (HFix P F).get i = some o → o.own = false := fun i o hi => by obtain ⟨_, q, _, rfl⟩ := key i o hi; rfl
  refine ⟨⟨fun i cs own hi => ?_, fun i kv hi => ?_, fun i j o o' x y _ hi _ ho => ?_, fun i hi => ⟨?_, by unfold B00; rw [if_neg (by have : P.globals.size ≤ i := hi; omega)]⟩,
    fun i x hx => (by unfold B00 at hx; split at hx <;> cases hx; show i < _; omega), fun g hg => ⟨0, by unfold B00; rw [if_pos hg]⟩, fun i o hi => ?_, fun i T hi => (by cases hi)⟩, hno⟩
  · obtain ⟨_, q, _, e⟩ := key i _ hi; cases e
  · obtain ⟨_, q, _, e⟩ := key i _ hi; cases e
  · rw [hno i o hi] at ho; cases ho
  · show (if i < P.globals.size then (F i).map AObj.fix else none) = none
    have : P.globals.size ≤ i := hi
    rw [if_neg (by omega)]
  · obtain ⟨h1, q, h2, e⟩ := key i _ hi
    cases e
    exact ⟨⟨i, 0, 0⟩, by unfold B00; rw [if_pos h1], rfl, hF i _ h2⟩
/-- A thing that is only read. -/
theorem Rel.addRo {W : World} {H : Hp} {β : Bt} (h : Rel P W H β) (hno : ∀ i o, H.get i = some o → o.own = false) {cs : List Value} {b s t : Nat} (hb : b < W.heap.size)
    (hc : ∀ (j : Nat) v, cs[j]? = some v → ∃ v', W.cell? ⟨b, s + j, none⟩ = some v' ∧ VRel β v v') :
    Rel P W (H.new (.cells cs false)) (β.set H.next ⟨b, s, t⟩) ∧ (∀ i o, (H.new (.cells cs false)).get i = some o → o.own = false) ∧ β.le (β.set H.next ⟨b, s, t⟩) := by
  have hf := (h.fresh H.next (Nat.le_refl _)).2
  have hle : β.le (β.set H.next ⟨b, s, t⟩) := Bt.le_set hf
  have hno' : ∀ i o, (H.new (.cells cs false)).get i = some o → o.own = false := fun i o hi => by
    rw [Hp.get_new] at hi
    split at hi
    · cases hi; rfl
    · exact hno i o hi
  refine ⟨⟨fun i ds own hi => ?_, fun i kv hi => ?_, fun i j o o' x y hij hi hj ho => (by rw [hno' i o hi] at ho; cases ho), fun i hi => ?_, fun i x hx => ?_, fun g hg => ?_, fun i o hi => (by
      rw [Hp.get_new] at hi
      split at hi
      · cases hi
      · obtain ⟨x, hx, h0, h1⟩ := h.fix i o hi
        exact ⟨x, hle i x hx, h0, h1⟩), fun i T hi => (h.tys i T hi).le hle⟩, hno', hle⟩
  · rw [Hp.get_new] at hi
    split at hi
    · rename_i e
      cases hi
      subst e
      exact ⟨_, Bt.set_same _ _ _, fun j v hv => by obtain ⟨v', h1, h2⟩ := hc j v hv; exact ⟨v', h1, h2.mono hle⟩, fun ho => by cases ho⟩
    · obtain ⟨x, hx, h1, h2⟩ := h.cells i ds own hi
      exact ⟨x, hle i x hx, fun j v hv => by obtain ⟨v', h3, h4⟩ := h1 j v hv; exact ⟨v', h3, h4.mono hle⟩, h2⟩
  · rw [Hp.get_new] at hi
    split at hi
    · cases hi
    · have := hno i _ hi
      cases this
  · have hi : H.next + 1 ≤ i := hi
    have := h.fresh i (by omega)
    refine ⟨?_, ?_⟩
    · rw [Hp.get_new, if_neg (by omega)]; exact this.1
    · unfold Bt.set; rw [if_neg (by omega)]; exact this.2
  · unfold Bt.set at hx
    split at hx
    · cases hx; exact hb
    · exact h.lt i x hx
  · obtain ⟨t', ht⟩ := h.glob g hg
    exact ⟨t', hle g _ ht⟩

/-! ### Slices of flat things -/
theorem mapM_get {γ δ : Type} {f : γ → Option δ} : ∀ (l : List γ) (cs : List δ), l.mapM f = some cs → cs.length = l.length ∧ ∀ (j : Nat) x, l[j]? = some x → ∃ c, cs[j]? = some c ∧ f x = some c
  | [], cs, h => by cases h; exact ⟨rfl, fun j x hx => by cases hx⟩
  | y :: l, cs, h => by
    rw [List.mapM_cons] at h
    cases hy : f y with
    | none => rw [hy] at h; cases h
    | some c =>
      rw [hy] at h
      cases hl : l.mapM f with
      | none => rw [hl] at h; cases h
      | some r =>
        rw [hl] at h
        cases h
        obtain ⟨h1, h2⟩ := mapM_get l r hl
        refine ⟨by simp [h1], fun j x hx => ?_⟩
        cases j with
        | zero => cases hx; exact ⟨c, rfl, hy⟩
        | succ j => exact h2 j x hx
theorem flatten_get {sz : Nat} : ∀ (L : List (List Value)), (∀ l ∈ L, l.length = sz) → ∀ i j, j < sz → L.flatten[i * sz + j]? = L[i]?.bind fun l => l[j]?
  | [], _, i, j, _ => by simp
  | l :: L, hL, i, j, hj => by
    have h0 := hL l (List.mem_cons_self ..)
    rw [List.flatten_cons]
    cases i with
    | zero =>
      rw [Nat.zero_mul, Nat.zero_add, List.getElem?_append_left (by omega)]
      rfl
    | succ i =>
      rw [List.getElem?_append_right (by rw [h0, Nat.succ_mul]; omega), h0, show (i + 1) * sz + j - sz = i * sz + j by rw [Nat.succ_mul]; omega]
      exact flatten_get L (fun l hl => hL l (List.mem_cons_of_mem _ hl)) i j hj
theorem flatten_length {sz : Nat} : ∀ (L : List (List Value)), (∀ l ∈ L, l.length = sz) → L.flatten.length = L.length * sz
  | [], _ => by simp
  | l :: L, hL => by
    rw [List.flatten_cons, List.length_append, hL l (List.mem_cons_self ..), flatten_length L (fun l hl => hL l (List.mem_cons_of_mem _ hl)), List.length_cons, Nat.succ_mul]
    omega

theorem arg_flats {t e : TypeId} {d : Nat} {ks : List Sc} (ht : P.underlying t = some (.slice e)) (hf : flat P d e = some ks) (hk : P.cellsOf e = ks.length) (h0 : 0 < ks.length)
    {W : World} {H : Hp} {β : Bt} (hR : Rel P W H β) (hno : ∀ i o, H.get i = some o → o.own = false) {b0 : Nat} {v' : Value} {dw : DataW HH} {ps : List MemPlace}
    (hval : Value.okWide P W .any b0 t v') (hd : DataW.Trod enc P W 0 (fun _ => true) true t v' dw ps) :
    ∃ (v : Value) (H' : Hp) (β' : Bt), Rel P W H' β' ∧ (∀ i o, H'.get i = some o → o.own = false) ∧ β.le β' ∧ VRel β' v v' ∧
      ((v = .slice none 0 0 ∧ dw = .nil ∧ H' = H) ∨
        ∃ (L : List (List Value)) (es sp : List (DataW HH)), v = .slice (some ⟨H.next, 0, some ks.length⟩) L.length L.length ∧ H' = H.new (.cells L.flatten false) ∧ (∀ l ∈ L, OkL ks l) ∧ dw = .slice es sp ∧ es.length = L.length) := by
  obtain ⟨a, len, cap, rfl⟩ := okWide_slice ht hval
  obtain ⟨fuel, hx⟩ := hd
  rcases DataW.trod_slice ht hx with ⟨h1, h2⟩ | ⟨a', len', cap', elems, rest, n, hfu, h1, h2, h3, h4, h5, h6, h7, _, _⟩
  · cases h1
    cases h2
    exact ⟨.slice none 0 0, H, β, hR, hno, Bt.le_refl _, .snil, .inl ⟨rfl, rfl, rfl⟩⟩
  · cases h1
    have hhas : W.has P .any b0 a' e cap := by
      have := hval
      unfold Value.okWide Cell.okWide Cell.ok at this
      rw [ht] at this
      exact this.2.2
    obtain ⟨_, hspot, row, cells, hshape, _⟩ := hhas
    obtain ⟨b, s, sp0⟩ := a'
    simp only at hspot
    subst hspot
    have hbl : b < W.heap.size := by
      unfold World.shape? at hshape
      cases hq : W.heap[b]? with
      | none => rw [hq] at hshape; cases hshape
      | some o => exact (Array.getElem?_eq_some_iff.1 hq).1
    have hrow : ∀ i, i < len → ∃ l : List Value, OkL ks l ∧ ∀ j u, l[j]? = some u → W.cell? ⟨b, s + (i * ks.length + j), none⟩ = some u := by
      intro i hi
      have := h7 i hi
      cases hc : W.cells? 0 ((⟨b, s, none⟩ : Addr).add (i * P.cellsOf e)) (P.cellsOf e) with
      | none =>
        rw [hc] at this
        have hlt : i < elems.length := by omega
        rw [List.getElem?_eq_getElem hlt] at this; cases this
      | some l =>
        rw [hc] at this
        have hlt : i < elems.length := by omega
        rw [List.getElem?_eq_getElem hlt] at this
        have hok := flat_ok d e ks hf n l _ this
        refine ⟨l, hok, fun j u hu => ?_⟩
        unfold World.cells? at hc
        rw [if_pos (Nat.zero_le _)] at hc
        obtain ⟨g1, g2⟩ := mapM_get _ _ hc
        have hjl : j < l.length := (List.getElem?_eq_some_iff.1 hu).1
        obtain ⟨c, g3, g4⟩ := g2 j j (by rw [List.getElem?_range]; simp at g1; omega)
        rw [hu] at g3; cases g3
        rw [hk, addr_add, addr_add] at g4
        rw [show s + (i * ks.length + j) = s + i * ks.length + j by omega]
        exact g4
    have hL : ∃ L : List (List Value), L.length = len ∧ ∀ i l, L[i]? = some l → OkL ks l ∧ ∀ j u, l[j]? = some u → W.cell? ⟨b, s + (i * ks.length + j), none⟩ = some u := by
      refine ⟨(List.range len).map fun i => if h : i < len then (hrow i h).choose else [], by simp, fun i l hl => ?_⟩
      rw [List.getElem?_map] at hl
      by_cases hi : i < len
      · rw [List.getElem?_range hi] at hl
        simp only [Option.map_some, dif_pos hi, Option.some.injEq] at hl
        subst hl
        exact (hrow i hi).choose_spec
      · rw [List.getElem?_eq_none (by simp; omega)] at hl; cases hl
    obtain ⟨L, hLl, hLp⟩ := hL
    have hLk : ∀ l ∈ L, OkL ks l := fun l hl => by
      obtain ⟨i, hi, rfl⟩ := List.getElem_of_mem hl
      exact (hLp i L[i] (by simp)).1
    have hLs : ∀ l ∈ L, l.length = ks.length := fun l hl => (hLk l hl).1
    obtain ⟨g1, g2, g3⟩ := hR.addRo hno (cs := L.flatten) (b := b) (s := s) (t := s + cap * ks.length) hbl (fun q v hv => by
      have hq : q < L.flatten.length := (List.getElem?_eq_some_iff.1 hv).1
      rw [flatten_length L hLs] at hq
      have hdm : q / ks.length * ks.length + q % ks.length = q := by rw [Nat.mul_comm]; exact Nat.div_add_mod q ks.length
      have hm := Nat.mod_lt q h0
      rw [← hdm, flatten_get L hLs _ _ hm] at hv
      cases hl : L[q / ks.length]? with
      | none => rw [hl] at hv; cases hv
      | some l =>
        rw [hl] at hv
        obtain ⟨p1, p2⟩ := hLp _ l hl
        refine ⟨v, ?_, ?_⟩
        · have := p2 (q % ks.length) v hv
          rw [hdm] at this
          exact this
        · have hkk : q % ks.length < ks.length := hm
          obtain ⟨u, hu1, hu2⟩ := p1.2 (q % ks.length) _ (List.getElem?_eq_getElem hkk)
          have hv' : l[q % ks.length]? = some v := hv
          rw [hu1] at hv'; cases hv'
          exact hu2.rel _)
    refine ⟨.slice (some ⟨H.next, 0, some ks.length⟩) L.length L.length, _, _, g1, g2, g3, ?_, .inr ⟨L, _, _, rfl, rfl, hLk, (Prod.mk.inj h2).1, by simp; omega⟩⟩
    rw [hLl]
    exact .slice _ _ _ _ _ _ _ _ (Bt.set_same _ _ _) (Nat.le_refl _) h4 (Nat.le_refl _) (fun _ => rfl)
end Go.AM
/- The abstract machine: an object of its own becomes one that is only read. -/
set_option linter.unusedVariables false
namespace Go.AM
open Go
theorem Rel.freeze {P : Program} {w w' : World} {H : Hp} {β : Bt} (h : Rel P w H β) {i : Nat} {cs : List Value} {x : BI} (hi : H.get i = some (.cells cs true)) (hx : β i = some x)
    (ho : w'.os = w.os) (ht : w'.tape = w.tape) (hu : w'.output = w.output) (hs : w'.heap.size = w.heap.size) (hoth : ∀ k, k ≠ x.b → w'.heap[k]? = w.heap[k]?)
    (hrow : ∀ arr e fz, w.heap[x.b]? = some (.cells arr e fz) → ∃ fz', w'.heap[x.b]? = some (.cells arr e fz')) :
    Rel P w' (H.set i (some (.cells cs false))) β ∧ Ext w.heap.size w H β w' (H.set i (some (.cells cs false))) β := by
  have hfr : ∀ j o y, j ≠ i → H.get j = some o → β j = some y → w'.heap[y.b]? = w.heap[y.b]? := fun j o y hji hj hy =>
    hoth _ (fun e => h.apart i j _ _ x y (Ne.symm hji) hi hj rfl hx hy e.symm)
  refine ⟨⟨fun j ds own hj => ?_, fun j kv hj => ?_, fun j k o o' y z hjk hj hk hoo hy hz => ?_, fun j hj => ?_, fun j y hy => ?_, h.glob, fun j o hj => (by
      rw [Hp.get_set] at hj
      split at hj
      · cases hj
      · rename_i hji
        obtain ⟨y, hy, h0, h3⟩ := h.fix j o hj
        exact ⟨y, hy, h0, by rw [hfr j _ y hji hj hy]; exact h3⟩), fun j T hj => (by
      obtain ⟨y, arr, fz, hy, h1, h2, h3⟩ := h.tys j T hj
      by_cases e : y.b = x.b
      · rw [e] at h2
        obtain ⟨fz', h4⟩ := hrow arr T fz h2
        exact ⟨y, arr, fz', hy, h1, by rw [e]; exact h4, h3⟩
      · exact ⟨y, arr, fz, hy, h1, by rw [hoth _ e]; exact h2, h3⟩)⟩,
    ⟨ho, ht, hu, by rw [hs]; exact Nat.le_refl _, Bt.le_refl _, Nat.le_refl _, fun b hb hno => ?_, fun b => ?_, fun j y hy hn => by rw [hn] at hy; cases hy⟩⟩
  · rw [Hp.get_set] at hj
    split at hj
    · rename_i hji
      cases hj
      subst hji
      obtain ⟨x', hx', h1, _⟩ := h.cells j cs true hi
      rw [hx] at hx'; cases hx'
      refine ⟨x, hx, fun k v hk => ?_, fun q => by cases q⟩
      obtain ⟨v', hv', hr⟩ := h1 k v hk
      obtain ⟨arr, e, fz, g1, g2⟩ := cell_iff.1 hv'
      obtain ⟨fz', g3⟩ := hrow arr e fz g1
      exact ⟨v', cell_iff.2 ⟨arr, e, fz', g3, g2⟩, hr⟩
    · rename_i hji
      obtain ⟨y, hy, h3, h4⟩ := h.cells j ds own hj
      have hw := hfr j _ y hji hj hy
      refine ⟨y, hy, fun k v hk => ?_, fun q => ⟨(h4 q).1.congr hw, (h4 q).2⟩⟩
      obtain ⟨v', hv', hr⟩ := h3 k v hk
      exact ⟨v', by rw [cell_congr hw]; exact hv', hr⟩
  · rw [Hp.get_set] at hj
    split at hj
    · cases hj
    · rename_i hji
      obtain ⟨y, hy, es, clock, h3, h4⟩ := h.maps j kv hj
      exact ⟨y, hy, es, clock, by rw [hfr j _ y hji hj hy]; exact h3, h4⟩
  · rw [Hp.get_set] at hj hk
    split at hj
    · cases hj; cases hoo
    · have hk' : ∃ q, H.get k = some q := by
        split at hk
        · rename_i e; subst e; exact ⟨_, hi⟩
        · exact ⟨_, hk⟩
      obtain ⟨q, g⟩ := hk'
      exact h.apart j k o q y z hjk hj g hoo hy hz
  · have := h.fresh j hj
    rw [Hp.get_set, if_neg (fun e => by subst e; rw [hi] at this; cases this.1)]
    exact this
  · rw [hs]; exact h.lt j y hy
  · exact hoth b (fun e => by subst e; exact hno ⟨i, _, x, hi, rfl, hx, rfl⟩)
  · rintro ⟨j, o, y, hj, hoo, hy, rfl⟩
    rw [Hp.get_set] at hj
    split at hj
    · cases hj; cases hoo
    · exact .inr ⟨j, o, y, hj, hoo, hy, rfl⟩
end Go.AM
