/- Part of the proof of TermPartsUptoSaid: see the last file.  -/
import Derived.Laws.Bits64
import Derived.KernelRfl
import Derived.Laws.RangeString
import Derived.Laws.RangeAny
import Derived.Laws.NewBlocks
import Derived.Tactics
import Derived.Laws.Cells
import Derived.Test.YtkfhklmklhnfaaaT0
import Derived.Test.YtkfhklmklhnfaaaT1
set_option linter.unusedSimpArgs false
set_option linter.unusedVariables false
set_option linter.unusedSectionVars false
/- The Term seat: the primitives, by rule. -/
set_option linter.unusedVariables false
namespace Go.AM
open Go
section
variable {α : Type} {P : Program}
theorem s_bool (b : Bool) (k : Bool → Option α) : pBool (.bool b) k = k b := rfl
theorem s_br (b : Bool) (x y : Option α) : br b x y = if b = true then x else y := by cases b <;> rfl
theorem s_lss (T : TypeId) (kd : IntKind) (a b : Int) (k : Value → Option α) : pBin P .lss T (.int kd a) (.int kd b) k = k (.bool (decide (a < b))) := by simp [pBin, binV, intOp]
theorem s_leq (T : TypeId) (kd : IntKind) (a b : Int) (k : Value → Option α) : pBin P .leq T (.int kd a) (.int kd b) k = k (.bool (decide (a ≤ b))) := by simp [pBin, binV, intOp]
theorem s_gtr (T : TypeId) (kd : IntKind) (a b : Int) (k : Value → Option α) : pBin P .gtr T (.int kd a) (.int kd b) k = k (.bool (decide (a > b))) := by simp [pBin, binV, intOp]
theorem s_geq (T : TypeId) (kd : IntKind) (a b : Int) (k : Value → Option α) : pBin P .geq T (.int kd a) (.int kd b) k = k (.bool (decide (a ≥ b))) := by simp [pBin, binV, intOp]
theorem s_eql (T : TypeId) (kd : IntKind) (a b : Int) (k : Value → Option α) : pBin P .eql T (.int kd a) (.int kd b) k = k (.bool (decide (a = b))) := by
  have : (a == b) = decide (a = b) := by rw [Bool.eq_iff_iff]; simp
  simp [pBin, binV, intOp, this]
theorem s_neq (T : TypeId) (kd : IntKind) (a b : Int) (k : Value → Option α) : pBin P .neq T (.int kd a) (.int kd b) k = k (.bool (decide (a ≠ b))) := by
  have : (a != b) = decide (a ≠ b) := by rw [Bool.eq_iff_iff]; simp
  simp [pBin, binV, intOp, this]
theorem s_add (T : TypeId) (kd : IntKind) (a b : Int) (k : Value → Option α) : pBin P .add T (.int kd a) (.int kd b) k = k (.int kd (kd.wrap (a + b))) := by simp [pBin, binV, intOp]
theorem s_sub (T : TypeId) (kd : IntKind) (a b : Int) (k : Value → Option α) : pBin P .sub T (.int kd a) (.int kd b) k = k (.int kd (kd.wrap (a - b))) := by simp [pBin, binV, intOp]
theorem s_mul (T : TypeId) (kd : IntKind) (a b : Int) (k : Value → Option α) : pBin P .mul T (.int kd a) (.int kd b) k = k (.int kd (kd.wrap (a * b))) := by simp [pBin, binV, intOp]
theorem s_not (b : Bool) (k : Value → Option α) : pUn .not (.bool b) k = k (.bool !b) := rfl
theorem s_nil (a : Addr) (k : Option α) : pNil (.pointer (some a)) k = k := rfl
theorem s_offs (n i o : Nat) (k : Value → Option α) : pOffs n (.pointer (some ⟨i, o, none⟩)) k = k (.pointer (some ⟨i, o + n, none⟩)) := rfl
theorem s_load {H : Hp} {i : Nat} {cs : List Value} {own : Bool} (h : H.get i = some (.cells cs own)) (o : Nat) (v : Value) (hv : cs[o]? = some v) (k : Value → Option α) : pLoad 1 false H (.pointer (some ⟨i, o, none⟩)) k = k v := by
  simp [pLoad, Hp.rdP, Hp.rd, h, rdCells, hv]
theorem s_cell (cs : List Value) (o : Nat) (v : Value) (hv : cs[o]? = some v) (k : Value → Option α) : pCell 1 false cs o k = k v := by simp [pCell, rdCells, hv]
theorem s_bind (c : Ctl) (l : List Value) (H : Hp) (k : Ctl → List Value → Hp → Option α) : bindO (some (c, l, H)) k = k c l H := rfl
theorem s_bind_ite (p : Prop) [Decidable p] (a b : Option Outc) (k : Ctl → List Value → Hp → Option α) : bindO (if p then a else b) k = if p then bindO a k else bindO b k := by split <;> rfl
theorem s_next (a : Option α) (b : Nat → Option α) (c : Option α) : onCtl .next a b c = a := rfl
theorem s_exit (j : Nat) (a : Option α) (b : Nat → Option α) (c : Option α) : onCtl (.exit j) a b c = b j := rfl
theorem s_ret (a : Option α) (b : Nat → Option α) (c : Option α) : onCtl .ret a b c = c := rfl
theorem s_onExit (j : Nat) (x y : Option α) : onExit j j x y = x := by simp [onExit]
theorem s_call {h : Handler} {g : FuncId} {args : List Value} {H : Hp} {v : Value} {H' : Hp} (e : h g args H = some (v, H')) (k : Value → Hp → Option α) : pCallF h g args H k = k v H' := by simp [pCallF, e]
theorem s_ext (vs : List Value) (i : Nat) (v : Value) (h : vs[i]? = some v) (k : Value → Option α) : pExtract (.tuple vs.toArray) i k = k v := by simp [pExtract, extractV, h]
end
end Go.AM
/- The Term seat: small functions. -/
set_option linter.unusedVariables false
namespace Go.AM
open Go
abbrev E0 : FuncId → Option (List Value → Hp → Option (Value × Hp)) := fun _ => none
noncomputable abbrev RR : Handler := run Go.Proofs.Try.prog orc E0

def partsT (op : Int) : Int := if op = 1 ∨ op = 2 ∨ op = 3 ∨ op = 4 then 0 else if op = 5 ∨ op = 15 ∨ op = 16 ∨ op = 31 ∨ op = 32 ∨ op = 33 then 1 else if op = 14 then 3 else 2
theorem c29 (op : Int) (H : Hp) : RR 29 [.int .i64 op] H = some (.int .i64 (partsT op), H) := by
  refine (r29 E0 rfl _ _).trans ?_
  unfold m29
  simp only [s_bool, s_br, s_eql, s_bind, s_bind_ite, s_next, s_exit, s_ret, s_onExit, decide_eq_true_eq, List.getD_cons_zero]
  unfold partsT
  by_cases h1 : op = 1
  · simp [h1]
  by_cases h2 : op = 2
  · simp [h2]
  by_cases h3 : op = 3
  · simp [h3]
  by_cases h4 : op = 4
  · simp [h4]
  simp only [h1, h2, h3, h4, if_false, s_bind, s_next, s_bool, List.getD_cons_zero, decide_false, Bool.false_eq_true, or_self, false_or]
  by_cases h5 : op = 5
  · simp [h5]
  by_cases h6 : op = 15
  · simp [h6]
  by_cases h7 : op = 16
  · simp [h7]
  by_cases h8 : op = 31
  · simp [h8]
  by_cases h9 : op = 32
  · simp [h9]
  by_cases h10 : op = 33
  · simp [h10]
  by_cases h11 : op = 14
  · simp [h11]
  simp [h5, h6, h7, h8, h9, h10, h11]
end Go.AM
/- The Term seat: the stores. -/
set_option linter.unusedVariables false
set_option linter.unusedSimpArgs false
namespace Go.AM
open Go

structure Nd where
  op : Int
  w : Int
  a : Int
  b : Int
  c : Int
  num : Int
  name : ByteArray
def Nd.cells (n : Nd) : List Value := [.int .i64 n.op, .int .i64 n.w, .int .i64 n.a, .int .i64 n.b, .int .i64 n.c, .int .u64 n.num, .string n.name]
def Nd.val (n : Nd) : Value := .agg n.cells.toArray

def SlR (H : Hp) (sl : Value) (L : List Nd) : Prop :=
  (L = [] ∧ sl = .slice none 0 0) ∨ ∃ i, sl = .slice (some ⟨i, 0, some 7⟩) L.length L.length ∧ H.get i = some (.cells (L.flatMap Nd.cells) true)
structure StR (H : Hp) (p : Nat) (lim : Int) (L : List Nd) (sl : Value) (f g : Nat) : Prop where
  obj : H.get p = some (.cells [.int .i64 lim, sl, .map (some f), .map (some g)] true)
  all : SlR H sl L

section
variable {H : Hp} {p f g : Nat} {lim : Int} {L : List Nd} {sl : Value} (hs : StR H p lim L sl f g) {α : Type} (k : Value → Option α)
include hs
theorem StR.l0 : pLoad 1 false H (.pointer (some ⟨p, 0, none⟩)) k = k (.int .i64 lim) := s_load hs.obj 0 _ rfl k
theorem StR.l1 : pLoad 1 false H (.pointer (some ⟨p, 1, none⟩)) k = k sl := s_load hs.obj 1 _ rfl k
theorem StR.l2 : pLoad 1 false H (.pointer (some ⟨p, 2, none⟩)) k = k (.map (some f)) := s_load hs.obj 2 _ rfl k
theorem StR.l3 : pLoad 1 false H (.pointer (some ⟨p, 3, none⟩)) k = k (.map (some g)) := s_load hs.obj 3 _ rfl k
end
theorem SlR.len {H : Hp} {sl : Value} {L : List Nd} (h : SlR H sl L) {α : Type} (k : Value → Option α) : pLen .sl sl H k = k (.int .i64 L.length) := by
  rcases h with ⟨rfl, rfl⟩ | ⟨i, rfl, _⟩ <;> rfl
theorem cells_flat (L : List Nd) (i j : Nat) (hj : j < 7) : (L.flatMap Nd.cells)[i * 7 + j]? = L[i]?.bind fun n => n.cells[j]? := by
  induction L generalizing i with
  | nil => simp
  | cons n L ih =>
    rw [List.flatMap_cons]
    cases i with
    | zero => rw [Nat.zero_mul, Nat.zero_add, List.getElem?_append_left (by simp [Nd.cells]; omega)]; rfl
    | succ i =>
      have h7 : n.cells.length = 7 := rfl
      rw [List.getElem?_append_right (by omega), h7, show (i + 1) * 7 + j - 7 = i * 7 + j by omega]
      exact ih i
theorem flat_len (L : List Nd) : (L.flatMap Nd.cells).length = L.length * 7 := by
  induction L with
  | nil => rfl
  | cons n L ih =>
    have h7 : n.cells.length = 7 := rfl
    rw [List.flatMap_cons, List.length_append, ih, List.length_cons, h7]; omega

def isT (L : List Nd) (t : Int) : Bool := decide (t ≥ 1) && decide (t ≤ L.length)
theorem c19 {H : Hp} {p f g : Nat} {lim t : Int} {L : List Nd} {sl : Value} (hs : StR H p lim L sl f g) : RR 19 [.pointer (some ⟨p, 0, none⟩), .int .i64 t] H = some (.bool (isT L t), H) := by
  refine (r19 E0 rfl _ _ _).trans ?_
  unfold m19
  simp only [s_bool, s_br, s_geq, s_nil, s_offs, s_leq, Nat.zero_add, hs.l1, hs.all.len, decide_eq_true_eq]
  unfold isT
  by_cases h : t ≥ 1 <;> simp [h]
theorem c30 {H : Hp} {p f g : Nat} {lim t : Int} {L : List Nd} {sl : Value} (hs : StR H p lim L sl f g) : RR 30 [.pointer (some ⟨p, 0, none⟩), .int .i64 t] H = some (.bool (isT L t), H) := by
  refine (r30 E0 rfl _ _ _).trans ?_
  unfold m30
  simp only [s_bool, s_br, s_geq, s_nil, s_offs, s_leq, Nat.zero_add, hs.l1, hs.all.len, decide_eq_true_eq]
  unfold isT
  by_cases h : t ≥ 1 <;> simp [h]

theorem wrap_id {k : IntKind} {n : Int} (h1 : k.min ≤ n) (h2 : n ≤ k.max) : k.wrap n = n := by
  cases k <;> simp [IntKind.wrap, IntKind.min, IntKind.max, IntKind.signed, IntKind.bits] at * <;> omega
/-- The width of a term; 'd' where it is none. -/
def wT (L : List Nd) (d t : Int) : Int := if isT L t then (L[(t - 1).toNat]?.map Nd.w).getD d else d
theorem isT_iff {L : List Nd} {t : Int} : isT L t = true ↔ 1 ≤ t ∧ t ≤ L.length := by unfold isT; simp
theorem s_idx {H : Hp} {L : List Nd} {sl : Value} (h : SlR H sl L) {t : Int} (ht : isT L t = true) (hL : (L.length : Int) ≤ 4611686018427387904) {α : Type} (k : Value → Option α) :
    ∃ i n, L[(t - 1).toNat]? = some n ∧ H.get i = some (.cells (L.flatMap Nd.cells) true) ∧ pIdx 7 sl (.int .i64 (IntKind.i64.wrap (t - 1))) k = k (.pointer (some ⟨i, (t - 1).toNat * 7, none⟩)) := by
  obtain ⟨h1, h2⟩ := isT_iff.1 ht
  have hw : IntKind.i64.wrap (t - 1) = t - 1 := wrap_id (by simp [IntKind.min, IntKind.signed, IntKind.bits]; omega) (by simp [IntKind.max, IntKind.signed, IntKind.bits]; omega)
  rcases h with ⟨rfl, rfl⟩ | ⟨i, rfl, hi⟩
  · simp at h2; omega
  · have hlt : (t - 1).toNat < L.length := by omega
    refine ⟨i, L[(t - 1).toNat], by simp [hlt], hi, ?_⟩
    rw [hw]
    unfold pIdx idxV
    have : (7 : Nat) = 7 ∧ 0 ≤ t - 1 ∧ t - 1 < (L.length : Int) := ⟨rfl, by omega, by omega⟩
    simp only [this, and_self, if_true, Nat.zero_add]
theorem c40 {H : Hp} {p f g : Nat} {lim t : Int} {L : List Nd} {sl : Value} (hs : StR H p lim L sl f g) (hL : (L.length : Int) ≤ 4611686018427387904) : RR 40 [.pointer (some ⟨p, 0, none⟩), .int .i64 t] H = some (.int .i64 (wT L (-1) t), H) := by
  refine (r40 E0 rfl _ _ _).trans ?_
  unfold m40
  simp only [s_call (c19 hs), s_bool, s_br, s_not, s_nil, s_offs, s_sub, Nat.zero_add, hs.l1]
  unfold wT
  cases ht : isT L t with
  | false => simp
  | true =>
    obtain ⟨i, n, hn, hi, hx⟩ := s_idx hs.all ht hL (fun p8 => pOffs 1 p8 fun p9 => pLoad 1 false H p9 fun v10 => some (v10, H))
    simp only [Bool.not_true, Bool.false_eq_true, if_false, if_true]
    rw [hx, s_offs, s_load hi _ (.int .i64 n.w) (by rw [cells_flat _ _ _ (by omega), hn]; rfl), hn]
    rfl
theorem c54 {H : Hp} {p f g : Nat} {lim t : Int} {L : List Nd} {sl : Value} (hs : StR H p lim L sl f g) (hL : (L.length : Int) ≤ 4611686018427387904) (ht : isT L t = true) (d : Int) : RR 54 [.pointer (some ⟨p, 0, none⟩), .int .i64 t] H = some (.int .i64 (wT L d t), H) := by
  refine (r54 E0 rfl _ _ _).trans ?_
  unfold m54
  simp only [s_nil, s_offs, s_sub, Nat.zero_add, hs.l1]
  obtain ⟨i, n, hn, hi, hx⟩ := s_idx hs.all ht hL (fun p8 => pOffs 1 p8 fun p9 => pLoad 1 false H p9 fun v10 => some (v10, H))
  rw [hx, s_offs, s_load hi _ (.int .i64 n.w) (by rw [cells_flat _ _ _ (by omega), hn]; rfl)]
  unfold wT
  rw [ht, hn]
  rfl
theorem c52 {H : Hp} {p f g : Nat} {lim t : Int} {L : List Nd} {sl : Value} (hs : StR H p lim L sl f g) (hL : (L.length : Int) ≤ 4611686018427387904) : RR 52 [.pointer (some ⟨p, 0, none⟩), .int .i64 t] H = some (.int .i64 (wT L 0 t), H) := by
  refine (r52 E0 rfl _ _ _).trans ?_
  unfold m52
  simp only [s_call (c30 hs), s_bool, s_br, s_not]
  cases ht : isT L t with
  | false => simp [wT, ht]
  | true =>
    simp only [Bool.not_true, Bool.false_eq_true, if_false]
    rw [s_call (c54 hs hL ht 0)]
end Go.AM
/- The Term seat: nodes. -/
set_option linter.unusedVariables false
set_option linter.unusedSimpArgs false
namespace Go.AM
open Go

section
variable {α : Type} {P : Program} (n : Nd) (k : Value → Option α)
theorem n0 : pCell 1 false (cellsL n.val) 0 k = k (.int .i64 n.op) := s_cell _ 0 _ rfl k
theorem n1 : pCell 1 false (cellsL n.val) 1 k = k (.int .i64 n.w) := s_cell _ 1 _ rfl k
theorem n2 : pCell 1 false (cellsL n.val) 2 k = k (.int .i64 n.a) := s_cell _ 2 _ rfl k
theorem n3 : pCell 1 false (cellsL n.val) 3 k = k (.int .i64 n.b) := s_cell _ 3 _ rfl k
theorem n4 : pCell 1 false (cellsL n.val) 4 k = k (.int .i64 n.c) := s_cell _ 4 _ rfl k
theorem n5 : pCell 1 false (cellsL n.val) 5 k = k (.int .u64 n.num) := s_cell _ 5 _ rfl k
theorem n6 : pCell 1 false (cellsL n.val) 6 k = k (.string n.name) := s_cell _ 6 _ rfl k
theorem n07 : pCell 7 true (cellsL n.val) 0 k = k n.val := rfl
theorem s_sneq (T : TypeId) (a b : ByteArray) (k : Value → Option α) : pBin P .neq T (.string a) (.string b) k = k (.bool !(a.toList == b.toList)) := rfl
end
theorem s_ite (p : Prop) [Decidable p] (x y : Bool) (H : Hp) : (if p then some (Value.bool x, H) else some (Value.bool y, H)) = some (Value.bool (bif decide p then x else y), H) := by
  by_cases h : p <;> simp [h]

def named (n : Nd) : Bool := !(n.name.toList == (⟨#[]⟩ : ByteArray).toList)
/-- Is something set that an operation with 'k' parts has not? -/
def spareK (k : Int) (n : Nd) : Bool :=
  (decide (k < 1) && decide (n.a ≠ 0)) || (decide (k < 2) && decide (n.b ≠ 0)) || (decide (k < 3) && decide (n.c ≠ 0)) ||
  (decide (n.num ≠ 0) && decide (n.op ≠ 3) && decide (n.op ≠ 31)) || (named n && decide (n.op ≠ 4))
theorem c41 (n : Nd) (H : Hp) : RR 41 [n.val] H = some (.bool (spareK (partsT n.op) n), H) := by
  refine (r41 E0 rfl _ _).trans ?_
  unfold m41
  simp only [n0, n2, n3, n4, n5, n6, s_call (c29 _ _), s_lss, s_neq, s_sneq, s_bool, s_br, s_ite]
  unfold spareK named
  generalize partsT n.op = k
  congr 2
  congr 1
  generalize decide (k < 1) = b1
  generalize decide (n.a ≠ 0) = b2
  generalize decide (k < 2) = b3
  generalize decide (n.b ≠ 0) = b4
  generalize decide (k < 3) = b5
  generalize decide (n.c ≠ 0) = b6
  generalize decide (n.num ≠ 0) = b7
  generalize decide (n.op ≠ 3) = b8
  generalize decide (n.op ≠ 31) = b9
  generalize (!(n.name.toList == (⟨#[]⟩ : ByteArray).toList)) = b10
  generalize decide (n.op ≠ 4) = b11
  simp only [Bool.decide_eq_true]
  cases b1 <;> cases b2 <;> cases b3 <;> cases b4 <;> cases b5 <;> cases b6 <;> simp <;> cases b7 <;> cases b8 <;> cases b9 <;> simp <;> cases b10 <;> simp
end Go.AM
/- The Term seat: nodes, II. -/
set_option linter.unusedVariables false
set_option linter.unusedSimpArgs false
namespace Go.AM
open Go
theorem s_head (v : Value) (l : List Value) : (v :: l).headD undef = v := rfl
theorem c47 (n : Nd) (k : Int) (H : Hp) : RR 47 [n.val, .int .i64 k] H = some (.bool (spareK k n), H) := by
  refine (r47 E0 rfl _ _ _).trans ?_
  unfold m47
  simp only [n0, n2, n3, n4, n5, n6, s_lss, s_neq, s_sneq, s_bool, s_br, s_bind, s_bind_ite, s_next, s_ret, s_head, s_ite]
  unfold spareK named
  congr 2
  congr 1
  generalize decide (k < 1) = b1
  generalize decide (n.a ≠ 0) = b2
  generalize decide (k < 2) = b3
  generalize decide (n.b ≠ 0) = b4
  generalize decide (k < 3) = b5
  generalize decide (n.c ≠ 0) = b6
  generalize decide (n.num ≠ 0) = b7
  generalize decide (n.op ≠ 3) = b8
  generalize decide (n.op ≠ 31) = b9
  generalize (!(n.name.toList == (⟨#[]⟩ : ByteArray).toList)) = b10
  generalize decide (n.op ≠ 4) = b11
  simp only [Bool.decide_eq_true]
  cases b1 <;> cases b2 <;> cases b3 <;> cases b4 <;> cases b5 <;> cases b6 <;> simp <;> cases b7 <;> cases b8 <;> cases b9 <;> simp <;> cases b10 <;> simp

/-- The document's count of parts; -1: no operation. -/
def partsR (op : Int) : Int := if op < 1 ∨ op > 33 then -1 else partsT op
theorem s_iteI (p : Prop) [Decidable p] (x y : Int) (H : Hp) : (if p then some (Value.int .i64 x, H) else some (Value.int .i64 y, H)) = some (Value.int .i64 (if p then x else y), H) := by
  split <;> rfl
theorem c46 (op : Int) (H : Hp) : RR 46 [.int .i64 op] H = some (.int .i64 (partsR op), H) := by
  refine (r46 E0 rfl _ _).trans ?_
  unfold m46
  simp only [s_lss, s_leq, s_gtr, s_geq, s_eql, s_bool, s_br, s_bind, s_bind_ite, s_next, s_exit, s_ret, s_onExit, s_head, decide_eq_true_eq, List.getD_cons_zero, s_iteI, if_true]
  congr 2
  congr 1
  unfold partsR partsT
  by_cases h1 : op < 1
  · simp [h1]
  by_cases h2 : op > 33
  · simp [h1, h2]
  simp only [h1, h2, if_false, or_self]
  by_cases h3 : op ≤ 4
  · have : op = 1 ∨ op = 2 ∨ op = 3 ∨ op = 4 := by omega
    simp [h3, this]
  · have : ¬ (op = 1 ∨ op = 2 ∨ op = 3 ∨ op = 4) := by omega
    simp only [this, h3, if_false]
    by_cases h5 : op = 5
    · simp [h5]
    by_cases h6 : op = 15
    · simp [h6]
    by_cases h7 : op = 16
    · simp [h7]
    by_cases h8 : op ≥ 31
    · have : op = 5 ∨ op = 15 ∨ op = 16 ∨ op = 31 ∨ op = 32 ∨ op = 33 := by omega
      simp [h5, h6, h7, h8, this]
      intros; omega
    · have : ¬ (op = 5 ∨ op = 15 ∨ op = 16 ∨ op = 31 ∨ op = 32 ∨ op = 33) := by omega
      simp [h5, h6, h7, h8, this]
      intros; omega
end Go.AM
/- The Term seat: sorts. -/
set_option linter.unusedVariables false
set_option linter.unusedSimpArgs false
namespace Go.AM
open Go
/-- Are the sorts of a node's parts right? -/
def sortsOf (op a b c : Int) : Bool :=
  if partsT op = 0 then true
  else if op = 5 then decide (a = 0)
  else if op = 6 ∨ op = 7 ∨ op = 8 then decide (a = 0) && decide (b = 0)
  else if op = 9 then decide (a = b)
  else if op = 14 then decide (a = 0) && decide (b = c)
  else if op = 30 then decide (a > 0) && decide (b > 0)
  else if partsT op = 1 then decide (a > 0)
  else decide (a > 0) && decide (a = b)
section
variable {H : Hp} {p f g : Nat} {lim : Int} {L : List Nd} {sl : Value}
theorem c42 (hs : StR H p lim L sl f g) (hL : (L.length : Int) ≤ 4611686018427387904) (n : Nd) :
    RR 42 [.pointer (some ⟨p, 0, none⟩), n.val] H = some (.bool (sortsOf n.op (wT L (-1) n.a) (wT L (-1) n.b) (wT L (-1) n.c)), H) := by
  refine (r42 E0 rfl _ _ _).trans ?_
  unfold m42
  simp only [n0, n2, n3, n4, s_call (c40 hs hL), s_call (c29 _ _), s_eql, s_gtr, s_bool, s_br, s_bind, s_bind_ite, s_next, s_exit, s_ret, s_onExit, s_head, List.getD_cons_zero, decide_eq_true_eq, if_true]
  unfold sortsOf
  generalize wT L (-1) n.a = a
  generalize wT L (-1) n.b = b
  generalize wT L (-1) n.c = c
  generalize n.op = op
  by_cases h0 : partsT op = 0
  · simp only [h0, if_true]
  simp only [h0, if_false]
  by_cases h5 : op = 5
  · simp only [h5, if_true]
  simp only [h5, if_false]
  by_cases h6 : op = 6
  · simp [h6, s_ite]
  by_cases h7 : op = 7
  · simp [h7, s_ite]
  by_cases h8 : op = 8
  · simp [h8, s_ite]
  simp only [h6, h7, h8, if_false, or_self]
  by_cases h9 : op = 9
  · simp [h9]
  simp only [h9, if_false]
  by_cases h14 : op = 14
  · simp [h14]; by_cases q : a = 0 <;> simp [q]
  simp only [h14, if_false]
  by_cases h30 : op = 30
  · simp [h30]; by_cases q : a > 0 <;> simp [q]
  simp only [h30, if_false]
  by_cases h1 : partsT op = 1
  · simp [h1]
  simp only [h1, if_false]
  by_cases q : a > 0 <;> simp [q]
/-- The document's, where the parts are terms. -/
theorem c48 (hs : StR H p lim L sl f g) (hL : (L.length : Int) ≤ 4611686018427387904) (n : Nd) (h1 : 1 ≤ n.op) (h2 : n.op ≤ 33)
    (ha : partsT n.op ≥ 1 → isT L n.a = true) (hb : partsT n.op ≥ 2 → isT L n.b = true) (hc : partsT n.op ≥ 3 → isT L n.c = true) :
    RR 48 [.pointer (some ⟨p, 0, none⟩), n.val] H = some (.bool (sortsOf n.op (wT L (-1) n.a) (wT L (-1) n.b) (wT L (-1) n.c)), H) := by
  refine (r48 E0 rfl _ _ _).trans ?_
  unfold m48
  have ka := fun h => c54 hs hL (ha h) (-1)
  have kb := fun h => c54 hs hL (hb h) (-1)
  have kc := fun h => c54 hs hL (hc h) (-1)
  simp only [n0, n2, n3, n4, s_eql, s_gtr, s_geq, s_leq, s_bool, s_br, s_bind, s_bind_ite, s_next, s_exit, s_ret, s_onExit, s_head, List.getD_cons_zero, decide_eq_true_eq, if_true]
  unfold sortsOf
  by_cases h4 : n.op ≤ 4
  · have : partsT n.op = 0 := by unfold partsT; rw [if_pos (by omega)]
    simp only [h4, this, if_true]
  have h0 : ¬ partsT n.op = 0 := by unfold partsT; split <;> first | omega | (split <;> first | omega | (split <;> omega))
  have hA := ka (by unfold partsT at *; split <;> first | omega | (split <;> first | omega | (split <;> omega)))
  simp only [h4, h0, if_false]
  by_cases h5 : n.op = 5
  · simp only [h5, if_true, s_call hA, s_eql]
  simp only [h5, if_false]
  by_cases hone : n.op = 15 ∨ n.op = 16 ∨ n.op ≥ 31
  · have hp : partsT n.op = 1 := by unfold partsT; rw [if_neg (by omega), if_pos (by omega)]
    have q1 : ¬ n.op ≤ 8 := by omega
    have q2 : ¬ n.op = 9 := by omega
    have q3 : ¬ n.op = 14 := by omega
    have q4 : ¬ n.op = 30 := by omega
    have q5 : ¬ (n.op = 6 ∨ n.op = 7 ∨ n.op = 8) := by omega
    simp only [q1, q2, q3, q4, q5, hp, if_false, if_true]
    rcases hone with h | h | h
    · simp only [h, if_true, s_bind, s_next, List.getD_cons_zero, s_bool, s_br, s_call hA, s_gtr]
    · simp [h, s_bind, s_next, s_bool, s_br, s_call hA, s_gtr]
    · have w1 : ¬ n.op = 15 := by omega
      have w2 : ¬ n.op = 16 := by omega
      simp [w1, w2, h, s_bind, s_next, s_bool, s_br, s_call hA, s_gtr]
  have hB := kb (by unfold partsT; rw [if_neg (by omega), if_neg (by omega)]; split <;> omega)
  have hone1 : ¬ partsT n.op = 1 := by unfold partsT; rw [if_neg (by omega), if_neg (by omega)]; split <;> omega
  by_cases h8 : n.op ≤ 8
  · have : n.op = 6 ∨ n.op = 7 ∨ n.op = 8 := by omega
    simp only [h8, this, if_true, s_call hA, s_call hB, s_eql, s_bool, s_br, decide_eq_true_eq]
    by_cases q : wT L (-1) n.a = 0 <;> simp [q]
  have q5 : ¬ (n.op = 6 ∨ n.op = 7 ∨ n.op = 8) := by omega
  simp only [h8, q5, if_false]
  by_cases h9 : n.op = 9
  · simp only [h9, if_true, s_call hA, s_call hB, s_eql]
  simp only [h9, if_false]
  by_cases h14 : n.op = 14
  · have hC := kc (by unfold partsT; rw [h14]; decide)
    simp only [h14, if_true, s_call hA, s_call hB, s_call hC, s_eql, s_bool, s_br, decide_eq_true_eq]
    by_cases q : wT L (-1) n.a = 0 <;> simp [q]
  have w1 : ¬ n.op = 15 := by omega
  have w2 : ¬ n.op = 16 := by omega
  have w3 : ¬ n.op ≥ 31 := by omega
  simp only [h14, w1, w2, w3, if_false, decide_false, s_bind, s_next, List.getD_cons_zero, s_bool, s_br, Bool.false_eq_true]
  by_cases h30 : n.op = 30
  · simp only [h30, if_true, s_call hA, s_call hB, s_gtr, s_bool, s_br, decide_eq_true_eq]
    by_cases q : wT L (-1) n.a > 0 <;> simp [q]
  simp only [h30, hone1, if_false, s_call hA, s_call hB, s_gtr, s_eql, s_bool, s_br, decide_eq_true_eq]
  by_cases q : wT L (-1) n.a > 0 <;> simp [q]
end
end Go.AM
/- The Term seat: words: Trim, OnesCount, Shifts. -/
set_option linter.unusedVariables false
set_option linter.unusedSimpArgs false
namespace Go.AM
open Go
theorem s_rem {α : Type} {P : Program} (T : TypeId) (kd : IntKind) (a b : Int) (hb : b ≠ 0) (k : Value → Option α) : pBin P .rem T (.int kd a) (.int kd b) k = k (.int kd (a.tmod b)) := by simp [pBin, binV, intOp, hb]
theorem s_conv {α : Type} (kd k2 : IntKind) (a : Int) (k : Value → Option α) : pConvInt kd (.int k2 a) k = k (.int kd (kd.wrap a)) := rfl
theorem s_and {α : Type} {P : Program} (T : TypeId) (kd : IntKind) (a b : Int) (k : Value → Option α) : pBin P .and T (.int kd a) (.int kd b) k = k (.int kd (kd.wrap (BitVec.ofInt kd.bits a &&& BitVec.ofInt kd.bits b).toNat)) := by simp [pBin, binV, intOp, bvOp]
theorem s_shl {α : Type} {P : Program} (T : TypeId) (kd k2 : IntKind) (a b : Int) (hb : 0 ≤ b) (k : Value → Option α) : pBin P .shl T (.int kd a) (.int k2 b) k = k (.int kd (kd.wrap (a * 2 ^ (min b.toNat kd.bits)))) := by
  have : ¬ b < 0 := by omega
  simp [pBin, binV, shOp, this]
/-- A word's low bits. -/
def trimS (w x : Int) : Int := if w < 1 then 0 else if w ≥ 64 then x else x % 2 ^ w.toNat
theorem pow_lt64 {w : Int} (h1 : 1 ≤ w) (h2 : w < 64) : (2 : Int) ^ w.toNat < 18446744073709551616 ∧ (2 : Int) ≤ 2 ^ w.toNat := by
  have hw : w.toNat < 64 := by omega
  have hw1 : 1 ≤ w.toNat := by omega
  have h3 : (2 : Nat) ^ w.toNat < 2 ^ 64 := Nat.pow_lt_pow_right (by omega) hw
  have h4 : (2 : Nat) ^ 1 ≤ 2 ^ w.toNat := Nat.pow_le_pow_right (by omega) hw1
  constructor
  · have : ((2 ^ w.toNat : Nat) : Int) < ((2 ^ 64 : Nat) : Int) := Int.ofNat_lt.2 h3
    simpa using this
  · have : ((2 ^ 1 : Nat) : Int) ≤ ((2 ^ w.toNat : Nat) : Int) := Int.ofNat_le.2 h4
    simpa using this
theorem wrap_pow {w : Int} (h1 : 1 ≤ w) (h2 : w < 64) : IntKind.u64.wrap (1 * 2 ^ (min (IntKind.u64.wrap w).toNat IntKind.u64.bits)) = 2 ^ w.toNat := by
  have hw : IntKind.u64.wrap w = w := wrap_id (by simp [IntKind.min, IntKind.signed, IntKind.bits]; omega) (by simp [IntKind.max, IntKind.signed, IntKind.bits]; omega)
  rw [hw]
  have hb : IntKind.u64.bits = 64 := rfl
  rw [hb, Nat.min_eq_left (by omega), Int.one_mul]
  obtain ⟨p1, p2⟩ := pow_lt64 h1 h2
  exact wrap_id (by simp [IntKind.min, IntKind.signed, IntKind.bits]; omega) (by simp [IntKind.max, IntKind.signed, IntKind.bits]; omega)
theorem c51 (w x : Int) (hx : 0 ≤ x) (H : Hp) : RR 51 [.int .i64 w, .int .u64 x] H = some (.int .u64 (trimS w x), H) := by
  refine (r51 E0 rfl _ _ _).trans ?_
  unfold m51 trimS
  simp only [s_lss, s_geq, s_bool, s_br, decide_eq_true_eq, s_conv]
  by_cases h1 : w < 1
  · simp [h1]
  by_cases h2 : w ≥ 64
  · simp [h1, h2]
  simp only [h1, h2, if_false]
  have hw : IntKind.u64.wrap w = w := wrap_id (by simp [IntKind.min, IntKind.signed, IntKind.bits]; omega) (by simp [IntKind.max, IntKind.signed, IntKind.bits]; omega)
  obtain ⟨p1, p2⟩ := pow_lt64 (w := w) (by omega) (by omega)
  rw [s_shl _ _ _ _ _ (by rw [hw]; omega), wrap_pow (by omega) (by omega), s_rem _ _ _ _ (by omega), Int.tmod_eq_emod_of_nonneg hx]
theorem c45 (w x : Int) (hx : 0 ≤ x) (hx2 : x < 18446744073709551616) (H : Hp) : RR 45 [.int .i64 w, .int .u64 x] H = some (.int .u64 (trimS w x), H) := by
  refine (r45 E0 rfl _ _ _).trans ?_
  unfold m45 trimS
  simp only [s_lss, s_geq, s_bool, s_br, decide_eq_true_eq, s_conv]
  by_cases h1 : w < 1
  · simp [h1]
  by_cases h2 : w ≥ 64
  · simp [h1, h2]
  simp only [h1, h2, if_false]
  have hw : IntKind.u64.wrap w = w := wrap_id (by simp [IntKind.min, IntKind.signed, IntKind.bits]; omega) (by simp [IntKind.max, IntKind.signed, IntKind.bits]; omega)
  obtain ⟨p1, p2⟩ := pow_lt64 (w := w) (by omega) (by omega)
  rw [s_shl _ _ _ _ _ (by rw [hw]; omega), wrap_pow (by omega) (by omega), s_sub, s_and]
  have hm : IntKind.u64.wrap (2 ^ w.toNat - 1) = 2 ^ w.toNat - 1 := wrap_id (by simp [IntKind.min, IntKind.signed, IntKind.bits]; omega) (by simp [IntKind.max, IntKind.signed, IntKind.bits]; omega)
  rw [hm]
  congr 3
  have hb : IntKind.u64.bits = 64 := rfl
  rw [hb]
  obtain ⟨X, rfl⟩ := Int.eq_ofNat_of_zero_le hx
  have e2 : (2 : Int) ^ w.toNat - 1 = ((2 ^ w.toNat - 1 : Nat) : Int) := by
    have : 1 ≤ (2 : Nat) ^ w.toNat := Nat.one_le_two_pow
    rw [Int.ofNat_sub this]; simp
  rw [e2]
  have e3 : BitVec.ofInt 64 ((X : Nat) : Int) = BitVec.ofNat 64 X := by simp
  have e4 : BitVec.ofInt 64 (((2 ^ w.toNat - 1 : Nat)) : Int) = BitVec.ofNat 64 (2 ^ w.toNat - 1) := by simp
  rw [e3, e4, BitVec.toNat_and, BitVec.toNat_ofNat, BitVec.toNat_ofNat]
  have hX : X < 2 ^ 64 := by have : (X : Int) < 18446744073709551616 := hx2; omega
  have h3 : (2 : Nat) ^ w.toNat < 2 ^ 64 := Nat.pow_lt_pow_right (by omega) (by omega)
  rw [Nat.mod_eq_of_lt hX, Nat.mod_eq_of_lt (by omega), Nat.and_two_pow_sub_one_eq_mod]
  have h4 : X % 2 ^ w.toNat ≤ X := Nat.mod_le _ _
  have h5 : ((X : Nat) : Int) % 2 ^ w.toNat = ((X % 2 ^ w.toNat : Nat) : Int) := by simp
  rw [h5]
  generalize X % 2 ^ w.toNat = Y at h4
  have m1 : IntKind.u64.min = 0 := rfl
  have m2 : IntKind.u64.max = 18446744073709551615 := rfl
  rw [wrap_id (by rw [m1]; omega) (by rw [m2]; omega)]
end Go.AM
/- The Term seat: OnesCount, Shifts. -/
set_option linter.unusedVariables false
set_option linter.unusedSimpArgs false
namespace Go.AM
open Go
def isPow (w : Int) : Bool := decide (w = 1 ∨ w = 2 ∨ w = 4 ∨ w = 8 ∨ w = 16 ∨ w = 32 ∨ w = 64)
def pops : List Int := [0, 1, 1, 2, 1, 2, 2, 3, 1, 2, 2, 3, 2, 3, 3, 4, 1, 2, 2, 3, 2, 3, 3, 4, 2, 3, 3, 4, 3, 4, 4, 5, 1, 2, 2, 3, 2, 3, 3, 4, 2, 3, 3, 4, 3, 4, 4, 5, 2, 3, 3, 4, 3, 4, 4, 5, 3, 4, 4, 5, 4, 5, 5, 6, 1]
theorem all58 (H : Hp) : (i : Nat) → i < 65 → m58 RR (.int .u64 (i : Int)) H = some (.int .i64 (pops.getD i 0), H)
  | 0, _ => by kernel_rfl
  | 1, _ => by kernel_rfl
  | 2, _ => by kernel_rfl
  | 3, _ => by kernel_rfl
  | 4, _ => by kernel_rfl
  | 5, _ => by kernel_rfl
  | 6, _ => by kernel_rfl
  | 7, _ => by kernel_rfl
  | 8, _ => by kernel_rfl
  | 9, _ => by kernel_rfl
  | 10, _ => by kernel_rfl
  | 11, _ => by kernel_rfl
  | 12, _ => by kernel_rfl
  | 13, _ => by kernel_rfl
  | 14, _ => by kernel_rfl
  | 15, _ => by kernel_rfl
  | 16, _ => by kernel_rfl
  | 17, _ => by kernel_rfl
  | 18, _ => by kernel_rfl
  | 19, _ => by kernel_rfl
  | 20, _ => by kernel_rfl
  | 21, _ => by kernel_rfl
  | 22, _ => by kernel_rfl
  | 23, _ => by kernel_rfl
  | 24, _ => by kernel_rfl
  | 25, _ => by kernel_rfl
  | 26, _ => by kernel_rfl
  | 27, _ => by kernel_rfl
  | 28, _ => by kernel_rfl
  | 29, _ => by kernel_rfl
  | 30, _ => by kernel_rfl
  | 31, _ => by kernel_rfl
  | 32, _ => by kernel_rfl
  | 33, _ => by kernel_rfl
  | 34, _ => by kernel_rfl
  | 35, _ => by kernel_rfl
  | 36, _ => by kernel_rfl
  | 37, _ => by kernel_rfl
  | 38, _ => by kernel_rfl
  | 39, _ => by kernel_rfl
  | 40, _ => by kernel_rfl
  | 41, _ => by kernel_rfl
  | 42, _ => by kernel_rfl
  | 43, _ => by kernel_rfl
  | 44, _ => by kernel_rfl
  | 45, _ => by kernel_rfl
  | 46, _ => by kernel_rfl
  | 47, _ => by kernel_rfl
  | 48, _ => by kernel_rfl
  | 49, _ => by kernel_rfl
  | 50, _ => by kernel_rfl
  | 51, _ => by kernel_rfl
  | 52, _ => by kernel_rfl
  | 53, _ => by kernel_rfl
  | 54, _ => by kernel_rfl
  | 55, _ => by kernel_rfl
  | 56, _ => by kernel_rfl
  | 57, _ => by kernel_rfl
  | 58, _ => by kernel_rfl
  | 59, _ => by kernel_rfl
  | 60, _ => by kernel_rfl
  | 61, _ => by kernel_rfl
  | 62, _ => by kernel_rfl
  | 63, _ => by kernel_rfl
  | 64, _ => by kernel_rfl
  | n + 65, h => by omega
theorem c53 (w : Int) (h0 : 0 ≤ w) (h1 : w < 65) (H : Hp) : RR 53 [.int .u64 w] H = some (.int .i64 (pops.getD w.toNat 0), H) := by
  refine (r53 E0 rfl _ _).trans ?_
  unfold m53
  have : RR 58 [.int .u64 w] H = some (.int .i64 (pops.getD w.toNat 0), H) := by
    refine (r58 E0 rfl _ _).trans ?_
    obtain ⟨n, rfl⟩ := Int.eq_ofNat_of_zero_le h0
    exact all58 H n (by omega)
  rw [s_call this]
theorem pops_pow : (i : Nat) → i < 65 → decide (pops.getD i 0 = 1) = isPow (i : Int)
  | 0, _ => by kernel_rfl
  | 1, _ => by kernel_rfl
  | 2, _ => by kernel_rfl
  | 3, _ => by kernel_rfl
  | 4, _ => by kernel_rfl
  | 5, _ => by kernel_rfl
  | 6, _ => by kernel_rfl
  | 7, _ => by kernel_rfl
  | 8, _ => by kernel_rfl
  | 9, _ => by kernel_rfl
  | 10, _ => by kernel_rfl
  | 11, _ => by kernel_rfl
  | 12, _ => by kernel_rfl
  | 13, _ => by kernel_rfl
  | 14, _ => by kernel_rfl
  | 15, _ => by kernel_rfl
  | 16, _ => by kernel_rfl
  | 17, _ => by kernel_rfl
  | 18, _ => by kernel_rfl
  | 19, _ => by kernel_rfl
  | 20, _ => by kernel_rfl
  | 21, _ => by kernel_rfl
  | 22, _ => by kernel_rfl
  | 23, _ => by kernel_rfl
  | 24, _ => by kernel_rfl
  | 25, _ => by kernel_rfl
  | 26, _ => by kernel_rfl
  | 27, _ => by kernel_rfl
  | 28, _ => by kernel_rfl
  | 29, _ => by kernel_rfl
  | 30, _ => by kernel_rfl
  | 31, _ => by kernel_rfl
  | 32, _ => by kernel_rfl
  | 33, _ => by kernel_rfl
  | 34, _ => by kernel_rfl
  | 35, _ => by kernel_rfl
  | 36, _ => by kernel_rfl
  | 37, _ => by kernel_rfl
  | 38, _ => by kernel_rfl
  | 39, _ => by kernel_rfl
  | 40, _ => by kernel_rfl
  | 41, _ => by kernel_rfl
  | 42, _ => by kernel_rfl
  | 43, _ => by kernel_rfl
  | 44, _ => by kernel_rfl
  | 45, _ => by kernel_rfl
  | 46, _ => by kernel_rfl
  | 47, _ => by kernel_rfl
  | 48, _ => by kernel_rfl
  | 49, _ => by kernel_rfl
  | 50, _ => by kernel_rfl
  | 51, _ => by kernel_rfl
  | 52, _ => by kernel_rfl
  | 53, _ => by kernel_rfl
  | 54, _ => by kernel_rfl
  | 55, _ => by kernel_rfl
  | 56, _ => by kernel_rfl
  | 57, _ => by kernel_rfl
  | 58, _ => by kernel_rfl
  | 59, _ => by kernel_rfl
  | 60, _ => by kernel_rfl
  | 61, _ => by kernel_rfl
  | 62, _ => by kernel_rfl
  | 63, _ => by kernel_rfl
  | 64, _ => by kernel_rfl
  | n + 65, h => by omega
theorem c55 (w : Int) (H : Hp) : RR 55 [.int .i64 w] H = some (.bool (isPow w), H) := by
  refine (r55 E0 rfl _ _).trans ?_
  unfold m55
  generalize hS : (fun (l1 : List Value) (H2 : Hp) =>
    pBin Go.Proofs.Try.prog .leq 3 (l1.getD 0 undef) (.int .i64 64) fun v3 =>
    pBool v3 fun b4 => br b4
    (pBin Go.Proofs.Try.prog .eql 3 (.int .i64 w) (l1.getD 0 undef) fun v5 =>
    pBool v5 fun b6 => br b6
    (some (Ctl.ret, [(Value.bool true)], H2))
    (pBin Go.Proofs.Try.prog .mul 3 (.int .i64 2) (l1.getD 0 undef) fun v7 =>
    some (.next, [v7], H2)))
    (some (.exit 0, [(l1.getD 0 undef)], H2))) = S
  have hL : ∀ k : Int, loopD S [.int .i64 k] H = if k ≤ 64 then (if w = k then some (.ret, [.bool true], H) else loopD S [.int .i64 (IntKind.i64.wrap (2 * k))] H) else some (.exit 0, [.int .i64 k], H) := by
    intro k
    rw [loopD_eq]
    have : S [.int .i64 k] H = if k ≤ 64 then (if w = k then some (.ret, [.bool true], H) else some (.next, [.int .i64 (IntKind.i64.wrap (2 * k))], H)) else some (.exit 0, [.int .i64 k], H) := by
      rw [← hS]
      simp only [s_leq, s_eql, s_mul, s_bool, s_br, List.getD_cons_zero, decide_eq_true_eq]
    rw [this]
    split
    · split <;> rfl
    · rfl
  have w1 : IntKind.i64.wrap (2 * 1) = 2 := by decide
  have w2 : IntKind.i64.wrap (2 * 2) = 4 := by decide
  have w3 : IntKind.i64.wrap (2 * 4) = 8 := by decide
  have w4 : IntKind.i64.wrap (2 * 8) = 16 := by decide
  have w5 : IntKind.i64.wrap (2 * 16) = 32 := by decide
  have w6 : IntKind.i64.wrap (2 * 32) = 64 := by decide
  have w7 : IntKind.i64.wrap (2 * 64) = 128 := by decide
  have l1 := hL 1
  rw [if_pos (show (1 : Int) ≤ 64 by decide), w1] at l1
  have l2 := hL 2
  rw [if_pos (show (2 : Int) ≤ 64 by decide), w2] at l2
  have l4 := hL 4
  rw [if_pos (show (4 : Int) ≤ 64 by decide), w3] at l4
  have l8 := hL 8
  rw [if_pos (show (8 : Int) ≤ 64 by decide), w4] at l8
  have l16 := hL 16
  rw [if_pos (show (16 : Int) ≤ 64 by decide), w5] at l16
  have l32 := hL 32
  rw [if_pos (show (32 : Int) ≤ 64 by decide), w6] at l32
  have l64 := hL 64
  rw [if_pos (show (64 : Int) ≤ 64 by decide), w7] at l64
  have l128 := hL 128
  rw [if_neg (show ¬ (128 : Int) ≤ 64 by decide)] at l128
  rw [l1, l2, l4, l8, l16, l32, l64, l128]
  simp only [s_bind_ite, s_bind, s_ret, s_exit, s_onExit, s_head]
  unfold isPow
  by_cases h1 : w = 1
  · simp [h1]
  by_cases h2 : w = 2
  · simp [h2]
  by_cases h3 : w = 4
  · simp [h3]
  by_cases h4 : w = 8
  · simp [h4]
  by_cases h5 : w = 16
  · simp [h5]
  by_cases h6 : w = 32
  · simp [h6]
  by_cases h7 : w = 64
  · simp [h7]
  simp [h1, h2, h3, h4, h5, h6, h7]
end Go.AM
/- The Term seat: widths. -/
set_option linter.unusedVariables false
set_option linter.unusedSimpArgs false
namespace Go.AM
open Go
def widthOf (n : Nd) (a b : Int) : Bool :=
  if n.op = 1 ∨ n.op = 2 ∨ (5 ≤ n.op ∧ n.op ≤ 13) then decide (n.w = 0)
  else if n.op = 3 then decide (n.w > 0) && decide (trimS n.w n.num = n.num)
  else if n.op = 4 then true
  else if n.op = 14 then decide (n.w = b)
  else if 25 ≤ n.op ∧ n.op ≤ 29 then decide (n.w = a) && isPow a
  else if n.op = 30 then decide (n.w = a + b)
  else if n.op = 31 then decide (n.w ≥ 1) && decide (n.w ≤ a) && decide (n.num ≤ a - n.w)
  else if n.op = 32 ∨ n.op = 33 then decide (n.w ≥ a)
  else decide (n.w = a)
/-- The fields' ranges. -/
structure Nd.Ok (n : Nd) : Prop where
  w0 : 0 ≤ n.w
  w1 : n.w ≤ 64
  o1 : 1 ≤ n.op
  o2 : n.op ≤ 33
  n0 : 0 ≤ n.num
  n1 : n.num < 18446744073709551616
theorem i64_wrap {x : Int} (h1 : -9223372036854775808 ≤ x) (h2 : x ≤ 9223372036854775807) : IntKind.i64.wrap x = x := wrap_id (by have : IntKind.i64.min = -9223372036854775808 := rfl; omega) (by have : IntKind.i64.max = 9223372036854775807 := rfl; omega)
theorem u64_wrap {x : Int} (h1 : 0 ≤ x) (h2 : x ≤ 18446744073709551615) : IntKind.u64.wrap x = x := wrap_id (by have : IntKind.u64.min = 0 := rfl; omega) (by have : IntKind.u64.max = 18446744073709551615 := rfl; omega)
section
variable {H : Hp} {p f g : Nat} {lim : Int} {L : List Nd} {sl : Value}
theorem c43 (hs : StR H p lim L sl f g) (hL : (L.length : Int) ≤ 4611686018427387904) (n : Nd) (hn : n.Ok)
    (ha : -1 ≤ wT L (-1) n.a ∧ wT L (-1) n.a ≤ 64) (hb : -1 ≤ wT L (-1) n.b ∧ wT L (-1) n.b ≤ 64) (hsort : n.op ≥ 15 → wT L (-1) n.a > 0) :
    RR 43 [.pointer (some ⟨p, 0, none⟩), n.val] H = some (.bool (widthOf n (wT L (-1) n.a) (wT L (-1) n.b)), H) := by
  refine (r43 E0 rfl _ _ _).trans ?_
  unfold m43
  have ht := c45 n.w n.num hn.n0 hn.n1 H
  simp only [n0, n1, n2, n3, n5, s_call (c40 hs hL), s_eql, s_gtr, s_geq, s_leq, s_bool, s_br, s_bind, s_bind_ite, s_next, s_exit, s_ret, s_onExit, s_head, List.getD_cons_zero, decide_eq_true_eq, if_true, s_conv, s_sub, s_add, s_call ht]
  unfold widthOf
  generalize wT L (-1) n.a = a at *
  generalize wT L (-1) n.b = b at *
  have o1 := hn.o1
  have o2 := hn.o2
  by_cases h1 : n.op = 1
  · simp [h1]
  by_cases h2 : n.op = 2
  · simp [h2]
  by_cases h5 : 5 ≤ n.op ∧ n.op ≤ 13
  · have q : n.op ≥ 5 := h5.1
    simp only [h1, h2, h5, q, if_true, if_false, and_self, or_true, decide_true]
  have hc : ¬ (n.op = 1 ∨ n.op = 2 ∨ 5 ≤ n.op ∧ n.op ≤ 13) := by omega
  simp only [hc, h1, h2, if_false]
  by_cases h3 : n.op = 3
  · have q : ¬ n.op ≥ 5 := by omega
    have q2 : ¬ (3 : Int) ≥ 5 := by decide
    simp only [h3, q2, if_true, if_false, Bool.false_eq_true]
    by_cases q : n.w > 0 <;> simp [q]
  by_cases h4 : n.op = 4
  · have q2 : ¬ (4 : Int) ≥ 5 := by decide
    have q3 : ¬ (4 : Int) = 3 := by decide
    simp only [h4, q2, q3, if_true, if_false, Bool.false_eq_true]
    simp
  have g5 : n.op ≥ 5 := by omega
  have g13 : ¬ n.op ≤ 13 := by omega
  simp only [g5, g13, h3, h4, if_true, if_false, decide_false, Bool.false_eq_true]
  by_cases h14 : n.op = 14
  · simp only [h14, if_true]
    simp
  simp only [h14, if_false]
  have hap := hsort (by omega)
  by_cases h25 : 25 ≤ n.op ∧ n.op ≤ 29
  · have q : n.op ≥ 25 := h25.1
    have e : RR 53 [.int .u64 (IntKind.u64.wrap a)] H = some (.int .i64 (pops.getD a.toNat 0), H) := by
      rw [u64_wrap (by omega) (by omega)]
      exact c53 a (by omega) (by omega) H
    have e2 := pops_pow a.toNat (by omega)
    have e3 : ((a.toNat : Nat) : Int) = a := Int.toNat_of_nonneg (by omega)
    rw [e3] at e2
    simp only [q, h25.2, if_true, decide_true, s_call e, s_eql, e2, and_self]
    by_cases q : n.w = a <;> simp [q, h25.1]
  simp only [h25, if_false]
  have hA : (if n.op ≥ 25 then some (Ctl.next, [Value.bool (decide (n.op ≤ 29))], H) else some (Ctl.next, [Value.bool false], H)) = some (Ctl.next, [Value.bool false], H) := by
    by_cases q : n.op ≥ 25
    · have : ¬ n.op ≤ 29 := by omega
      simp [q, this]
    · simp [q]
  have w1 : IntKind.i64.wrap (a + b) = a + b := i64_wrap (by omega) (by omega)
  have w0 := hn.w0
  have w64 := hn.w1
  have w2 : IntKind.i64.wrap (a - n.w) = a - n.w := i64_wrap (by omega) (by omega)
  by_cases q25 : n.op ≥ 25
  · have q29 : ¬ n.op ≤ 29 := by omega
    simp only [q25, q29, if_true, if_false, decide_false, Bool.false_eq_true, w1, w2]
    by_cases h30 : n.op = 30
    · simp only [h30, if_true]
      try simp
    simp only [h30, if_false]
    by_cases h31 : n.op = 31
    · simp only [h31, if_true]
      by_cases k1 : n.w ≥ 1
      · by_cases k2 : n.w ≤ a
        · have k3 : IntKind.u64.wrap (a - n.w) = a - n.w := u64_wrap (by omega) (by omega)
          simp [k1, k2, k3]
        · simp [k1, k2]
      · simp [k1]
    simp only [h31, if_false]
    by_cases h32 : n.op = 32
    · simp [h32]
    by_cases h33 : n.op = 33
    · simp [h33]
    omega
  · have h30 : ¬ n.op = 30 := by omega
    have h31 : ¬ n.op = 31 := by omega
    have h32 : ¬ n.op = 32 := by omega
    have h33 : ¬ n.op = 33 := by omega
    simp only [q25, h30, h31, h32, h33, if_false, or_self, Bool.false_eq_true]
    simp
end
end Go.AM
/- The Term seat: widths, the document's. -/
set_option linter.unusedVariables false
set_option linter.unusedSimpArgs false
namespace Go.AM
open Go
section
variable {H : Hp} {p f g : Nat} {lim : Int} {L : List Nd} {sl : Value}
theorem c49 (hs : StR H p lim L sl f g) (hL : (L.length : Int) ≤ 4611686018427387904) (n : Nd) (hn : n.Ok)
    (pa : partsT n.op ≥ 1 → isT L n.a = true) (pb : partsT n.op ≥ 2 → isT L n.b = true)
    (ha : -1 ≤ wT L (-1) n.a ∧ wT L (-1) n.a ≤ 64) (hb : -1 ≤ wT L (-1) n.b ∧ wT L (-1) n.b ≤ 64) :
    RR 49 [.pointer (some ⟨p, 0, none⟩), n.val] H = some (.bool (widthOf n (wT L (-1) n.a) (wT L (-1) n.b)), H) := by
  refine (r49 E0 rfl _ _ _).trans ?_
  unfold m49
  have ht := c51 n.w n.num hn.n0 H
  have o1 := hn.o1
  have o2 := hn.o2
  have w0 := hn.w0
  have w64 := hn.w1
  have ka := fun h => c54 hs hL (pa h) (-1)
  have kb := fun h => c54 hs hL (pb h) (-1)
  simp only [n0, n1, n2, n3, n5, s_eql, s_gtr, s_geq, s_leq, s_bool, s_br, s_bind, s_bind_ite, s_next, s_exit, s_ret, s_onExit, s_head, List.getD_cons_zero, decide_eq_true_eq, if_true, s_conv, s_sub, s_add, s_call ht]
  unfold widthOf
  by_cases h2 : n.op ≤ 2
  · have q : n.op = 1 ∨ n.op = 2 ∨ 5 ≤ n.op ∧ n.op ≤ 13 := by omega
    simp only [h2, q, if_true]
  by_cases h5 : 5 ≤ n.op ∧ n.op ≤ 13
  · have q : n.op ≥ 5 := h5.1
    have q2 : n.op = 1 ∨ n.op = 2 ∨ 5 ≤ n.op ∧ n.op ≤ 13 := by omega
    simp only [h2, q, h5.2, q2, if_true, if_false, decide_true]
    try simp
  have hc : ¬ (n.op = 1 ∨ n.op = 2 ∨ 5 ≤ n.op ∧ n.op ≤ 13) := by omega
  have hmid : (if n.op ≥ 5 then decide (n.op ≤ 13) else false) = false := by
    by_cases q : n.op ≥ 5
    · have : ¬ n.op ≤ 13 := by omega
      simp [q, this]
    · simp [q]
  simp only [hc, h2, if_false]
  have key : ∀ x : Option (Value × Hp), (if n.op ≥ 5 then (if n.op ≤ 13 then some (Value.bool (decide (n.w = 0)), H) else x) else (if (false : Bool) = true then some (Value.bool (decide (n.w = 0)), H) else x)) = x := fun x => by
    by_cases q : n.op ≥ 5
    · have : ¬ n.op ≤ 13 := by omega
      simp [q, this]
    · simp [q]
  rw [key]
  by_cases h3 : n.op = 3
  · simp only [h3, if_true]
    by_cases q : n.w ≥ 1
    · have : n.w > 0 := by omega
      simp [q, this]
    · have : ¬ n.w > 0 := by omega
      simp [q, this]
  by_cases h4 : n.op = 4
  · simp only [h3, h4, if_true, if_false]
    try simp
  simp only [h3, h4, if_false]
  by_cases h14 : n.op = 14
  · have hB := kb (by unfold partsT; rw [h14]; decide)
    simp only [h14, if_true, s_call hB, s_eql]
  have hA := ka (by unfold partsT; split <;> first | omega | (split <;> first | omega | (split <;> omega)))
  simp only [h14, if_false]
  generalize hga : wT L (-1) n.a = a at *
  by_cases h30 : n.op = 30
  · have hB := kb (by unfold partsT; rw [h30]; decide)
    have q25 : ¬ (25 ≤ n.op ∧ n.op ≤ 29) := by omega
    have e : IntKind.i64.wrap (a + wT L (-1) n.b) = a + wT L (-1) n.b := i64_wrap (by omega) (by omega)
    simp only [q25, if_false]
    simp only [h30, if_true, s_call hA, s_call hB, s_eql, s_add, e]
  simp only [h30, if_false]
  by_cases h31 : n.op = 31
  · have q25 : ¬ (25 ≤ n.op ∧ n.op ≤ 29) := by omega
    simp only [q25, if_false]
    simp only [h31, if_true, s_call hA, s_leq]
    by_cases k1 : n.w ≥ 1
    · simp only [k1, if_true, decide_true, Bool.true_and]
      by_cases k2 : n.num ≤ 64
      · have n0 := hn.n0
        have e1 : IntKind.i64.wrap n.num = n.num := i64_wrap (by omega) (by omega)
        have e2 : IntKind.i64.wrap (n.num + n.w) = n.num + n.w := i64_wrap (by omega) (by omega)
        simp only [k2, if_true, e1, e2]
        congr 2
        congr 1
        rw [Bool.eq_iff_iff]
        simp
        omega
      · simp only [k2, if_false]
        congr 2
        congr 1
        rw [Bool.eq_iff_iff]
        simp
        omega
    · simp [k1]
  simp only [h31, if_false]
  by_cases h32 : n.op ≥ 32
  · have q25 : ¬ (25 ≤ n.op ∧ n.op ≤ 29) := by omega
    have q : n.op = 32 ∨ n.op = 33 := by omega
    simp only [q25, q, h32, if_false, if_true, s_call hA, s_geq]
  have q3 : ¬ (n.op = 32 ∨ n.op = 33) := by omega
  simp only [h32, q3, if_false]
  by_cases h25 : n.op ≥ 25
  · have q : 25 ≤ n.op ∧ n.op ≤ 29 := by omega
    simp only [h25, q, if_true, s_call hA, s_eql, s_bool, s_br, decide_eq_true_eq, s_call (c55 n.w H), and_self]
    by_cases k : n.w = a
    · simp [k, q.1]
    · simp [k, q.1]
  · have q : ¬ (25 ≤ n.op ∧ n.op ≤ 29) := by omega
    simp only [h25, q, if_false, s_call hA, s_eql]
    try simp
end
end Go.AM
/- The Term seat: names, the document's. -/
set_option linter.unusedVariables false
set_option linter.unusedSimpArgs false
namespace Go.AM
open Go
def letter (x : Int) : Bool := (decide (x ≥ 97) && decide (x ≤ 122)) || (decide (x ≥ 65) && decide (x ≤ 90)) || decide (x = 95)
def digit (x : Int) : Bool := !(decide (x < 48)) && !(decide (x > 57))
theorem c56 (x : Int) (H : Hp) : RR 56 [.int .u8 x] H = some (.bool (letter x), H) := by
  refine (r56 E0 rfl _ _).trans ?_
  unfold m56 letter
  simp only [s_leq, s_geq, s_eql, s_bool, s_br, s_ite]
  congr 2
  congr 1
  generalize decide (x ≥ 97) = b1
  generalize decide (x ≤ 122) = b2
  generalize decide (x ≥ 65) = b3
  generalize decide (x ≤ 90) = b4
  generalize decide (x = 95) = b5
  cases b1 <;> cases b2 <;> cases b3 <;> cases b4 <;> cases b5 <;> rfl
def okByte (b : UInt8) : Bool := letter (b.toNat : Int) || digit (b.toNat : Int)
def nameOk (s : ByteArray) : Bool := decide (s.size ≥ 1) && decide (s.size ≤ 24) && (s.data.toList.head?.any fun b => letter (b.toNat : Int)) && (s.data.toList.drop 1).all okByte
theorem s_at {α : Type} (s : ByteArray) (i : Nat) (b : UInt8) (h : s.data.toList[i]? = some b) (k : Value → Option α) : pAtStr (.string s) (.int .i64 (i : Int)) k = k (.int .u8 (b.toNat : Int)) := by
  have hs : s[i]? = some b := by
    have hl : i < s.data.toList.length := (List.getElem?_eq_some_iff.1 h).1
    have hl' : i < s.size := by simpa using hl
    rw [getElem?_pos s i hl']
    rw [List.getElem?_eq_getElem hl] at h
    have : s[i] = s.data[i]'(by simpa using hl) := rfl
    rw [this]
    simpa using h
  unfold pAtStr atStr
  have h0 : (0 : Int) ≤ (i : Int) := by omega
  simp only [h0, if_true, Int.toNat_natCast, hs, Option.map_some]
theorem s_slen {α : Type} (s : ByteArray) (H : Hp) (k : Value → Option α) : pLen .str (.string s) H k = k (.int .i64 s.size) := rfl
theorem c50 (s : ByteArray) (H : Hp) : RR 50 [.string s] H = some (.bool (nameOk s), H) := by
  refine (r50 E0 rfl _ _).trans ?_
  unfold m50
  generalize hS : (fun (l16 : List Value) (H17 : Hp) =>
 pLen .str (.string s) H17 fun v18 =>
 pBin Go.Proofs.Try.prog .lss 3 (l16.getD 0 undef) v18 fun v19 =>
 pBool v19 fun b20 => br b20
 (pAtStr (.string s) (l16.getD 0 undef) fun v21 =>
 pCallF RR 56 [v21] H17 fun r22 H23 =>
 pUn .not r22 fun v24 =>
 pBool v24 fun b25 => br b25
 (pAtStr (.string s) (l16.getD 0 undef) fun v26 =>
 pBin Go.Proofs.Try.prog .lss 5 v26 (.int .u8 48) fun v27 =>
 pBool v27 fun b28 => br b28
 (some (Ctl.ret, [(.bool false)], H23))
 (pAtStr (.string s) (l16.getD 0 undef) fun v29 =>
 pBin Go.Proofs.Try.prog .gtr 5 v29 (.int .u8 57) fun v30 =>
 pBool v30 fun b31 => br b31
 (some (Ctl.ret, [(.bool false)], H23))
 (pBin Go.Proofs.Try.prog .add 3 (l16.getD 0 undef) (.int .i64 1) fun v32 =>
 some (.next, [v32], H23))))
 (pBin Go.Proofs.Try.prog .add 3 (l16.getD 0 undef) (.int .i64 1) fun v33 =>
 some (.next, [v33], H23)))
 (some (.exit 0, [(l16.getD 0 undef)], H17))) = S
  have hlen : s.data.toList.length = s.size := by simp
  have hstep : ∀ (i : Nat) (b : UInt8), i ≤ 100 → s.size ≤ 100 → s.data.toList[i]? = some b → S [.int .i64 (i : Int)] H = if okByte b = true then some (.next, [.int .i64 ((i + 1 : Nat) : Int)], H) else some (.ret, [.bool false], H) := by
    intro i b hi hsz hb
    have hl : i < s.data.toList.length := (List.getElem?_eq_some_iff.1 hb).1
    have hlt : ((i : Nat) : Int) < (s.size : Int) := by omega
    rw [← hS]
    have hw : IntKind.i64.wrap ((i : Int) + 1) = ((i + 1 : Nat) : Int) := by rw [i64_wrap (by omega) (by omega)]; simp
    simp only [s_slen, s_lss, s_gtr, s_bool, s_br, decide_eq_true_eq, List.getD_cons_zero, hlt, if_true, s_at s i b hb, s_call (c56 _ H), s_not, s_add, hw]
    unfold okByte digit
    cases letter (b.toNat : Int) with
    | true => simp
    | false =>
      by_cases q1 : (b.toNat : Int) < 48
      · simp [q1]
      · by_cases q2 : (b.toNat : Int) > 57
        · simp [q1, q2]
        · simp [q1, q2]
  have hend : S [.int .i64 (s.size : Int)] H = some (.exit 0, [.int .i64 (s.size : Int)], H) := by
    rw [← hS]
    simp only [s_slen, s_lss, s_bool, s_br, decide_eq_true_eq, List.getD_cons_zero, Int.lt_irrefl, if_false]
  have hloop : s.size ≤ 100 → ∀ (r : List UInt8) (i : Nat), s.data.toList.drop i = r → i ≤ s.size → loopD S [.int .i64 (i : Int)] H = if r.all okByte = true then some (.exit 0, [.int .i64 (s.size : Int)], H) else some (.ret, [.bool false], H) := by
    intro hsz r
    induction r with
    | nil =>
      intro i hd hi
      have : s.data.toList.length ≤ i := by simpa using hd
      have : i = s.size := by omega
      subst this
      rw [loopD_eq, hend]
      simp [nextD]
    | cons b r ih =>
      intro i hd hi
      have hb : s.data.toList[i]? = some b := by
        have : (s.data.toList.drop i)[0]? = some b := by rw [hd]; rfl
        rw [List.getElem?_drop] at this; simpa using this
      have hl : i < s.data.toList.length := (List.getElem?_eq_some_iff.1 hb).1
      have hd' : s.data.toList.drop (i + 1) = r := by rw [← List.drop_drop, hd]; rfl
      rw [loopD_eq, hstep i b (by omega) hsz hb]
      cases hk : okByte b with
      | true =>
        simp only [if_true, Option.bind_some, nextD]
        rw [ih (i + 1) hd' (by omega)]
        simp [hk]
      | false => simp [hk, nextD]
  simp only [s_slen, s_lss, s_gtr, s_bool, s_br, decide_eq_true_eq]
  unfold nameOk
  by_cases h1 : (s.size : Int) < 1
  · have : ¬ s.size ≥ 1 := by omega
    simp [h1, this, s_bind, s_ret]
  by_cases h2 : (s.size : Int) > 24
  · have : ¬ s.size ≤ 24 := by omega
    simp [h1, h2, this, s_bind, s_ret]
  have g1 : s.size ≥ 1 := by omega
  have g2 : s.size ≤ 24 := by omega
  obtain ⟨c, r, hcr⟩ : ∃ c r, s.data.toList = c :: r := by
    cases hq : s.data.toList with
    | nil => rw [hq] at hlen; simp at hlen; omega
    | cons c r => exact ⟨c, r, rfl⟩
  simp only [h1, h2, if_false]
  have h0 : s.data.toList[0]? = some c := by rw [hcr]; rfl
  have ha := fun (k : Value → Option Outc) => s_at s 0 c h0 k
  simp only [Int.natCast_zero] at ha
  rw [ha, s_call (c56 _ H)]
  simp only [s_not, s_bool, s_br]
  have hd1 : s.data.toList.drop 1 = r := by rw [hcr]; rfl
  have hlp := hloop (by omega) r 1 hd1 g1
  simp only [Int.natCast_one] at hlp
  rw [hd1, hcr]
  cases hc : letter (c.toNat : Int) with
  | false => simp [g1, g2, hc, s_bind, s_ret]
  | true =>
    simp only [Bool.not_true, Bool.false_eq_true, if_false, s_bind, s_next, hlp]
    cases r.all okByte with
    | true => simp [g1, g2, hc, s_bind, s_exit, s_onExit]
    | false => simp [g1, g2, hc, s_bind, s_ret]
end Go.AM
/- The Term seat: names, the program's. -/
set_option linter.unusedVariables false
set_option linter.unusedSimpArgs false
namespace Go.AM
open Go
theorem letter_high {x : Int} (h : 128 ≤ x) : letter x = false := by
  unfold letter
  have h1 : ¬ x ≤ 122 := by omega
  have h2 : ¬ x ≤ 90 := by omega
  have h3 : ¬ x = 95 := by omega
  simp [h1, h2, h3]
theorem digit_high {x : Int} (h : 128 ≤ x) : digit x = false := by
  unfold digit
  have h1 : x > 57 := by omega
  simp [h1]
theorem c44 (s : ByteArray) (H : Hp) : RR 44 [.string s] H = some (.bool (nameOk s), H) := by
  refine (r44 E0 rfl _ _).trans ?_
  unfold m44
  generalize hS : (fun (l12 : List Value) (H13 : Hp) =>
 br (Nat.blt (posOf ((l12.drop 0).getD 0 undef)) (strOf ((l12.drop 0).getD 0 undef)).size)
 (bindO (
 pBin Go.Proofs.Try.prog .geq 21 (.int .i32 (Utf8.decode (strOf ((l12.drop 0).getD 0 undef)) (posOf ((l12.drop 0).getD 0 undef))).1) (.int .i32 97) fun v14 =>
 pBool v14 fun b15 => br b15
 (pBin Go.Proofs.Try.prog .leq 21 (.int .i32 (Utf8.decode (strOf ((l12.drop 0).getD 0 undef)) (posOf ((l12.drop 0).getD 0 undef))).1) (.int .i32 122) fun v16 =>
 pBool v16 fun b17 => br b17
 (some (Ctl.next, [(.bool true)], H13))
 (pBin Go.Proofs.Try.prog .geq 21 (.int .i32 (Utf8.decode (strOf ((l12.drop 0).getD 0 undef)) (posOf ((l12.drop 0).getD 0 undef))).1) (.int .i32 65) fun v18 =>
 pBool v18 fun b19 => br b19
 (pBin Go.Proofs.Try.prog .leq 21 (.int .i32 (Utf8.decode (strOf ((l12.drop 0).getD 0 undef)) (posOf ((l12.drop 0).getD 0 undef))).1) (.int .i32 90) fun v20 =>
 pBool v20 fun b21 => br b21
 (some (Ctl.next, [(.bool true)], H13))
 (pBin Go.Proofs.Try.prog .eql 21 (.int .i32 (Utf8.decode (strOf ((l12.drop 0).getD 0 undef)) (posOf ((l12.drop 0).getD 0 undef))).1) (.int .i32 95) fun v22 =>
 some (Ctl.next, [v22], H13)))
 (pBin Go.Proofs.Try.prog .eql 21 (.int .i32 (Utf8.decode (strOf ((l12.drop 0).getD 0 undef)) (posOf ((l12.drop 0).getD 0 undef))).1) (.int .i32 95) fun v23 =>
 some (Ctl.next, [v23], H13))))
 (pBin Go.Proofs.Try.prog .geq 21 (.int .i32 (Utf8.decode (strOf ((l12.drop 0).getD 0 undef)) (posOf ((l12.drop 0).getD 0 undef))).1) (.int .i32 65) fun v24 =>
 pBool v24 fun b25 => br b25
 (pBin Go.Proofs.Try.prog .leq 21 (.int .i32 (Utf8.decode (strOf ((l12.drop 0).getD 0 undef)) (posOf ((l12.drop 0).getD 0 undef))).1) (.int .i32 90) fun v26 =>
 pBool v26 fun b27 => br b27
 (some (Ctl.next, [(.bool true)], H13))
 (pBin Go.Proofs.Try.prog .eql 21 (.int .i32 (Utf8.decode (strOf ((l12.drop 0).getD 0 undef)) (posOf ((l12.drop 0).getD 0 undef))).1) (.int .i32 95) fun v28 =>
 some (Ctl.next, [v28], H13)))
 (pBin Go.Proofs.Try.prog .eql 21 (.int .i32 (Utf8.decode (strOf ((l12.drop 0).getD 0 undef)) (posOf ((l12.drop 0).getD 0 undef))).1) (.int .i32 95) fun v29 =>
 some (Ctl.next, [v29], H13)))) fun q30 l31 H32 => onCtl q30
 (pUn .not (l31.getD 0 undef) fun v34 =>
 pBool v34 fun b35 => br b35
 (pBin Go.Proofs.Try.prog .eql 3 (.int .i64 ((posOf ((l12.drop 0).getD 0 undef)) : Nat)) (.int .i64 0) fun v36 =>
 pBool v36 fun b37 => br b37
 (some (Ctl.ret, [(.bool false)], H32))
 (pBin Go.Proofs.Try.prog .lss 21 (.int .i32 (Utf8.decode (strOf ((l12.drop 0).getD 0 undef)) (posOf ((l12.drop 0).getD 0 undef))).1) (.int .i32 48) fun v38 =>
 pBool v38 fun b39 => br b39
 (some (Ctl.ret, [(.bool false)], H32))
 (pBin Go.Proofs.Try.prog .gtr 21 (.int .i32 (Utf8.decode (strOf ((l12.drop 0).getD 0 undef)) (posOf ((l12.drop 0).getD 0 undef))).1) (.int .i32 57) fun v40 =>
 pBool v40 fun b41 => br b41
 (some (Ctl.ret, [(.bool false)], H32))
 (some (Ctl.next, [(.tuple #[.string (strOf ((l12.drop 0).getD 0 undef)), .int .i64 (((posOf ((l12.drop 0).getD 0 undef)) + (Utf8.decode (strOf ((l12.drop 0).getD 0 undef)) (posOf ((l12.drop 0).getD 0 undef))).2) : Nat)])], H32)))))
 (some (Ctl.next, [(.tuple #[.string (strOf ((l12.drop 0).getD 0 undef)), .int .i64 (((posOf ((l12.drop 0).getD 0 undef)) + (Utf8.decode (strOf ((l12.drop 0).getD 0 undef)) (posOf ((l12.drop 0).getD 0 undef))).2) : Nat)])], H32)))
 (fun i33 => onExit i33 1 (
 some (Ctl.next, [(.tuple #[.string (strOf ((l12.drop 0).getD 0 undef)), .int .i64 (((posOf ((l12.drop 0).getD 0 undef)) + (Utf8.decode (strOf ((l12.drop 0).getD 0 undef)) (posOf ((l12.drop 0).getD 0 undef))).2) : Nat)])], H32)) (
 some (Ctl.exit i33, [(.tuple #[.string (strOf ((l12.drop 0).getD 0 undef)), .int .i64 (((posOf ((l12.drop 0).getD 0 undef)) + (Utf8.decode (strOf ((l12.drop 0).getD 0 undef)) (posOf ((l12.drop 0).getD 0 undef))).2) : Nat)])], H32)))
 (some (Ctl.ret, [(l31.headD undef)], H32)))
 (some (Ctl.exit 0, [(.tuple #[.string (strOf ((l12.drop 0).getD 0 undef)), .int .i64 ((posOf ((l12.drop 0).getD 0 undef)) : Nat)])], H13))) = S
  have hlen : s.data.toList.length = s.size := by simp
  have hstep : ∀ (i : Nat) (b : UInt8), s.data.toList[i]? = some b → S [.tuple #[.string s, .int .i64 (i : Nat)]] H =
      if (letter (b.toNat : Int) || (decide (i ≠ 0) && digit (b.toNat : Int))) = true then some (.next, [.tuple #[.string s, .int .i64 ((i + 1 : Nat))]], H) else some (.ret, [.bool false], H) := by
    intro i b hb
    have hl : i < s.data.toList.length := (List.getElem?_eq_some_iff.1 hb).1
    have hi : i < s.size := by omega
    have hsb : s[i]'hi = b := by
      have : s[i] = s.data[i]'(by simpa using hl) := rfl
      rw [this]
      rw [List.getElem?_eq_getElem hl] at hb
      simpa using hb
    have e1 : strOf (.tuple #[.string s, .int .i64 (i : Nat)]) = s := rfl
    have e2 : posOf (.tuple #[.string s, .int .i64 (i : Nat)]) = i := by simp [posOf]
    have e3 : Nat.blt i s.size = true := Nat.ble_eq_true_of_le hi
    have e4 : ((i : Nat) : Int) = 0 ↔ i = 0 := by omega
    rw [← hS]
    simp only [List.drop_zero, List.getD_cons_zero, e1, e2, e3]
    simp only [s_geq, s_leq, s_eql, s_lss, s_gtr, s_bool, s_br, s_bind, s_bind_ite, s_next, s_not, List.getD_cons_zero, if_true, decide_eq_true_eq, e4]
    by_cases hasc : b.toNat < 128
    · have hd := decode_ascii s i hi (by rw [hsb]; exact hasc)
      rw [hsb] at hd
      simp only [hd]
      unfold letter digit
      generalize ((b.toNat : Nat) : Int) = x
      by_cases a1 : x ≥ 97 <;> by_cases a2 : x ≤ 122 <;> by_cases a3 : x ≥ 65 <;> by_cases a4 : x ≤ 90 <;> by_cases a5 : x = 95 <;> by_cases a6 : i = 0 <;> simp [a1, a2, a3, a4, a5, a6] <;>
        (by_cases a7 : x < 48 <;> by_cases a8 : x > 57 <;> simp [a7, a8])
    · have hd := decode_high s i hi (by rw [hsb]; omega)
      generalize Utf8.decode s i = q at hd ⊢
      obtain ⟨r, wd⟩ := q
      have k1 : ¬ ((r : Nat) : Int) ≤ 122 := by have := hd.1; dsimp only at this; omega
      have k2 : ¬ ((r : Nat) : Int) ≤ 90 := by omega
      have k3 : ¬ ((r : Nat) : Int) = 95 := by omega
      have k4 : ¬ ((r : Nat) : Int) < 48 := by omega
      have k5 : ((r : Nat) : Int) > 57 := by omega
      rw [letter_high (by omega), digit_high (by omega)]
      simp [k1, k2, k3, k4, k5]
  have hend : S [.tuple #[.string s, .int .i64 (s.size : Nat)]] H = some (.exit 0, [.tuple #[.string s, .int .i64 (s.size : Nat)]], H) := by
    have e1 : strOf (.tuple #[.string s, .int .i64 (s.size : Nat)]) = s := rfl
    have e2 : posOf (.tuple #[.string s, .int .i64 (s.size : Nat)]) = s.size := by simp [posOf]
    have e3 : Nat.blt s.size s.size = false := by
      cases hq : Nat.blt s.size s.size with
      | false => rfl
      | true => have := Nat.le_of_ble_eq_true hq; omega
    rw [← hS]
    simp only [List.drop_zero, List.getD_cons_zero, e1, e2, e3]
    rfl
  have hloop : ∀ (r : List UInt8) (i : Nat), s.data.toList.drop i = r → i ≤ s.size → 1 ≤ i → loopD S [.tuple #[.string s, .int .i64 (i : Nat)]] H = if r.all okByte = true then some (.exit 0, [.tuple #[.string s, .int .i64 (s.size : Nat)]], H) else some (.ret, [.bool false], H) := by
    intro r
    induction r with
    | nil =>
      intro i hd hi h1
      have : s.data.toList.length ≤ i := by simpa using hd
      have : i = s.size := by omega
      subst this
      rw [loopD_eq, hend]
      simp [nextD]
    | cons b r ih =>
      intro i hd hi h1
      have hb : s.data.toList[i]? = some b := by
        have : (s.data.toList.drop i)[0]? = some b := by rw [hd]; rfl
        rw [List.getElem?_drop] at this; simpa using this
      have hl : i < s.data.toList.length := (List.getElem?_eq_some_iff.1 hb).1
      have hd' : s.data.toList.drop (i + 1) = r := by rw [← List.drop_drop, hd]; rfl
      have hne : decide (i ≠ 0) = true := decide_eq_true (by omega)
      have hok : (letter (b.toNat : Int) || (decide (i ≠ 0) && digit (b.toNat : Int))) = okByte b := by rw [hne]; rfl
      rw [loopD_eq, hstep i b hb, hok]
      cases hk : okByte b with
      | true =>
        simp only [if_true, Option.bind_some, nextD]
        rw [ih (i + 1) hd' (by omega) (by omega)]
        simp [hk]
      | false => simp [hk, nextD]
  simp only [s_slen, s_lss, s_gtr, s_bool, s_br, decide_eq_true_eq]
  unfold nameOk
  by_cases h1 : (s.size : Int) < 1
  · have : ¬ s.size ≥ 1 := by omega
    simp [h1, this, s_bind, s_ret]
  by_cases h2 : (s.size : Int) > 24
  · have : ¬ s.size ≤ 24 := by omega
    simp [h1, h2, this, s_bind, s_ret]
  have g1 : s.size ≥ 1 := by omega
  have g2 : s.size ≤ 24 := by omega
  obtain ⟨c, r, hcr⟩ : ∃ c r, s.data.toList = c :: r := by
    cases hq : s.data.toList with
    | nil => rw [hq] at hlen; simp at hlen; omega
    | cons c r => exact ⟨c, r, rfl⟩
  simp only [h1, h2, if_false, s_bind, s_next]
  have h0 : s.data.toList[0]? = some c := by rw [hcr]; rfl
  have hd1 : s.data.toList.drop 1 = r := by rw [hcr]; rfl
  have hlp := hloop r 1 hd1 g1 (Nat.le_refl _)
  have hst := hstep 0 c h0
  have hfirst : loopD S [.tuple #[.string s, .int .i64 ((0 : Nat) : Int)]] H = if letter (c.toNat : Int) = true then (if r.all okByte = true then some (.exit 0, [.tuple #[.string s, .int .i64 (s.size : Nat)]], H) else some (.ret, [.bool false], H)) else some (.ret, [.bool false], H) := by
    rw [loopD_eq, hst]
    cases hc : letter (c.toNat : Int) with
    | false => simp [nextD]
    | true =>
      simp only [Bool.true_or, if_true, Option.bind_some, nextD]
      exact hlp
  show (bindO (loopD S [.tuple #[.string s, .int .i64 ((0 : Nat) : Int)]] H) _) = _
  rw [hfirst, hd1, hcr]
  cases hc : letter (c.toNat : Int) with
  | false => simp [g1, g2, hc, s_bind, s_ret]
  | true =>
    cases r.all okByte with
    | true => simp [g1, g2, hc, s_bind, s_exit, s_onExit]
    | false => simp [g1, g2, hc, s_bind, s_ret]
end Go.AM
/- The Term seat: maps. -/
set_option linter.unusedVariables false
set_option linter.unusedSimpArgs false
namespace Go.AM
open Go
def thenO (b : Bool) (k : Option Bool) : Option Bool := match some b with | some true => k | r => r
theorem eq36c (n m : Nd) : eqT Go.Proofs.Try.prog 10000 36 n.val m.val =
    thenO (n.op == m.op) (thenO (n.w == m.w) (thenO (n.a == m.a) (thenO (n.b == m.b) (thenO (n.c == m.c) (thenO (n.num == m.num) (thenO (n.name == m.name) (some true))))))) := by
  kernel_rfl
def nodeEq (n m : Nd) : Bool := n.op == m.op && (n.w == m.w && (n.a == m.a && (n.b == m.b && (n.c == m.c && (n.num == m.num && n.name == m.name)))))
theorem eq36 (n m : Nd) : eqT Go.Proofs.Try.prog 10000 36 n.val m.val = some (nodeEq n m) := by
  rw [eq36c]
  unfold nodeEq
  cases n.op == m.op <;> cases n.w == m.w <;> cases n.a == m.a <;> cases n.b == m.b <;> cases n.c == m.c <;> cases n.num == m.num <;> cases n.name == m.name <;> rfl
theorem eq9 (s t : ByteArray) : eqT Go.Proofs.Try.prog 10000 9 (.string s) (.string t) = some (s == t) := by kernel_rfl
theorem shape36 (n : Nd) : shapeOk Go.Proofs.Try.prog 20 36 n.val = true := by kernel_rfl
theorem shape9 (s : ByteArray) : shapeOk Go.Proofs.Try.prog 20 9 (.string s) = true := by kernel_rfl

/-- Where each node stands. -/
def foundK : Nat → List Nd → List (Value × Value)
  | _, [] => []
  | i, n :: r => (n.val, .int .i64 ((i + 1 : Nat) : Int)) :: foundK (i + 1) r
/-- The first place of a node. -/
def placeOf (n : Nd) : Nat → List Nd → Option Nat
  | _, [] => none
  | i, m :: r => if nodeEq n m = true then some i else placeOf n (i + 1) r
theorem find36 (n : Nd) : ∀ (L : List Nd) (i j : Nat), findT Go.Proofs.Try.prog 36 n.val (foundK i L) j = some ((placeOf n i L).map fun q => (q - i + j, .int .i64 ((q + 1 : Nat) : Int)))
  | [], i, j => rfl
  | m :: r, i, j => by
    unfold foundK findT placeOf
    rw [eq36]
    cases h : nodeEq n m with
    | true => simp
    | false =>
      simp only [Bool.false_eq_true, if_false]
      rw [find36 n r (i + 1) (j + 1)]
      cases hp : placeOf n (i + 1) r with
      | none => rfl
      | some q =>
        have : i + 1 ≤ q := by
          have aux : ∀ (L : List Nd) (i q : Nat), placeOf n i L = some q → i ≤ q := by
            intro L
            induction L with
            | nil => intro i q h; cases h
            | cons m L ih =>
              intro i q h
              unfold placeOf at h
              split at h
              · cases h; exact Nat.le_refl _
              · have := ih (i + 1) q h; omega
          exact aux r (i + 1) q hp
        simp
        omega
/-- A look into a store's found nodes. -/
theorem look36 {H : Hp} {f : Nat} {L : List Nd} (h : H.get f = some (.map (foundK 0 L))) (n : Nd) : lookV Go.Proofs.Try.prog 36 (.int .i64 0) (.map (some f)) n.val H =
    some (match placeOf n 0 L with | some q => (.int .i64 ((q + 1 : Nat) : Int), true) | none => (.int .i64 0, false)) := by
  unfold lookV
  rw [shape36]
  simp only [if_true, mapOf, h, find36]
  cases placeOf n 0 L <;> rfl
end Go.AM
/- The Term seat: maps, II. -/
set_option linter.unusedVariables false
set_option linter.unusedSimpArgs false
namespace Go.AM
open Go
theorem ba_eq (s t : ByteArray) : (s == t) = true ↔ s = t := by
  obtain ⟨a⟩ := s
  obtain ⟨b⟩ := t
  show (a == b) = true ↔ _
  simp
theorem foundK_app (n : Nd) : ∀ (L : List Nd) (i : Nat), foundK i (L ++ [n]) = foundK i L ++ [(n.val, .int .i64 ((i + L.length + 1 : Nat) : Int))]
  | [], i => rfl
  | m :: r, i => by
    show (m.val, _) :: foundK (i + 1) (r ++ [n]) = _
    rw [foundK_app n r (i + 1)]
    simp only [foundK, List.cons_append, List.length_cons]
    rw [show i + 1 + r.length + 1 = i + (r.length + 1) + 1 by omega]
theorem upd36 {H : Hp} {f : Nat} {L : List Nd} (h : H.get f = some (.map (foundK 0 L))) (n : Nd) (hn : placeOf n 0 L = none) :
    updV Go.Proofs.Try.prog 36 (.map (some f)) n.val (.int .i64 ((L.length + 1 : Nat) : Int)) H = some (H.set f (some (.map (foundK 0 (L ++ [n]))))) := by
  unfold updV
  rw [shape36]
  simp only [if_true, h, find36, hn, Option.map_none]
  rw [foundK_app, Nat.zero_add]

/-- The names' widths. -/
def namesK (K : List (ByteArray × Int)) : List (Value × Value) := K.map fun x => (.string x.1, .int .i64 x.2)
def nameAt (s : ByteArray) : Nat → List (ByteArray × Int) → Option (Nat × Int)
  | _, [] => none
  | i, (t, w) :: r => if (s == t) = true then some (i, w) else nameAt s (i + 1) r
theorem find9 (s : ByteArray) : ∀ (K : List (ByteArray × Int)) (i : Nat), findT Go.Proofs.Try.prog 9 (.string s) (namesK K) i = some ((nameAt s i K).map fun q => (q.1, .int .i64 q.2))
  | [], i => rfl
  | (t, w) :: r, i => by
    show (match eqT Go.Proofs.Try.prog 10000 9 (.string s) (.string t) with | some true => some (some (i, Value.int .i64 w)) | some false => findT Go.Proofs.Try.prog 9 (.string s) (namesK r) (i + 1) | none => none) = _
    rw [eq9]
    unfold nameAt
    cases h : s == t with
    | true => simp
    | false =>
      simp only [Bool.false_eq_true, if_false]
      exact find9 s r (i + 1)
theorem look9 {H : Hp} {g : Nat} {K : List (ByteArray × Int)} (h : H.get g = some (.map (namesK K))) (s : ByteArray) : lookV Go.Proofs.Try.prog 9 (.int .i64 0) (.map (some g)) (.string s) H =
    some (match nameAt s 0 K with | some q => (.int .i64 q.2, true) | none => (.int .i64 0, false)) := by
  unfold lookV
  rw [shape9]
  simp only [if_true, mapOf, h, find9]
  cases nameAt s 0 K <;> rfl
theorem nameAt_get (s : ByteArray) : ∀ (K : List (ByteArray × Int)) (i j : Nat) (w : Int), nameAt s i K = some (j, w) → i ≤ j ∧ K[j - i]? = some (s, w)
  | [], i, j, w, h => by cases h
  | (t, u) :: r, i, j, w, h => by
    unfold nameAt at h
    split at h
    · rename_i e
      cases h
      have : s = t := (ba_eq s t).1 e
      subst this
      exact ⟨Nat.le_refl _, by simp⟩
    · obtain ⟨h1, h2⟩ := nameAt_get s r (i + 1) j w h
      refine ⟨by omega, ?_⟩
      rw [show j - i = (j - (i + 1)) + 1 by omega]
      simpa using h2
/-- A name's width is set: it was not there, or is the same. -/
def nameSet (s : ByteArray) (w : Int) (K : List (ByteArray × Int)) : List (ByteArray × Int) := match nameAt s 0 K with | some _ => K | none => K ++ [(s, w)]
theorem upd9 {H : Hp} {g : Nat} {K : List (ByteArray × Int)} (h : H.get g = some (.map (namesK K))) (s : ByteArray) (w : Int) (hw : ∀ j u, nameAt s 0 K = some (j, u) → u = w) :
    updV Go.Proofs.Try.prog 9 (.map (some g)) (.string s) (.int .i64 w) H = some (H.set g (some (.map (namesK (nameSet s w K))))) := by
  unfold updV nameSet
  rw [shape9]
  simp only [if_true, h, find9]
  cases hq : nameAt s 0 K with
  | none => simp [namesK]
  | some q =>
    obtain ⟨j, u⟩ := q
    have hu := hw j u hq
    subst hu
    obtain ⟨_, h2⟩ := nameAt_get s K 0 j u hq
    rw [Nat.sub_zero] at h2
    have hk : (namesK K)[j]? = some (.string s, .int .i64 u) := by unfold namesK; rw [List.getElem?_map, h2]; rfl
    have hset : setAt (namesK K) j (.string s) (.int .i64 u) = namesK K := by
      unfold setAt
      apply List.ext_getElem?
      intro i
      rw [List.getElem?_set]
      split
      · rename_i e; subst e
        rw [if_pos (List.getElem?_eq_some_iff.1 hk).1, hk]
      · rfl
    have hsb : Instr.sameBits 10000 (.string s) (.string s) = true := by
      simp only [Instr.sameBits]
      exact (ba_eq s s).2 rfl
    simp only [Option.map_some, hk, hsb, if_true, hset]
end Go.AM
/- The Term seat: a node more. -/
set_option linter.unusedVariables false
set_option linter.unusedSimpArgs false
namespace Go.AM
open Go
/-- A slice's object, if it has one. -/
def slId : Value → Option Nat
  | .slice (some a) _ _ => some a.block
  | _ => none
theorem g_new (H : Hp) (o : AObj) (i : Nat) : (H.new o).get i = if i = H.next then some o else H.get i := rfl
theorem g_set (H : Hp) (j : Nat) (o : Option AObj) (i : Nat) : (H.set j o).get i = if i = j then o else H.get i := rfl
theorem g_next (H : Hp) (j : Nat) (o : Option AObj) : (H.set j o).next = H.next := rfl
theorem cells_one (n : Nd) : n.cells.all one = true := rfl
theorem append_node {H : Hp} {sl : Value} {L : List Nd} (hsl : SlR H sl L) {y : Nat} {own : Bool} {n : Nd} (hy : H.get y = some (.cells n.cells own)) (hlt : ∀ i, slId sl = some i → i < H.next) (hb : (L.length + 1) * 64 ≤ 2 ^ 47) :
    ∃ sl' H', appendV 7 64 sl (.slice (some ⟨y, 0, some 7⟩) 1 1) H = some (sl', H') ∧ SlR H' sl' (L ++ [n]) ∧ slId sl' = some H.next ∧ H'.next = H.next + 1 ∧
      ∀ j, j < H.next → slId sl ≠ some j → H'.get j = H.get j := by
  have hsrc : srcCells 7 (.slice (some ⟨y, 0, some 7⟩) 1 1) H = some (1, n.cells) := by
    simp [srcCells, hy, Nd.cells]
  rcases hsl with ⟨rfl, rfl⟩ | ⟨i, rfl, hi⟩
  · refine ⟨.slice (some ⟨H.next, 0, some 7⟩) 1 1, H.new (.cells n.cells true), ?_, .inr ⟨H.next, rfl, ?_⟩, rfl, rfl, fun j hj _ => ?_⟩
    · unfold appendV
      rw [hsrc]
      simp [cells_one]
    · rw [g_new, if_pos rfl]; simp
    · rw [g_new, if_neg (by omega)]
  · refine ⟨.slice (some ⟨H.next, 0, some 7⟩) (L.length + 1) (L.length + 1), (H.set i none).new (.cells (L.flatMap Nd.cells ++ n.cells) true), ?_, .inr ⟨H.next, by simp, ?_⟩, rfl, rfl, fun j hj hne => ?_⟩
    · unfold appendV
      rw [hsrc]
      have h1 : ¬ L.length + 1 ≤ L.length := by omega
      have h2 : (L.flatMap Nd.cells).take (L.length * 7) = L.flatMap Nd.cells := List.take_of_length_le (by rw [flat_len]; omega)
      have h3 : 0 + L.length * 7 ≤ (L.flatMap Nd.cells).length := by rw [flat_len]; omega
      simp only [ne_eq, not_true_eq_false, if_false, hi, h1, Nat.one_ne_zero, false_and, h3, hb, cells_one, and_self, if_true, List.drop_zero, h2]
    · rw [g_new, if_pos (g_next _ _ _).symm]; simp [List.flatMap_append]
    · have : j ≠ i := fun e => hne (by rw [e]; rfl)
      rw [g_new, g_next, if_neg (by omega), g_set, if_neg this]
end Go.AM
/- The Term seat: a node more, in a store. -/
set_option linter.unusedVariables false
set_option linter.unusedSimpArgs false
namespace Go.AM
open Go
noncomputable def tailM (p : Nat) (n : Nd) (H : Hp) : Option (Value × Hp) :=
 (pNil (.pointer (some ⟨p, 0, none⟩)) (
  pOffs 1 (.pointer (some ⟨p, 0, none⟩)) fun p124 =>
  pLoad 1 false H p124 fun v125 =>
  pCell 7 true (cellsL n.val) 0 fun v126 =>
  pBuildSlice 7 [.int .i64 0, .int .i64 0, .int .i64 0, .int .i64 0, .int .i64 0, .int .u64 0, .string ⟨#[]⟩] 1 [(0, v126)] H fun v127 H128 =>
  chk (Hp.rdP H128 p124 1 false = some v125) (
  pAppend 7 64 v125 v127 H128 fun v129 H130 =>
  pNil (.pointer (some ⟨p, 0, none⟩)) (
  pOffs 1 (.pointer (some ⟨p, 0, none⟩)) fun p131 =>
  pStore 1 H130 p131 v129 fun H132 =>
  pNil (.pointer (some ⟨p, 0, none⟩)) (
  pOffs 2 (.pointer (some ⟨p, 0, none⟩)) fun p133 =>
  pLoad 1 false H132 p133 fun v134 =>
  pCell 7 true (cellsL n.val) 0 fun v135 =>
  pNil (.pointer (some ⟨p, 0, none⟩)) (
  pOffs 1 (.pointer (some ⟨p, 0, none⟩)) fun p136 =>
  pLoad 1 false H132 p136 fun v137 =>
  pLen .sl v137 H132 fun v138 =>
  pUpd Go.Proofs.Try.prog 36 v134 v135 v138 H132 fun H139 =>
  pCell 1 false (cellsL n.val) 0 fun v140 =>
  pBin Go.Proofs.Try.prog .eql 3 v140 (.int .i64 4) fun v141 =>
  pBool v141 fun b142 => br b142
  (pNil (.pointer (some ⟨p, 0, none⟩)) (
  pOffs 3 (.pointer (some ⟨p, 0, none⟩)) fun p143 =>
  pLoad 1 false H139 p143 fun v144 =>
  pCell 1 false (cellsL n.val) 6 fun v145 =>
  pCell 1 false (cellsL n.val) 1 fun v146 =>
  pUpd Go.Proofs.Try.prog 9 v144 v145 v146 H139 fun H147 =>
  pNil (.pointer (some ⟨p, 0, none⟩)) (
  pOffs 1 (.pointer (some ⟨p, 0, none⟩)) fun p148 =>
  pLoad 1 false H147 p148 fun v149 =>
  pLen .sl v149 H147 fun v150 =>
  some ((.tuple #[v150, (.int .i64 0)]), H147))))
  (pNil (.pointer (some ⟨p, 0, none⟩)) (
  pOffs 1 (.pointer (some ⟨p, 0, none⟩)) fun p151 =>
  pLoad 1 false H139 p151 fun v152 =>
  pLen .sl v152 H139 fun v153 =>
  some ((.tuple #[v153, (.int .i64 0)]), H139)))))))))
theorem build_node (n : Nd) (H : Hp) {α : Type} (k : Value → Hp → Option α) :
    pBuildSlice 7 [.int .i64 0, .int .i64 0, .int .i64 0, .int .i64 0, .int .i64 0, .int .u64 0, .string ⟨#[]⟩] 1 [(0, n.val)] H k = k (.slice (some ⟨H.next, 0, some 7⟩) 1 1) (H.new (.cells n.cells true)) := by
  have : buildSliceV 7 [.int .i64 0, .int .i64 0, .int .i64 0, .int .i64 0, .int .i64 0, .int .u64 0, .string ⟨#[]⟩] 1 [(0, n.val)] H = some (.slice (some ⟨H.next, 0, some 7⟩) 1 1, H.new (.cells n.cells true)) := by
    have h1 : cellsL n.val = n.cells := rfl
    have h2 : n.cells.length = 7 := rfl
    simp [buildSliceV, repl, fillL, h1, h2, cells_one, spl]
  unfold pBuildSlice
  rw [this]
theorem s_chk {α : Type} {q : Prop} (h : q) (k : Option α) : chk q k = k := by unfold chk; exact if_pos h
end Go.AM
/- The Term seat: a node more, in a store, II. -/
set_option linter.unusedVariables false
set_option linter.unusedSimpArgs false
namespace Go.AM
open Go
structure StF (H : Hp) (p : Nat) (lim : Int) (L : List Nd) (K : List (ByteArray × Int)) (sl : Value) (f g : Nat) : Prop where
  st : StR H p lim L sl f g
  fm : H.get f = some (.map (foundK 0 L))
  gm : H.get g = some (.map (namesK K))
  pf : p ≠ f
  pg : p ≠ g
  fg : f ≠ g
  lp : p < H.next
  lf : f < H.next
  lg : g < H.next
  sa : ∀ i, slId sl = some i → i ≠ p ∧ i ≠ f ∧ i ≠ g ∧ i < H.next
theorem store1 {α : Type} {H : Hp} {p f g : Nat} {lim : Int} {sl : Value} (hs : H.get p = some (.cells [.int .i64 lim, sl, .map (some f), .map (some g)] true)) (v : Value) (hv : cellsL v = [v]) (h1 : one v = true) (k : Hp → Option α) :
    pStore 1 H (.pointer (some ⟨p, 1, none⟩)) v k = k (H.set p (some (.cells [.int .i64 lim, v, .map (some f), .map (some g)] true))) := by
  have : H.wr (.pointer (some ⟨p, 1, none⟩)) 1 v = some (H.set p (some (.cells [.int .i64 lim, v, .map (some f), .map (some g)] true))) := by
    simp [Hp.wr, hs, wrCells, hv, h1, spl]
  unfold pStore
  rw [this]
theorem s_append {α : Type} {n m : Nat} {s x : Value} {H : Hp} {v : Value} {H' : Hp} (h : appendV n m s x H = some (v, H')) (k : Value → Hp → Option α) : pAppend n m s x H k = k v H' := by unfold pAppend; rw [h]
theorem s_upd {α : Type} {P : Program} {kt : TypeId} {m key v : Value} {H H' : Hp} (h : updV P kt m key v H = some H') (k : Hp → Option α) : pUpd P kt m key v H k = k H' := by unfold pUpd; rw [h]
theorem tail_ok {H : Hp} {p f g : Nat} {lim : Int} {L : List Nd} {K : List (ByteArray × Int)} {sl : Value} (h : StF H p lim L K sl f g) (n : Nd) (hn : placeOf n 0 L = none) (hw : n.op = 4 → ∀ j u, nameAt n.name 0 K = some (j, u) → u = n.w) (hb : (L.length + 1) * 64 ≤ 2 ^ 47) :
    ∃ H' sl', tailM p n H = some (.tuple #[.int .i64 ((L.length + 1 : Nat) : Int), .int .i64 0], H') ∧ StF H' p lim (L ++ [n]) (if n.op = 4 then nameSet n.name n.w K else K) sl' f g ∧ H.next ≤ H'.next ∧
      (∀ j, j < H.next → j ≠ p → j ≠ f → j ≠ g → slId sl ≠ some j → H'.get j = H.get j) ∧ (∀ i, slId sl' = some i → H.next ≤ i) := by
  have hlp := h.lp
  have hlf := h.lf
  have hlg := h.lg
  -- the temporary slice
  have hH1 : ∀ j, j < H.next → (H.new (.cells n.cells true)).get j = H.get j := fun j hj => by rw [g_new, if_neg (by omega)]
  have hsl1 : SlR (H.new (.cells n.cells true)) sl L := by
    rcases h.st.all with ⟨e1, e2⟩ | ⟨i, e1, e2⟩
    · exact .inl ⟨e1, e2⟩
    · have := (h.sa i (by rw [e1]; rfl)).2.2.2
      exact .inr ⟨i, e1, by rw [hH1 i this]; exact e2⟩
  obtain ⟨sl', H2, ha, hsl2, hid, hnx, hfr⟩ := append_node hsl1 (y := H.next) (own := true) (n := n) (by rw [g_new, if_pos rfl]) (fun i hi => by have := (h.sa i hi).2.2.2; show i < H.next + 1; omega) hb
  have hnx1 : (H.new (.cells n.cells true)).next = H.next + 1 := rfl
  rw [hnx1] at hid hnx hfr
  have hg2 : ∀ j, j < H.next → slId sl ≠ some j → H2.get j = H.get j := fun j hj hne => by rw [hfr j (by omega) hne, hH1 j hj]
  have sp : slId sl ≠ some p := fun e => (h.sa p e).1 rfl
  have sf : slId sl ≠ some f := fun e => (h.sa f e).2.1 rfl
  have sg : slId sl ≠ some g := fun e => (h.sa g e).2.2.1 rfl
  have hsl' : ∃ c, sl' = .slice (some ⟨H.next + 1, 0, some 7⟩) (L ++ [n]).length c := by
    rcases hsl2 with ⟨e1, _⟩ | ⟨i, e1, _⟩
    · simp at e1
    · rw [e1] at hid
      have : i = H.next + 1 := by simpa [slId] using hid
      subst this
      exact ⟨_, e1⟩
  obtain ⟨c, hslc⟩ := hsl'
  have hobj2 : H2.get p = some (.cells [.int .i64 lim, sl, .map (some f), .map (some g)] true) := by rw [hg2 p hlp sp]; exact h.st.obj
  have hcl : cellsL sl' = [sl'] := by rw [hslc]; rfl
  have hone : one sl' = true := by rw [hslc]; rfl
  generalize hH3 : H2.set p (some (.cells [.int .i64 lim, sl', .map (some f), .map (some g)] true)) = H3
  have g3 : ∀ j, j ≠ p → H3.get j = H2.get j := fun j hj => by rw [← hH3, g_set, if_neg hj]
  have obj3 : H3.get p = some (.cells [.int .i64 lim, sl', .map (some f), .map (some g)] true) := by rw [← hH3, g_set, if_pos rfl]
  have n3 : H3.next = H.next + 2 := by rw [← hH3, g_next, hnx]
  have hsl3 : SlR H3 sl' (L ++ [n]) := by
    rcases hsl2 with ⟨e1, _⟩ | ⟨i, e1, e2⟩
    · simp at e1
    · have : i = H.next + 1 := by rw [e1] at hid; simpa [slId] using hid
      exact .inr ⟨i, e1, by rw [g3 i (by omega)]; exact e2⟩
  have hf3 : H3.get f = some (.map (foundK 0 L)) := by rw [g3 f (Ne.symm h.pf), hg2 f hlf sf]; exact h.fm
  have hg3 : H3.get g = some (.map (namesK K)) := by rw [g3 g (Ne.symm h.pg), hg2 g hlg sg]; exact h.gm
  have st3 : StR H3 p lim (L ++ [n]) sl' f g := ⟨obj3, hsl3⟩
  have hu := upd36 hf3 n hn
  generalize hH4 : H3.set f (some (.map (foundK 0 (L ++ [n])))) = H4 at hu
  have g4 : ∀ j, j ≠ f → H4.get j = H3.get j := fun j hj => by rw [← hH4, g_set, if_neg hj]
  have n4 : H4.next = H.next + 2 := by rw [← hH4, g_next, n3]
  have obj4 : H4.get p = some (.cells [.int .i64 lim, sl', .map (some f), .map (some g)] true) := by rw [g4 p h.pf]; exact obj3
  have hf4 : H4.get f = some (.map (foundK 0 (L ++ [n]))) := by rw [← hH4, g_set, if_pos rfl]
  have hg4 : H4.get g = some (.map (namesK K)) := by rw [g4 g (Ne.symm h.fg)]; exact hg3
  have hslk : ∀ {Hx : Hp}, (∀ j, j ≠ p → j ≠ f → j ≠ g → Hx.get j = H3.get j) → SlR Hx sl' (L ++ [n]) := fun hx => by
    rcases hsl3 with ⟨e1, _⟩ | ⟨i, e1, e2⟩
    · simp at e1
    · have : i = H.next + 1 := by rw [e1] at hid; simpa [slId] using hid
      exact .inr ⟨i, e1, by rw [hx i (by omega) (by omega) (by omega)]; exact e2⟩
  have st4 : StR H4 p lim (L ++ [n]) sl' f g := ⟨obj4, hslk fun j _ hf _ => g4 j hf⟩
  have hlen : ((L ++ [n]).length : Int) = ((L.length + 1 : Nat) : Int) := by simp
  have hapart : ∀ i, slId sl' = some i → i ≠ p ∧ i ≠ f ∧ i ≠ g ∧ i < H.next + 2 := fun i hi => by
    rw [hid] at hi
    cases hi
    exact ⟨by omega, by omega, by omega, by omega⟩
  have hframe4 : ∀ j, j < H.next → j ≠ p → j ≠ f → j ≠ g → slId sl ≠ some j → H4.get j = H.get j := fun j a b c d e => by rw [g4 j c, g3 j b, hg2 j a e]
  have hge : ∀ i, slId sl' = some i → H.next ≤ i := fun i hi => by rw [hid] at hi; cases hi; omega
  have hchk : Hp.rdP (H.new (.cells n.cells true)) (.pointer (some ⟨p, 1, none⟩)) 1 false = some sl := by
    simp [Hp.rdP, Hp.rd, hH1 p hlp, h.st.obj, rdCells]
  by_cases hop : n.op = 4
  · have hu9 := upd9 hg4 n.name n.w (hw hop)
    generalize hH5 : H4.set g (some (.map (namesK (nameSet n.name n.w K)))) = H5 at hu9
    have g5 : ∀ j, j ≠ g → H5.get j = H4.get j := fun j hj => by rw [← hH5, g_set, if_neg hj]
    have n5 : H5.next = H.next + 2 := by rw [← hH5, g_next, n4]
    have obj5 : H5.get p = some (.cells [.int .i64 lim, sl', .map (some f), .map (some g)] true) := by rw [g5 p h.pg]; exact obj4
    have st5 : StR H5 p lim (L ++ [n]) sl' f g := ⟨obj5, hslk fun j _ hf hg => by rw [g5 j hg, g4 j hf]⟩
    refine ⟨H5, sl', ?_, ⟨st5, ?_, ?_, h.pf, h.pg, h.fg, by omega, by omega, by omega, by rw [n5]; exact hapart⟩, by omega, fun j a b c d e => ?_, hge⟩
    · unfold tailM
      simp only [s_nil, s_offs, Nat.zero_add, h.st.l1, n07, build_node]
      rw [s_chk hchk, s_append ha, store1 hobj2 sl' hcl hone, hH3]
      simp only [st3.l1, st3.l2, hsl3.len, hlen]
      rw [s_upd hu]
      simp only [n0, n1, n6, s_eql, hop, decide_true, s_bool, s_br, if_true, st4.l3]
      rw [s_upd hu9]
      simp only [st5.l1, st5.all.len, hlen]
    · rw [g5 f h.fg]; exact hf4
    · rw [if_pos hop, ← hH5, g_set, if_pos rfl]
    · rw [g5 j d]; exact hframe4 j a b c d e
  · refine ⟨H4, sl', ?_, ⟨st4, hf4, ?_, h.pf, h.pg, h.fg, by omega, by omega, by omega, by rw [n4]; exact hapart⟩, by omega, hframe4, hge⟩
    · unfold tailM
      simp only [s_nil, s_offs, Nat.zero_add, h.st.l1, n07, build_node]
      rw [s_chk hchk, s_append ha, store1 hobj2 sl' hcl hone, hH3]
      simp only [st3.l1, st3.l2, hsl3.len, hlen]
      rw [s_upd hu]
      simp only [n0, s_eql, hop, decide_false, s_bool, s_br, Bool.false_eq_true, if_false, st4.l1, st4.all.len, hlen]
    · rw [if_neg hop]; exact hg4
end Go.AM
/- The Term seat: Make, the document's. -/
set_option linter.unusedVariables false
set_option linter.unusedSimpArgs false
namespace Go.AM
open Go
def pastParts (L : List Nd) (n : Nd) : Bool := (decide (partsT n.op ≥ 1) && !isT L n.a) || (decide (partsT n.op ≥ 2) && !isT L n.b) || (decide (partsT n.op ≥ 3) && !isT L n.c)
def badName (K : List (ByteArray × Int)) (n : Nd) : Bool := !nameOk n.name || (match nameAt n.name 0 K with | some q => decide (q.2 ≠ n.w) | none => false)
/-- What is wrong with a node; 0: nothing. -/
def errOf (L : List Nd) (K : List (ByteArray × Int)) (n : Nd) : Int :=
  if n.op < 1 ∨ n.op > 33 then 73 else if n.w < 0 ∨ n.w > 64 then 5 else if pastParts L n = true then 70 else if spareK (partsT n.op) n = true then 1
  else if sortsOf n.op (wT L (-1) n.a) (wT L (-1) n.b) (wT L (-1) n.c) = false then 71 else if widthOf n (wT L (-1) n.a) (wT L (-1) n.b) = false then 5
  else if n.op = 4 ∧ badName K n = true then 72 else 0
def mkR (lim : Int) (L : List Nd) (K : List (ByteArray × Int)) (n : Nd) : Int × Int × List Nd × List (ByteArray × Int) :=
  if errOf L K n ≠ 0 then (0, errOf L K n, L, K) else match placeOf n 0 L with
    | some q => (((q + 1 : Nat) : Int), 0, L, K)
    | none => if lim > 0 ∧ (L.length : Int) ≥ lim then (0, 4, L, K) else (((L.length + 1 : Nat) : Int), 0, L ++ [n], if n.op = 4 then nameSet n.name n.w K else K)
theorem wT_bd {L : List Nd} (h : ∀ m ∈ L, 0 ≤ m.w ∧ m.w ≤ 64) (t : Int) : -1 ≤ wT L (-1) t ∧ wT L (-1) t ≤ 64 := by
  unfold wT
  split
  · cases hq : L[(t - 1).toNat]? with
    | none => simp
    | some m =>
      have := h m (List.mem_of_getElem? hq)
      simp; omega
  · omega
end Go.AM
/- The Term seat: Make behind its checks. -/
set_option linter.unusedVariables false
set_option linter.unusedSimpArgs false
namespace Go.AM
open Go
theorem s_iteB (p : Prop) [Decidable p] (x y : Bool) (H : Hp) : (if p then some (Ctl.next, [Value.bool x], H) else some (Ctl.next, [Value.bool y], H)) = some (Ctl.next, [Value.bool (bif decide p then x else y)], H) := by
  by_cases h : p <;> simp [h]
theorem s_look {α : Type} {P : Program} {kt : TypeId} {z m key v : Value} {b : Bool} {H : Hp} (h : lookV P kt z m key H = some (v, b)) (k : Value → Option α) : pLook P kt z m key true H k = k (.tuple #[v, .bool b]) := by unfold pLook; rw [h]
theorem s_ext0 {α : Type} (x y : Value) (k : Value → Option α) : pExtract (.tuple #[x, y]) 0 k = k x := rfl
theorem s_ext1 {α : Type} (x y : Value) (k : Value → Option α) : pExtract (.tuple #[x, y]) 1 k = k y := rfl
/-- Make, behind the checks: found, or full, or a node more. -/
noncomputable def restM (p : Nat) (n : Nd) (H : Hp) : Option (Value × Hp) :=
 pNil (.pointer (some ⟨p, 0, none⟩)) (
 pOffs 2 (.pointer (some ⟨p, 0, none⟩)) fun p102 =>
 pLoad 1 false H p102 fun v103 =>
 pCell 7 true (cellsL n.val) 0 fun v104 =>
 pLook Go.Proofs.Try.prog 36 (.int .i64 0) v103 v104 true H fun v105 =>
 pExtract v105 0 fun v106 =>
 pExtract v105 1 fun v107 =>
 pBool v107 fun b108 => br b108
 (some ((.tuple #[v106, (.int .i64 0)]), H))
 (bindO (
 pNil (.pointer (some ⟨p, 0, none⟩)) (
 pOffs 0 (.pointer (some ⟨p, 0, none⟩)) fun p109 =>
 pLoad 1 false H p109 fun v110 =>
 pBin Go.Proofs.Try.prog .gtr 3 v110 (.int .i64 0) fun v111 =>
 pBool v111 fun b112 => br b112
 (pNil (.pointer (some ⟨p, 0, none⟩)) (
 pOffs 1 (.pointer (some ⟨p, 0, none⟩)) fun p113 =>
 pLoad 1 false H p113 fun v114 =>
 pLen .sl v114 H fun v115 =>
 pNil (.pointer (some ⟨p, 0, none⟩)) (
 pOffs 0 (.pointer (some ⟨p, 0, none⟩)) fun p116 =>
 pLoad 1 false H p116 fun v117 =>
 pBin Go.Proofs.Try.prog .geq 3 v115 v117 fun v118 =>
 pBool v118 fun b119 => br b119
 (some (.ret, [(.tuple #[(.int .i64 0), (.int .i64 4)])], H))
 (some (.next, [], H)))))
 (some (.next, [], H)))) fun q120 l121 H122 => onCtl q120
 (pNil (.pointer (some ⟨p, 0, none⟩)) (
 pOffs 1 (.pointer (some ⟨p, 0, none⟩)) fun p124 =>
 pLoad 1 false H122 p124 fun v125 =>
 pCell 7 true (cellsL n.val) 0 fun v126 =>
 pBuildSlice 7 [.int .i64 0, .int .i64 0, .int .i64 0, .int .i64 0, .int .i64 0, .int .u64 0, .string ⟨#[]⟩] 1 [(0, v126)] H122 fun v127 H128 =>
 chk (Hp.rdP H128 p124 1 false = some v125) (
 pAppend 7 64 v125 v127 H128 fun v129 H130 =>
 pNil (.pointer (some ⟨p, 0, none⟩)) (
 pOffs 1 (.pointer (some ⟨p, 0, none⟩)) fun p131 =>
 pStore 1 H130 p131 v129 fun H132 =>
 pNil (.pointer (some ⟨p, 0, none⟩)) (
 pOffs 2 (.pointer (some ⟨p, 0, none⟩)) fun p133 =>
 pLoad 1 false H132 p133 fun v134 =>
 pCell 7 true (cellsL n.val) 0 fun v135 =>
 pNil (.pointer (some ⟨p, 0, none⟩)) (
 pOffs 1 (.pointer (some ⟨p, 0, none⟩)) fun p136 =>
 pLoad 1 false H132 p136 fun v137 =>
 pLen .sl v137 H132 fun v138 =>
 pUpd Go.Proofs.Try.prog 36 v134 v135 v138 H132 fun H139 =>
 pCell 1 false (cellsL n.val) 0 fun v140 =>
 pBin Go.Proofs.Try.prog .eql 3 v140 (.int .i64 4) fun v141 =>
 pBool v141 fun b142 => br b142
 (pNil (.pointer (some ⟨p, 0, none⟩)) (
 pOffs 3 (.pointer (some ⟨p, 0, none⟩)) fun p143 =>
 pLoad 1 false H139 p143 fun v144 =>
 pCell 1 false (cellsL n.val) 6 fun v145 =>
 pCell 1 false (cellsL n.val) 1 fun v146 =>
 pUpd Go.Proofs.Try.prog 9 v144 v145 v146 H139 fun H147 =>
 pNil (.pointer (some ⟨p, 0, none⟩)) (
 pOffs 1 (.pointer (some ⟨p, 0, none⟩)) fun p148 =>
 pLoad 1 false H147 p148 fun v149 =>
 pLen .sl v149 H147 fun v150 =>
 some ((.tuple #[v150, (.int .i64 0)]), H147))))
 (pNil (.pointer (some ⟨p, 0, none⟩)) (
 pOffs 1 (.pointer (some ⟨p, 0, none⟩)) fun p151 =>
 pLoad 1 false H139 p151 fun v152 =>
 pLen .sl v152 H139 fun v153 =>
 some ((.tuple #[v153, (.int .i64 0)]), H139)))))))))
 (fun i123 => none)
 (some ((l121.headD undef), H122))))

def okR (lim : Int) (L : List Nd) (K : List (ByteArray × Int)) (n : Nd) : Int × Int × List Nd × List (ByteArray × Int) :=
  match placeOf n 0 L with
    | some q => (((q + 1 : Nat) : Int), 0, L, K)
    | none => if lim > 0 ∧ (L.length : Int) ≥ lim then (0, 4, L, K) else (((L.length + 1 : Nat) : Int), 0, L ++ [n], if n.op = 4 then nameSet n.name n.w K else K)
/-- What Make does to the heap. -/
structure MkOk (H : Hp) (p : Nat) (lim : Int) (sl : Value) (f g : Nat) (r : Int × Int × List Nd × List (ByteArray × Int)) (H' : Hp) (sl' : Value) : Prop where
  st : StF H' p lim r.2.2.1 r.2.2.2 sl' f g
  next : H.next ≤ H'.next
  frame : ∀ j, j < H.next → j ≠ p → j ≠ f → j ≠ g → slId sl ≠ some j → H'.get j = H.get j
  own : ∀ i, slId sl' = some i → slId sl = some i ∨ H.next ≤ i
theorem MkOk.stay {H : Hp} {p f g : Nat} {lim : Int} {L : List Nd} {K : List (ByteArray × Int)} {sl : Value} (h : StF H p lim L K sl f g) {r : Int × Int × List Nd × List (ByteArray × Int)} (hr : r.2.2 = (L, K)) : MkOk H p lim sl f g r H sl :=
  ⟨by rw [hr]; exact h, Nat.le_refl _, fun _ _ _ _ _ _ => rfl, fun i hi => .inl hi⟩
theorem rest_ok {H : Hp} {p f g : Nat} {lim : Int} {L : List Nd} {K : List (ByteArray × Int)} {sl : Value} (h : StF H p lim L K sl f g) (n : Nd) (hw : n.op = 4 → ∀ j u, nameAt n.name 0 K = some (j, u) → u = n.w) (hb : (L.length + 1) * 64 ≤ 2 ^ 47) :
    ∃ H' sl', restM p n H = some (.tuple #[.int .i64 (okR lim L K n).1, .int .i64 (okR lim L K n).2.1], H') ∧ MkOk H p lim sl f g (okR lim L K n) H' sl' := by
  have hl36 := look36 h.fm n
  unfold okR
  cases hq : placeOf n 0 L with
  | some q =>
    rw [hq] at hl36
    refine ⟨H, sl, ?_, MkOk.stay h rfl⟩
    unfold restM
    simp only [s_nil, s_offs, Nat.zero_add, h.st.l2, n07, s_look hl36, s_ext0, s_ext1, s_bool, s_br, if_true]
  | none =>
    rw [hq] at hl36
    by_cases hlim : lim > 0 ∧ (L.length : Int) ≥ lim
    · refine ⟨H, sl, ?_, MkOk.stay h (by simp only [if_pos hlim])⟩
      unfold restM
      simp only [s_nil, s_offs, Nat.zero_add, Nat.add_zero, h.st.l0, h.st.l1, h.st.l2, h.st.all.len, n07, s_look hl36, s_ext0, s_ext1, s_bool, s_br, s_gtr, s_geq, hlim.1, hlim.2, decide_true, Bool.false_eq_true, if_false, if_true, s_bind, s_ret, s_head, if_pos hlim, and_self]
    · obtain ⟨H', sl', h1, h2, h3, h4, h5⟩ := tail_ok h n hq hw hb
      rw [if_neg hlim]
      refine ⟨H', sl', ?_, ⟨h2, h3, h4, fun i hi => .inr (h5 i hi)⟩⟩
      rw [← h1]
      unfold restM
      by_cases l1 : lim > 0
      · have l2 : ¬ ((L.length : Int) ≥ lim) := fun q => hlim ⟨l1, q⟩
        simp only [s_nil, s_offs, Nat.zero_add, Nat.add_zero, h.st.l0, h.st.l1, h.st.l2, h.st.all.len, n07, s_look hl36, s_ext0, s_ext1, s_bool, s_br, s_gtr, s_geq, l1, l2, decide_true, decide_false, Bool.false_eq_true, if_false, if_true, s_bind, s_next, s_head]
        unfold tailM
        simp only [s_nil, s_offs, Nat.zero_add, Nat.add_zero, h.st.l0, h.st.l1, h.st.l2, h.st.all.len, n07, s_br]
      · simp only [s_nil, s_offs, Nat.zero_add, Nat.add_zero, h.st.l0, h.st.l1, h.st.l2, h.st.all.len, n07, s_look hl36, s_ext0, s_ext1, s_bool, s_br, s_gtr, s_geq, l1, decide_true, decide_false, Bool.false_eq_true, if_false, if_true, s_bind, s_next, s_head]
        unfold tailM
        simp only [s_nil, s_offs, Nat.zero_add, Nat.add_zero, h.st.l0, h.st.l1, h.st.l2, h.st.all.len, n07, s_br]
end Go.AM
/- The Term seat: Make, the document's, II. -/
set_option linter.unusedVariables false
set_option linter.unusedSimpArgs false
namespace Go.AM
open Go
theorem c31 {H : Hp} {p f g : Nat} {lim : Int} {L : List Nd} {K : List (ByteArray × Int)} {sl : Value} (h : StF H p lim L K sl f g) (n : Nd) (hnum : 0 ≤ n.num ∧ n.num < 18446744073709551616)
    (hW : ∀ m ∈ L, 0 ≤ m.w ∧ m.w ≤ 64) (hb : (L.length + 1) * 64 ≤ 2 ^ 47) :
    ∃ H' sl', RR 31 [.pointer (some ⟨p, 0, none⟩), n.val] H = some (.tuple #[.int .i64 (mkR lim L K n).1, .int .i64 (mkR lim L K n).2.1], H') ∧ MkOk H p lim sl f g (mkR lim L K n) H' sl' := by
  have hL : (L.length : Int) ≤ 4611686018427387904 := by omega
  have ha := wT_bd hW n.a
  have hbd := wT_bd hW n.b
  have stay : ∀ e : Int, errOf L K n = e → e ≠ 0 → RR 31 [.pointer (some ⟨p, 0, none⟩), n.val] H = some (.tuple #[.int .i64 0, .int .i64 e], H) →
      ∃ H' sl', RR 31 [.pointer (some ⟨p, 0, none⟩), n.val] H = some (.tuple #[.int .i64 (mkR lim L K n).1, .int .i64 (mkR lim L K n).2.1], H') ∧ MkOk H p lim sl f g (mkR lim L K n) H' sl' := fun e he h0 hr => by
    have hm : mkR lim L K n = (0, e, L, K) := by unfold mkR; rw [he, if_pos h0]
    rw [hm]
    exact ⟨H, sl, hr, MkOk.stay h rfl⟩
  have hrun := r31 E0 rfl (.pointer (some ⟨p, 0, none⟩)) n.val H
  unfold m31 at hrun
  simp only [n0, n1, s_call (c46 _ H), s_lss, s_gtr, s_bool, s_br, s_bind, s_bind_ite, s_next, s_ret, List.getD_cons_zero, decide_eq_true_eq, if_true] at hrun
  by_cases hop : n.op < 1 ∨ n.op > 33
  · have : partsR n.op < 0 := by unfold partsR; rw [if_pos hop]; decide
    rw [if_pos this] at hrun
    exact stay 73 (by unfold errOf; rw [if_pos hop]) (by decide) hrun
  have hpr : partsR n.op = partsT n.op := by unfold partsR; rw [if_neg hop]
  have hp0 : ¬ partsT n.op < 0 := by unfold partsT; split <;> first | decide | (split <;> first | decide | (split <;> decide))
  rw [hpr, if_neg hp0] at hrun
  by_cases hw1 : n.w < 0
  · rw [if_pos hw1] at hrun
    exact stay 5 (by unfold errOf; rw [if_neg hop, if_pos (.inl hw1)]) (by decide) hrun
  rw [if_neg hw1] at hrun
  by_cases hw2 : n.w > 64
  · rw [if_pos hw2] at hrun
    exact stay 5 (by unfold errOf; rw [if_neg hop, if_pos (.inr hw2)]) (by decide) hrun
  rw [if_neg hw2] at hrun
  have hww : ¬ (n.w < 0 ∨ n.w > 64) := by omega
  simp only [n2, n3, n4, s_call (c30 h.st), s_geq, s_not, s_bool, s_br, s_iteB, s_bind, s_next, List.getD_cons_zero] at hrun
  have hpp : (bif decide (decide (partsT n.op ≥ 1) = true) then
      (bif decide ((!isT L n.a) = true) then true else
        (bif decide (decide (partsT n.op ≥ 2) = true) then
          (bif decide ((!isT L n.b) = true) then true else (bif decide (decide (partsT n.op ≥ 3) = true) then !isT L n.c else false))
        else (bif decide (decide (partsT n.op ≥ 3) = true) then !isT L n.c else false)))
      else (bif decide (decide (partsT n.op ≥ 2) = true) then
          (bif decide ((!isT L n.b) = true) then true else (bif decide (decide (partsT n.op ≥ 3) = true) then !isT L n.c else false))
        else (bif decide (decide (partsT n.op ≥ 3) = true) then !isT L n.c else false))) = pastParts L n := by
    unfold pastParts
    simp only [Bool.decide_eq_true]
    cases decide (partsT n.op ≥ 1) <;> cases decide (partsT n.op ≥ 2) <;> cases decide (partsT n.op ≥ 3) <;> cases isT L n.a <;> cases isT L n.b <;> cases isT L n.c <;> rfl
  rw [hpp] at hrun
  by_cases hpa : pastParts L n = true
  · rw [if_pos hpa] at hrun
    exact stay 70 (by unfold errOf; rw [if_neg hop, if_neg hww, if_pos hpa]) (by decide) hrun
  rw [if_neg hpa] at hrun
  have pa : partsT n.op ≥ 1 → isT L n.a = true := fun q => by
    cases e : isT L n.a with
    | true => rfl
    | false => exact absurd (by unfold pastParts; simp [q, e]) hpa
  have pb : partsT n.op ≥ 2 → isT L n.b = true := fun q => by
    cases e : isT L n.b with
    | true => rfl
    | false => exact absurd (by unfold pastParts; simp [q, e]) hpa
  have pc : partsT n.op ≥ 3 → isT L n.c = true := fun q => by
    cases e : isT L n.c with
    | true => rfl
    | false => exact absurd (by unfold pastParts; simp [q, e]) hpa
  have hn : n.Ok := ⟨by omega, by omega, by omega, by omega, hnum.1, hnum.2⟩
  rw [n07, s_call (c47 n _ H), s_bool] at hrun
  by_cases hsp : spareK (partsT n.op) n = true
  · rw [if_pos hsp] at hrun
    exact stay 1 (by unfold errOf; rw [if_neg hop, if_neg hww, if_neg hpa, if_pos hsp]) (by decide) hrun
  rw [if_neg hsp] at hrun
  rw [n07, s_call (c48 h.st hL n hn.o1 hn.o2 pa pb pc), s_not, s_bool] at hrun
  cases hso : sortsOf n.op (wT L (-1) n.a) (wT L (-1) n.b) (wT L (-1) n.c) with
  | false =>
    rw [hso] at hrun
    simp only [Bool.not_false, if_true] at hrun
    exact stay 71 (by unfold errOf; rw [if_neg hop, if_neg hww, if_neg hpa, if_neg hsp, if_pos hso]) (by decide) hrun
  | true =>
  rw [hso] at hrun
  simp only [Bool.not_true, Bool.false_eq_true, if_false] at hrun
  rw [n07, s_call (c49 h.st hL n hn pa pb ha hbd), s_not, s_bool] at hrun
  cases hwi : widthOf n (wT L (-1) n.a) (wT L (-1) n.b) with
  | false =>
    rw [hwi] at hrun
    simp only [Bool.not_false, if_true] at hrun
    exact stay 5 (by unfold errOf; rw [if_neg hop, if_neg hww, if_neg hpa, if_neg hsp, hso, if_neg (by decide), if_pos hwi]) (by decide) hrun
  | true =>
  rw [hwi] at hrun
  simp only [Bool.not_true, Bool.false_eq_true, if_false] at hrun
  have hl9 := look9 h.gm n.name
  have hl36 := look36 h.fm n
  have hnm : n.op = 4 → badName K n = true → RR 31 [.pointer (some ⟨p, 0, none⟩), n.val] H = some (.tuple #[.int .i64 0, .int .i64 72], H) := by
    intro h4 hbad
    refine hrun.trans ?_
    simp only [h4, s_eql, decide_true, s_bool, s_br, if_true, s_nil, s_offs, Nat.zero_add, h.st.l3, n6, n1, s_look hl9]
    unfold badName at hbad
    cases hq : nameAt n.name 0 K with
    | none =>
      rw [hq] at hbad
      simp only [s_ext0, s_ext1, s_call (c50 n.name H), s_not, s_bool, s_br]
      cases hno : nameOk n.name with
      | true => rw [hno] at hbad; cases hbad
      | false => simp [s_bind, s_ret, s_head]
    | some q =>
      rw [hq] at hbad
      simp only [s_ext0, s_ext1, s_call (c50 n.name H), s_not, s_bool, s_br, s_neq]
      cases hno : nameOk n.name with
      | true =>
        rw [hno] at hbad
        have hne : q.2 ≠ n.w := by simpa using hbad
        simp [hne, s_bind, s_ret, s_head]
      | false => simp [s_bind, s_ret, s_head]
  by_cases hbad : n.op = 4 ∧ badName K n = true
  · exact stay 72 (by unfold errOf; rw [if_neg hop, if_neg hww, if_neg hpa, if_neg hsp, hso, if_neg (by decide), hwi, if_neg (by decide), if_pos hbad]) (by decide) (hnm hbad.1 hbad.2)
  have herr : errOf L K n = 0 := by unfold errOf; rw [if_neg hop, if_neg hww, if_neg hpa, if_neg hsp, hso, if_neg (by decide), hwi, if_neg (by decide), if_neg hbad]
  have hmk : mkR lim L K n = okR lim L K n := by unfold mkR; rw [herr]; rfl
  rw [hmk]
  have hgood : n.op = 4 → badName K n = false := fun h4 => by
    cases e : badName K n with
    | true => exact absurd ⟨h4, e⟩ hbad
    | false => rfl
  obtain ⟨H', sl', hr, hm⟩ := rest_ok h n (fun h4 j u hq => by
    have hb := hgood h4
    unfold badName at hb
    rw [hq] at hb
    simp at hb
    exact hb.2) hb
  refine ⟨H', sl', hrun.trans ?_, hm⟩
  rw [← hr]
  unfold restM
  by_cases h4 : n.op = 4
  · have hb := hgood h4
    unfold badName at hb
    cases hq : nameAt n.name 0 K with
    | none =>
      rw [hq] at hb hl9
      have hno : nameOk n.name = true := by simpa using hb
      simp only [h4, s_eql, decide_true, s_bool, s_br, if_true, s_nil, s_offs, Nat.zero_add, h.st.l3, n0, n6, n1, s_look hl9, s_ext0, s_ext1, s_call (c50 n.name H), s_not, hno, Bool.not_true, Bool.false_eq_true, if_false, s_bind, s_next]
    | some q =>
      rw [hq] at hb hl9
      have hno : nameOk n.name = true ∧ q.2 = n.w := by simpa using hb
      simp only [h4, s_eql, decide_true, s_bool, s_br, if_true, s_nil, s_offs, Nat.zero_add, h.st.l3, n0, n6, n1, s_look hl9, s_ext0, s_ext1, s_call (c50 n.name H), s_not, s_neq, hno.1, hno.2, Bool.not_true, Bool.false_eq_true, if_false, s_bind, s_next, ne_eq, not_true_eq_false, decide_false]
  · simp only [n0, n1, n6, s_nil, s_offs, Nat.zero_add, h4, s_eql, decide_false, s_bool, s_br, Bool.false_eq_true, if_false, s_bind, s_next]
end Go.AM
/- The Term seat: Make, the program's. -/
set_option linter.unusedVariables false
set_option linter.unusedSimpArgs false
namespace Go.AM
open Go
theorem s_build3 {α : Type} (a b c : Int) (k : Value → Option α) : pBuild Go.Proofs.Try.prog 54 [(0, .int .i64 a), (1, .int .i64 b), (2, .int .i64 c)] k = k (.agg #[.int .i64 a, .int .i64 b, .int .i64 c]) := by
  have : buildV Go.Proofs.Try.prog 54 [(0, .int .i64 a), (1, .int .i64 b), (2, .int .i64 c)] = some (.agg #[.int .i64 a, .int .i64 b, .int .i64 c]) := by kernel_rfl
  unfold pBuild; rw [this]
theorem s_arr0 {α : Type} (a b c : Value) (k : Value → Option α) : pAtArr 3 false 1 (.agg #[a, b, c]) (.int .i64 0) k = k a := rfl
theorem s_arr1 {α : Type} (a b c : Value) (k : Value → Option α) : pAtArr 3 false 1 (.agg #[a, b, c]) (.int .i64 1) k = k b := rfl
theorem s_arr2 {α : Type} (a b c : Value) (k : Value → Option α) : pAtArr 3 false 1 (.agg #[a, b, c]) (.int .i64 2) k = k c := rfl
theorem loop3 {H : Hp} {p f g : Nat} {lim : Int} {L : List Nd} {sl : Value} (hs : StR H p lim L sl f g) (n : Nd) (S : List Value → Hp → Option Outc)
    (hS : S = fun (l25 : List Value) (H26 : Hp) =>
 pBin Go.Proofs.Try.prog .lss 3 (l25.getD 0 undef) (.int .i64 3) fun v27 =>
 pBool v27 fun b28 => br b28
 (pAtArr 3 false 1 (.agg #[.int .i64 n.a, .int .i64 n.b, .int .i64 n.c]) (l25.getD 0 undef) fun v29 =>
 pCallF RR 29 [.int .i64 n.op] H26 fun r31 H32 =>
 pBin Go.Proofs.Try.prog .lss 3 (l25.getD 0 undef) r31 fun v33 =>
 pBool v33 fun b34 => br b34
 (pCallF RR 19 [.pointer (some ⟨p, 0, none⟩), v29] H32 fun r35 H36 =>
 pUn .not r35 fun v37 =>
 pBool v37 fun b38 => br b38
 (some (.ret, [(.tuple #[(.int .i64 0), (.int .i64 70)])], H36))
 (pBin Go.Proofs.Try.prog .add 3 (l25.getD 0 undef) (.int .i64 1) fun v39 =>
 some (.next, [v39], H36)))
 (pBin Go.Proofs.Try.prog .add 3 (l25.getD 0 undef) (.int .i64 1) fun v40 =>
 some (.next, [v40], H32)))
 (some (.exit 0, [(l25.getD 0 undef)], H26))) :
    loopD S [.int .i64 0] H = if pastParts L n = true then some (.ret, [.tuple #[.int .i64 0, .int .i64 70]], H) else some (.exit 0, [.int .i64 3], H) := by
  have w1 : IntKind.i64.wrap (0 + 1) = 1 := by decide
  have w2 : IntKind.i64.wrap (1 + 1) = 2 := by decide
  have w3 : IntKind.i64.wrap (2 + 1) = 3 := by decide
  have e0 : loopD S [.int .i64 0] H = if (decide (partsT n.op ≥ 1) && !isT L n.a) = true then some (.ret, [.tuple #[.int .i64 0, .int .i64 70]], H) else loopD S [.int .i64 1] H := by
    rw [loopD_eq]
    have : S [.int .i64 0] H = if (decide (partsT n.op ≥ 1) && !isT L n.a) = true then some (.ret, [.tuple #[.int .i64 0, .int .i64 70]], H) else some (.next, [.int .i64 1], H) := by
      rw [hS]
      simp only [s_lss, s_bool, s_br, List.getD_cons_zero, s_arr0, s_call (c29 _ _), s_call (c19 hs), s_not, s_add, w1, decide_eq_true_eq]
      by_cases q : 0 < partsT n.op
      · have q2 : partsT n.op ≥ 1 := by omega
        cases isT L n.a <;> simp [q, q2]
      · have q2 : ¬ partsT n.op ≥ 1 := by omega
        simp [q, q2]
    rw [this]
    split <;> rfl
  have e1 : loopD S [.int .i64 1] H = if (decide (partsT n.op ≥ 2) && !isT L n.b) = true then some (.ret, [.tuple #[.int .i64 0, .int .i64 70]], H) else loopD S [.int .i64 2] H := by
    rw [loopD_eq]
    have : S [.int .i64 1] H = if (decide (partsT n.op ≥ 2) && !isT L n.b) = true then some (.ret, [.tuple #[.int .i64 0, .int .i64 70]], H) else some (.next, [.int .i64 2], H) := by
      rw [hS]
      simp only [s_lss, s_bool, s_br, List.getD_cons_zero, s_arr1, s_call (c29 _ _), s_call (c19 hs), s_not, s_add, w2, decide_eq_true_eq]
      by_cases q : 1 < partsT n.op
      · have q2 : partsT n.op ≥ 2 := by omega
        cases isT L n.b <;> simp [q, q2]
      · have q2 : ¬ partsT n.op ≥ 2 := by omega
        simp [q, q2]
    rw [this]
    split <;> rfl
  have e2 : loopD S [.int .i64 2] H = if (decide (partsT n.op ≥ 3) && !isT L n.c) = true then some (.ret, [.tuple #[.int .i64 0, .int .i64 70]], H) else loopD S [.int .i64 3] H := by
    rw [loopD_eq]
    have : S [.int .i64 2] H = if (decide (partsT n.op ≥ 3) && !isT L n.c) = true then some (.ret, [.tuple #[.int .i64 0, .int .i64 70]], H) else some (.next, [.int .i64 3], H) := by
      rw [hS]
      simp only [s_lss, s_bool, s_br, List.getD_cons_zero, s_arr2, s_call (c29 _ _), s_call (c19 hs), s_not, s_add, w3, decide_eq_true_eq]
      by_cases q : 2 < partsT n.op
      · have q2 : partsT n.op ≥ 3 := by omega
        cases isT L n.c <;> simp [q, q2]
      · have q2 : ¬ partsT n.op ≥ 3 := by omega
        simp [q, q2]
    rw [this]
    split <;> rfl
  have e3 : loopD S [.int .i64 3] H = some (.exit 0, [.int .i64 3], H) := by
    rw [loopD_eq]
    have : S [.int .i64 3] H = some (.exit 0, [.int .i64 3], H) := by
      rw [hS]
      simp [s_lss, s_bool, s_br]
    rw [this]; rfl
  rw [e0, e1, e2, e3]
  unfold pastParts
  cases decide (partsT n.op ≥ 1) && !isT L n.a <;> cases decide (partsT n.op ≥ 2) && !isT L n.b <;> cases decide (partsT n.op ≥ 3) && !isT L n.c <;> rfl

theorem c22 {H : Hp} {p f g : Nat} {lim : Int} {L : List Nd} {K : List (ByteArray × Int)} {sl : Value} (h : StF H p lim L K sl f g) (n : Nd) (hnum : 0 ≤ n.num ∧ n.num < 18446744073709551616)
    (hW : ∀ m ∈ L, 0 ≤ m.w ∧ m.w ≤ 64) (hb : (L.length + 1) * 64 ≤ 2 ^ 47) :
    ∃ H' sl', RR 22 [.pointer (some ⟨p, 0, none⟩), n.val] H = some (.tuple #[.int .i64 (mkR lim L K n).1, .int .i64 (mkR lim L K n).2.1], H') ∧ MkOk H p lim sl f g (mkR lim L K n) H' sl' := by
  have hL : (L.length : Int) ≤ 4611686018427387904 := by omega
  have ha := wT_bd hW n.a
  have hbd := wT_bd hW n.b
  have stay : ∀ e : Int, errOf L K n = e → e ≠ 0 → RR 22 [.pointer (some ⟨p, 0, none⟩), n.val] H = some (.tuple #[.int .i64 0, .int .i64 e], H) →
      ∃ H' sl', RR 22 [.pointer (some ⟨p, 0, none⟩), n.val] H = some (.tuple #[.int .i64 (mkR lim L K n).1, .int .i64 (mkR lim L K n).2.1], H') ∧ MkOk H p lim sl f g (mkR lim L K n) H' sl' := fun e he h0 hr => by
    have hm : mkR lim L K n = (0, e, L, K) := by unfold mkR; rw [he, if_pos h0]
    rw [hm]
    exact ⟨H, sl, hr, MkOk.stay h rfl⟩
  have hrun := r22 E0 rfl (.pointer (some ⟨p, 0, none⟩)) n.val H
  unfold m22 at hrun
  simp only [n0, n1, n2, n3, n4, s_lss, s_gtr, s_bool, s_br, s_bind, s_bind_ite, s_next, s_ret, s_head, decide_eq_true_eq, s_build3] at hrun
  by_cases hop1 : n.op < 1
  · rw [if_pos hop1] at hrun
    exact stay 73 (by unfold errOf; rw [if_pos (.inl hop1)]) (by decide) hrun
  rw [if_neg hop1] at hrun
  by_cases hop2 : n.op > 33
  · rw [if_pos hop2] at hrun
    exact stay 73 (by unfold errOf; rw [if_pos (.inr hop2)]) (by decide) hrun
  rw [if_neg hop2] at hrun
  have hop : ¬ (n.op < 1 ∨ n.op > 33) := by omega
  by_cases hw1 : n.w < 0
  · rw [if_pos hw1] at hrun
    exact stay 5 (by unfold errOf; rw [if_neg hop, if_pos (.inl hw1)]) (by decide) hrun
  rw [if_neg hw1] at hrun
  by_cases hw2 : n.w > 64
  · rw [if_pos hw2] at hrun
    exact stay 5 (by unfold errOf; rw [if_neg hop, if_pos (.inr hw2)]) (by decide) hrun
  rw [if_neg hw2] at hrun
  have hww : ¬ (n.w < 0 ∨ n.w > 64) := by omega
  have hloop := loop3 h.st n _ rfl
  simp only [s_lss, s_bool, s_br, s_not, s_add, decide_eq_true_eq] at hloop
  simp only [s_lss, s_bool, s_br, s_not, s_add, decide_eq_true_eq, hloop] at hrun
  by_cases hpa : pastParts L n = true
  · rw [if_pos hpa] at hrun
    exact stay 70 (by unfold errOf; rw [if_neg hop, if_neg hww, if_pos hpa]) (by decide) hrun
  rw [if_neg hpa] at hrun
  simp only [s_bind, s_exit, s_onExit] at hrun
  have pa : partsT n.op ≥ 1 → isT L n.a = true := fun q => by
    cases e : isT L n.a with
    | true => rfl
    | false => exact absurd (by unfold pastParts; simp [q, e]) hpa
  have hn : n.Ok := ⟨by omega, by omega, by omega, by omega, hnum.1, hnum.2⟩
  rw [n07, s_call (c41 n H), s_bool] at hrun
  by_cases hsp : spareK (partsT n.op) n = true
  · rw [if_pos hsp] at hrun
    exact stay 1 (by unfold errOf; rw [if_neg hop, if_neg hww, if_neg hpa, if_pos hsp]) (by decide) hrun
  rw [if_neg hsp] at hrun
  rw [n07, s_call (c42 h.st hL n), s_not, s_bool] at hrun
  cases hso : sortsOf n.op (wT L (-1) n.a) (wT L (-1) n.b) (wT L (-1) n.c) with
  | false =>
    rw [hso] at hrun
    simp only [Bool.not_false, if_true] at hrun
    exact stay 71 (by unfold errOf; rw [if_neg hop, if_neg hww, if_neg hpa, if_neg hsp, if_pos hso]) (by decide) hrun
  | true =>
  have hsort : n.op ≥ 15 → wT L (-1) n.a > 0 := fun q => by
    have q0 : partsT n.op ≠ 0 := by unfold partsT; (repeat' split) <;> omega
    have := hso
    unfold sortsOf at this
    rw [if_neg q0, if_neg (by omega), if_neg (by omega), if_neg (by omega), if_neg (by omega)] at this
    split at this
    · simp at this; omega
    · split at this
      · simpa using this
      · simp at this; omega
  rw [hso] at hrun
  simp only [Bool.not_true, Bool.false_eq_true, if_false] at hrun
  rw [n07, s_call (c43 h.st hL n hn ha hbd hsort), s_not, s_bool] at hrun
  cases hwi : widthOf n (wT L (-1) n.a) (wT L (-1) n.b) with
  | false =>
    rw [hwi] at hrun
    simp only [Bool.not_false, if_true] at hrun
    exact stay 5 (by unfold errOf; rw [if_neg hop, if_neg hww, if_neg hpa, if_neg hsp, hso, if_neg (by decide), if_pos hwi]) (by decide) hrun
  | true =>
  rw [hwi] at hrun
  simp only [Bool.not_true, Bool.false_eq_true, if_false] at hrun
  have hl9 := look9 h.gm n.name
  have hnm : n.op = 4 → badName K n = true → RR 22 [.pointer (some ⟨p, 0, none⟩), n.val] H = some (.tuple #[.int .i64 0, .int .i64 72], H) := by
    intro h4 hbad
    refine hrun.trans ?_
    simp only [h4, s_eql, decide_true, s_bool, s_br, if_true, s_nil, s_offs, Nat.zero_add, h.st.l3, n6, n1, s_look hl9]
    unfold badName at hbad
    cases hq : nameAt n.name 0 K with
    | none =>
      rw [hq] at hbad
      simp only [s_ext0, s_ext1, s_call (c44 n.name H), s_not, s_bool, s_br]
      cases hno : nameOk n.name with
      | true => rw [hno] at hbad; cases hbad
      | false => simp [s_bind, s_ret, s_head]
    | some q =>
      rw [hq] at hbad
      simp only [s_ext0, s_ext1, s_call (c44 n.name H), s_not, s_bool, s_br, s_neq]
      cases hno : nameOk n.name with
      | true =>
        rw [hno] at hbad
        have hne : q.2 ≠ n.w := by simpa using hbad
        simp [hne, s_bind, s_ret, s_head]
      | false => simp [s_bind, s_ret, s_head]
  by_cases hbad : n.op = 4 ∧ badName K n = true
  · exact stay 72 (by unfold errOf; rw [if_neg hop, if_neg hww, if_neg hpa, if_neg hsp, hso, if_neg (by decide), hwi, if_neg (by decide), if_pos hbad]) (by decide) (hnm hbad.1 hbad.2)
  have herr : errOf L K n = 0 := by unfold errOf; rw [if_neg hop, if_neg hww, if_neg hpa, if_neg hsp, hso, if_neg (by decide), hwi, if_neg (by decide), if_neg hbad]
  have hmk : mkR lim L K n = okR lim L K n := by unfold mkR; rw [herr]; rfl
  rw [hmk]
  have hgood : n.op = 4 → badName K n = false := fun h4 => by
    cases e : badName K n with
    | true => exact absurd ⟨h4, e⟩ hbad
    | false => rfl
  obtain ⟨H', sl', hr, hm⟩ := rest_ok h n (fun h4 j u hq => by
    have hb := hgood h4
    unfold badName at hb
    rw [hq] at hb
    simp at hb
    exact hb.2) hb
  refine ⟨H', sl', hrun.trans ?_, hm⟩
  rw [← hr]
  unfold restM
  by_cases h4 : n.op = 4
  · have hb := hgood h4
    unfold badName at hb
    cases hq : nameAt n.name 0 K with
    | none =>
      rw [hq] at hb hl9
      have hno : nameOk n.name = true := by simpa using hb
      simp only [h4, s_eql, decide_true, s_bool, s_br, if_true, s_nil, s_offs, Nat.zero_add, h.st.l3, n0, n6, n1, s_look hl9, s_ext0, s_ext1, s_call (c44 n.name H), s_not, hno, Bool.not_true, Bool.false_eq_true, if_false, s_bind, s_next]
    | some q =>
      rw [hq] at hb hl9
      have hno : nameOk n.name = true ∧ q.2 = n.w := by simpa using hb
      simp only [h4, s_eql, decide_true, s_bool, s_br, if_true, s_nil, s_offs, Nat.zero_add, h.st.l3, n0, n6, n1, s_look hl9, s_ext0, s_ext1, s_call (c44 n.name H), s_not, s_neq, hno.1, hno.2, Bool.not_true, Bool.false_eq_true, if_false, s_bind, s_next, ne_eq, not_true_eq_false, decide_false]
  · simp only [n0, n1, n6, s_nil, s_offs, Nat.zero_add, h4, s_eql, decide_false, s_bool, s_br, Bool.false_eq_true, if_false, s_bind, s_next]
end Go.AM
/- The Term seat: the calls that make nodes. -/
set_option linter.unusedVariables false
set_option linter.unusedSimpArgs false
namespace Go.AM
open Go
theorem bld {α : Type} {P : Program} {t : TypeId} {l : List (Nat × Value)} {v : Value} (h : buildV P t l = some v) (k : Value → Option α) : pBuild P t l k = k v := by unfold pBuild; rw [h]
section
variable {α : Type} (k : Value → Option α)
theorem b0 (o : Int) : pBuild Go.Proofs.Try.prog 36 [(0, .int .i64 o)] k = k (Nd.val ⟨o, 0, 0, 0, 0, 0, ⟨#[]⟩⟩) := bld (by kernel_rfl) k
theorem b015 (o : Int) (w : Int) (x : Int) : pBuild Go.Proofs.Try.prog 36 [(0, .int .i64 o), (1, .int .i64 w), (5, .int .u64 x)] k = k (Nd.val ⟨o, w, 0, 0, 0, x, ⟨#[]⟩⟩) := bld (by kernel_rfl) k
theorem b016 (o : Int) (w : Int) (s : ByteArray) : pBuild Go.Proofs.Try.prog 36 [(0, .int .i64 o), (1, .int .i64 w), (6, .string s)] k = k (Nd.val ⟨o, w, 0, 0, 0, 0, s⟩) := bld (by kernel_rfl) k
theorem b02 (o : Int) (a : Int) : pBuild Go.Proofs.Try.prog 36 [(0, .int .i64 o), (2, .int .i64 a)] k = k (Nd.val ⟨o, 0, a, 0, 0, 0, ⟨#[]⟩⟩) := bld (by kernel_rfl) k
theorem b012 (o : Int) (w : Int) (a : Int) : pBuild Go.Proofs.Try.prog 36 [(0, .int .i64 o), (1, .int .i64 w), (2, .int .i64 a)] k = k (Nd.val ⟨o, w, a, 0, 0, 0, ⟨#[]⟩⟩) := bld (by kernel_rfl) k
theorem b023 (o : Int) (a : Int) (b : Int) : pBuild Go.Proofs.Try.prog 36 [(0, .int .i64 o), (2, .int .i64 a), (3, .int .i64 b)] k = k (Nd.val ⟨o, 0, a, b, 0, 0, ⟨#[]⟩⟩) := bld (by kernel_rfl) k
theorem b0123 (o : Int) (w : Int) (a : Int) (b : Int) : pBuild Go.Proofs.Try.prog 36 [(0, .int .i64 o), (1, .int .i64 w), (2, .int .i64 a), (3, .int .i64 b)] k = k (Nd.val ⟨o, w, a, b, 0, 0, ⟨#[]⟩⟩) := bld (by kernel_rfl) k
theorem b01234 (o : Int) (w : Int) (a : Int) (b : Int) (c : Int) : pBuild Go.Proofs.Try.prog 36 [(0, .int .i64 o), (1, .int .i64 w), (2, .int .i64 a), (3, .int .i64 b), (4, .int .i64 c)] k = k (Nd.val ⟨o, w, a, b, c, 0, ⟨#[]⟩⟩) := bld (by kernel_rfl) k
theorem b0125 (o : Int) (w : Int) (a : Int) (x : Int) : pBuild Go.Proofs.Try.prog 36 [(0, .int .i64 o), (1, .int .i64 w), (2, .int .i64 a), (5, .int .u64 x)] k = k (Nd.val ⟨o, w, a, 0, 0, x, ⟨#[]⟩⟩) := bld (by kernel_rfl) k
end
abbrev Res := Int × Int × List Nd × List (ByteArray × Int)
/-- A call on a store, its answer, and the store behind it. -/
def Does (H : Hp) (p : Nat) (lim : Int) (sl : Value) (f g : Nat) (fn : FuncId) (args : List Value) (r : Res) : Prop :=
  ∃ H' sl', RR fn (.pointer (some ⟨p, 0, none⟩) :: args) H = some (.tuple #[.int .i64 r.1, .int .i64 r.2.1], H') ∧ MkOk H p lim sl f g r H' sl'
theorem Does.wrap {H : Hp} {p : Nat} {lim : Int} {sl : Value} {f g : Nat} {fn fm : FuncId} {xs bs : List Value} {r : Res} (h : Does H p lim sl f g fn xs r)
    (e : RR fm (.pointer (some ⟨p, 0, none⟩) :: bs) H = pCallF RR fn (.pointer (some ⟨p, 0, none⟩) :: xs) H fun r H' => pExtract r 0 fun a => pExtract r 1 fun b => some (.tuple #[a, b], H')) : Does H p lim sl f g fm bs r := by
  obtain ⟨H', sl', h1, h2⟩ := h
  refine ⟨H', sl', ?_, h2⟩
  rw [e, s_call h1]; rfl
/-- A call that is refused. -/
theorem Does.no {H : Hp} {p : Nat} {lim : Int} {L : List Nd} {K : List (ByteArray × Int)} {sl : Value} {f g : Nat} (h : StF H p lim L K sl f g) {fn : FuncId} {xs : List Value} {e : Int}
    (hr : RR fn (.pointer (some ⟨p, 0, none⟩) :: xs) H = some (.tuple #[.int .i64 0, .int .i64 e], H)) : Does H p lim sl f g fn xs (0, e, L, K) := ⟨H, sl, hr, MkOk.stay h rfl⟩
/-- What a store must be for a node more. -/
structure Roomy (L : List Nd) : Prop where
  w : ∀ m ∈ L, 0 ≤ m.w ∧ m.w ≤ 64
  l : (L.length + 1) * 64 ≤ 2 ^ 47
theorem Roomy.len {L : List Nd} (h : Roomy L) : (L.length : Int) ≤ 4611686018427387904 := by have := h.l; omega
theorem s_max {α : Type} (kd : IntKind) (a b : Int) (k : Value → Option α) : pMM true [.int kd a, .int kd b] k = k (.int kd (if b > a then b else a)) := rfl
theorem wT_max {L : List Nd} (h : Roomy L) (t : Int) : (if (0 : Int) > wT L (-1) t then 0 else wT L (-1) t) = wT L 0 t := by
  unfold wT
  split
  · rename_i ht
    obtain ⟨h1, h2⟩ := isT_iff.1 ht
    have hlt : (t - 1).toNat < L.length := by omega
    have hq : L[(t - 1).toNat]? = some L[(t - 1).toNat] := by simp [hlt]
    rw [hq]
    have := h.w _ (List.mem_of_getElem? hq)
    simp only [Option.map_some, Option.getD_some]
    rw [if_neg (by omega)]
  · rfl
theorem wT0_bd {L : List Nd} (h : Roomy L) (t : Int) : 0 ≤ wT L 0 t ∧ wT L 0 t ≤ 64 := by
  rw [← wT_max h]
  have := wT_bd h.w t
  split <;> omega
section
variable {H : Hp} {p f g : Nat} {lim : Int} {L : List Nd} {K : List (ByteArray × Int)} {sl : Value} (h : StF H p lim L K sl f g) (hR : Roomy L)
include h hR
theorem d22 (n : Nd) (hn : 0 ≤ n.num ∧ n.num < 18446744073709551616) : Does H p lim sl f g 22 [n.val] (mkR lim L K n) := c22 h n hn hR.w hR.l
theorem d31 (n : Nd) (hn : 0 ≤ n.num ∧ n.num < 18446744073709551616) : Does H p lim sl f g 31 [n.val] (mkR lim L K n) := c31 h n hn hR.w hR.l
def truthN (b : Bool) : Nd := ⟨if b then 1 else 2, 0, 0, 0, 0, 0, ⟨#[]⟩⟩
omit h hR in
theorem nz : (0 : Int) ≤ 0 ∧ (0 : Int) < 18446744073709551616 := by decide
theorem d23 (b : Bool) : Does H p lim sl f g 23 [.bool b] (mkR lim L K (truthN b)) :=
  (d22 h hR (truthN b) nz).wrap (by refine (r23 E0 rfl _ _ _).trans ?_; unfold m23; simp only [s_bool, b0]; cases b <;> rfl)
theorem d32 (b : Bool) : Does H p lim sl f g 32 [.bool b] (mkR lim L K (truthN b)) :=
  (d31 h hR (truthN b) nz).wrap (by refine (r32 E0 rfl _ _ _).trans ?_; unfold m32; simp only [s_bool, b0]; cases b <;> rfl)
def constN (w x : Int) : Nd := ⟨3, w, 0, 0, 0, trimS w x, ⟨#[]⟩⟩
omit h hR in
theorem trim_bd (w x : Int) (hx : 0 ≤ x ∧ x < 18446744073709551616) : 0 ≤ trimS w x ∧ trimS w x < 18446744073709551616 := by
  unfold trimS
  split
  · omega
  · split
    · omega
    · have h2 : (0 : Int) < 2 ^ w.toNat := Int.pow_pos (by decide)
      have := Int.emod_nonneg x (show (2 : Int) ^ w.toNat ≠ 0 by omega)
      have h3 : x % 2 ^ w.toNat ≤ x := by
        obtain ⟨n, rfl⟩ := Int.eq_ofNat_of_zero_le hx.1
        have e : ((n : Int) % 2 ^ w.toNat) = ((n % 2 ^ w.toNat : Nat) : Int) := by simp
        rw [e]
        exact Int.ofNat_le.2 (Nat.mod_le _ _)
      omega
theorem d24 (w x : Int) (hx : 0 ≤ x ∧ x < 18446744073709551616) : Does H p lim sl f g 24 [.int .i64 w, .int .u64 x] (mkR lim L K (constN w x)) :=
  (d22 h hR (constN w x) (trim_bd w x hx)).wrap (by refine (r24 E0 rfl _ _ _ _).trans ?_; unfold m24; simp only [s_call (c45 w x hx.1 hx.2 H), b015]; rfl)
theorem d33 (w x : Int) (hx : 0 ≤ x ∧ x < 18446744073709551616) : Does H p lim sl f g 33 [.int .i64 w, .int .u64 x] (mkR lim L K (constN w x)) :=
  (d31 h hR (constN w x) (trim_bd w x hx)).wrap (by refine (r33 E0 rfl _ _ _ _).trans ?_; unfold m33; simp only [s_call (c51 w x hx.1 H), b015]; rfl)
def varN (s : ByteArray) (w : Int) : Nd := ⟨4, w, 0, 0, 0, 0, s⟩
theorem d20 (s : ByteArray) (w : Int) : Does H p lim sl f g 20 [.string s, .int .i64 w] (mkR lim L K (varN s w)) :=
  (d22 h hR (varN s w) nz).wrap (by refine (r20 E0 rfl _ _ _ _).trans ?_; unfold m20; simp only [b016]; rfl)
theorem d34 (s : ByteArray) (w : Int) : Does H p lim sl f g 34 [.string s, .int .i64 w] (mkR lim L K (varN s w)) :=
  (d31 h hR (varN s w) nz).wrap (by refine (r34 E0 rfl _ _ _ _).trans ?_; unfold m34; simp only [b016]; rfl)
def unR (lim : Int) (L : List Nd) (K : List (ByteArray × Int)) (op a : Int) : Res :=
  if op = 5 then mkR lim L K ⟨op, 0, a, 0, 0, 0, ⟨#[]⟩⟩ else if op = 15 ∨ op = 16 then mkR lim L K ⟨op, wT L 0 a, a, 0, 0, 0, ⟨#[]⟩⟩ else (0, 73, L, K)
theorem d25 (op a : Int) : Does H p lim sl f g 25 [.int .i64 op, .int .i64 a] (unR lim L K op a) := by
  have hrun := r25 E0 rfl (.pointer (some ⟨p, 0, none⟩)) (.int .i64 op) (.int .i64 a) H
  unfold m25 at hrun
  simp only [s_eql, s_bool, s_br, decide_eq_true_eq, s_call (c40 h.st hR.len), s_max, wT_max hR, b02, b012] at hrun
  unfold unR
  by_cases h5 : op = 5
  · rw [if_pos h5] at hrun ⊢
    exact Does.wrap (d22 h hR _ (by exact nz)) hrun
  rw [if_neg h5] at hrun ⊢
  by_cases h15 : op = 15
  · rw [if_pos h15, if_pos h15] at hrun
    rw [if_pos (.inl h15)]
    exact Does.wrap (d22 h hR _ (by exact nz)) hrun
  rw [if_neg h15] at hrun
  by_cases h16 : op = 16
  · rw [if_pos h16] at hrun
    rw [if_pos (.inr h16)]
    exact Does.wrap (d22 h hR _ (by exact nz)) hrun
  rw [if_neg h16] at hrun
  rw [if_neg (by omega)]
  exact Does.no h hrun
theorem d35 (op a : Int) : Does H p lim sl f g 35 [.int .i64 op, .int .i64 a] (unR lim L K op a) := by
  have hrun := r35 E0 rfl (.pointer (some ⟨p, 0, none⟩)) (.int .i64 op) (.int .i64 a) H
  unfold m35 at hrun
  simp only [s_eql, s_bool, s_br, decide_eq_true_eq, s_call (c52 h.st hR.len), s_max, wT_max hR, b02, b012] at hrun
  unfold unR
  by_cases h5 : op = 5
  · rw [if_pos h5] at hrun ⊢
    exact Does.wrap (d31 h hR _ (by exact nz)) hrun
  rw [if_neg h5] at hrun ⊢
  by_cases h15 : op = 15
  · rw [if_pos h15, if_pos h15] at hrun
    rw [if_pos (.inl h15)]
    exact Does.wrap (d31 h hR _ (by exact nz)) hrun
  rw [if_neg h15] at hrun
  by_cases h16 : op = 16
  · rw [if_pos h16] at hrun
    rw [if_pos (.inr h16)]
    exact Does.wrap (d31 h hR _ (by exact nz)) hrun
  rw [if_neg h16] at hrun
  rw [if_neg (by omega)]
  exact Does.no h hrun
theorem d26 (c a b : Int) : Does H p lim sl f g 26 [.int .i64 c, .int .i64 a, .int .i64 b] (mkR lim L K ⟨14, wT L 0 a, c, a, b, 0, ⟨#[]⟩⟩) :=
  (d22 h hR ⟨14, wT L 0 a, c, a, b, 0, ⟨#[]⟩⟩ nz).wrap (by refine (r26 E0 rfl _ _ _ _ _).trans ?_; unfold m26; simp only [s_call (c40 h.st hR.len), s_max, wT_max hR, b01234])
theorem d37 (c a b : Int) : Does H p lim sl f g 37 [.int .i64 c, .int .i64 a, .int .i64 b] (mkR lim L K ⟨14, wT L 0 a, c, a, b, 0, ⟨#[]⟩⟩) :=
  (d31 h hR ⟨14, wT L 0 a, c, a, b, 0, ⟨#[]⟩⟩ nz).wrap (by refine (r37 E0 rfl _ _ _ _ _).trans ?_; unfold m37; simp only [s_call (c52 h.st hR.len), s_max, wT_max hR, b01234])
omit h hR in
theorem u64_bd (x : Int) : 0 ≤ IntKind.u64.wrap x ∧ IntKind.u64.wrap x < 18446744073709551616 := by
  simp [IntKind.wrap, IntKind.signed, IntKind.bits]; omega
theorem d27 (a from' n : Int) : Does H p lim sl f g 27 [.int .i64 a, .int .i64 from', .int .i64 n] (mkR lim L K ⟨31, n, a, 0, 0, IntKind.u64.wrap from', ⟨#[]⟩⟩) :=
  (d22 h hR ⟨31, n, a, 0, 0, IntKind.u64.wrap from', ⟨#[]⟩⟩ (u64_bd _)).wrap (by refine (r27 E0 rfl _ _ _ _ _).trans ?_; unfold m27; simp only [s_conv, b0125])
theorem d38 (a from' n : Int) : Does H p lim sl f g 38 [.int .i64 a, .int .i64 from', .int .i64 n] (mkR lim L K ⟨31, n, a, 0, 0, IntKind.u64.wrap from', ⟨#[]⟩⟩) :=
  (d31 h hR ⟨31, n, a, 0, 0, IntKind.u64.wrap from', ⟨#[]⟩⟩ (u64_bd _)).wrap (by refine (r38 E0 rfl _ _ _ _ _).trans ?_; unfold m38; simp only [s_conv, b0125])
def extR (lim : Int) (L : List Nd) (K : List (ByteArray × Int)) (op a w : Int) : Res :=
  if op ≠ 32 then if op ≠ 33 then (0, 73, L, K) else mkR lim L K ⟨op, w, a, 0, 0, 0, ⟨#[]⟩⟩ else mkR lim L K ⟨op, w, a, 0, 0, 0, ⟨#[]⟩⟩
theorem d28 (op a w : Int) : Does H p lim sl f g 28 [.int .i64 op, .int .i64 a, .int .i64 w] (extR lim L K op a w) := by
  have hrun := r28 E0 rfl (.pointer (some ⟨p, 0, none⟩)) (.int .i64 op) (.int .i64 a) (.int .i64 w) H
  unfold m28 at hrun
  simp only [s_neq, s_bool, s_br, decide_eq_true_eq, b012] at hrun
  unfold extR
  by_cases h5 : op ≠ 32
  · rw [if_pos h5] at hrun ⊢
    by_cases h6 : op ≠ 33
    · rw [if_pos h6] at hrun ⊢
      exact Does.no h hrun
    · rw [if_neg h6] at hrun ⊢
      exact Does.wrap (d22 h hR _ (by exact nz)) hrun
  · rw [if_neg h5] at hrun ⊢
    exact Does.wrap (d22 h hR _ (by exact nz)) hrun
theorem d39 (op a w : Int) : Does H p lim sl f g 39 [.int .i64 op, .int .i64 a, .int .i64 w] (extR lim L K op a w) := by
  have hrun := r39 E0 rfl (.pointer (some ⟨p, 0, none⟩)) (.int .i64 op) (.int .i64 a) (.int .i64 w) H
  unfold m39 at hrun
  simp only [s_neq, s_bool, s_br, decide_eq_true_eq, b012] at hrun
  unfold extR
  by_cases h5 : op ≠ 32
  · rw [if_pos h5] at hrun ⊢
    by_cases h6 : op ≠ 33
    · rw [if_pos h6] at hrun ⊢
      exact Does.no h hrun
    · rw [if_neg h6] at hrun ⊢
      exact Does.wrap (d31 h hR _ (by exact nz)) hrun
  · rw [if_neg h5] at hrun ⊢
    exact Does.wrap (d31 h hR _ (by exact nz)) hrun
end
end Go.AM
/- The Term seat: Bin, and the calls. -/
set_option linter.unusedVariables false
set_option linter.unusedSimpArgs false
namespace Go.AM
open Go
theorem spl7 {α : Type} (n : Nd) (k : List Value → Option α) : pSplice 7 [.int .i64 0, .int .i64 0, .int .i64 0, .int .i64 0, .int .i64 0, .int .u64 0, .string ⟨#[]⟩] 0 n.val k = k n.cells := by
  have : wrCells 7 [.int .i64 0, .int .i64 0, .int .i64 0, .int .i64 0, .int .i64 0, .int .u64 0, .string ⟨#[]⟩] 0 n.val = some n.cells := by kernel_rfl
  unfold pSplice; rw [this]
theorem spl1 {α : Type} (n : Nd) (w : Int) (k : List Value → Option α) : pSplice 1 n.cells 1 (.int .i64 w) k = k (Nd.cells { n with w := w }) := by
  have : wrCells 1 n.cells 1 (.int .i64 w) = some (Nd.cells { n with w := w }) := by kernel_rfl
  unfold pSplice; rw [this]
theorem ncell1 {α : Type} (n : Nd) (k : Value → Option α) : pCell 1 false n.cells 1 k = k (.int .i64 n.w) := s_cell _ 1 _ rfl k
theorem nagg (n : Nd) : Value.agg n.cells.toArray = n.val := rfl
theorem s_drop0 {α : Type} (l : List α) : l.drop 0 = l := rfl
def binR (lim : Int) (L : List Nd) (K : List (ByteArray × Int)) (op a b : Int) : Res :=
  if op ≥ 6 ∧ op ≤ 13 then mkR lim L K ⟨op, 0, a, b, 0, 0, ⟨#[]⟩⟩ else if op ≥ 17 ∧ op ≤ 29 then mkR lim L K ⟨op, wT L 0 a, a, b, 0, 0, ⟨#[]⟩⟩
  else if op = 30 then mkR lim L K ⟨op, if wT L 0 a + wT L 0 b > 64 then 0 else wT L 0 a + wT L 0 b, a, b, 0, 0, ⟨#[]⟩⟩ else (0, 73, L, K)
theorem mk_past {lim : Int} {L : List Nd} {K : List (ByteArray × Int)} (w a b : Int) (hw : 0 ≤ w ∧ w ≤ 64) (hab : ¬ (isT L a = true ∧ isT L b = true)) : mkR lim L K ⟨30, w, a, b, 0, 0, ⟨#[]⟩⟩ = (0, 70, L, K) := by
  have h1 : errOf L K ⟨30, w, a, b, 0, 0, ⟨#[]⟩⟩ = 70 := by
    unfold errOf
    rw [if_neg (by show ¬ ((30 : Int) < 1 ∨ (30 : Int) > 33); decide), if_neg (by show ¬ (w < 0 ∨ w > 64); omega), if_pos]
    unfold pastParts
    have : partsT 30 = 2 := by decide
    simp only [this]
    cases e1 : isT L a <;> cases e2 : isT L b <;> simp_all
  unfold mkR
  rw [h1]; rfl
section
variable {H : Hp} {p f g : Nat} {lim : Int} {L : List Nd} {K : List (ByteArray × Int)} {sl : Value} (h : StF H p lim L K sl f g) (hR : Roomy L)
include h hR
theorem d36 (op a b : Int) : Does H p lim sl f g 36 [.int .i64 op, .int .i64 a, .int .i64 b] (binR lim L K op a b) := by
  have hrun := r36 E0 rfl (.pointer (some ⟨p, 0, none⟩)) (.int .i64 op) (.int .i64 a) (.int .i64 b) H
  unfold m36 at hrun
  have ba := wT0_bd hR a
  have bb := wT0_bd hR b
  simp only [s_eql, s_neq, s_gtr, s_geq, s_leq, s_add, s_bool, s_br, s_bind, s_bind_ite, s_next, s_exit, s_ret, s_onExit, s_head, List.getD_cons_zero, decide_eq_true_eq, s_call (c52 h.st hR.len), b023, b0123, i64_wrap (show -9223372036854775808 ≤ wT L 0 a + wT L 0 b by omega) (show wT L 0 a + wT L 0 b ≤ 9223372036854775807 by omega)] at hrun
  unfold binR
  by_cases h1 : op ≥ 6 ∧ op ≤ 13
  · rw [if_pos h1.1, if_pos h1.2] at hrun
    rw [if_pos h1]
    exact Does.wrap (d31 h hR _ (by exact nz)) hrun
  rw [if_neg h1]
  have hrun2 : RR 36 [.pointer (some ⟨p, 0, none⟩), .int .i64 op, .int .i64 a, .int .i64 b] H = if op ≥ 17 ∧ op ≤ 29 then
      pCallF RR 31 [.pointer (some ⟨p, 0, none⟩), Nd.val ⟨op, wT L 0 a, a, b, 0, 0, ⟨#[]⟩⟩] H fun r H' => pExtract r 0 fun a => pExtract r 1 fun b => some (.tuple #[a, b], H')
      else if op = 30 then pCallF RR 31 [.pointer (some ⟨p, 0, none⟩), Nd.val ⟨op, if wT L 0 a + wT L 0 b > 64 then 0 else wT L 0 a + wT L 0 b, a, b, 0, 0, ⟨#[]⟩⟩] H fun r H' => pExtract r 0 fun a => pExtract r 1 fun b => some (.tuple #[a, b], H')
      else some (.tuple #[.int .i64 0, .int .i64 73], H) := by
    refine hrun.trans ?_
    by_cases q1 : op ≥ 6 <;> by_cases q2 : op ≤ 13 <;> by_cases q3 : op ≥ 17 <;> by_cases q4 : op ≤ 29 <;> by_cases q5 : op = 30 <;> by_cases q6 : wT L 0 a + wT L 0 b > 64 <;>
      simp only [q1, q2, q3, q4, q5, q6, if_true, if_false, and_self, and_true, and_false, true_and, false_and, decide_true, decide_false, Bool.false_eq_true, s_bind, s_next] <;> first | rfl | omega
  by_cases h2 : op ≥ 17 ∧ op ≤ 29
  · rw [if_pos h2] at hrun2 ⊢
    exact Does.wrap (d31 h hR _ (by exact nz)) hrun2
  rw [if_neg h2] at hrun2 ⊢
  by_cases h3 : op = 30
  · rw [if_pos h3] at hrun2 ⊢
    exact Does.wrap (d31 h hR _ (by exact nz)) hrun2
  rw [if_neg h3] at hrun2 ⊢
  exact Does.no h hrun2
theorem d21 (op a b : Int) : Does H p lim sl f g 21 [.int .i64 op, .int .i64 a, .int .i64 b] (binR lim L K op a b) := by
  have hrun := r21 E0 rfl (.pointer (some ⟨p, 0, none⟩)) (.int .i64 op) (.int .i64 a) (.int .i64 b) H
  unfold m21 at hrun
  have ba := wT0_bd hR a
  have bb := wT0_bd hR b
  simp only [s_eql, s_neq, s_gtr, s_geq, s_leq, s_add, s_bool, s_br, s_not, s_bind, s_bind_ite, s_next, s_exit, s_ret, s_onExit, s_head, s_drop0, List.getD_cons_zero, decide_eq_true_eq, s_call (c40 h.st hR.len), s_call (c19 h.st), s_max, wT_max hR, b023, spl7, spl1, ncell1, nagg, n07, i64_wrap (show -9223372036854775808 ≤ wT L 0 a + wT L 0 b by omega) (show wT L 0 a + wT L 0 b ≤ 9223372036854775807 by omega)] at hrun
  unfold binR
  have hrun2 : RR 21 [.pointer (some ⟨p, 0, none⟩), .int .i64 op, .int .i64 a, .int .i64 b] H = if op ≥ 6 ∧ op ≤ 13 then
      pCallF RR 22 [.pointer (some ⟨p, 0, none⟩), Nd.val ⟨op, 0, a, b, 0, 0, ⟨#[]⟩⟩] H fun r H' => pExtract r 0 fun a => pExtract r 1 fun b => some (.tuple #[a, b], H')
      else if op ≥ 17 ∧ op ≤ 29 then
      pCallF RR 22 [.pointer (some ⟨p, 0, none⟩), Nd.val ⟨op, wT L 0 a, a, b, 0, 0, ⟨#[]⟩⟩] H fun r H' => pExtract r 0 fun a => pExtract r 1 fun b => some (.tuple #[a, b], H')
      else if op = 30 then pCallF RR 22 [.pointer (some ⟨p, 0, none⟩), Nd.val ⟨op, if wT L 0 a + wT L 0 b > 64 ∨ isT L a = false ∨ isT L b = false then 0 else wT L 0 a + wT L 0 b, a, b, 0, 0, ⟨#[]⟩⟩] H fun r H' => pExtract r 0 fun a => pExtract r 1 fun b => some (.tuple #[a, b], H')
      else some (.tuple #[.int .i64 0, .int .i64 73], H) := by
    refine hrun.trans ?_
    by_cases q1 : op ≥ 6 <;> by_cases q2 : op ≤ 13 <;> by_cases q3 : op ≥ 17 <;> by_cases q4 : op ≤ 29 <;> by_cases q5 : op = 30 <;> by_cases q6 : wT L 0 a + wT L 0 b > 64 <;>
      cases isT L a <;> cases isT L b <;>
      simp only [q1, q2, q3, q4, q5, q6, if_true, if_false, and_self, and_true, and_false, true_and, false_and, or_true, true_or, or_false, false_or, decide_true, decide_false, Bool.false_eq_true, Bool.true_eq_false, Bool.not_true, Bool.not_false, or_self, s_bind, s_next, s_ret, s_head, s_drop0, List.getD_cons_zero, n07] <;> first | rfl | omega
  by_cases h1 : op ≥ 6 ∧ op ≤ 13
  · rw [if_pos h1] at hrun2 ⊢
    exact Does.wrap (d22 h hR _ (by exact nz)) hrun2
  rw [if_neg h1] at hrun2 ⊢
  by_cases h2 : op ≥ 17 ∧ op ≤ 29
  · rw [if_pos h2] at hrun2 ⊢
    exact Does.wrap (d22 h hR _ (by exact nz)) hrun2
  rw [if_neg h2] at hrun2 ⊢
  by_cases h3 : op = 30
  · rw [if_pos h3] at hrun2 ⊢
    have key : mkR lim L K ⟨op, if wT L 0 a + wT L 0 b > 64 then 0 else wT L 0 a + wT L 0 b, a, b, 0, 0, ⟨#[]⟩⟩ = mkR lim L K ⟨op, if wT L 0 a + wT L 0 b > 64 ∨ isT L a = false ∨ isT L b = false then 0 else wT L 0 a + wT L 0 b, a, b, 0, 0, ⟨#[]⟩⟩ := by
      subst h3
      by_cases q : isT L a = true ∧ isT L b = true
      · have : (wT L 0 a + wT L 0 b > 64 ∨ isT L a = false ∨ isT L b = false) ↔ wT L 0 a + wT L 0 b > 64 := by simp [q.1, q.2]
        simp only [this]
      · rw [mk_past _ a b (by split <;> omega) q, mk_past _ a b (by split <;> omega) q]
    rw [key]
    exact Does.wrap (d22 h hR _ (by exact nz)) hrun2
  rw [if_neg h3] at hrun2 ⊢
  exact Does.no h hrun2
end
end Go.AM
/- The Term seat: a script's call. -/
set_option linter.unusedVariables false
set_option linter.unusedSimpArgs false
namespace Go.AM
open Go
structure OpA where
  kind : Int
  o : Int
  a : Int
  b : Int
  c : Int
  w : Int
  t : Bool
  x : Int
  name : ByteArray
  n : Nd
def OpA.cells (o : OpA) : List Value := [.int .i64 o.kind, .int .i64 o.o, .int .i64 o.a, .int .i64 o.b, .int .i64 o.c, .int .i64 o.w, .bool o.t, .int .u64 o.x, .string o.name] ++ o.n.cells
def OpA.val (o : OpA) : Value := .agg o.cells.toArray
structure OpA.Ok (o : OpA) : Prop where
  x : 0 ≤ o.x ∧ o.x < 18446744073709551616
  n : 0 ≤ o.n.num ∧ o.n.num < 18446744073709551616
section
variable {α : Type} (o : OpA) (k : Value → Option α)
theorem o0 : pCell 1 false (cellsL o.val) 0 k = k (.int .i64 o.kind) := s_cell _ 0 _ rfl k
theorem o1 : pCell 1 false (cellsL o.val) 1 k = k (.int .i64 o.o) := s_cell _ 1 _ rfl k
theorem o2 : pCell 1 false (cellsL o.val) 2 k = k (.int .i64 o.a) := s_cell _ 2 _ rfl k
theorem o3 : pCell 1 false (cellsL o.val) 3 k = k (.int .i64 o.b) := s_cell _ 3 _ rfl k
theorem o4 : pCell 1 false (cellsL o.val) 4 k = k (.int .i64 o.c) := s_cell _ 4 _ rfl k
theorem o5 : pCell 1 false (cellsL o.val) 5 k = k (.int .i64 o.w) := s_cell _ 5 _ rfl k
theorem o6 : pCell 1 false (cellsL o.val) 6 k = k (.bool o.t) := s_cell _ 6 _ rfl k
theorem o7 : pCell 1 false (cellsL o.val) 7 k = k (.int .u64 o.x) := s_cell _ 7 _ rfl k
theorem o8 : pCell 1 false (cellsL o.val) 8 k = k (.string o.name) := s_cell _ 8 _ rfl k
theorem o9 : pCell 7 true (cellsL o.val) 9 k = k o.n.val := rfl
end
/-- What a call answers, and the store behind it. -/
def askR (lim : Int) (L : List Nd) (K : List (ByteArray × Int)) (o : OpA) : Res :=
  if o.kind = 1 then mkR lim L K o.n else if o.kind = 2 then mkR lim L K (truthN o.t) else if o.kind = 3 then mkR lim L K (constN o.w o.x)
  else if o.kind = 4 then mkR lim L K (varN o.name o.w) else if o.kind = 5 then unR lim L K o.o o.a else if o.kind = 6 then binR lim L K o.o o.a o.b
  else if o.kind = 7 then mkR lim L K ⟨14, wT L 0 o.b, o.a, o.b, o.c, 0, ⟨#[]⟩⟩ else if o.kind = 8 then mkR lim L K ⟨31, o.c, o.a, 0, 0, IntKind.u64.wrap o.b, ⟨#[]⟩⟩
  else if o.kind = 9 then extR lim L K o.o o.a o.w else (0, 0, L, K)
section
variable {H : Hp} {p f g : Nat} {lim : Int} {L : List Nd} {K : List (ByteArray × Int)} {sl : Value} (h : StF H p lim L K sl f g) (hR : Roomy L)
include h hR
theorem d12 (o : OpA) (ho : o.Ok) : Does H p lim sl f g 12 [o.val] (askR lim L K o) := by
  have hrun := r12 E0 rfl (.pointer (some ⟨p, 0, none⟩)) o.val H
  unfold m12 at hrun
  simp only [s_eql, s_bool, s_br, decide_eq_true_eq, o0, o1, o2, o3, o4, o5, o6, o7, o8, o9] at hrun
  unfold askR
  by_cases k1 : o.kind = 1
  · rw [if_pos k1] at hrun ⊢
    exact Does.wrap (d22 h hR _ ho.n) hrun
  rw [if_neg k1] at hrun ⊢
  by_cases k2 : o.kind = 2
  · rw [if_pos k2] at hrun ⊢
    exact Does.wrap (d23 h hR _) hrun
  rw [if_neg k2] at hrun ⊢
  by_cases k3 : o.kind = 3
  · rw [if_pos k3] at hrun ⊢
    exact Does.wrap (d24 h hR _ _ ho.x) hrun
  rw [if_neg k3] at hrun ⊢
  by_cases k4 : o.kind = 4
  · rw [if_pos k4] at hrun ⊢
    exact Does.wrap (d20 h hR _ _) hrun
  rw [if_neg k4] at hrun ⊢
  by_cases k5 : o.kind = 5
  · rw [if_pos k5] at hrun ⊢
    exact Does.wrap (d25 h hR _ _) hrun
  rw [if_neg k5] at hrun ⊢
  by_cases k6 : o.kind = 6
  · rw [if_pos k6] at hrun ⊢
    exact Does.wrap (d21 h hR _ _ _) hrun
  rw [if_neg k6] at hrun ⊢
  by_cases k7 : o.kind = 7
  · rw [if_pos k7] at hrun ⊢
    exact Does.wrap (d26 h hR _ _ _) hrun
  rw [if_neg k7] at hrun ⊢
  by_cases k8 : o.kind = 8
  · rw [if_pos k8] at hrun ⊢
    exact Does.wrap (d27 h hR _ _ _) hrun
  rw [if_neg k8] at hrun ⊢
  by_cases k9 : o.kind = 9
  · rw [if_pos k9] at hrun ⊢
    exact Does.wrap (d28 h hR _ _ _) hrun
  rw [if_neg k9] at hrun ⊢
  exact Does.no h hrun
theorem d18 (o : OpA) (ho : o.Ok) : Does H p lim sl f g 18 [o.val] (askR lim L K o) := by
  have hrun := r18 E0 rfl (.pointer (some ⟨p, 0, none⟩)) o.val H
  unfold m18 at hrun
  simp only [s_eql, s_bool, s_br, decide_eq_true_eq, o0, o1, o2, o3, o4, o5, o6, o7, o8, o9] at hrun
  unfold askR
  by_cases k1 : o.kind = 1
  · rw [if_pos k1] at hrun ⊢
    exact Does.wrap (d31 h hR _ ho.n) hrun
  rw [if_neg k1] at hrun ⊢
  by_cases k2 : o.kind = 2
  · rw [if_pos k2] at hrun ⊢
    exact Does.wrap (d32 h hR _) hrun
  rw [if_neg k2] at hrun ⊢
  by_cases k3 : o.kind = 3
  · rw [if_pos k3] at hrun ⊢
    exact Does.wrap (d33 h hR _ _ ho.x) hrun
  rw [if_neg k3] at hrun ⊢
  by_cases k4 : o.kind = 4
  · rw [if_pos k4] at hrun ⊢
    exact Does.wrap (d34 h hR _ _) hrun
  rw [if_neg k4] at hrun ⊢
  by_cases k5 : o.kind = 5
  · rw [if_pos k5] at hrun ⊢
    exact Does.wrap (d35 h hR _ _) hrun
  rw [if_neg k5] at hrun ⊢
  by_cases k6 : o.kind = 6
  · rw [if_pos k6] at hrun ⊢
    exact Does.wrap (d36 h hR _ _ _) hrun
  rw [if_neg k6] at hrun ⊢
  by_cases k7 : o.kind = 7
  · rw [if_pos k7] at hrun ⊢
    exact Does.wrap (d37 h hR _ _ _) hrun
  rw [if_neg k7] at hrun ⊢
  by_cases k8 : o.kind = 8
  · rw [if_pos k8] at hrun ⊢
    exact Does.wrap (d38 h hR _ _ _) hrun
  rw [if_neg k8] at hrun ⊢
  by_cases k9 : o.kind = 9
  · rw [if_pos k9] at hrun ⊢
    exact Does.wrap (d39 h hR _ _ _) hrun
  rw [if_neg k9] at hrun ⊢
  exact Does.no h hrun
end
/-- A new store. -/
theorem new61 {α : Type} (lim : Int) (v w : Nat) (k : Value → Option α) : pBuild Go.Proofs.Try.prog 61 [(0, .int .i64 lim), (2, .map (some v)), (3, .map (some w))] k = k (.agg #[.int .i64 lim, .slice none 0 0, .map (some v), .map (some w)]) := bld (by kernel_rfl) k
theorem new33 {α : Type} (lim : Int) (v w : Nat) (k : Value → Option α) : pBuild Go.Proofs.Try.prog 33 [(0, .int .i64 lim), (2, .map (some v)), (3, .map (some w))] k = k (.agg #[.int .i64 lim, .slice none 0 0, .map (some v), .map (some w)]) := bld (by kernel_rfl) k
def newH (lim : Int) (H : Hp) : Hp := ((H.new (.map [])).new (.map [])).new (.cells [.int .i64 lim, .slice none 0 0, .map (some H.next), .map (some (H.next + 1))] true)
theorem newH_st (lim : Int) (H : Hp) : StF (newH lim H) (H.next + 2) lim [] [] (.slice none 0 0) H.next (H.next + 1) := by
  refine ⟨⟨?_, .inl ⟨rfl, rfl⟩⟩, ?_, ?_, by omega, by omega, by omega, ?_, ?_, ?_, fun i hi => by cases hi⟩
  · exact if_pos rfl
  · unfold newH; rw [g_new, if_neg (by show ¬ H.next = H.next + 1 + 1; omega), g_new, if_neg (by show ¬ H.next = H.next + 1; omega), g_new, if_pos rfl]; rfl
  · unfold newH; rw [g_new, if_neg (by show ¬ H.next + 1 = H.next + 1 + 1; omega), g_new]; exact if_pos rfl
  · show H.next + 2 < H.next + 1 + 1 + 1; omega
  · show H.next < H.next + 1 + 1 + 1; omega
  · show H.next + 1 < H.next + 1 + 1 + 1; omega
theorem newH_old (lim : Int) (H : Hp) (j : Nat) (hj : j < H.next) : (newH lim H).get j = H.get j := by
  unfold newH
  rw [g_new, if_neg (by show ¬ j = H.next + 1 + 1; omega), g_new, if_neg (by show ¬ j = H.next + 1; omega), g_new, if_neg (by omega)]
theorem newH_next (lim : Int) (H : Hp) : (newH lim H).next = H.next + 3 := rfl
theorem c16 (lim : Int) (H : Hp) : RR 16 [.int .i64 lim] H = if lim < 0 then some (.tuple #[.pointer none, .int .i64 1], H) else some (.tuple #[.pointer (some ⟨H.next + 2, 0, none⟩), .int .i64 0], newH lim H) := by
  refine (r16 E0 rfl _ _).trans ?_
  unfold m16
  simp only [s_lss, s_bool, s_br, decide_eq_true_eq, pNewMap, pAlloc, new61]
  rfl
theorem c17 (lim : Int) (H : Hp) : RR 17 [.int .i64 lim] H = if lim < 0 then some (.tuple #[.pointer none, .int .i64 1], H) else some (.tuple #[.pointer (some ⟨H.next + 2, 0, none⟩), .int .i64 0], newH lim H) := by
  refine (r17 E0 rfl _ _).trans ?_
  unfold m17
  simp only [s_lss, s_bool, s_br, decide_eq_true_eq, pNewMap, pAlloc, new33]
  rfl
end Go.AM
/- The abstract machine: how its heap stands to the model's world. -/
set_option linter.unusedVariables false
namespace Go.AM
open Go

structure BI where
  b : Nat
  s : Nat
  t : Nat
abbrev Bt := Nat → Option BI
def Bt.le (β β' : Bt) : Prop := ∀ i x, β i = some x → β' i = some x
theorem Bt.le_refl (β : Bt) : β.le β := fun _ _ h => h
theorem Bt.le_trans {a b c : Bt} (h : a.le b) (k : b.le c) : a.le c := fun i x e => k i x (h i x e)

/-- A value of the machine's, and the model's. -/
inductive VRel (β : Bt) : Value → Value → Prop
  | bool (b : Bool) : VRel β (.bool b) (.bool b)
  | int (k : IntKind) (n : Int) : VRel β (.int k n) (.int k n)
  | string (s : ByteArray) : VRel β (.string s) (.string s)
  | pnil : VRel β (.pointer none) (.pointer none)
  | ptr (i o : Nat) (x : BI) (h : β i = some x) : VRel β (.pointer (some ⟨i, o, none⟩)) (.pointer (some ⟨x.b, x.s + o, none⟩))
  | snil : VRel β (.slice none 0 0) (.slice none 0 0)
  | slice (i o z n c : Nat) (x : BI) (o' c' : Nat) (h : β i = some x) (hn : n ≤ c) (hc : c ≤ c') (ht : o' + c' * z ≤ x.t) (ho : 0 < c → o' = x.s + o) :
      VRel β (.slice (some ⟨i, o, some z⟩) n c) (.slice (some ⟨x.b, o', none⟩) n c')
  | mnil : VRel β (.map none) (.map none)
  | map (i : Nat) (x : BI) (h : β i = some x) : VRel β (.map (some i)) (.map (some x.b))
  | nilFunc : VRel β .nilFunc .nilFunc
  | nilIface : VRel β .nilIface .nilIface
  | iface (t : TypeId) (v v' : Value) (h : VRel β v v') : VRel β (.iface t v) (.iface t v')
  | func (fn : Fn) (fs fs' cs cs' : List Value) (hl : fs.length = fs'.length) (h : ∀ (k : Nat) v v', fs[k]? = some v → fs'[k]? = some v' → VRel β v v')
      (hl2 : cs.length = cs'.length) (h2 : ∀ (k : Nat) v v', cs[k]? = some v → cs'[k]? = some v' → VRel β v v') : VRel β (.func fn ⟨fs⟩ ⟨cs⟩) (.func fn ⟨fs'⟩ ⟨cs'⟩)
  | agg (cs cs' : List Value) (hl : cs.length = cs'.length) (h : ∀ (k : Nat) v v', cs[k]? = some v → cs'[k]? = some v' → VRel β v v') : VRel β (.agg ⟨cs⟩) (.agg ⟨cs'⟩)
  | tuple (cs cs' : List Value) (hl : cs.length = cs'.length) (h : ∀ (k : Nat) v v', cs[k]? = some v → cs'[k]? = some v' → VRel β v v') : VRel β (.tuple ⟨cs⟩) (.tuple ⟨cs'⟩)

def LRel (β : Bt) (l l' : List Value) : Prop := l.length = l'.length ∧ ∀ (k : Nat) v v', l[k]? = some v → l'[k]? = some v' → VRel β v v'

theorem VRel.mono {β β' : Bt} (hb : β.le β') {v v' : Value} (h : VRel β v v') : VRel β' v v' := by
  induction h with
  | bool b => exact .bool b
  | int k n => exact .int k n
  | string s => exact .string s
  | pnil => exact .pnil
  | ptr i o x h => exact .ptr i o x (hb _ _ h)
  | snil => exact .snil
  | slice i o z n c x o' c' h hn hc ht ho => exact .slice i o z n c x o' c' (hb _ _ h) hn hc ht ho
  | mnil => exact .mnil
  | map i x h => exact .map i x (hb _ _ h)
  | nilFunc => exact .nilFunc
  | nilIface => exact .nilIface
  | iface t v v' _ ih => exact .iface t v v' ih
  | func fn fs fs' cs cs' hl _ hl2 _ ih ih2 => exact .func fn fs fs' cs cs' hl ih hl2 ih2
  | agg cs cs' hl _ ih => exact .agg cs cs' hl ih
  | tuple cs cs' hl _ ih => exact .tuple cs cs' hl ih
theorem LRel.mono {β β' : Bt} (hb : β.le β') {l l' : List Value} (h : LRel β l l') : LRel β' l l' := ⟨h.1, fun k v v' a b => (h.2 k v v' a b).mono hb⟩

theorem LRel.nil (β : Bt) : LRel β [] [] := ⟨rfl, by simp⟩
theorem LRel.cons {β : Bt} {v v' : Value} {l l' : List Value} (h : VRel β v v') (hl : LRel β l l') : LRel β (v :: l) (v' :: l') := by
  refine ⟨by simp [hl.1], fun k a b ha hb => ?_⟩
  cases k with
  | zero => simp at ha hb; subst ha; subst hb; exact h
  | succ k => simp at ha hb; exact hl.2 k a b ha hb
theorem LRel.append {β : Bt} {a a' b b' : List Value} (h : LRel β a a') (k : LRel β b b') : LRel β (a ++ b) (a' ++ b') := by
  refine ⟨by simp [h.1, k.1], fun i v v' hv hv' => ?_⟩
  by_cases hi : i < a.length
  · rw [List.getElem?_append_left hi] at hv
    rw [List.getElem?_append_left (h.1 ▸ hi)] at hv'
    exact h.2 i v v' hv hv'
  · rw [List.getElem?_append_right (by omega)] at hv
    rw [List.getElem?_append_right (by have := h.1; omega), ← h.1] at hv'
    exact k.2 _ v v' hv hv'
theorem LRel.take {β : Bt} {a a' : List Value} (h : LRel β a a') (n : Nat) : LRel β (a.take n) (a'.take n) := by
  refine ⟨by simp [h.1], fun i v v' hv hv' => ?_⟩
  rw [List.getElem?_take] at hv hv'
  split at hv <;> simp_all
  exact h.2 i v v' hv hv'
theorem LRel.drop {β : Bt} {a a' : List Value} (h : LRel β a a') (n : Nat) : LRel β (a.drop n) (a'.drop n) := by
  refine ⟨by simp [h.1], fun i v v' hv hv' => ?_⟩
  rw [List.getElem?_drop] at hv hv'
  exact h.2 _ v v' hv hv'
theorem LRel.get {β : Bt} {a a' : List Value} (h : LRel β a a') {k : Nat} {v : Value} (hv : a[k]? = some v) : ∃ v', a'[k]? = some v' ∧ VRel β v v' := by
  have hk : k < a.length := (List.getElem?_eq_some_iff.1 hv).1
  have hk' : k < a'.length := h.1 ▸ hk
  exact ⟨a'[k], by simp [hk'], h.2 k v _ hv (by simp [hk'])⟩
theorem LRel.of_get {β : Bt} {a a' : List Value} (hl : a.length = a'.length) (h : ∀ (k : Nat) v, a[k]? = some v → ∃ v', a'[k]? = some v' ∧ VRel β v v') : LRel β a a' :=
  ⟨hl, fun k v v' hv hv' => by obtain ⟨u, hu, hr⟩ := h k v hv; rw [hv'] at hu; cases hu; exact hr⟩

theorem agg_iff {β : Bt} {cs : Array Value} {v' : Value} : VRel β (.agg cs) v' ↔ ∃ cs' : Array Value, v' = .agg cs' ∧ LRel β cs.toList cs'.toList := by
  constructor
  · intro h
    cases h with
    | agg cs cs' hl h => exact ⟨⟨cs'⟩, rfl, hl, h⟩
  · rintro ⟨cs', rfl, hl, h⟩
    obtain ⟨cs⟩ := cs
    obtain ⟨cs'⟩ := cs'
    exact .agg cs cs' hl h
theorem tuple_iff {β : Bt} {cs : Array Value} {v' : Value} : VRel β (.tuple cs) v' ↔ ∃ cs' : Array Value, v' = .tuple cs' ∧ LRel β cs.toList cs'.toList := by
  constructor
  · intro h
    cases h with
    | tuple cs cs' hl h => exact ⟨⟨cs'⟩, rfl, hl, h⟩
  · rintro ⟨cs', rfl, hl, h⟩
    obtain ⟨cs⟩ := cs
    obtain ⟨cs'⟩ := cs'
    exact .tuple cs cs' hl h

theorem VRel.one_eq {β : Bt} {v v' : Value} (h : VRel β v v') : v'.oneCell' = one v := by cases h <;> rfl
theorem VRel.cells {β : Bt} {v v' : Value} (h : VRel β v v') : LRel β (cellsL v) v'.cells.toList := by
  cases h with
  | agg cs cs' hl h => exact ⟨hl, h⟩
  | _ => simp only [cellsL, Value.cells]; exact LRel.cons (by constructor <;> assumption) (LRel.nil _)

/-! ### Worlds -/
def AObj.own : AObj → Bool
  | .cells _ o => o
  | .map _ => true
def OwnB (H : Hp) (β : Bt) (b : Nat) : Prop := ∃ i o x, H.get i = some o ∧ o.own = true ∧ β i = some x ∧ x.b = b
def ERel (β : Bt) (kv : List (Value × Value)) (es : List MapEntry) : Prop :=
  kv.length = es.length ∧ ∀ (j : Nat) k v (e : MapEntry), kv[j]? = some (k, v) → es[j]? = some e → VRel β k e.key ∧ VRel β v e.val
theorem ERel.mono {β β' : Bt} (hb : β.le β') {kv : List (Value × Value)} {es : List MapEntry} (h : ERel β kv es) : ERel β' kv es :=
  ⟨h.1, fun j k v e a b => ⟨(h.2 j k v e a b).1.mono hb, (h.2 j k v e a b).2.mono hb⟩⟩

/-- A row of cells that nobody froze. -/
def RowAt (w : World) (b t : Nat) : Prop := ∃ arr e fz, w.heap[b]? = some (.cells arr e fz) ∧ arr.size = t ∧ ∀ j, j < t → ¬ (fz.1 ≤ j ∧ j < fz.2)

structure Rel (P : Program) (w : World) (H : Hp) (β : Bt) : Prop where
  cells : ∀ i cs own, H.get i = some (.cells cs own) → ∃ x, β i = some x ∧ (∀ j v, cs[j]? = some v → ∃ v', w.cell? ⟨x.b, x.s + j, none⟩ = some v' ∧ VRel β v v') ∧
    (own = true → RowAt w x.b x.t ∧ x.s + cs.length ≤ x.t)
  maps : ∀ i kv, H.get i = some (.map kv) → ∃ x, β i = some x ∧ ∃ es clock, w.heap[x.b]? = some (.map es clock) ∧ ERel β kv es.toList ∧ (∀ e ∈ es.toList, e.born < clock)
  apart : ∀ i j o o' x y, i ≠ j → H.get i = some o → H.get j = some o' → o.own = true → β i = some x → β j = some y → x.b ≠ y.b
  fresh : ∀ i, H.next ≤ i → H.get i = none ∧ β i = none
  lt : ∀ i x, β i = some x → x.b < w.heap.size
  glob : ∀ g, g < P.globals.size → ∃ t, β g = some ⟨g, 0, t⟩

/-- What is below block number N, and not of its own, is as it was. -/
structure Ext (N : Nat) (w : World) (H : Hp) (β : Bt) (w' : World) (H' : Hp) (β' : Bt) : Prop where
  os : w'.os = w.os
  tape : w'.tape = w.tape
  output : w'.output = w.output
  size : w.heap.size ≤ w'.heap.size
  le : β.le β'
  next : H.next ≤ H'.next
  frame : ∀ b, b < N → ¬ OwnB H β b → w'.heap[b]? = w.heap[b]?
  own : ∀ b, OwnB H' β' b → N ≤ b ∨ OwnB H β b
  news : ∀ i x, β' i = some x → β i = none → N ≤ x.b ∨ OwnB H β x.b

theorem Ext.refl (N : Nat) (w : World) (H : Hp) (β : Bt) : Ext N w H β w H β :=
  ⟨rfl, rfl, rfl, Nat.le_refl _, Bt.le_refl _, Nat.le_refl _, fun _ _ _ => rfl, fun _ h => .inr h, fun i x h e => by rw [h] at e; cases e⟩
theorem Ext.weaken {M N : Nat} {w w' : World} {H H' : Hp} {β β' : Bt} (h : Ext M w H β w' H' β') (hn : N ≤ M) : Ext N w H β w' H' β' :=
  ⟨h.os, h.tape, h.output, h.size, h.le, h.next, fun b hb => h.frame b (Nat.lt_of_lt_of_le hb hn), fun b q => (h.own b q).imp (Nat.le_trans hn) id, fun i x hx e => (h.news i x hx e).imp (Nat.le_trans hn) id⟩
theorem Ext.trans {N : Nat} {w1 w2 w3 : World} {H1 H2 H3 : Hp} {β1 β2 β3 : Bt} (h : Ext N w1 H1 β1 w2 H2 β2) (k : Ext N w2 H2 β2 w3 H3 β3) : Ext N w1 H1 β1 w3 H3 β3 where
  os := k.os.trans h.os
  tape := k.tape.trans h.tape
  output := k.output.trans h.output
  size := Nat.le_trans h.size k.size
  le := Bt.le_trans h.le k.le
  next := Nat.le_trans h.next k.next
  frame := fun b hb ho => by
    have ho2 : ¬ OwnB H2 β2 b := fun q => (h.own b q).elim (fun q => by omega) ho
    rw [k.frame b hb ho2, h.frame b hb ho]
  own := fun b q => by
    rcases k.own b q with q | q
    · exact .inl q
    · exact h.own b q
  news := fun i x hx e => by
    cases hb : β2 i with
    | none =>
      rcases k.news i x hx hb with q | q
      · exact .inl q
      · exact h.own _ q
    | some y =>
      have hy := k.le i y hb
      rw [hx] at hy
      cases hy
      exact h.news i x hb e

theorem cell_iff {w : World} {b j : Nat} {v : Value} : w.cell? ⟨b, j, none⟩ = some v ↔ ∃ arr e fz, w.heap[b]? = some (.cells arr e fz) ∧ arr[j]? = some v := by
  unfold World.cell?
  constructor
  · intro h
    dsimp only at h
    split at h
    · rename_i c e fz hh; exact ⟨c, e, fz, hh, by simpa using h⟩
    · simp at h
  · rintro ⟨arr, e, fz, hh, hv⟩
    simp [hh, hv]

/-- The world with some cells of one row written. -/
structure Put (w : World) (b off : Nat) (vs : List Value) (w' : World) : Prop where
  os : w'.os = w.os
  tape : w'.tape = w.tape
  output : w'.output = w.output
  size : w'.heap.size = w.heap.size
  other : ∀ k, k ≠ b → w'.heap[k]? = w.heap[k]?
  row : ∀ arr e fz, w.heap[b]? = some (.cells arr e fz) → ∃ arr', w'.heap[b]? = some (.cells arr' e fz) ∧ arr'.size = arr.size ∧
    ∀ j, arr'[j]? = if off ≤ j ∧ j < off + vs.length then vs[j - off]? else arr[j]?

theorem Put.nil (w : World) (b off : Nat) : Put w b off [] w := ⟨rfl, rfl, rfl, rfl, fun _ _ => rfl, fun arr e fz h => ⟨arr, h, rfl, fun j => by rw [if_neg (by simp only [List.length_nil]; omega)]⟩⟩

theorem setCell_put (w : World) (b off : Nat) (v : Value) (arr : Array Value) (e : TypeId) (fz : Nat × Nat) (hw : w.heap[b]? = some (.cells arr e fz)) (ho : off < arr.size) :
    Put w b off [v] (w.setCell ⟨b, off, none⟩ v) := by
  refine ⟨rfl, rfl, rfl, by simp [World.setCell], fun k hk => ?_, fun arr' e' fz' h' => ?_⟩
  · simp only [World.setCell, Array.getElem?_modify]
    rw [if_neg (by omega)]
  · rw [hw] at h'; cases h'
    refine ⟨arr.setIfInBounds off v, ?_, by simp, fun j => ?_⟩
    · simp [World.setCell, Array.getElem?_modify, hw]
    · simp only [Array.getElem?_setIfInBounds, List.length_singleton]
      by_cases hj : off = j
      · subst hj; simp [ho]
      · rw [if_neg hj, if_neg (by omega)]

theorem Put.cons {w w1 w2 : World} {b off : Nat} {v : Value} {vs : List Value} (h : Put w b off [v] w1) (k : Put w1 b (off + 1) vs w2) : Put w b off (v :: vs) w2 := by
  refine ⟨k.os.trans h.os, k.tape.trans h.tape, k.output.trans h.output, k.size.trans h.size, fun i hi => (k.other i hi).trans (h.other i hi), fun arr e fz hw => ?_⟩
  obtain ⟨a1, h1, s1, g1⟩ := h.row arr e fz hw
  obtain ⟨a2, h2, s2, g2⟩ := k.row a1 e fz h1
  refine ⟨a2, h2, s2.trans s1, fun j => ?_⟩
  rw [g2 j, g1 j]
  simp only [List.length_cons, List.length_nil]
  by_cases c1 : off + 1 ≤ j ∧ j < off + 1 + vs.length
  · rw [if_pos c1, if_pos (by omega)]
    rw [show j - off = (j - (off + 1)) + 1 by omega]; simp
  · rw [if_neg c1]
    by_cases c2 : off = j
    · subst c2
      rw [if_pos (by omega), if_pos (by omega)]
      simp
    · rw [if_neg (by omega), if_neg (by omega)]

theorem frozen_false {w : World} {b j : Nat} {arr : Array Value} {e : TypeId} {fz : Nat × Nat} (hw : w.heap[b]? = some (.cells arr e fz)) (h : ¬ (fz.1 ≤ j ∧ j < fz.2)) : w.frozen? ⟨b, j, none⟩ = false := by
  obtain ⟨lo, hi⟩ := fz
  simp only [World.frozen?, hw]
  simp at h ⊢
  omega

theorem run_storeCells (P : Program) (b off : Nat) (arr : Array Value) (e : TypeId) (fz : Nat × Nat) (hfz : ∀ j, j < arr.size → ¬ (fz.1 ≤ j ∧ j < fz.2)) :
    ∀ (vs : List Value) (i : Nat) (w : World) (arr' : Array Value), w.heap[b]? = some (.cells arr' e fz) → arr'.size = arr.size → off + i + vs.length ≤ arr.size → (vs.all Value.oneCell') = true →
    ∃ w', (storeCells ⟨b, off, none⟩ vs i).run P w = .ok () w' ∧ Put w b (off + i) vs w'
  | [], i, w, arr', _, _, _, _ => ⟨w, by simp [storeCells], Put.nil _ _ _⟩
  | v :: vs, i, w, arr', hw, hs, hl, h1 => by
    simp only [List.all_cons, Bool.and_eq_true] at h1
    simp only [List.length_cons] at hl
    have hadd : (⟨b, off, none⟩ : Addr).add i = ⟨b, off + i, none⟩ := by unfold Addr.add; split <;> simp_all
    have hput := setCell_put w b (off + i) v arr' e fz hw (by omega)
    obtain ⟨a1, ha1, hs1, _⟩ := hput.row arr' e fz hw
    obtain ⟨w', hr, hp⟩ := run_storeCells P b off arr e fz hfz vs (i + 1) (w.setCell ⟨b, off + i, none⟩ v) a1 ha1 (by omega) (by omega) h1.2
    refine ⟨w', ?_, hput.cons (by rw [show off + i + 1 = off + (i + 1) by omega]; exact hp)⟩
    have hc : w.cell? ⟨b, off + i, none⟩ = some (arr'[off + i]'(by omega)) := cell_iff.2 ⟨arr', e, fz, hw, by simp⟩
    have hz : w.frozen? ⟨b, off + i, none⟩ = false := frozen_false hw (hfz (off + i) (by omega))
    simp only [storeCells, Sem.run_bind, hadd, run_store P w _ v _ h1.1, hc, hz, Bool.false_eq_true, if_false, Result.andThen_ok, hr]

theorem run_loadCells_rel {P : Program} {w : World} {b off : Nat} {β : Bt} {l : List Value} (h : ∀ j v, l[j]? = some v → ∃ v', w.cell? ⟨b, off + j, none⟩ = some v' ∧ VRel β v v') :
    ∃ l' : List Value, (loadCells ⟨b, off, none⟩ l.length).run P w = .ok l'.toArray w ∧ LRel β l l' := by
  have hf : ∀ j, j < l.length → w.cell? ⟨b, off + j, none⟩ = some ((w.cell? ⟨b, off + j, none⟩).getD undef) := by
    intro j hj
    obtain ⟨v', hv, _⟩ := h j l[j] (by simp [hj])
    simp [hv]
  have hadd : ∀ j, (⟨b, off, none⟩ : Addr).add j = ⟨b, off + j, none⟩ := by intro j; unfold Addr.add; split <;> simp_all
  refine ⟨(List.range l.length).map fun j => (w.cell? ⟨b, off + j, none⟩).getD undef, ?_, by simp, fun k v v' hv hv' => ?_⟩
  · rw [run_loadCells w ⟨b, off, none⟩ l.length (fun j => (w.cell? ⟨b, off + j, none⟩).getD undef) (fun j hj => by rw [hadd]; exact hf j hj)]
  · obtain ⟨u, hu, hr⟩ := h k v hv
    have hk : k < l.length := (List.getElem?_eq_some_iff.1 hv).1
    rw [List.getElem?_map, List.getElem?_range hk] at hv'
    simp [hu] at hv'
    subst hv'
    exact hr
end Go.AM
/- The Term seat: two stores behind a script. -/
set_option linter.unusedVariables false
set_option linter.unusedSimpArgs false
namespace Go.AM
open Go
/-- The objects of a store. -/
def Foot (p f g : Nat) (sl : Value) (i : Nat) : Prop := i = p ∨ i = f ∨ i = g ∨ slId sl = some i
theorem StF.foot_lt {H : Hp} {p f g : Nat} {lim : Int} {L : List Nd} {K : List (ByteArray × Int)} {sl : Value} (h : StF H p lim L K sl f g) {i : Nat} (hi : Foot p f g sl i) : i < H.next := by
  rcases hi with rfl | rfl | rfl | hi
  · exact h.lp
  · exact h.lf
  · exact h.lg
  · exact (h.sa i hi).2.2.2
theorem StF.own {H : Hp} {p f g : Nat} {lim : Int} {L : List Nd} {K : List (ByteArray × Int)} {sl : Value} (h : StF H p lim L K sl f g) {i : Nat} (hi : Foot p f g sl i) : ∃ o, H.get i = some o ∧ o.own = true := by
  rcases hi with rfl | rfl | rfl | hi
  · exact ⟨_, h.st.obj, rfl⟩
  · exact ⟨_, h.fm, rfl⟩
  · exact ⟨_, h.gm, rfl⟩
  · rcases h.st.all with ⟨_, e⟩ | ⟨j, e, hj⟩
    · rw [e] at hi; cases hi
    · rw [e] at hi; cases hi; exact ⟨_, hj, rfl⟩
theorem StF.keep {H H' : Hp} {p f g : Nat} {lim : Int} {L : List Nd} {K : List (ByteArray × Int)} {sl : Value} (h : StF H p lim L K sl f g) (hg : ∀ i, Foot p f g sl i → H'.get i = H.get i) (hn : H.next ≤ H'.next) : StF H' p lim L K sl f g := by
  refine ⟨⟨?_, ?_⟩, ?_, ?_, h.pf, h.pg, h.fg, Nat.lt_of_lt_of_le h.lp hn, Nat.lt_of_lt_of_le h.lf hn, Nat.lt_of_lt_of_le h.lg hn, fun i hi => ?_⟩
  · rw [hg p (.inl rfl)]; exact h.st.obj
  · rcases h.st.all with e | ⟨j, e, hj⟩
    · exact .inl e
    · exact .inr ⟨j, e, by rw [hg j (.inr (.inr (.inr (by rw [e]; rfl))))]; exact hj⟩
  · rw [hg f (.inr (.inl rfl))]; exact h.fm
  · rw [hg g (.inr (.inr (.inl rfl)))]; exact h.gm
  · obtain ⟨a, b, c, d⟩ := h.sa i hi
    exact ⟨a, b, c, Nat.lt_of_lt_of_le d hn⟩
theorem MkOk.foot {H H' : Hp} {p f g : Nat} {lim : Int} {sl sl' : Value} {r : Res} (h : MkOk H p lim sl f g r H' sl') {i : Nat} (hi : Foot p f g sl' i) : Foot p f g sl i ∨ H.next ≤ i := by
  rcases hi with e | e | e | e
  · exact .inl (.inl e)
  · exact .inl (.inr (.inl e))
  · exact .inl (.inr (.inr (.inl e)))
  · exact (h.own i e).imp (fun q => .inr (.inr (.inr q))) id
theorem MkOk.same {H H' : Hp} {p f g : Nat} {lim : Int} {sl sl' : Value} {r : Res} (h : MkOk H p lim sl f g r H' sl') {i : Nat} (hl : i < H.next) (hi : ¬ Foot p f g sl i) : H'.get i = H.get i :=
  h.frame i hl (fun e => hi (.inl e)) (fun e => hi (.inr (.inl e))) (fun e => hi (.inr (.inr (.inl e)))) (fun e => hi (.inr (.inr (.inr e))))
/-- Two stores of the same terms. -/
structure Two (H : Hp) (lim : Int) (L : List Nd) (K : List (ByteArray × Int)) (p f g : Nat) (sl : Value) (q f' g' : Nat) (sl' : Value) : Prop where
  a : StF H p lim L K sl f g
  b : StF H q lim L K sl' f' g'
  ap : ∀ i, Foot p f g sl i → Foot q f' g' sl' i → False

/-- A step widens no term, and adds one at the most. -/
theorem mk_w {lim : Int} {L : List Nd} {K : List (ByteArray × Int)} {n : Nd} (h : ∀ m ∈ L, 0 ≤ m.w ∧ m.w ≤ 64) : (∀ m ∈ (mkR lim L K n).2.2.1, 0 ≤ m.w ∧ m.w ≤ 64) ∧ (mkR lim L K n).2.2.1.length ≤ L.length + 1 := by
  unfold mkR
  by_cases he : errOf L K n ≠ 0
  · rw [if_pos he]; exact ⟨h, by simp⟩
  rw [if_neg he]
  split
  · exact ⟨h, by simp⟩
  · split
    · exact ⟨h, by simp⟩
    · refine ⟨fun m hm => ?_, by simp⟩
      simp only [List.mem_append, List.mem_singleton] at hm
      rcases hm with hm | rfl
      · exact h m hm
      · unfold errOf at he
        split at he
        · exact absurd (by decide) he
        · split at he
          · exact absurd (by decide) he
          · omega
theorem q_ite {Q : Res → Prop} {c : Prop} [Decidable c] {x y : Res} (h1 : Q x) (h2 : Q y) : Q (if c then x else y) := by split <;> assumption
theorem ask_ind {Q : Res → Prop} {lim : Int} {L : List Nd} {K : List (ByteArray × Int)} (hm : ∀ n, Q (mkR lim L K n)) (hn : ∀ e, Q (0, e, L, K)) (o : OpA) : Q (askR lim L K o) := by
  unfold askR unR binR extR
  repeat' first | exact hm _ | exact hn _ | refine q_ite (Q := Q) ?_ ?_
theorem ask_w {lim : Int} {L : List Nd} {K : List (ByteArray × Int)} {o : OpA} (h : ∀ m ∈ L, 0 ≤ m.w ∧ m.w ≤ 64) : (∀ m ∈ (askR lim L K o).2.2.1, 0 ≤ m.w ∧ m.w ≤ 64) ∧ (askR lim L K o).2.2.1.length ≤ L.length + 1 :=
  ask_ind (Q := fun r => (∀ m ∈ r.2.2.1, 0 ≤ m.w ∧ m.w ≤ 64) ∧ r.2.2.1.length ≤ L.length + 1) (fun n => mk_w h) (fun e => ⟨h, by simp⟩) o
/-- The stores behind a script. -/
def runR (lim : Int) : List OpA → List Nd → List (ByteArray × Int) → List Nd × List (ByteArray × Int)
  | [], L, K => (L, K)
  | o :: r, L, K => runR lim r (askR lim L K o).2.2.1 (askR lim L K o).2.2.2
/-- A script, as a slice that is only read. -/
def ScR (H : Hp) (x : Value) (os : List OpA) : Prop :=
  (os = [] ∧ x = .slice none 0 0) ∨ ∃ y, x = .slice (some ⟨y, 0, some 16⟩) os.length os.length ∧ H.get y = some (.cells (os.flatMap OpA.cells) false) ∧ y < H.next
theorem ops_len (o : OpA) : o.cells.length = 16 := rfl
theorem flat_at (os : List OpA) : ∀ i o, os[i]? = some o → ((os.flatMap OpA.cells).drop (i * 16)).take 16 = o.cells := by
  induction os with
  | nil => intro i o h; cases h
  | cons a os ih =>
    intro i o h
    rw [List.flatMap_cons]
    cases i with
    | zero => cases h; rw [Nat.zero_mul, List.drop_zero, List.take_append_of_le_length (by rw [ops_len]; omega), List.take_of_length_le (by rw [ops_len]; omega)]
    | succ i =>
      rw [List.drop_append, List.drop_of_length_le (by rw [ops_len]; omega), ops_len, List.nil_append, show (i + 1) * 16 - 16 = i * 16 by omega]
      exact ih i o h
theorem ops_flat_len (os : List OpA) : (os.flatMap OpA.cells).length = os.length * 16 := by
  induction os with
  | nil => rfl
  | cons a os ih => rw [List.flatMap_cons, List.length_append, ih, ops_len, List.length_cons]; omega
theorem ScR.at {α : Type} {H : Hp} {x : Value} {os : List OpA} (h : ScR H x os) {i : Nat} {o : OpA} (ho : os[i]? = some o) :
    ∃ y, y < H.next ∧ H.get y = some (.cells (os.flatMap OpA.cells) false) ∧ ∀ (β : Type) (k : Value → Option β), pIdx 16 x (.int .i64 (i : Int)) k = k (.pointer (some ⟨y, i * 16, none⟩)) := by
  have hlt : i < os.length := (List.getElem?_eq_some_iff.1 ho).1
  rcases h with ⟨rfl, _⟩ | ⟨y, rfl, hy⟩
  · cases ho
  · refine ⟨y, hy.2, hy.1, fun β k => ?_⟩
    unfold pIdx idxV
    have : (16 : Nat) = 16 ∧ (0 : Int) ≤ (i : Int) ∧ (i : Int) < (os.length : Int) := ⟨rfl, by omega, by omega⟩
    simp only [this, and_self, if_true, Nat.zero_add, Int.toNat_natCast]
theorem ScR.ld {α : Type} {H : Hp} {os : List OpA} {y : Nat} (h : H.get y = some (.cells (os.flatMap OpA.cells) false)) {i : Nat} {o : OpA} (ho : os[i]? = some o) (k : Value → Option α) :
    pLoad 16 true H (.pointer (some ⟨y, i * 16, none⟩)) k = k o.val := by
  have hlt : i < os.length := (List.getElem?_eq_some_iff.1 ho).1
  have h1 : i * 16 + 16 ≤ (os.flatMap OpA.cells).length := by rw [ops_flat_len]; omega
  simp only [pLoad, Hp.rdP, Hp.rd, h, rdCells, h1, if_true, flat_at os i o ho]
  rfl
theorem ScR.len {α : Type} {H : Hp} {x : Value} {os : List OpA} (h : ScR H x os) (H' : Hp) (k : Value → Option α) : pLen .sl x H' k = k (.int .i64 os.length) := by
  rcases h with ⟨rfl, rfl⟩ | ⟨y, rfl, hy⟩ <;> rfl
theorem ScR.keep {H H' : Hp} {x : Value} {os : List OpA} (h : ScR H x os) (hg : ∀ y cs, y < H.next → H.get y = some (.cells cs false) → H'.get y = some (.cells cs false)) (hn : H.next ≤ H'.next) : ScR H' x os := by
  rcases h with e | ⟨y, e, hy⟩
  · exact .inl e
  · exact .inr ⟨y, e, hg _ _ hy.2 hy.1, Nat.lt_of_lt_of_le hy.2 hn⟩
end Go.AM
/- The Term seat: Both. -/
set_option linter.unusedVariables false
set_option linter.unusedSimpArgs false
namespace Go.AM
open Go
theorem s_pnil {α : Type} {P : Program} (T : TypeId) (a : Addr) (hT : ∃ t, P.underlying T = some (.pointer t)) (k : Value → Option α) : pBin P .eql T (.pointer (some a)) (.pointer none) k = k (.bool false) := by
  obtain ⟨t, ht⟩ := hT
  have : eqT P Op.maxDepth T (.pointer (some a)) (.pointer none) = some false := by
    unfold Op.maxDepth
    simp only [eqT, ht]
  simp only [pBin, binV, eqOp, this]
theorem s_pnil0 {α : Type} {P : Program} (T : TypeId) (hT : ∃ t, P.underlying T = some (.pointer t)) (k : Value → Option α) : pBin P .eql T (.pointer none) (.pointer none) k = k (.bool true) := by
  obtain ⟨t, ht⟩ := hT
  have : eqT P Op.maxDepth T (.pointer none) (.pointer none) = some true := by
    unfold Op.maxDepth
    simp only [eqT, ht]; rfl
  simp only [pBin, binV, eqOp, this]
theorem s_bneq {α : Type} {P : Program} (T : TypeId) (a b : Bool) (hT : P.underlying T = some .bool) (k : Value → Option α) : pBin P .neq T (.bool a) (.bool b) k = k (.bool (!(a == b))) := by
  have : eqT P Op.maxDepth T (.bool a) (.bool b) = some (a == b) := by
    unfold Op.maxDepth
    simp only [eqT, hT]
  simp only [pBin, binV, eqOp, this]
theorem s_t3a {α : Type} (x y z : Value) (k : Value → Option α) : pExtract (.tuple #[x, y, z]) 0 k = k x := rfl
theorem s_t3b {α : Type} (x y z : Value) (k : Value → Option α) : pExtract (.tuple #[x, y, z]) 1 k = k y := rfl
theorem s_t3c {α : Type} (x y z : Value) (k : Value → Option α) : pExtract (.tuple #[x, y, z]) 2 k = k z := rfl
/-- One call on both stores. -/
theorem two_step {H : Hp} {lim : Int} {L : List Nd} {K : List (ByteArray × Int)} {p f g : Nat} {sl : Value} {q f' g' : Nat} {sl' : Value} (h : Two H lim L K p f g sl q f' g' sl') (hR : Roomy L) (o : OpA) (ho : o.Ok) :
    ∃ H1 H2 s1 s2, RR 12 [.pointer (some ⟨p, 0, none⟩), o.val] H = some (.tuple #[.int .i64 (askR lim L K o).1, .int .i64 (askR lim L K o).2.1], H1) ∧
      RR 18 [.pointer (some ⟨q, 0, none⟩), o.val] H1 = some (.tuple #[.int .i64 (askR lim L K o).1, .int .i64 (askR lim L K o).2.1], H2) ∧
      Two H2 lim (askR lim L K o).2.2.1 (askR lim L K o).2.2.2 p f g s1 q f' g' s2 ∧ H.next ≤ H2.next ∧ (∀ j, j < H.next → ¬ Foot p f g sl j → H1.get j = H.get j) ∧ (∀ j, j < H.next → ¬ Foot p f g sl j → ¬ Foot q f' g' sl' j → H2.get j = H.get j) ∧
      (∀ i, Foot p f g s1 i → Foot p f g sl i ∨ H.next ≤ i) ∧ (∀ i, Foot q f' g' s2 i → Foot q f' g' sl' i ∨ H.next ≤ i) := by
  obtain ⟨H1, s1, e1, m1⟩ := d12 h.a hR o ho
  have hb1 : StF H1 q lim L K sl' f' g' := h.b.keep (fun i hi => m1.same (h.b.foot_lt hi) fun hp => h.ap i hp hi) m1.next
  obtain ⟨H2, s2, e2, m2⟩ := d18 hb1 hR o ho
  have ap1 : ∀ i, Foot p f g s1 i → Foot q f' g' sl' i → False := fun i a b => by
    rcases m1.foot a with a | a
    · exact h.ap i a b
    · have := h.b.foot_lt b; omega
  refine ⟨H1, H2, s1, s2, e1, e2, ⟨m1.st.keep (fun i hi => m2.same (m1.st.foot_lt hi) fun hq => ap1 i hi hq) m2.next, m2.st, fun i a b => ?_⟩, Nat.le_trans m1.next m2.next, fun j hj a => m1.same hj a, fun j hj a b => ?_, fun i a => m1.foot a, fun i a => (m2.foot a).imp id fun c => Nat.le_trans m1.next c⟩
  · rcases m2.foot b with b | b
    · exact ap1 i a b
    · have := m1.st.foot_lt a; omega
  · rw [m2.same (Nat.lt_of_lt_of_le hj m1.next) b, m1.same hj a]
end Go.AM
/- The Term seat: Both, II. -/
set_option linter.unusedVariables false
set_option linter.unusedSimpArgs false
namespace Go.AM
open Go
theorem und23 : ∃ t, Program.underlying Go.Proofs.Try.prog 23 = some (.pointer t) := ⟨61, by kernel_rfl⟩
theorem und24 : ∃ t, Program.underlying Go.Proofs.Try.prog 24 = some (.pointer t) := ⟨33, by kernel_rfl⟩
theorem und4 : Program.underlying Go.Proofs.Try.prog 4 = some .bool := by kernel_rfl
theorem s_brf {α : Type} (x y : Option α) : br false x y = y := rfl
theorem s_brt {α : Type} (x y : Option α) : br true x y = x := rfl
/-- What may be said of a store behind a script. -/
structure Fine (os : List OpA) : Prop where
  ok : ∀ o ∈ os, o.Ok
  len : (os.length + 1) * 64 ≤ 2 ^ 47
noncomputable def step8 (p q : Nat) (x1 : Value) (l21 : List Value) (H22 : Hp) : Option Outc :=
 pLen .sl x1 H22 fun v23 =>
 pBin Go.Proofs.Try.prog .lss 3 (l21.getD 0 undef) v23 fun v24 =>
 pBool v24 fun b25 => br b25
 (pIdx 16 x1 (l21.getD 0 undef) fun p26 =>
 pLoad 16 true H22 p26 fun v27 =>
 pCallF RR 12 [.pointer (some ⟨p, 0, none⟩), v27] H22 fun r28 H29 =>
 pExtract r28 0 fun v30 =>
 pExtract r28 1 fun v31 =>
 pIdx 16 x1 (l21.getD 0 undef) fun p32 =>
 pLoad 16 true H29 p32 fun v33 =>
 pCallF RR 18 [.pointer (some ⟨q, 0, none⟩), v33] H29 fun r34 H35 =>
 pExtract r34 0 fun v36 =>
 pExtract r34 1 fun v37 =>
 pBin Go.Proofs.Try.prog .neq 3 v30 v36 fun v38 =>
 pBool v38 fun b39 => br b39
 (some (.ret, [(.tuple #[(.pointer none), (.pointer none), (.bool false)])], H35))
 (pBin Go.Proofs.Try.prog .neq 37 v31 v37 fun v40 =>
 pBool v40 fun b41 => br b41
 (some (.ret, [(.tuple #[(.pointer none), (.pointer none), (.bool false)])], H35))
 (pBin Go.Proofs.Try.prog .add 3 (l21.getD 0 undef) (.int .i64 1) fun v42 =>
 some (.next, [v42], H35))))
 (some (.exit 0, [(l21.getD 0 undef)], H22))
theorem loop8 (lim : Int) (os : List OpA) (hf : Fine os) (x : Value) (p f g q f' g' : Nat) : ∀ (k i : Nat) (L : List Nd) (K : List (ByteArray × Int)) (H : Hp) (sl sl' : Value), os.length = i + k → Two H lim L K p f g sl q f' g' sl' → (∀ m ∈ L, 0 ≤ m.w ∧ m.w ≤ 64) → L.length ≤ i → ScR H x os →
    ∃ H' s1 s2, loopD (step8 p q x) [.int .i64 (i : Int)] H = some (.exit 0, [.int .i64 (os.length : Int)], H') ∧ Two H' lim (runR lim (os.drop i) L K).1 (runR lim (os.drop i) L K).2 p f g s1 q f' g' s2 ∧
      (∀ m ∈ (runR lim (os.drop i) L K).1, 0 ≤ m.w ∧ m.w ≤ 64) ∧ (runR lim (os.drop i) L K).1.length ≤ os.length ∧ H.next ≤ H'.next ∧
      (∀ j, j < H.next → ¬ Foot p f g sl j → ¬ Foot q f' g' sl' j → H'.get j = H.get j) ∧ (∀ j, Foot p f g s1 j → Foot p f g sl j ∨ H.next ≤ j) ∧ (∀ j, Foot q f' g' s2 j → Foot q f' g' sl' j ∨ H.next ≤ j)
  | 0, i, L, K, H, sl, sl', hk, h, hw, hl, hx => by
    have hi : i = os.length := by omega
    subst hi
    refine ⟨H, sl, sl', ?_, ?_, ?_, ?_, Nat.le_refl _, fun _ _ _ _ => rfl, fun j a => .inl a, fun j a => .inl a⟩
    · rw [loopD_eq]
      have : step8 p q x [.int .i64 (os.length : Int)] H = some (.exit 0, [.int .i64 (os.length : Int)], H) := by
        unfold step8
        simp only [hx.len, s_lss, s_bool, s_br, List.getD_cons_zero, Int.lt_irrefl, decide_false, Bool.false_eq_true, if_false]
      rw [this]; rfl
    · rw [List.drop_of_length_le (Nat.le_refl _)]; exact h
    · rw [List.drop_of_length_le (Nat.le_refl _)]; exact hw
    · rw [List.drop_of_length_le (Nat.le_refl _)]; exact hl
  | k + 1, i, L, K, H, sl, sl', hk, h, hw, hl, hx => by
    have hlt : i < os.length := by omega
    have ho : os[i]? = some os[i] := by simp [hlt]
    have hmem : os[i] ∈ os := List.getElem_mem hlt
    have hlen := hf.len
    have hR : Roomy L := ⟨hw, by omega⟩
    obtain ⟨H1, H2, s1, s2, e1, e2, h2, hn, fr1, fr2, ft1, ft2⟩ := two_step h hR os[i] (hf.ok _ hmem)
    obtain ⟨y, hyl, hy, hix⟩ := hx.at (α := Unit) ho
    have hya : ¬ Foot p f g sl y := fun a => by obtain ⟨o, g1, g2⟩ := h.a.own a; rw [hy] at g1; cases g1; cases g2
    have hyb : ¬ Foot q f' g' sl' y := fun a => by obtain ⟨o, g1, g2⟩ := h.b.own a; rw [hy] at g1; cases g1; cases g2
    have hx2 : ScR H2 x os := hx.keep (fun z cs z1 z2 => by
      rw [fr2 z z1 (fun a => by obtain ⟨o, g1, g2⟩ := h.a.own a; rw [z2] at g1; cases g1; cases g2) (fun a => by obtain ⟨o, g1, g2⟩ := h.b.own a; rw [z2] at g1; cases g1; cases g2)]; exact z2) hn
    have hy1 : H1.get y = some (.cells (os.flatMap OpA.cells) false) := by rw [fr1 y hyl hya]; exact hy
    obtain ⟨w1, w2⟩ := ask_w (lim := lim) (K := K) (o := os[i]) hw
    obtain ⟨H', t1, t2, g1, g2, g3, g4, g5, g6, g7, g8⟩ := loop8 lim os hf x p f g q f' g' k (i + 1) (askR lim L K os[i]).2.2.1 (askR lim L K os[i]).2.2.2 H2 s1 s2 (by omega) h2 w1 (by omega) hx2
    have hd : os.drop i = os[i] :: os.drop (i + 1) := List.drop_eq_getElem_cons hlt
    have hr : runR lim (os.drop i) L K = runR lim (os.drop (i + 1)) (askR lim L K os[i]).2.2.1 (askR lim L K os[i]).2.2.2 := by rw [hd]; rfl
    rw [hr]
    refine ⟨H', t1, t2, ?_, g2, g3, g4, Nat.le_trans hn g5, fun j a b c => ?_, fun j a => ?_, fun j a => ?_⟩
    · rw [loopD_eq]
      have hwr : IntKind.i64.wrap ((i : Int) + 1) = ((i + 1 : Nat) : Int) := i64_wrap (by omega) (by omega)
      have : step8 p q x [.int .i64 (i : Int)] H = some (.next, [.int .i64 ((i + 1 : Nat) : Int)], H2) := by
        unfold step8
        have hil : (i : Int) < (os.length : Int) := by omega
        simp only [hx.len, s_lss, s_bool, s_br, List.getD_cons_zero, hil, decide_true, if_true, hix, ScR.ld hy ho, ScR.ld hy1 ho, s_call e1, s_call e2, s_ext0, s_ext1, s_neq, ne_eq, not_true_eq_false, decide_false, Bool.false_eq_true, if_false, s_add, hwr]
      rw [this]; exact g1
    · rw [g6 j (Nat.lt_of_lt_of_le a hn) (fun z => by rcases ft1 j z with z | z; exact b z; omega) (fun z => by rcases ft2 j z with z | z; exact c z; omega), fr2 j a b c]
    · rcases g7 j a with z | z
      · exact ft1 j z
      · exact .inr (Nat.le_trans hn z)
    · rcases g8 j a with z | z
      · exact ft2 j z
      · exact .inr (Nat.le_trans hn z)
/-- Both's answer. -/
theorem c8_neg (lim : Int) (x : Value) (H : Hp) (hl : lim < 0) : RR 8 [.int .i64 lim, x] H = some (.tuple #[.pointer none, .pointer none, .bool true], H) := by
  refine (r8 E0 rfl _ _ _).trans ?_
  unfold m8
  have e1 := c16 lim H
  have e2 := c17 lim H
  rw [if_pos hl] at e1 e2
  simp only [s_call e1, s_call e2, s_ext0, s_ext1, s_neq, s_bool, s_br, ne_eq, not_true_eq_false, decide_false, Bool.false_eq_true, if_false, s_pnil0 23 und23, s_pnil0 24 und24, s_bneq 4 _ _ und4, beq_self_eq_true, Bool.not_true, s_bind, s_next, if_true]
structure Was (lim : Int) (os : List OpA) (H H' : Hp) (p f g : Nat) (s1 : Value) (q f' g' : Nat) (s2 : Value) : Prop where
  two : Two H' lim (runR lim os [] []).1 (runR lim os [] []).2 p f g s1 q f' g' s2
  w : ∀ m ∈ (runR lim os [] []).1, 0 ≤ m.w ∧ m.w ≤ 64
  l : (runR lim os [] []).1.length ≤ os.length
  next : H.next ≤ H'.next
  old : ∀ j, j < H.next → H'.get j = H.get j
  a : ∀ j, Foot p f g s1 j → H.next ≤ j
  b : ∀ j, Foot q f' g' s2 j → H.next ≤ j
theorem c8_pos (lim : Int) (os : List OpA) (hf : Fine os) (x : Value) (H : Hp) (hx : ScR H x os) (hl : ¬ lim < 0) :
    ∃ H' p f g s1 q f' g' s2, RR 8 [.int .i64 lim, x] H = some (.tuple #[.pointer (some ⟨p, 0, none⟩), .pointer (some ⟨q, 0, none⟩), .bool true], H') ∧ Was lim os H H' p f g s1 q f' g' s2 := by
  have e1 := c16 lim H
  have e2 := c17 lim (newH lim H)
  rw [if_neg hl] at e1 e2
  have a1 := newH_st lim H
  have a2 := newH_st lim (newH lim H)
  have hn1 := newH_next lim H
  have hn2 := newH_next lim (newH lim H)
  have hft : ∀ {a b c i : Nat}, Foot a b c (.slice none 0 0) i → i = a ∨ i = b ∨ i = c := fun z => by
    rcases z with z | z | z | z
    · exact .inl z
    · exact .inr (.inl z)
    · exact .inr (.inr z)
    · cases z
  have a1' : StF (newH lim (newH lim H)) (H.next + 2) lim [] [] (.slice none 0 0) H.next (H.next + 1) := a1.keep (fun i hi => newH_old _ _ _ (a1.foot_lt hi)) (by omega)
  have two : Two (newH lim (newH lim H)) lim [] [] (H.next + 2) H.next (H.next + 1) (.slice none 0 0) ((newH lim H).next + 2) (newH lim H).next ((newH lim H).next + 1) (.slice none 0 0) :=
    ⟨a1', a2, fun i z1 z2 => by have := hft z1; have := hft z2; omega⟩
  have hold : ∀ j, j < H.next → (newH lim (newH lim H)).get j = H.get j := fun j hj => by rw [newH_old _ _ _ (by omega), newH_old _ _ _ hj]
  obtain ⟨H', t1, t2, g1, g2, g3, g4, g5, g6, g7, g8⟩ := loop8 lim os hf x (H.next + 2) H.next (H.next + 1) ((newH lim H).next + 2) (newH lim H).next ((newH lim H).next + 1) os.length 0 [] [] (newH lim (newH lim H)) _ _ (by omega) two (fun m hm => by cases hm) (by simp) (hx.keep (fun y cs h1 h2 => by rw [hold y h1]; exact h2) (by omega))
  rw [List.drop_zero] at g2 g3 g4
  refine ⟨H', _, _, _, t1, _, _, _, t2, ?_, ⟨g2, g3, g4, by omega, fun j hj => ?_, fun j hj => ?_, fun j hj => ?_⟩⟩
  · refine (r8 E0 rfl _ _ _).trans ?_
    unfold m8
    unfold step8 at g1
    rw [show ((0 : Nat) : Int) = 0 from rfl] at g1
    rw [s_call e1, s_ext0, s_ext1, s_call e2, s_ext0, s_ext1, s_neq, s_bool, decide_eq_false (by simp)]
    simp only [s_brf, s_brt, s_bool, s_pnil 23 _ und23, s_pnil 24 _ und24, s_bneq 4 _ _ und4, beq_self_eq_true, Bool.not_true, s_bind, s_next]
    rw [g1]
    rfl
  · rw [g6 j (by omega) (fun z => by have := hft z; omega) (fun z => by have := hft z; omega), hold j hj]
  · rcases g7 j hj with z | z
    · have := hft z; omega
    · omega
  · rcases g8 j hj with z | z
    · have := hft z; omega
    · omega
end Go.AM
/- The abstract machine: frames, and what steps do to the relation. -/
set_option linter.unusedVariables false
namespace Go.AM
open Go

def SRel (β : Bt) (lam : Nat → Nat) (bx : Nat → Option Bx) (s : Slot) (v' : Value) : Prop :=
  match s with
  | .unk => True
  | .und => v' = undef
  | .val v => VRel β v v'
  | .loc d off => (bx d).isSome = true ∧ v' = .pointer (some ⟨lam d, off, none⟩)
def BxRel (w : World) (β : Bt) (b : Nat) : Bx → Prop
  | .cells cs _ => ∃ arr e, w.heap[b]? = some (.cells arr e (0, 0)) ∧ LRel β cs arr.toList
  | .iter s pos => w.heap[b]? = some (.stringIter s pos)
  | .iterRo s pos => w.heap[b]? = some (.stringIter s pos)

structure FRel (N : Nat) (w : World) (bx : Nat → Option Bx) (β : Bt) (lam : Nat → Nat) (fr : Fr) (a : Act) : Prop where
  size : a.tmps.size = fr.length
  slot : ∀ d s, fr[d]? = some s → SRel β lam bx s (a.tmps.getD d undef)
  box : ∀ d c, bx d = some c → N ≤ lam d ∧ lam d < w.heap.size ∧ (∀ i x, β i = some x → x.b ≠ lam d) ∧ BxRel w β (lam d) c
  apart : ∀ d d', (bx d).isSome = true → (bx d').isSome = true → d ≠ d' → lam d ≠ lam d'
  defers : a.defers = []

theorem SRel.mono {β β' : Bt} (hb : β.le β') {lam : Nat → Nat} {bx : Nat → Option Bx} {s : Slot} {v : Value} (h : SRel β lam bx s v) : SRel β' lam bx s v := by
  cases s with
  | val u => exact VRel.mono hb h
  | _ => exact h
theorem SRel.bx {β : Bt} {lam : Nat → Nat} {bx bx' : Nat → Option Bx} (hb : ∀ d, (bx d).isSome = true → (bx' d).isSome = true) {s : Slot} {v : Value} (h : SRel β lam bx s v) : SRel β lam bx' s v := by
  cases s with
  | loc d off => exact ⟨hb d h.1, h.2⟩
  | _ => exact h
/-- What a box may become. -/
def BxLe (b b' : Option Bx) : Prop :=
  match b with
  | none => True
  | some (.cells _ false) => ∃ cs', b' = some (.cells cs' false)
  | some (.iter _ _) => ∃ s p, b' = some (.iter s p)
  | b => b' = b
theorem BxLe.refl (b : Option Bx) : BxLe b b := by
  unfold BxLe; split <;> first | trivial | exact ⟨_, rfl⟩ | exact ⟨_, _, rfl⟩ | rfl
theorem BxLe.trans {a b c : Option Bx} (h : BxLe a b) (k : BxLe b c) : BxLe a c := by
  unfold BxLe at h
  split at h
  · trivial
  · obtain ⟨cs, rfl⟩ := h; exact k
  · obtain ⟨s, p, rfl⟩ := h; exact k
  · subst h; exact k
theorem BxLe.some {a b : Option Bx} (h : BxLe a b) (ha : a.isSome = true) : b.isSome = true := by
  unfold BxLe at h
  split at h
  · cases ha
  · obtain ⟨cs, rfl⟩ := h; rfl
  · obtain ⟨s, p, rfl⟩ := h; rfl
  · subst h; exact ha
def BMv (bx : Nat → Option Bx) (lam : Nat → Nat) (bx' : Nat → Option Bx) (lam' : Nat → Nat) : Prop := ∀ d, BxLe (bx d) (bx' d) ∧ ((bx d).isSome = true → lam' d = lam d)
theorem BMv.refl (bx : Nat → Option Bx) (lam : Nat → Nat) : BMv bx lam bx lam := fun d => ⟨BxLe.refl _, fun _ => rfl⟩
theorem BMv.trans {b1 b2 b3 : Nat → Option Bx} {l1 l2 l3 : Nat → Nat} (h : BMv b1 l1 b2 l2) (k : BMv b2 l2 b3 l3) : BMv b1 l1 b3 l3 := fun d =>
  ⟨(h d).1.trans (k d).1, fun hd => ((k d).2 ((h d).1.some hd)).trans ((h d).2 hd)⟩
theorem St.setB_same (S : St) (d : Nat) (c : Option Bx) : (S.setB d c).bx d = c := by simp [St.setB]
theorem St.setB_ne (S : St) {d e : Nat} (c : Option Bx) (h : e ≠ d) : (S.setB d c).bx e = S.bx e := by simp [St.setB, h]
theorem BMv.set {S : St} {d : Nat} {lam : Nat → Nat} {c : Bx} (h : BxLe (S.bx d) (some c)) : BMv S.bx lam (S.setB d (some c)).bx lam := fun e => by
  refine ⟨?_, fun _ => rfl⟩
  by_cases q : e = d
  · subst q; rw [St.setB_same]; exact h
  · rw [St.setB_ne _ _ q]; exact BxLe.refl _
theorem BMv.new {S : St} {d : Nat} {lam : Nat → Nat} {c : Bx} {n : Nat} (h : S.bx d = none) : BMv S.bx lam (S.setB d (some c)).bx (fun j => if j = d then n else lam j) := fun e => by
  by_cases q : e = d
  · subst q; rw [h]; exact ⟨trivial, fun q => by cases q⟩
  · rw [St.setB_ne _ _ q]; exact ⟨BxLe.refl _, fun _ => if_neg q⟩
theorem BxRel.mono {β β' : Bt} (hb : β.le β') {w w' : World} {b : Nat} (hw : w'.heap[b]? = w.heap[b]?) {c : Bx} (h : BxRel w β b c) : BxRel w' β' b c := by
  cases c with
  | cells cs ro => obtain ⟨arr, e, h1, h2⟩ := h; exact ⟨arr, e, by rw [hw]; exact h1, h2.mono hb⟩
  | iter s pos => show w'.heap[b]? = _; rw [hw]; exact h
  | iterRo s pos => show w'.heap[b]? = _; rw [hw]; exact h

theorem FRel.ext {N : Nat} {w w' : World} {H H' : Hp} {bx : Nat → Option Bx} {β β' : Bt} {lam : Nat → Nat} {fr : Fr} {a : Act}
    (h : FRel N w bx β lam fr a) (hr : ∀ i x, H.get i = some x → ∃ y, β i = some y) (k : Ext w.heap.size w H β w' H' β') : FRel N w' bx β' lam fr a where
  size := h.size
  slot := fun d s hs => (h.slot d s hs).mono k.le
  box := fun d c hc => by
    obtain ⟨h1, h2, h3, h4⟩ := h.box d c hc
    have hno : ¬ OwnB H β (lam d) := fun ⟨i, o, x, _, _, hx, hb⟩ => h3 i x hx hb
    refine ⟨h1, Nat.lt_of_lt_of_le h2 k.size, fun i x hx => ?_, h4.mono k.le (k.frame _ h2 hno)⟩
    cases hb : β i with
    | none => rcases k.news i x hx hb with q | q
              · omega
              · intro e; rw [e] at q; exact hno q
    | some y => have := k.le i y hb; rw [hx] at this; cases this; exact h3 i x hb
  apart := h.apart
  defers := h.defers

theorem Rel.has {P : Program} {w : World} {H : Hp} {β : Bt} (h : Rel P w H β) (i : Nat) (o : AObj) (hi : H.get i = some o) : ∃ x, β i = some x := by
  cases o with
  | cells cs own => obtain ⟨x, hx, _⟩ := h.cells i cs own hi; exact ⟨x, hx⟩
  | map kv => obtain ⟨x, hx, _⟩ := h.maps i kv hi; exact ⟨x, hx⟩

theorem cell_congr {w w' : World} {b j : Nat} (h : w'.heap[b]? = w.heap[b]?) : w'.cell? ⟨b, j, none⟩ = w.cell? ⟨b, j, none⟩ := by
  simp only [World.cell?, h]
theorem RowAt.congr {w w' : World} {b t : Nat} (h : w'.heap[b]? = w.heap[b]?) (k : RowAt w b t) : RowAt w' b t := by
  obtain ⟨arr, e, fz, h1, h2, h3⟩ := k
  exact ⟨arr, e, fz, by rw [h]; exact h1, h2, h3⟩

/-- A world that is as it was at every object's block. -/
theorem Rel.frame {P : Program} {w w' : World} {H : Hp} {β : Bt} (h : Rel P w H β) (hs : w.heap.size ≤ w'.heap.size) (hw : ∀ i x, β i = some x → w'.heap[x.b]? = w.heap[x.b]?) : Rel P w' H β where
  cells := fun i cs own hi => by
    obtain ⟨x, hx, h1, h2⟩ := h.cells i cs own hi
    refine ⟨x, hx, fun j v hv => ?_, fun ho => ?_⟩
    · rw [cell_congr (hw i x hx)]; exact h1 j v hv
    · exact ⟨(h2 ho).1.congr (hw i x hx), (h2 ho).2⟩
  maps := fun i kv hi => by
    obtain ⟨x, hx, es, clock, h1, h2⟩ := h.maps i kv hi
    exact ⟨x, hx, es, clock, by rw [hw i x hx]; exact h1, h2⟩
  apart := h.apart
  fresh := h.fresh
  lt := fun i x hx => Nat.lt_of_lt_of_le (h.lt i x hx) hs
  glob := h.glob

theorem heap_alloc (w : World) (o : Obj) (k : Nat) (h : k < w.heap.size) : (w.alloc o).heap[k]? = w.heap[k]? := by
  show (w.heap.push o)[k]? = _
  rw [Array.getElem?_push, if_neg (by omega)]
theorem heap_alloc_new (w : World) (o : Obj) : (w.alloc o).heap[w.heap.size]? = some o := by
  show (w.heap.push o)[w.heap.size]? = _
  rw [Array.getElem?_push, if_pos rfl]

def Bt.set (β : Bt) (i : Nat) (x : BI) : Bt := fun j => if j = i then some x else β j
theorem Bt.le_set {β : Bt} {i : Nat} {x : BI} (h : β i = none) : β.le (β.set i x) := fun j y hj => by
  unfold Bt.set
  rw [if_neg (fun e => by subst e; rw [h] at hj; cases hj)]
  exact hj
theorem Bt.set_same (β : Bt) (i : Nat) (x : BI) : (β.set i x) i = some x := by simp [Bt.set]
theorem Hp.get_new (H : Hp) (o : AObj) (i : Nat) : (H.new o).get i = if i = H.next then some o else H.get i := rfl
theorem Hp.get_set (H : Hp) (j : Nat) (o : Option AObj) (i : Nat) : (H.set j o).get i = if i = j then o else H.get i := rfl

/-- An object more, in a new block of cells. -/
theorem Rel.new_cells {P : Program} {w : World} {H : Hp} {β : Bt} (h : Rel P w H β) (cs : List Value) (arr : Array Value) (e : TypeId) (fz : Nat × Nat) (n : Nat)
    (hl : LRel β cs (arr.toList.take n)) (hfz : ∀ j, j < arr.size → ¬ (fz.1 ≤ j ∧ j < fz.2)) :
    Rel P (w.alloc (.cells arr e fz)) (H.new (.cells cs true)) (β.set H.next ⟨w.heap.size, 0, arr.size⟩) ∧
    Ext w.heap.size w H β (w.alloc (.cells arr e fz)) (H.new (.cells cs true)) (β.set H.next ⟨w.heap.size, 0, arr.size⟩) := by
  have hf := (h.fresh H.next (Nat.le_refl _))
  have hle := Bt.le_set (x := ⟨w.heap.size, 0, arr.size⟩) hf.2
  have hlen : cs.length ≤ arr.size := by have := hl.1; simp at this; omega
  have hold : ∀ i x, β i = some x → (w.alloc (.cells arr e fz)).heap[x.b]? = w.heap[x.b]? := fun i x hx => heap_alloc _ _ _ (h.lt i x hx)
  refine ⟨⟨fun i ds own hi => ?_, fun i kv hi => ?_, fun i j o o' x y hij hi hj ho hx hy => ?_, fun i hi => ?_, fun i x hx => ?_, fun g hg => ?_⟩,
    ⟨rfl, rfl, rfl, by simp, hle, Nat.le_succ _, fun b hb _ => heap_alloc _ _ _ hb, fun b => ?_, fun i x hx hn => ?_⟩⟩
  · rw [Hp.get_new] at hi
    split at hi
    · rename_i hin
      cases hi
      subst hin
      refine ⟨_, Bt.set_same _ _ _, fun j v hv => ?_, fun _ => ⟨⟨arr, e, fz, heap_alloc_new _ _, rfl, hfz⟩, by simpa using hlen⟩⟩
      obtain ⟨v', hv', hr⟩ := hl.get hv
      refine ⟨v', cell_iff.2 ⟨arr, e, fz, heap_alloc_new _ _, ?_⟩, hr.mono hle⟩
      rw [List.getElem?_take] at hv'
      split at hv'
      · simpa using hv'
      · simp at hv'
    · rename_i hin
      obtain ⟨x, hx, h1, h2⟩ := h.cells i ds own hi
      refine ⟨x, hle i x hx, fun j v hv => ?_, fun ho => ⟨(h2 ho).1.congr (hold i x hx), (h2 ho).2⟩⟩
      obtain ⟨v', hv', hr⟩ := h1 j v hv
      exact ⟨v', by rw [cell_congr (hold i x hx)]; exact hv', hr.mono hle⟩
  · rw [Hp.get_new] at hi
    split at hi
    · cases hi
    · obtain ⟨x, hx, es, clock, h1, h2, h3⟩ := h.maps i kv hi
      exact ⟨x, hle i x hx, es, clock, by rw [hold i x hx]; exact h1, h2.mono hle, h3⟩
  · rw [Hp.get_new] at hi hj
    unfold Bt.set at hx hy
    split at hi
    · rename_i hin
      subst hin
      rw [if_pos rfl] at hx
      cases hx
      rw [if_neg (Ne.symm hij)] at hy
      have := h.lt j y hy
      show w.heap.size ≠ y.b
      omega
    · rename_i hin
      rw [if_neg hin] at hx
      split at hj
      · rename_i hjn
        subst hjn
        rw [if_pos rfl] at hy
        cases hy
        have := h.lt i x hx
        show x.b ≠ w.heap.size
        omega
      · rename_i hjn
        rw [if_neg hjn] at hy
        exact h.apart i j o o' x y hij hi hj ho hx hy
  · have : H.next + 1 ≤ i := hi
    rw [Hp.get_new, if_neg (by omega)]
    unfold Bt.set
    rw [if_neg (by omega)]
    exact h.fresh i (by omega)
  · unfold Bt.set at hx
    split at hx
    · cases hx; simp
    · have := h.lt i x hx; simp; omega
  · obtain ⟨t, ht⟩ := h.glob g hg
    exact ⟨t, hle g _ ht⟩
  · rintro ⟨i, o, x, hi, ho, hx, rfl⟩
    rw [Hp.get_new] at hi
    unfold Bt.set at hx
    split at hi
    · rename_i hin; rw [if_pos hin] at hx; cases hx; exact .inl (Nat.le_refl _)
    · rename_i hin; rw [if_neg hin] at hx; exact .inr ⟨i, o, x, hi, ho, hx, rfl⟩
  · unfold Bt.set at hx
    split at hx
    · cases hx; exact .inl (Nat.le_refl _)
    · rw [hn] at hx; cases hx

/-- A new map. -/
theorem Rel.new_map {P : Program} {w : World} {H : Hp} {β : Bt} (h : Rel P w H β) :
    Rel P (w.alloc (.map #[] 0)) (H.new (.map [])) (β.set H.next ⟨w.heap.size, 0, 0⟩) ∧ Ext w.heap.size w H β (w.alloc (.map #[] 0)) (H.new (.map [])) (β.set H.next ⟨w.heap.size, 0, 0⟩) := by
  have hf := (h.fresh H.next (Nat.le_refl _))
  have hle := Bt.le_set (x := ⟨w.heap.size, 0, 0⟩) hf.2
  have hold : ∀ i x, β i = some x → (w.alloc (.map #[] 0)).heap[x.b]? = w.heap[x.b]? := fun i x hx => heap_alloc _ _ _ (h.lt i x hx)
  refine ⟨⟨fun i ds own hi => ?_, fun i kv hi => ?_, fun i j o o' x y hij hi hj ho hx hy => ?_, fun i hi => ?_, fun i x hx => ?_, fun g hg => ?_⟩,
    ⟨rfl, rfl, rfl, by simp, hle, Nat.le_succ _, fun b hb _ => heap_alloc _ _ _ hb, fun b => ?_, fun i x hx hn => ?_⟩⟩
  · rw [Hp.get_new] at hi
    split at hi
    · cases hi
    · obtain ⟨x, hx, h1, h2⟩ := h.cells i ds own hi
      refine ⟨x, hle i x hx, fun j v hv => ?_, fun ho => ⟨(h2 ho).1.congr (hold i x hx), (h2 ho).2⟩⟩
      obtain ⟨v', hv', hr⟩ := h1 j v hv
      exact ⟨v', by rw [cell_congr (hold i x hx)]; exact hv', hr.mono hle⟩
  · rw [Hp.get_new] at hi
    split at hi
    · rename_i hin
      cases hi
      subst hin
      exact ⟨_, Bt.set_same _ _ _, #[], 0, heap_alloc_new _ _, ⟨rfl, by simp⟩, by simp⟩
    · obtain ⟨x, hx, es, clock, h1, h2, h3⟩ := h.maps i kv hi
      exact ⟨x, hle i x hx, es, clock, by rw [hold i x hx]; exact h1, h2.mono hle, h3⟩
  · rw [Hp.get_new] at hi hj
    unfold Bt.set at hx hy
    split at hi
    · rename_i hin
      subst hin
      rw [if_pos rfl] at hx
      cases hx
      rw [if_neg (Ne.symm hij)] at hy
      have := h.lt j y hy
      show w.heap.size ≠ y.b
      omega
    · rename_i hin
      rw [if_neg hin] at hx
      split at hj
      · rename_i hjn
        subst hjn
        rw [if_pos rfl] at hy
        cases hy
        have := h.lt i x hx
        show x.b ≠ w.heap.size
        omega
      · rename_i hjn
        rw [if_neg hjn] at hy
        exact h.apart i j o o' x y hij hi hj ho hx hy
  · have : H.next + 1 ≤ i := hi
    rw [Hp.get_new, if_neg (by omega)]
    unfold Bt.set
    rw [if_neg (by omega)]
    exact h.fresh i (by omega)
  · unfold Bt.set at hx
    split at hx
    · cases hx; simp
    · have := h.lt i x hx; simp; omega
  · obtain ⟨t, ht⟩ := h.glob g hg
    exact ⟨t, hle g _ ht⟩
  · rintro ⟨i, o, x, hi, ho, hx, rfl⟩
    rw [Hp.get_new] at hi
    unfold Bt.set at hx
    split at hi
    · rename_i hin; rw [if_pos hin] at hx; cases hx; exact .inl (Nat.le_refl _)
    · rename_i hin; rw [if_neg hin] at hx; exact .inr ⟨i, o, x, hi, ho, hx, rfl⟩
  · unfold Bt.set at hx
    split at hx
    · cases hx; exact .inl (Nat.le_refl _)
    · rw [hn] at hx; cases hx

theorem Ext.drew {N : Nat} {w w' : World} {H H' : Hp} {β β' : Bt} (h : Ext N w H β w' H' β') : Ext N w H β w'.drew H' β' :=
  ⟨h.os, h.tape, h.output, h.size, h.le, h.next, h.frame, h.own, h.news⟩
theorem Ext.of_drew {N : Nat} {w w' : World} {H H' : Hp} {β β' : Bt} (h : Ext N w.drew H β w' H' β') : Ext N w H β w' H' β' :=
  ⟨h.os, h.tape, h.output, h.size, h.le, h.next, h.frame, h.own, h.news⟩
theorem Rel.drew {P : Program} {w : World} {H : Hp} {β : Bt} (h : Rel P w H β) : Rel P w.drew H β := h.frame (Nat.le_refl _) (fun _ _ _ => rfl)
theorem FRel.drew {N : Nat} {w : World} {bx : Nat → Option Bx} {β : Bt} {lam : Nat → Nat} {fr : Fr} {a : Act} (h : FRel N w bx β lam fr a) : FRel N w.drew bx β lam fr a :=
  ⟨h.size, h.slot, h.box, h.apart, h.defers⟩

theorem spl_length (cs : List Value) (off : Nat) (vs : List Value) (h : off + vs.length ≤ cs.length) : (spl cs off vs).length = cs.length := by
  simp [spl]; omega
theorem spl_get (cs : List Value) (off : Nat) (vs : List Value) (h : off + vs.length ≤ cs.length) (j : Nat) :
    (spl cs off vs)[j]? = if off ≤ j ∧ j < off + vs.length then vs[j - off]? else cs[j]? := by
  unfold spl
  by_cases h1 : j < off
  · rw [if_neg (by omega), List.append_assoc, List.getElem?_append_left (by simp; omega), List.getElem?_take, if_pos h1]
  · by_cases h2 : j < off + vs.length
    · rw [if_pos (by omega), List.getElem?_append_left (by simp; omega), List.getElem?_append_right (by simp; omega)]
      simp; rw [Nat.min_eq_left (by omega)]
    · rw [if_neg (by omega), List.getElem?_append_right (by simp; omega), List.getElem?_drop]
      congr 1; simp; omega

/-- Some cells of an object of its own are written. -/
theorem Rel.write {P : Program} {w w' : World} {H : Hp} {β : Bt} (h : Rel P w H β) {i : Nat} {cs : List Value} {x : BI} (hi : H.get i = some (.cells cs true)) (hx : β i = some x)
    {off : Nat} {vs vs' : List Value} (hl : off + vs.length ≤ cs.length) (hv : LRel β vs vs') (hp : Put w x.b (x.s + off) vs' w') :
    Rel P w' (H.set i (some (.cells (spl cs off vs) true))) β ∧ Ext w.heap.size w H β w' (H.set i (some (.cells (spl cs off vs) true))) β := by
  obtain ⟨x', hx', h1, h2⟩ := h.cells i cs true hi
  rw [hx] at hx'; cases hx'
  obtain ⟨⟨arr, e, fz, hh, hsz, hfz⟩, hle⟩ := h2 rfl
  obtain ⟨arr', hh', hsz', hg⟩ := hp.row arr e fz hh
  have hoth : ∀ j o y, j ≠ i → H.get j = some o → β j = some y → w'.heap[y.b]? = w.heap[y.b]? := fun j o y hji hj hy =>
    hp.other _ (fun e => h.apart i j _ _ x y (Ne.symm hji) hi hj rfl hx hy e.symm)
  have hvl := hv.1
  refine ⟨⟨fun j ds own hj => ?_, fun j kv hj => ?_, fun j k o o' y z hjk hj hk ho hy hz => ?_, fun j hj => ?_, fun j y hy => ?_, h.glob⟩,
    ⟨hp.os, hp.tape, hp.output, by rw [hp.size]; exact Nat.le_refl _, Bt.le_refl _, Nat.le_refl _, fun b hb ho => ?_, fun b => ?_, fun j y hy hn => by rw [hn] at hy; cases hy⟩⟩
  · rw [Hp.get_set] at hj
    split at hj
    · rename_i hji
      cases hj
      subst hji
      refine ⟨x, hx, fun k v hk => ?_, fun _ => ⟨⟨arr', e, fz, hh', by omega, fun q hq => hfz q hq⟩, by rw [spl_length _ _ _ hl]; exact hle⟩⟩
      rw [spl_get _ _ _ hl] at hk
      split at hk
      · rename_i hc
        obtain ⟨v', hv', hr⟩ := hv.get hk
        refine ⟨v', cell_iff.2 ⟨arr', e, fz, hh', ?_⟩, hr⟩
        rw [hg, if_pos (by omega)]
        rw [show x.s + k - (x.s + off) = k - off by omega]; exact hv'
      · rename_i hc
        obtain ⟨v', hv', hr⟩ := h1 k v hk
        refine ⟨v', cell_iff.2 ⟨arr', e, fz, hh', ?_⟩, hr⟩
        obtain ⟨a2, e2, f2, g2, g3⟩ := cell_iff.1 hv'
        rw [hh] at g2; cases g2
        rw [hg, if_neg (by omega)]; exact g3
    · rename_i hji
      obtain ⟨y, hy, h3, h4⟩ := h.cells j ds own hj
      have hw := hoth j _ y hji hj hy
      refine ⟨y, hy, fun k v hk => ?_, fun ho => ⟨(h4 ho).1.congr hw, (h4 ho).2⟩⟩
      obtain ⟨v', hv', hr⟩ := h3 k v hk
      exact ⟨v', by rw [cell_congr hw]; exact hv', hr⟩
  · rw [Hp.get_set] at hj
    split at hj
    · cases hj
    · rename_i hji
      obtain ⟨y, hy, es, clock, h3, h4⟩ := h.maps j kv hj
      exact ⟨y, hy, es, clock, by rw [hoth j _ y hji hj hy]; exact h3, h4⟩
  · rw [Hp.get_set] at hj hk
    have hj' : ∃ o2, H.get j = some o2 ∧ o2.own = true := by
      split at hj
      · rename_i e; subst e; exact ⟨_, hi, rfl⟩
      · exact ⟨o, hj, ho⟩
    have hk' : ∃ o2, H.get k = some o2 := by
      split at hk
      · rename_i e; subst e; exact ⟨_, hi⟩
      · exact ⟨_, hk⟩
    obtain ⟨o2, g1, g2⟩ := hj'
    obtain ⟨o3, g3⟩ := hk'
    exact h.apart j k o2 o3 y z hjk g1 g3 g2 hy hz
  · have := h.fresh j hj
    rw [Hp.get_set, if_neg (fun e => by subst e; rw [hi] at this; cases this.1)]
    exact this
  · rw [hp.size]; exact h.lt j y hy
  · exact hp.other b (fun e => by subst e; exact ho ⟨i, _, x, hi, rfl, hx, rfl⟩)
  · rintro ⟨j, o, y, hj, ho, hy, rfl⟩
    rw [Hp.get_set] at hj
    split at hj
    · rename_i e; subst e; rw [hx] at hy; cases hy; exact .inr ⟨_, _, x, hi, rfl, hx, rfl⟩
    · exact .inr ⟨j, o, y, hj, ho, hy, rfl⟩

/-- An object is given up. -/
theorem Rel.kill {P : Program} {w : World} {H : Hp} {β : Bt} (h : Rel P w H β) (i : Nat) : Rel P w (H.set i none) β ∧ Ext w.heap.size w H β w (H.set i none) β := by
  refine ⟨⟨fun j ds own hj => ?_, fun j kv hj => ?_, fun j k o o' y z hjk hj hk ho hy hz => ?_, fun j hj => ?_, h.lt, h.glob⟩,
    ⟨rfl, rfl, rfl, Nat.le_refl _, Bt.le_refl _, Nat.le_refl _, fun _ _ _ => rfl, fun b => ?_, fun j y hy hn => by rw [hn] at hy; cases hy⟩⟩
  · rw [Hp.get_set] at hj; split at hj
    · cases hj
    · exact h.cells j ds own hj
  · rw [Hp.get_set] at hj; split at hj
    · cases hj
    · exact h.maps j kv hj
  · rw [Hp.get_set] at hj hk
    split at hj
    · cases hj
    · split at hk
      · cases hk
      · exact h.apart j k o o' y z hjk hj hk ho hy hz
  · have := h.fresh j hj
    rw [Hp.get_set]; split
    · exact ⟨rfl, this.2⟩
    · exact this
  · rintro ⟨j, o, y, hj, ho, hy, rfl⟩
    rw [Hp.get_set] at hj; split at hj
    · cases hj
    · exact .inr ⟨j, o, y, hj, ho, hy, rfl⟩
end Go.AM
/- The abstract machine: what acts acts on one part; what reads reads one. -/
set_option linter.unusedVariables false
namespace Go.AM
open Go

def sameOn (t : Option Nat) (S S2 : St) : Prop := match t with | none => S2.hp = S.hp | some d => S2.bx d = S.bx d
def TagR (t : Option Nat) (S S' : St) : Prop := match t with | none => S'.bx = S.bx | some e => S'.hp = S.hp ∧ ∀ d, d ≠ e → S'.bx d = S.bx d
theorem TagR.other {t u : Option Nat} {S S' : St} (h : TagR t S S') (hn : sameTag u t = false) : sameOn u S S' := by
  cases t with
  | none => cases u with
    | none => cases hn
    | some d => exact congrFun h d
  | some e => cases u with
    | none => exact h.1
    | some d => exact h.2 d (fun q => by subst q; simp [sameTag] at hn)

section
theorem heap_tag {C : Ctx} {fr : Fr} {S S' : St} {o : Oper} {s : Slot} (h : opR C fr S o = some (s, S')) (k : opR C fr S o = (opR C fr S o).bind fun p => some (p.1, (⟨S.bx, p.2.hp⟩ : St))) : S'.bx = S.bx := by
  rw [h] at k
  simp only [Option.bind_some, Option.some.injEq, Prod.mk.injEq, true_and] at k
  rw [k]
theorem box_tag {C : Ctx} {fr : Fr} {S S' : St} {o : Oper} {s : Slot} (e : Nat) (h : opR C fr S o = some (s, S')) (k : opR C fr S o = (opR C fr S o).bind fun p => some (p.1, S.setB e (p.2.bx e))) : S'.hp = S.hp ∧ ∀ d, d ≠ e → S'.bx d = S.bx d := by
  rw [h] at k
  simp only [Option.bind_some, Option.some.injEq, Prod.mk.injEq, true_and] at k
  rw [k]
  exact ⟨rfl, fun d hd => St.setB_ne _ _ hd⟩
theorem setB_leaf (s : Slot) (S : St) (e : Nat) (c : Option Bx) : some (s, S.setB e c) = (some (s, S.setB e c)).bind fun p => some (p.1, S.setB e (p.2.bx e)) := by
  simp [St.setB]
theorem self_leaf (s : Slot) (S : St) (e : Nat) : some (s, S) = (some (s, S)).bind fun p => some (p.1, S.setB e (p.2.bx e)) := by
  have : S.setB e (S.bx e) = S := by
    unfold St.setB
    have : (fun j => if j = e then S.bx e else S.bx j) = S.bx := by
      funext j; split
      · rename_i q; rw [q]
      · rfl
    rw [this]
  simp [this]

def boxTag (C : Ctx) (d : Option Nat) : Option Nat := match d with | some d => (match (C.O.loc C.f).elem d with | true => some d | false => none) | none => none
theorem newBox_tag {C : Ctx} {S S' : St} {d : Option Nat} {cs : List Value} {s : Slot} (h : newBox C S d cs (fun s S' => some (s, S')) = some (s, S')) : TagR (boxTag C d) S S' := by
  unfold newBox at h
  rcases d with _ | d
  · cases h
  · dsimp only at h
    unfold boxTag
    cases he : (C.O.loc C.f).elem d with
    | true =>
      rw [he] at h
      dsimp only at h ⊢
      rw [he]
      rcases hb : S.bx d with _ | b
      · rw [hb] at h
        cases h
        exact ⟨rfl, fun e hne => St.setB_ne _ _ hne⟩
      · rw [hb] at h; cases h
    | false =>
      rw [he] at h
      dsimp only at h ⊢
      rw [he]
      cases h
      rfl

theorem eff_tag {C : Ctx} {fr : Fr} {S S' : St} {o : Oper} {s : Slot} (h : opR C fr S o = some (s, S')) (hk : kindOf C.P o.op = .eff) : TagR (tagOf C fr o) S S' := by
  have h0 := h
  unfold opR opC at h
  dsimp only at h
  unfold tagOf
  cases hop : o.op <;> rw [hop] at h hk <;> (try dsimp only at h) <;> (try cases h; done) <;> (try cases hk; done)
  case alloc T =>
    obtain ⟨z, hz⟩ : ∃ z, newBox C S o.dst (cellsL z) (fun s S' => some (s, S')) = some (s, S') := by
      unfold zeroC at h
      split at h
      · cases h
      · split at h
        · cases h
        · rename_i z _
          split at h
          · dsimp only at h
            split at h
            · exact ⟨z, h⟩
            · cases h
          · cases h
    exact (newBox_tag hz : TagR (boxTag C o.dst) S S')
  case box T x =>
    unfold sV at h
    split at h
    · exact (newBox_tag h : TagR (boxTag C o.dst) S S')
    · cases h
  case buildSlice T n p =>
    refine heap_tag h0 ?_
    unfold opR opC
    rw [hop]
    try dsimp only
    exact evs_nat _ fun v => sliceC_nat fun _ _ _ => pBuildSlice_nat fun _ _ => rfl
  case insert T m key x =>
    refine heap_tag h0 ?_
    unfold opR opC
    rw [hop]
    try dsimp only
    exact sV_nat fun m => sV_nat fun key => sV_nat fun x => mapC_nat fun _ _ => pUpd_nat fun _ => rfl
  case convert src dst x =>
    refine heap_tag h0 ?_
    unfold opR opC
    rw [hop]
    try dsimp only
    exact sV_nat fun x => convert_nat (fun _ => rfl) (fun _ _ => rfl)
  case makeMap T x =>
    refine heap_tag h0 ?_
    unfold opR opC
    rw [hop]
    try dsimp only
    cases x <;> rfl
  case makeSlice T l c =>
    refine heap_tag h0 ?_
    unfold opR opC
    rw [hop]
    try dsimp only
    exact sV_nat fun l => sV_nat fun c => sliceC_nat fun _ _ _ => pMakeSlice_nat fun _ _ => rfl
  case mapUpdate T m key x =>
    refine heap_tag h0 ?_
    unfold opR opC
    rw [hop]
    try dsimp only
    exact sV_nat fun m => sV_nat fun key => sV_nat fun x => mapC_nat fun _ _ => pUpd_nat fun _ => rfl
  case call c =>
    refine heap_tag h0 ?_
    unfold opR opC
    rw [hop]
    try dsimp only
    rcases c.callee with fo | ⟨rv, m⟩ | b
    · exact sV_nat fun fv => evs_nat _ fun vs => pCall_nat fun _ _ => rfl
    · rfl
    · refine evs_nat _ fun vs => ?_
      generalize c.argTypes.toList = ts
      cases b <;> (try dsimp only) <;> first | rfl | exact pMM_nat fun _ => rfl | skip
      all_goals
        rcases vs with _ | ⟨x, _ | ⟨y, _ | ⟨z, vs⟩⟩⟩ <;> rcases ts with _ | ⟨t, _ | ⟨u, _ | ⟨t3, ts⟩⟩⟩ <;> (try dsimp only) <;> first | rfl | skip
      · refine sliceC_nat fun sz bytes _ => ?_
        rcases C.P.underlying u with _ | d
        · rfl
        · cases d <;> first | rfl | exact pAppend_nat fun _ _ => rfl
      · exact sliceC_nat fun sz _ _ => pCopy_nat fun _ _ => rfl
      · exact mapC_nat fun kt _ => pDel_nat fun _ => rfl
      · rcases C.P.underlying t with _ | d
        · rfl
        · dsimp only
          rcases lenK d with _ | q
          · rfl
          · exact pLen_nat fun _ => rfl

  case store T a x =>
    dsimp only
    cases he : ev C.P.globals.size fr a with
    | loc d off =>
      refine box_tag d h0 ?_
      unfold opR opC
      rw [hop]
      dsimp only
      refine sV_nat fun v => tyC_nat fun n agg => ?_
      rw [he]
      dsimp only
      rcases S.bx d with _ | b
      · rfl
      · cases b with
        | cells cs ro => cases ro <;> first | rfl | exact pSplice_nat fun _ => setB_leaf _ _ _ _
        | _ => rfl
    | _ =>
      refine heap_tag h0 ?_
      unfold opR opC
      rw [hop]
      dsimp only
      refine sV_nat fun v => tyC_nat fun n agg => ?_
      rw [he]
      first | rfl | exact pStore_nat fun _ => rfl
  case range T x =>
    dsimp only
    rcases hd : o.dst with _ | d
    · refine heap_tag h0 ?_
      unfold opR opC
      rw [hop]
      dsimp only
      refine sV_nat fun x => ?_
      rw [hd]
      rcases C.P.underlying T with _ | d
      · rfl
      · cases d <;> rfl
    · refine box_tag d h0 ?_
      unfold opR opC
      rw [hop]
      dsimp only
      refine sV_nat fun x => ?_
      rw [hd]
      rcases C.P.underlying T with _ | dd
      · rfl
      · cases dd <;> first | rfl | skip
        dsimp only
        rcases S.bx d with _ | b
        · exact pStrC_nat fun _ => setB_leaf _ _ _ _
        · rfl
  case next it b =>
    dsimp only
    cases b with
    | false => cases h
    | true =>
    try dsimp only at h
    cases he : ev C.P.globals.size fr it with
    | loc d off =>
      rw [he] at h
      cases off with
      | succ n => cases h
      | zero =>
        have h : (match S.bx d with
            | some (.iter s pos) => br (Nat.blt pos s.size) (some ((Slot.val (.tuple #[.bool true, .int .i64 pos, .int .i32 (Utf8.decode s pos).1])), (S.setB d (some (.iter s (pos + (Utf8.decode s pos).2)))))) (some ((Slot.val (.tuple #[.bool false])), S))
            | _ => none) = some (s, S') := h
        refine ⟨?_, fun e hne => ?_⟩
        · rcases hb : S.bx d with _ | b
          · rw [hb] at h; cases h
          · rw [hb] at h
            cases b with
            | iter st pos =>
              dsimp only at h
              unfold br at h
              split at h <;> cases h <;> rfl
            | _ => cases h
        · rcases hb : S.bx d with _ | b
          · rw [hb] at h; cases h
          · rw [hb] at h
            cases b with
            | iter st pos =>
              dsimp only at h
              unfold br at h
              split at h
              · cases h; exact St.setB_ne _ _ hne
              · cases h; rfl
            | _ => cases h
    | _ => rw [he] at h; cases h

theorem opR_pr {C : Ctx} {fr : Fr} {S S' S2 : St} {o : Oper} {s : Slot} (h : opR C fr S o = some (s, S')) (hp : kindOf C.P o.op = .pure ∨ (kindOf C.P o.op = .read ∧ S2 = S)) :
    S' = S ∧ opR C fr S2 o = some (s, S2) := by
  unfold opR at h
  rw [opC_pr C fr S S2 o _ hp] at h
  have hs : opC C fr S2 o (fun s _ => some s) = some s ∧ S = S' := by
    cases hq : opC C fr S2 o (fun s _ => some s) with
    | none => rw [hq] at h; cases h
    | some q => rw [hq] at h; cases h; exact ⟨rfl, rfl⟩
  refine ⟨hs.2.symm, ?_⟩
  unfold opR
  rw [opC_pr C fr S2 S2 o _ (hp.imp id fun q => ⟨q.1, rfl⟩), hs.1]
  rfl

/-- A reading in a state whose part that is read is the same. -/
theorem read_same {C : Ctx} {fr : Fr} {S S2 : St} {o : Oper} {s : Slot} (h : opR C fr S o = some (s, S)) (hk : kindOf C.P o.op = .read) (hs : sameOn (tagOf C fr o) S S2) : opR C fr S2 o = some (s, S2) := by
  have key : opC C fr S2 o (fun s _ => some s) = opC C fr S o (fun s _ => some s) := by
    unfold opC
    dsimp only
    unfold tagOf at hs
    cases hop : o.op <;> rw [hop] at hk hs <;> (try dsimp only) <;> (try cases hk; done)
    case load T a =>
      dsimp only at hs
      cases he : ev C.P.globals.size fr a with
      | loc d off =>
        rw [he] at hs
        have hs : S2.bx d = S.bx d := hs
        dsimp only
        rw [hs]
      | val p =>
        rw [he] at hs
        have hs : S2.hp = S.hp := hs
        dsimp only
        rw [hs]
      | _ => rfl
    case lookup T m key ok =>
      have hs : S2.hp = S.hp := hs
      rw [hs]
    case convert src dst x =>
      unfold kindOf at hk
      dsimp only at hk
      split at hk <;> cases hk
    case call c =>
      obtain ⟨callee, args, ats⟩ := c
      rcases callee with fo | ⟨rv, m⟩ | b
      · cases hk
      · rfl
      · have hs : S2.hp = S.hp := hs
        cases b <;> first | cases hk; done | skip
        rw [hs]
  unfold opR at h ⊢
  rw [opC_pr C fr S S o _ (.inr ⟨hk, rfl⟩)] at h
  rw [opC_pr C fr S2 S2 o _ (.inr ⟨hk, rfl⟩), key]
  cases hq : opC C fr S o (fun s _ => some s) with
  | none => rw [hq] at h; cases h
  | some q => rw [hq] at h; cases h; rfl

theorem chk_some {α : Type} {p : Prop} {k : Option α} {r : α} (h : chk p k = some r) : p ∧ k = some r := by
  unfold chk at h
  split at h
  · exact ⟨by assumption, h⟩
  · cases h

theorem evs_some {α : Type} {G : Nat} {fr : Fr} {r : α} : ∀ (xs : List Operand) (f : List Value → Option α), evs G fr xs f = some r → ∃ vs, f vs = some r ∧ ∀ {γ : Type} (g : List Value → Option γ), evs G fr xs g = g vs
  | [], f, h => ⟨[], h, fun g => rfl⟩
  | x :: xs, f, h => by
    unfold evs at h
    unfold sV at h
    split at h
    · rename_i v hv
      obtain ⟨vs, h1, h2⟩ := evs_some xs _ h
      refine ⟨v :: vs, h1, fun g => ?_⟩
      unfold evs
      rw [hv]
      exact h2 _
    · cases h

theorem again_ok {α : Type} {C : Ctx} {fr : Fr} {S S2 : St} {o : Oper} {s : Slot} {k : Option α} {r : α} (h : opR C fr S o = some (s, S)) (hk : kindOf C.P o.op = .read) (ha : again C fr S2 o s k = some r) : k = some r ∧ opR C fr S2 o = some (s, S2) := by
  have key : k = some r ∧ opC C fr S2 o (fun s _ => some s) = some s := by
    unfold again at ha
    dsimp only at ha
    split at ha
    · rename_i v
      unfold opC
      dsimp only
      split at ha
      · rename_i T a hop
        rw [hop]
        dsimp only
        unfold tyC at ha ⊢
        split at ha
        · cases ha
        · split at ha
          · cases ha
          · rename_i i hi _ d hd
            dsimp only at ha ⊢
            split at ha
            · rename_i d off he
              try dsimp only at ha ⊢
              split at ha
              · rename_i cs ro hb
                obtain ⟨h1, h2⟩ := chk_some ha
                exact ⟨h2, by (try dsimp only); unfold pCell; rw [h1]⟩
              · cases ha
            · rename_i p he
              obtain ⟨h1, h2⟩ := chk_some ha
              exact ⟨h2, by (try dsimp only); unfold pLoad; rw [h1]⟩
            · cases ha
      · rename_i T m key ok hop
        rw [hop]
        dsimp only
        unfold sV at ha ⊢
        split at ha
        · rename_i mv hm
          split at ha
          · rename_i kv hkv
            simp only [hm, hkv]
            unfold mapC zeroC at ha ⊢
            split at ha
            · rename_i kt et hu
              split at ha
              · rename_i hko
                split at ha
                · cases ha
                · rename_i i hi
                  split at ha
                  · cases ha
                  · rename_i z hz
                    split at ha
                    · rename_i hc
                      obtain ⟨h1, h2⟩ := chk_some ha
                      refine ⟨h2, ?_⟩
                      simp only [hu, hko, hi, hz, hc]
                      unfold pLook at h1 ⊢
                      split at h1
                      · dsimp only
                        split at h1 <;> cases h1 <;> rfl
                      · cases h1
                    · cases ha
              · cases ha
            · cases ha
          · cases ha
        · cases ha
      · rename_i c hop
        rw [hop] at hk ⊢
        obtain ⟨callee, args, ats⟩ := c
        rcases callee with fo | ⟨rv, m⟩ | b
        · cases hk
        · cases hk
        · cases b <;> first | cases hk; done | skip
          obtain ⟨vs, h1, h2⟩ := evs_some _ _ ha
          refine (?_ : k = some r ∧ evs C.P.globals.size fr args.toList _ = some (Slot.val v))
          rw [h2]
          generalize ats.toList = ts at h1 ⊢
          rcases vs with _ | ⟨x, _ | ⟨y, vs⟩⟩ <;> rcases ts with _ | ⟨t, _ | ⟨u, ts⟩⟩ <;> (try cases h1; done)
          dsimp only at h1 ⊢
          rcases hu : C.P.underlying t with _ | d
          · rw [hu] at h1; cases h1
          · rw [hu] at h1
            dsimp only at h1 ⊢
            rcases hq : lenK d with _ | q
            · rw [hq] at h1; cases h1
            · rw [hq] at h1
              dsimp only at h1 ⊢
              obtain ⟨g1, g2⟩ := chk_some h1
              refine ⟨g2, ?_⟩
              unfold pLen
              rw [g1]
      · cases ha
    · cases ha
  refine ⟨key.1, ?_⟩
  unfold opR
  rw [opC_pr C fr S2 S2 o _ (.inr ⟨hk, rfl⟩), key.2]
  rfl
end
end Go.AM
/- The abstract machine: operations look at their operands alone; guards; what comes before what. -/
set_option linter.unusedVariables false
namespace Go.AM
open Go

theorem evs_congr {α : Type} {G : Nat} {fr fr' : Fr} : ∀ (xs : List Operand) (k : List Value → Option α), (∀ x ∈ xs, ev G fr x = ev G fr' x) → evs G fr xs k = evs G fr' xs k
  | [], k, h => rfl
  | x :: xs, k, h => by
    unfold evs
    rw [h x (List.mem_cons_self ..)]
    congr 1
    funext v
    exact evs_congr xs _ fun y hy => h y (List.mem_cons_of_mem _ hy)
theorem optV_congr {α : Type} {G : Nat} {fr fr' : Fr} (x : Option Operand) (k : Option Value → Option α) (h : ∀ y, x = some y → ev G fr y = ev G fr' y) : optV G fr x k = optV G fr' x k := by
  cases x with
  | none => rfl
  | some x => unfold optV; dsimp only; rw [h x rfl]

theorem opR_congr {C : Ctx} {fr fr' : Fr} {S : St} {o : Oper} (h : ∀ x ∈ o.op.operands, ev C.P.globals.size fr x = ev C.P.globals.size fr' x) : opR C fr S o = opR C fr' S o := by
  unfold opR opC
  dsimp only
  cases hop : o.op <;> rw [hop] at h <;> (try dsimp only) <;> (try rfl)
  case move x =>
    have hx := h x (by simp [Op.operands])
    simp only [hx]
  case assign x =>
    have hx := h x (by simp [Op.operands])
    simp only [hx]
  case pick c a b =>
    have hc := h c (by simp [Op.operands])
    have ha := h a (by simp [Op.operands])
    have hb := h b (by simp [Op.operands])
    simp only [hc, ha, hb]
  case box T x =>
    have hx := h x (by simp [Op.operands])
    simp only [hx]
  case insert T m y x =>
    have hm := h m (by simp [Op.operands])
    have hy := h y (by simp [Op.operands])
    have hx := h x (by simp [Op.operands])
    simp only [hm, hy, hx]
  case load T a =>
    have ha := h a (by simp [Op.operands])
    simp only [ha]
  case store T a x =>
    have ha := h a (by simp [Op.operands])
    have hx := h x (by simp [Op.operands])
    simp only [ha, hx]
  case nilCheck x =>
    have hx := h x (by simp [Op.operands])
    simp only [hx]
  case binOp op T x y T' =>
    have hx := h x (by simp [Op.operands])
    have hy := h y (by simp [Op.operands])
    simp only [hx, hy]
  case unOp op T x =>
    have hx := h x (by simp [Op.operands])
    simp only [hx]
  case convert src dst x =>
    have hx := h x (by simp [Op.operands])
    simp only [hx]
  case makeSlice T l c =>
    have hl := h l (by simp [Op.operands])
    have hc := h c (by simp [Op.operands])
    simp only [hl, hc]
  case fieldAddr T x f =>
    have hx := h x (by simp [Op.operands])
    simp only [hx]
  case field T x f =>
    have hx := h x (by simp [Op.operands])
    simp only [hx]
  case indexAddr T x i =>
    have hx := h x (by simp [Op.operands])
    have hi := h i (by simp [Op.operands])
    simp only [hx, hi]
  case index T x i =>
    have hx := h x (by simp [Op.operands])
    have hi := h i (by simp [Op.operands])
    simp only [hx, hi]
  case lookup T m y ok =>
    have hm := h m (by simp [Op.operands])
    have hy := h y (by simp [Op.operands])
    simp only [hm, hy]
  case mapUpdate T m y x =>
    have hm := h m (by simp [Op.operands])
    have hy := h y (by simp [Op.operands])
    have hx := h x (by simp [Op.operands])
    simp only [hm, hy, hx]
  case range T x =>
    have hx := h x (by simp [Op.operands])
    simp only [hx]
  case next x b =>
    have hx := h x (by simp [Op.operands])
    cases b with
    | false => rfl
    | true => dsimp only; rw [hx]
  case extract t i =>
    have ht := h t (by simp [Op.operands])
    simp only [ht]
  case build T p =>
    refine evs_congr _ _ fun x hx => h x ?_
    simp only [Op.operands]
    exact List.mem_toArray.2 hx
  case buildSlice T n p =>
    refine evs_congr _ _ fun x hx => h x ?_
    simp only [Op.operands]
    exact List.mem_toArray.2 hx
  case makeFunc fn first captured =>
    rw [evs_congr first.toList _ fun x hx => h x (by simp [Op.operands]; exact .inl (by simpa using hx))]
    congr 1
    funext fs
    exact evs_congr captured.toList _ fun x hx => h x (by simp [Op.operands]; exact .inr (by simpa using hx))
  case makeMap T x => cases x <;> rfl
  case slice T x lo hi mx =>
    have hx := h x (by simp [Op.operands])
    cases mx with
    | some m => rfl
    | none =>
      dsimp only
      rw [hx]
      congr 1
      funext v
      rw [optV_congr lo _ fun y hy => h y (by subst hy; simp [Op.operands])]
      congr 1
      funext l
      rw [optV_congr hi _ fun y hy => h y (by subst hy; simp [Op.operands])]
  case call c =>
    obtain ⟨callee, args, ats⟩ := c
    have ha : ∀ x ∈ args.toList, ev C.P.globals.size fr x = ev C.P.globals.size fr' x := fun x hx => h x (by simp [Op.operands, Call.operands]; exact .inr (by simpa using hx))
    rcases callee with fo | ⟨rv, m⟩ | b
    · have hf := h fo (by simp [Op.operands, Call.operands])
      dsimp only
      rw [hf]
      congr 1
      funext v
      exact evs_congr _ _ ha
    · rfl
    · exact evs_congr _ _ ha

/-! ### Orders -/
theorem inOrder_edges {P : Program} {ops : List Oper} {an : List Nat} (h : inOrder P ops an = true) {j : Nat} {o : Oper} (ho : ops[j]? = some o) : ∀ e ∈ o.after, Region.binds .any e = true → e.on < j := by
  intro e he hb
  unfold inOrder at h
  rw [List.all_eq_true] at h
  have := h j (List.mem_range.2 (List.getElem?_eq_some_iff.1 ho).1)
  rw [Bool.and_eq_true, ho] at this
  have h1 := List.all_eq_true.1 this.1 e (by simpa using he)
  rw [hb] at h1
  exact Nat.le_of_ble_eq_true (by simpa [Nat.blt] using h1)
theorem inOrder_pair {P : Program} {ops : List Oper} {an : List Nat} (h : inOrder P ops an = true) {i j : Nat} {a b : Oper} (hij : i < j) (ha : ops[i]? = some a) (hb : ops[j]? = some b) :
    (an.getD j 0).testBit i = true ∨ (clash ops a b = false ∧ ¬ (kindOf P a.op = .eff ∧ kindOf P b.op = .eff)) := by
  unfold inOrder at h
  rw [List.all_eq_true] at h
  have := h j (List.mem_range.2 (List.getElem?_eq_some_iff.1 hb).1)
  rw [Bool.and_eq_true] at this
  have h1 := List.all_eq_true.1 this.2 i (List.mem_range.2 hij)
  rw [ha, hb] at h1
  dsimp only at h1
  rw [Bool.or_eq_true] at h1
  rcases h1 with h1 | h1
  · exact .inl h1
  · refine .inr ⟨?_, fun ⟨ka, kb⟩ => ?_⟩
    · cases hc : clash ops a b with
      | false => rfl
      | true => rw [hc] at h1; cases h1
    · rw [ka, kb] at h1
      cases hc : clash ops a b <;> rw [hc] at h1 <;> cases h1

def bitsOf (acc : List Nat) (s : Nat) (es : List Edge) : Nat := es.foldl (fun s e => match Region.binds .any e with | true => s ||| 2 ^ e.on ||| acc.getD e.on 0 | false => s) s
theorem bitsOf_spec {acc : List Nat} {l : Nat} : ∀ (es : List Edge) (s : Nat), (bitsOf acc s es).testBit l = true → s.testBit l = true ∨ ∃ e ∈ es, Region.binds .any e = true ∧ (l = e.on ∨ (acc.getD e.on 0).testBit l = true)
  | [], s, h => .inl h
  | e :: es, s, h => by
    unfold bitsOf at h
    rw [List.foldl_cons] at h
    rcases bitsOf_spec es _ h with h1 | ⟨e', he', h2⟩
    · split at h1
      · rename_i hb
        rw [Nat.testBit_or, Nat.testBit_or, Bool.or_eq_true, Bool.or_eq_true, Nat.testBit_two_pow] at h1
        rcases h1 with (h1 | h1) | h1
        · exact .inl h1
        · exact .inr ⟨e, List.mem_cons_self .., hb, .inl (of_decide_eq_true h1).symm⟩
        · exact .inr ⟨e, List.mem_cons_self .., hb, .inr h1⟩
      · exact .inl h1
    · exact .inr ⟨e', List.mem_cons_of_mem _ he', h2⟩
/-- A set of operations that holds what its members wait for holds what comes before them. -/
theorem anc_in {ops : List Oper} {D : Nat → Prop} (hD : ∀ (i : Nat) o, D i → ops[i]? = some o → ∀ e ∈ o.after, Region.binds .any e = true → D e.on) :
    ∀ (j : Nat) o, ops[j]? = some o → (∀ e ∈ o.after, Region.binds .any e = true → D e.on) → ∀ l, ((ancs ops).getD j 0).testBit l = true → D l := by
  have key : ∀ (rest : List Oper) (acc : List Nat), ops.drop acc.length = rest →
      (∀ (j : Nat) o, ops[j]? = some o → (∀ e ∈ o.after, Region.binds .any e = true → D e.on) → ∀ l, (acc.getD j 0).testBit l = true → D l) →
      ∀ (j : Nat) o, ops[j]? = some o → (∀ e ∈ o.after, Region.binds .any e = true → D e.on) → ∀ l, ((rest.foldl (fun acc o => acc ++ [bitsOf acc 0 o.after.toList]) acc).getD j 0).testBit l = true → D l := by
    intro rest
    induction rest with
    | nil => intro acc _ h; exact h
    | cons p rest ih =>
      intro acc hd h
      rw [List.foldl_cons]
      have hp : ops[acc.length]? = some p := by
        have : (ops.drop acc.length)[0]? = some p := by rw [hd]; rfl
        rw [List.getElem?_drop] at this; simpa using this
      refine ih _ (by rw [List.length_append, ← List.drop_drop, hd]; rfl) ?_
      intro j o ho he l hl
      rw [List.getD_eq_getElem?_getD] at hl
      rcases Nat.lt_trichotomy j acc.length with q | q | q
      · rw [List.getElem?_append_left q, ← List.getD_eq_getElem?_getD] at hl
        exact h j o ho he l hl
      · subst q
        rw [List.getElem?_append_right (Nat.le_refl _)] at hl
        simp only [Nat.sub_self, List.getElem?_cons_zero, Option.getD_some] at hl
        rw [hp] at ho; cases ho
        rcases bitsOf_spec _ _ hl with h1 | ⟨e, hm, hb, h1⟩
        · simp at h1
        · have hm' : e ∈ p.after := by simpa using hm
          rcases h1 with rfl | h1
          · exact he e hm' hb
          · have hDe := he e hm' hb
            cases hoe : ops[e.on]? with
            | some oe => exact h e.on oe hoe (fun e' he' hb' => hD e.on oe hDe hoe e' he' hb') l h1
            | none =>
              have hlen : acc.length ≤ e.on := by
                have h1 := (List.getElem?_eq_some_iff.1 hp).1
                have h2 := List.getElem?_eq_none_iff.1 hoe
                omega
              rw [List.getD_eq_getElem?_getD, List.getElem?_eq_none hlen] at h1
              simp at h1
      · rw [List.getElem?_eq_none (by simp; omega)] at hl
        simp at hl
  intro j o ho he l hl
  refine key ops [] rfl ?_ j o ho he l ?_
  · intro j o _ _ l hl; simp at hl
  · exact hl

/-! ### Guards -/
def guardV (ops : List Oper) (fr : Fr) (o : Oper) : Option Bool := guardC ops fr o fun b _ => some b
theorem set_same {fr : Fr} {d : Nat} {v : Value} (h : getS fr d = .val v) : fr.set d (.val v) = fr := by
  apply List.ext_getElem?
  intro i
  rw [List.getElem?_set]
  split
  · rename_i e; subst e
    unfold getS at h
    rw [List.getD_eq_getElem?_getD] at h
    cases hq : fr[d]? with
    | none => rw [hq] at h; cases h
    | some s => rw [hq] at h; rw [if_pos (List.getElem?_eq_some_iff.1 hq).1]; rw [← h]; rfl
  · rfl
theorem guardC_inv {α : Type} {ops : List Oper} {fr : Fr} {o : Oper} {k : Bool → Fr → Option α} {r : α} (h : guardC ops fr o k = some r) : ∃ b, guardV ops fr o = some b ∧ k b fr = some r := by
  unfold guardV
  unfold guardC at h ⊢
  split at h
  · exact ⟨true, rfl, h⟩
  · split at h
    · split at h
      · split at h
        · exact ⟨false, rfl, h⟩
        · rename_i d _ _ hne
          unfold sV at h ⊢
          split at h
          · rename_i v hv
            dsimp only at h ⊢
            unfold pBool at h ⊢
            split at h
            · rename_i b
              dsimp only at h ⊢
              unfold br at h ⊢
              cases b with
              | true =>
                dsimp only at h ⊢
                rw [set_same hv] at h
                exact ⟨_, rfl, h⟩
              | false =>
                dsimp only at h ⊢
                rw [set_same hv] at h
                exact ⟨_, rfl, h⟩
            · cases h
          · cases h
      · cases h
    · cases h
theorem guardV_congr {ops : List Oper} {fr fr' : Fr} {o : Oper} (h : ∀ t ∈ touches ops o, getS fr t = getS fr' t) : guardV ops fr o = guardV ops fr' o := by
  unfold guardV guardC
  cases hg : o.guard with
  | none => rfl
  | some jw =>
    obtain ⟨j, want⟩ := jw
    dsimp only
    cases hj : ops[j]? with
    | none => rfl
    | some g =>
      dsimp only
      cases hd : g.dst with
      | none => rfl
      | some d =>
        dsimp only
        have hm : d ∈ touches ops o := by
          unfold touches
          rw [hg]
          dsimp only
          rw [hj]
          dsimp only
          rw [hd]
          exact List.mem_append_right _ (by simp)
        rw [h d hm]
theorem ev_touch {ops : List Oper} {G : Nat} {fr fr' : Fr} {o : Oper} (h : ∀ t ∈ touches ops o, getS fr t = getS fr' t) : ∀ x ∈ o.op.operands, ev G fr x = ev G fr' x := by
  intro x hx
  cases x with
  | tmp t =>
    refine h t ?_
    unfold touches
    exact List.mem_append_left _ (List.mem_filterMap.2 ⟨.tmp t, by simpa using hx, rfl⟩)
  | _ => rfl
theorem clash_false {ops : List Oper} {a b : Oper} (h : clash ops a b = false) : (∀ d, a.dst = some d → d ∉ touches ops b ∧ b.dst ≠ some d) ∧ (∀ d, b.dst = some d → d ∉ touches ops a) := by
  unfold clash at h
  rw [Bool.or_eq_false_iff] at h
  refine ⟨fun d hd => ?_, fun d hd => ?_⟩
  · have := h.1
    rw [hd] at this
    dsimp only at this
    rw [Bool.or_eq_false_iff] at this
    refine ⟨fun hm => ?_, fun hq => ?_⟩
    · have h1 : (touches ops b).elem d = true := by simpa using hm
      rw [h1] at this; cases this.1
    · rw [hq] at this; simp at this
  · have := h.2
    rw [hd] at this
    dsimp only at this
    intro hm
    have h1 : (touches ops a).elem d = true := by simpa using hm
    rw [h1] at this; cases this
end Go.AM
