/- Part of the proof of KnownAppliesUptoCardSaid: see the last file.  -/
import Derived.WalkKit
import Derived.ProofKit
import Derived.JoinedCond
import Derived.OpenShut
import Derived.Deep.DeepHandedRow
import Derived.Laws.Externs
import Derived.KernelRfl
import Derived.Test.YtloofbfkaombbaaGreatDoorProg
import Derived.Test.YtloofbfkaombbaaGreatDoorT0
import Derived.Test.YtloofbfkaombbaaGreatDoorT1
set_option linter.unusedSimpArgs false
set_option linter.unusedVariables false
set_option linter.unusedSectionVars false
set_option maxRecDepth 100000
namespace Go.AM
open Go Go.ChangeShapes Go.WideShapes Go.ChangeAt Go.RowKit
theorem zne {P : Program} {O : Orc} {ext : Ext1} (hm : P.follows .mixedOrders = true) (he : ExtC P ext) {f : FuncId} {W : World} {args : Array Value} {H H' : Hp} {β : Bt} {xs : List Value}
    (hR : Rel P W H β) (hno : ∀ i o, H.get i = some o → o.own = false) (ha : LRel β xs args.toList) (hrun : run P O ext f xs H = some (.bool true, H')) (hx : XtC P O.xt := by intro f e h; cases h) (hxf : O.xt f = none := by rfl) :
    Calls P f args W fun e W' => e = .returned (.bool true) ∧ Below W.heap.size W W' := by
  have h := (sound1 (O := O) hm he hx hxf hrun).2 args.toList W β ha hR
  rw [show args.toList.toArray = args from by simp] at h
  refine h.mono fun e W' ⟨v', β', h1, h2, h3, h4⟩ => ?_
  cases h4
  exact ⟨h1, h3.os, h3.tape, h3.output, h3.size, fun k hk => h3.frame k hk fun ⟨i, o, x, g1, g2, _, _⟩ => by rw [hno i o g1] at g2; cases g2⟩
theorem zgY {HH : Type} {enc : TypeId × Value → HH} {P : Program} (hl : laidOutB P = true) {W W' : World} (hb : Below W.heap.size W W') :
    ∀ {ts : List TypeId} {vs : List Value} {ds : List (DataW HH)} {ps : List MemPlace}, (∀ t ∈ ts, P.readableRec t = true ∧ t < P.types.size) → DataW.TrodAll enc P W 0 (fun _ => true) true ts vs ds ps →
      (∀ x ∈ ps, x.block < W.heap.size) → DataW.TrodAll enc P W' 0 (fun b => decide (b < W.heap.size)) true ts vs ds ps
  | [], [], [], ps, _, h, _ => h
  | t :: ts, v :: vs, d :: ds, ps, ht, h, hlt => by
    obtain ⟨p, q, h1, h2, e⟩ := h
    have h0 := ht t (List.mem_cons_self ..)
    exact ⟨p, q, Below.trod hl h0.1 h0.2 h1 hb (fun x hx => hlt x (by rw [e]; simp [hx])), zgY hl hb (fun t h => ht t (List.mem_cons_of_mem _ h)) h2 (fun x hx => hlt x (by rw [e]; simp [hx])), e⟩
  | [], _ :: _, _, _, _, h, _ => h.elim
  | [], [], _ :: _, _, _, h, _ => h.elim
  | _ :: _, [], _, _, _, h, _ => h.elim
  | _ :: _, _ :: _, [], _, _, h, _ => h.elim
theorem post_true {HH : Type} {enc : TypeId × Value → HH} {P : Program} {f : Func} {s : ChangeSpec} (hl : laidOutB P = true) (hp : ∀ t ∈ f.params.toList, P.readableRec t = true ∧ t < P.types.size) (hv : s.vars = [])
    {tb : TypeId} (hr : f.resultTypes = #[tb]) (hb : P.underlying tb = some .bool) {W W' : World} {args : Array Value} {ds gs : List (DataW HH)} {before : List MemPlace}
    (hW : DataW.Whole enc P f.params.toList s.vars false W args.toList ds gs before) (hB : Below W.heap.size W W') (hfn : s.fn HH (ds ++ gs) = { results := [.lit (.bool true)], args := ds }) :
    s.post enc P f false true false false W args (.bool true) W' := by
  have hlt := hW.lt
  obtain ⟨p, q, h1, h2, e, h3, h4⟩ := id hW
  rw [hv] at h2
  have hq : gs = [] ∧ q = [] := by
    cases gs with
    | nil => exact ⟨rfl, h2⟩
    | cons g gs => exact h2.elim
  refine ⟨ds, gs, before, [], p, [], hW, ?_, ?_, ?_, ?_, fun h => by cases h⟩
  · rw [hfn, hr]
    exact trodAll_cons_mk (shut_bool hb _) trodAll_mk0
  · rw [hfn]
    exact zgY hl hB hp h1 (fun x hx => hlt x (by rw [e]; simp [hx]))
  · rw [hfn, hv]; rfl
  · exact hB.frame _
theorem znu {P : Program} {W : World} (h : W.ShapedOpen P) (hg : P.globals.size = 0 ∨ ∃ x, (((begin P (fun _ _ => 0) default).world.heap[P.globals.size - 1]?).bind Obj.row?) = some x) : P.globals.size ≤ W.heap.size := by
  rcases hg with hg | ⟨⟨z, t⟩, hx⟩
  · omega
  · rcases Nat.eq_zero_or_pos P.globals.size with h0 | h0
    · omega
    · obtain ⟨cs, hc, _⟩ := h.1 (P.globals.size - 1) z t (by omega) hx
      have := (Array.getElem?_eq_some_iff.1 hc).1
      omega
end Go.AM
namespace Go.AM
open Go Go.ChangeShapes Go.WideShapes Go.ChangeAt Go.RowKit
theorem zj8 {HH : Type} {enc : TypeId × Value → HH} {P : Program} {W : World} : ∀ {ts : List TypeId} {vs : List Value} {ds : List (DataW HH)} {ps : List MemPlace}, DataW.TrodAll enc P W 0 (fun _ => true) true ts vs ds ps → ds.length = ts.length := by
  intro ts
  induction ts with
  | nil => intro vs ds ps h; cases vs <;> cases ds <;> first | rfl | exact h.elim
  | cons t ts ih => intro vs ds ps h; cases vs <;> cases ds <;> first | exact h.elim | (obtain ⟨p, q, _, h2, _⟩ := h; simp [ih h2])
theorem zhO {C : Checked} {os : Os} {f : FuncId} {fn : Func} {s : OpenSpec} {HH : Type} {enc : TypeId × Value → HH} {k : (H : Type) → List (DataW H) → Bool} (hk : s.cond = some k) {F : Stop.Interp} {conds : List PathCond} {laid : List (String × DataW Unit)}
    (own : ownKnob C.prog.godebug = none) (started : os.Started) (noInit : C.prog.inits.idxOf? f = none) (hfn : C.prog.funcs[f]? = some fn)
    (witness : ∃ (w : World) (tape : Tape) (i : Input), w.os = os ∧ (w.forCall tape i).Shaped C.prog ∧ i.vars = [] ∧ Input.okWide C.prog (w.forCall tape i) .any w.heap.size f i ∧
      s.preRow enc C.prog fn conds false laid (w.forCall tape i).memory i.args ∧ ({} : Assume).holds C.prog (lone (Frame.enter C.prog f i.args .normal) [] (w.forCall tape i)))
    (hl : laidOutB C.prog = true) (hp : ∀ t ∈ fn.params.toList, C.prog.readableRec t = true ∧ t < C.prog.types.size) (hv : s.vars = []) {tb : TypeId} (hr : fn.resultTypes = #[tb]) (hb : C.prog.underlying tb = some .bool)
    (hg : C.prog.globals.size = 0 ∨ ∃ x, (((begin C.prog (fun _ _ => 0) default).world.heap[C.prog.globals.size - 1]?).bind Obj.row?) = some x)
    (hsp : ∀ ds : List (DataW HH), ds.length = fn.params.size → (s.at F).fn HH ds = { results := [.lit (.bool true)], args := ds })
    {O : Orc} {ext : Ext1} (hm : C.prog.follows .mixedOrders = true) (he : ExtC C.prog ext)
    (main : ∀ (W : World) (base : Nat) (args : Array Value) (ds : List (DataW HH)) (ps : List MemPlace), C.prog.globals.size ≤ W.heap.size →
      (∀ (j : Nat) t v, fn.params[j]? = some t → args[j]? = some v → Value.okWide C.prog W .any base t v) → DataW.TrodAll enc C.prog W 0 (fun _ => true) true fn.params.toList args.toList ds ps → k HH ds = true → laidMetH C.prog laid W →
      ∃ (H0 H1 : Hp) (β : Bt) (xs : List Value), Rel C.prog W H0 β ∧ (∀ i o, H0.get i = some o → o.own = false) ∧ LRel β xs args.toList ∧ run C.prog O ext f xs H0 = some (.bool true, H1))
    (hx : XtC C.prog O.xt := by intro f e h; cases h) (hxf : O.xt f = none := by rfl) :
    ReturnsInHanded {} C os f .any (s.preRow enc C.prog fn conds false laid) ((s.at F).post enc C.prog fn false true false false) := by
  refine returnsInHanded_of_row own started noInit hfn witness ?_
  intro W base args ds gs before hval hw hc hkk _ hL hsh _
  have hkk := hkk k hk
  obtain ⟨p, q, h1, h2, e, _, _⟩ := id hw
  have hgs : gs = [] := by
    rw [hv] at h2
    cases gs with
    | nil => rfl
    | cons g gs => exact h2.elim
  subst hgs
  rw [List.append_nil] at hkk
  obtain ⟨H0, H1, β, xs, g1, g2, g3, g4⟩ := main W base args ds p (znu hsh hg) hval h1 hkk hL
  refine (zne hm he g1 g2 g3 g4 hx hxf).mono fun e W' ⟨h3, h4⟩ => ?_
  subst h3
  have hlen : ds.length = fn.params.size := by simpa using zj8 h1
  exact ⟨_, rfl, post_true (s := s.at F) hl hp hv hr hb hw h4 (by rw [List.append_nil]; exact hsp ds hlen)⟩
end Go.AM
namespace Go.AM
open Go
def add64 (l : List Value) : Option Value :=
  match l with
  | [.int .u64 (.ofNat x), .int .u64 (.ofNat y), .int .u64 (.ofNat c)] => match Nat.ble c 1 with
    | true => some (.tuple #[.int .u64 (((x + y + c) % 18446744073709551616 : Nat) : Int), .int .u64 (((x + y + c) / 18446744073709551616 : Nat) : Int)])
    | false => none
  | _ => none
theorem LRel.ints3 {β : Bt} {k1 k2 k3 : IntKind} {a b c : Int} {l : List Value} (h : LRel β [.int k1 a, .int k2 b, .int k3 c] l) : l = [.int k1 a, .int k2 b, .int k3 c] := by
  obtain ⟨h1, h2⟩ := h
  match l, h1 with
  | [x, y, z], _ =>
    have e0 := h2 0 _ x rfl rfl
    have e1 := h2 1 _ y rfl rfl
    have e2 := h2 2 _ z rfl rfl
    cases e0; cases e1; cases e2
    rfl
theorem add64_xt {P : Program} {f : FuncId} {fn : Func} (hf : P.funcs[f]? = some fn) (hname : (fn.name == "runtime.NumGoroutine") = false) (hb : fn.body.isNone = true) (hn : Extern.findNext fn = none) (he : Extern.find fn = some add64Entry)
    (args : List Value) (v : Value) (h : add64 args = some v) : XT P f args v := by
  unfold add64 at h
  split at h
  · rename_i x y c
    split at h
    · rename_i hc
      cases h
      have hc : c ≤ 1 := Nat.le_of_ble_eq_true hc
      intro args' β w hl
      have hl : LRel β [.int .u64 (x : Int), .int .u64 (y : Int), .int .u64 (c : Int)] args' := hl
      obtain rfl := hl.ints3
      refine ⟨.tuple #[.int .u64 (((x + y + c) % 18446744073709551616 : Nat) : Int), .int .u64 (((x + y + c) / 18446744073709551616 : Nat) : Int)], ?_, ?_⟩
      · refine .tuple _ _ rfl fun k v v' h1 h2 => ?_
        have := h1.symm.trans h2
        cases this
        match k, h1 with
        | 0, h1 => cases h1; exact .int _ _
        | 1, h1 => cases h1; exact .int _ _
        | k + 2, h1 => cases h1
      · rw [run_callFunc_extern hf hname hb hn he, run_add64 x y c (by omega) (by omega) (by omega) (by omega)]
        simp only [Result.andThen]
        congr 5 <;> omega
    · cases h
  · cases h
end Go.AM
namespace Go.AM
open Go Go.AM
noncomputable abbrev PP : Program := Go.Proofs.Tryz.prog
abbrev ET := FuncId → Option (List Value → Hp → Option (Value × Hp))
abbrev G.bits_deBruijn64tab : Nat := 0
abbrev F.a83 : FuncId := 115
abbrev F.a57 : FuncId := 118
abbrev F.a84 : FuncId := 127
abbrev F.a85 : FuncId := 125
abbrev F.a86 : FuncId := 129
abbrev F.a87 : FuncId := 72
abbrev F.a88 : FuncId := 105
abbrev F.a58 : FuncId := 87
abbrev F.a59 : FuncId := 78
abbrev F.a42 : FuncId := 107
abbrev F.a89 : FuncId := 123
abbrev F.a8 : FuncId := 130
abbrev F.a6 : FuncId := 114
abbrev F.a90 : FuncId := 128
abbrev F.a91 : FuncId := 116
abbrev F.a0 : FuncId := 70
abbrev F.a92 : FuncId := 126
abbrev F.a60 : FuncId := 132
abbrev F.a61 : FuncId := 131
abbrev F.a128 : FuncId := 3
abbrev F.a93 : FuncId := 7
abbrev F.a19 : FuncId := 6
abbrev F.a94 : FuncId := 55
abbrev F.a95 : FuncId := 56
abbrev F.a96 : FuncId := 53
abbrev F.a62 : FuncId := 58
abbrev F.a9 : FuncId := 93
abbrev F.a43 : FuncId := 51
abbrev F.a25 : FuncId := 95
abbrev F.a97 : FuncId := 57
abbrev F.a1 : FuncId := 94
abbrev F.a98 : FuncId := 54
abbrev F.a32 : FuncId := 119
abbrev F.a44 : FuncId := 96
abbrev F.a99 : FuncId := 16
abbrev F.a63 : FuncId := 23
abbrev F.a45 : FuncId := 52
abbrev F.a100 : FuncId := 21
abbrev F.a46 : FuncId := 22
abbrev F.a13 : FuncId := 5
abbrev F.a33 : FuncId := 17
abbrev F.a64 : FuncId := 98
abbrev F.a34 : FuncId := 19
abbrev F.a4 : FuncId := 47
abbrev F.a2 : FuncId := 18
abbrev F.a26 : FuncId := 50
abbrev F.a35 : FuncId := 90
abbrev F.a101 : FuncId := 120
abbrev F.a102 : FuncId := 62
abbrev F.a103 : FuncId := 67
abbrev F.a27 : FuncId := 97
abbrev F.a104 : FuncId := 104
abbrev F.a36 : FuncId := 92
abbrev F.a105 : FuncId := 61
abbrev F.a47 : FuncId := 49
abbrev F.a48 : FuncId := 63
abbrev F.a28 : FuncId := 101
abbrev F.a14 : FuncId := 48
abbrev F.a65 : FuncId := 64
abbrev F.a66 : FuncId := 60
abbrev F.a17 : FuncId := 91
abbrev F.a49 : FuncId := 103
abbrev F.a67 : FuncId := 100
abbrev F.a68 : FuncId := 69
abbrev F.a106 : FuncId := 66
abbrev F.a29 : FuncId := 99
abbrev F.a69 : FuncId := 68
abbrev F.a107 : FuncId := 20
abbrev F.a10 : FuncId := 121
abbrev F.a108 : FuncId := 65
abbrev F.a109 : FuncId := 24
abbrev F.a70 : FuncId := 59
abbrev F.a50 : FuncId := 102
abbrev F.a110 : FuncId := 37
abbrev F.a71 : FuncId := 79
abbrev F.a111 : FuncId := 111
abbrev F.a72 : FuncId := 124
abbrev F.a73 : FuncId := 109
abbrev F.a20 : FuncId := 26
abbrev F.a15 : FuncId := 4
abbrev F.a37 : FuncId := 9
abbrev F.a74 : FuncId := 80
abbrev F.a7 : FuncId := 25
abbrev F.a38 : FuncId := 12
abbrev F.a16 : FuncId := 13
abbrev F.a112 : FuncId := 88
abbrev F.a113 : FuncId := 15
abbrev F.a75 : FuncId := 84
abbrev F.a39 : FuncId := 83
abbrev F.a114 : FuncId := 39
abbrev F.a76 : FuncId := 42
abbrev F.a115 : FuncId := 29
abbrev F.a116 : FuncId := 71
abbrev F.a51 : FuncId := 40
abbrev F.a30 : FuncId := 85
abbrev F.a3 : FuncId := 27
abbrev F.a52 : FuncId := 8
abbrev F.a18 : FuncId := 46
abbrev F.a117 : FuncId := 43
abbrev F.a11 : FuncId := 38
abbrev F.a118 : FuncId := 44
abbrev F.a5 : FuncId := 10
abbrev F.a53 : FuncId := 11
abbrev F.a119 : FuncId := 89
abbrev F.a54 : FuncId := 117
abbrev F.a77 : FuncId := 45
abbrev F.a55 : FuncId := 82
abbrev F.a21 : FuncId := 113
abbrev F.a78 : FuncId := 31
abbrev F.a120 : FuncId := 41
abbrev F.a79 : FuncId := 86
abbrev F.a22 : FuncId := 81
abbrev F.a121 : FuncId := 112
abbrev F.a40 : FuncId := 28
abbrev F.a56 : FuncId := 14
abbrev F.a41 : FuncId := 30
abbrev F.a80 : FuncId := 32
abbrev F.a81 : FuncId := 36
abbrev F.a12 : FuncId := 34
abbrev F.a122 : FuncId := 110
abbrev F.a82 : FuncId := 108
abbrev F.a123 : FuncId := 35
abbrev F.a124 : FuncId := 33
abbrev F.a31 : FuncId := 74
abbrev F.a125 : FuncId := 76
abbrev F.a23 : FuncId := 106
abbrev F.a126 : FuncId := 77
abbrev F.a24 : FuncId := 73
abbrev F.a127 : FuncId := 75
abbrev T.a3_api_Fact : TypeId := 35
abbrev T.a3_bool : TypeId := 137
abbrev T.a3_int : TypeId := 38
abbrev T.a3_string : TypeId := 61
abbrev T.a64_uint8 : TypeId := 151
abbrev T.api_Errno : TypeId := 27
abbrev T.api_Fact : TypeId := 26
abbrev T.api_Node : TypeId := 24
abbrev T.bool : TypeId := 4
abbrev T.int : TypeId := 3
abbrev T.int32 : TypeId := 21
abbrev T.int64 : TypeId := 2
abbrev T.p_term_Store : TypeId := 58
abbrev T.string : TypeId := 9
abbrev T.term_Store : TypeId := 93
abbrev T.term_place : TypeId := 149
abbrev T.uint64 : TypeId := 22
abbrev T.uint8 : TypeId := 5
def orc : Orc := { mkOrc [(3, [4, 5, 6, 7, 9, 11]), (4, [4, 5, 6, 7, 8, 10, 14, 17, 19]), (5, [4, 5, 6, 7, 8, 11, 15]), (7, [1, 3, 5, 7, 9]), (9, [1]), (10, [1, 2, 8]), (11, [2, 3, 7, 8]), (12, [2]), (13, [4]), (14, [2, 3, 7]), (15, [4, 5, 6, 7, 8, 12]), (17, [1]), (18, [1, 2, 6, 9]), (19, [1]), (20, [4]), (21, [2]), (22, [4]), (23, [6]), (24, [4, 5, 6, 7, 8, 9, 11]), (25, [1, 2, 4]), (26, [4]), (28, [2]), (29, [2]), (31, [3]), (34, [3]), (38, [6]), (39, [4, 5, 6, 7]), (40, [2, 3, 4]), (41, [2, 3, 4, 6]), (42, [2, 3, 4, 7]), (43, [2, 3, 4, 6]), (44, [2, 3, 4, 5]), (45, [4, 5, 6, 8, 11]), (46, [3, 4, 5, 6, 9, 14]), (48, [1]), (49, [1]), (59, [1, 2]), (62, [4, 5, 6, 13, 15]), (63, [2, 3, 4, 5]), (64, [2, 3, 4, 5]), (65, [2, 3, 4, 5]), (66, [2, 3, 4, 6]), (67, [4, 5, 6, 7]), (68, [4, 5, 6, 7, 10, 11, 13]), (69, [3, 4, 5, 6, 8]), (71, [2]), (75, [1]), (76, [3]), (77, [3]), (78, [15]), (79, [15, 17]), (80, [2, 3, 4, 6, 7]), (81, [4]), (83, [5, 6]), (86, [1]), (88, [2, 6, 7]), (89, [4, 6, 9]), (92, [2]), (97, [1, 5, 6, 8]), (98, [2, 3, 4, 6, 7, 9]), (99, [3, 4, 6, 7, 9, 10]), (101, [1]), (102, [1]), (103, [4, 6, 8]), (104, [3, 6, 8]), (108, [14]), (109, [6, 7, 10]), (110, [4]), (111, [6]), (112, [2, 3, 4, 5, 7, 9]), (113, [5, 6]), (120, [2, 3, 4, 5, 7, 9]), (121, [2])]
  [(4, [(6, some ([12], [])), (3, some ([], [8]))]), (5, [(5, some ([], [8])), (3, some ([], [8]))]), (9, [(3, some ([], []))]), (10, [(5, some ([], [2]))]), (15, [(17, some ([112], [])), (15, some ([83], [])), (12, some ([60], [])), (9, some ([38], [])), (6, some ([19], []))]), (16, [(2, some ([3], []))]), (17, [(3, some ([], []))]), (20, [(26, some ([161], [])), (24, some ([142], [])), (22, some ([128], [])), (18, some ([94], [])), (14, some ([61], [])), (4, some ([], []))]), (23, [(26, some ([111], [])), (24, some ([94], [])), (17, some ([66], []))]), (24, [(35, some ([170], [])), (18, some ([115], [])), (15, some ([84], [])), (11, some ([59], [])), (7, some ([34], [])), (5, some ([25], []))]), (28, [(13, some ([81], []))]), (34, [(26, some ([], [])), (21, some ([], [])), (5, some ([], [])), (3, some ([], []))]), (53, [(3, some ([], []))]), (55, [(5, some ([], [])), (3, some ([], []))]), (57, [(3, some ([], []))]), (58, [(5, some ([], [])), (3, some ([], []))]), (62, [(18, some ([11, 12], [])), (6, some ([7, 8, 9, 10], []))]), (66, [(10, some ([9], [])), (6, some ([7], []))]), (73, [(6, some ([4], []))]), (76, [(8, some ([27], []))]), (77, [(12, some ([60], [])), (4, some ([13], []))]), (78, [(7, some ([5], [])), (3, some ([], []))]), (83, [(10, some ([72], [])), (13, some ([10, 11], []))]), (96, [(19, some ([11], []))]), (99, [(13, some ([], [7]))]), (103, [(23, some ([], [8])), (11, some ([35], [])), (16, some ([11], [])), (9, some ([10], []))]), (105, [(4, some ([0, 2], []))]), (112, [(3, some ([], [4, 5]))]), (118, [(5, some ([], [])), (3, some ([], []))]), (120, [(3, some ([], [4, 5]))]), (125, [(3, some ([], []))]), (128, [(3, some ([], []))]), (129, [(5, some ([], [])), (3, some ([], []))])]
  [(4, [(16, [15, 61], [8, 10, 14]), (7, [12, 46], [])]), (5, [(14, [13, 14], [8, 11]), (8, [12], [8])]), (10, [(8, [56], [8])]), (11, [(5, [20], [7])]), (14, [(4, [20], [7])]), (18, [(8, [7], [6])]), (28, [(10, [8], [])]), (34, [(6, [35], [])]), (45, [(4, [9, 17], [8])]), (48, [(2, [4], [])]), (49, [(2, [3], [])]), (51, [(2, [3], [])]), (68, [(4, [8, 9], [7])]), (78, [(4, [], [15])]), (79, [(26, [19, 113], []), (12, [49], [])]), (83, [(21, [21, 99], []), (15, [20, 88], []), (4, [10, 11, 12, 13, 31], [])]), (96, [(3, [9, 10], [])]), (99, [(8, [11], [10]), (3, [2, 8], [7])]), (101, [(2, [3], [])]), (102, [(2, [3], [])]), (103, [(4, [9], [8])]), (108, [(16, [8, 10], []), (11, [8, 10, 36], []), (2, [18], [])]), (109, [(11, [41], []), (3, [16], [])])] with xt := look none [(115, some add64)] }
noncomputable def zbV (R : zaj) (x0 x1 x2 x3 : Value) (H0 : Hp) : Option (Value × Hp) :=
 zab 7 true (zaa x0) 0 fun v1 =>
 zab 5 true (zaa x1) 0 fun v2 =>
 zab 5 true (zaa x2) 0 fun v3 =>
 zab 5 true (zaa x3) 0 fun v4 =>
 zaf R F.a15 [v1, v2, v3, v4] H0 fun r5 H6 =>
 zah r5 0 fun v7 =>
 zah r5 1 fun v8 =>
 zac 5 [.int .i64 0, .int .u64 0, .int .u64 0, .int .u64 0, .int .u64 0] 0 v7 fun c9 =>
 zab 7 true (zaa x0) 0 fun v10 =>
 zab 5 true (zaa x1) 0 fun v11 =>
 zab 5 true (zaa x2) 0 fun v12 =>
 zab 5 true (zaa x3) 0 fun v13 =>
 zaf R F.a13 [v10, v11, v12, v13] H6 fun r14 H15 =>
 zah r14 0 fun v16 =>
 zah r14 1 fun v17 =>
 zac 5 [.int .i64 0, .int .u64 0, .int .u64 0, .int .u64 0, .int .u64 0] 0 v16 fun c18 =>
 zab 5 true c9 0 fun v19 =>
 zab 5 true c18 0 fun v20 =>
 pBin PP .eql T.api_Fact v19 v20 fun v21 =>
 zad v21 fun b22 => br b22
 (zaf R F.a19 [v8] H15 fun r23 H24 =>
 pBin PP .eql T.int r23 v17 fun v25 =>
 zad v25 fun b26 => br b26
 (zaf R F.a93 [] H24 fun r27 H28 =>
 some (r27, H28))
 (some ((.bool false), H24)))
 (some ((.bool false), H15))
noncomputable def zhw (R : zaj) (x0 x1 x2 x3 : Value) (H0 : Hp) : Option (Value × Hp) := zdW PP orc R F.a15 Go.Proofs.Tryz.f4 [x0, x1, x2, x3] H0
noncomputable def zdi (R : zaj) (x0 x1 x2 x3 : Value) (H0 : Hp) : Option (Value × Hp) := zdW PP orc R F.a13 Go.Proofs.Tryz.f5 [x0, x1, x2, x3] H0
noncomputable def zh1 (R : zaj) (x0 : Value) (H0 : Hp) : Option (Value × Hp) :=
 some (x0, H0)
noncomputable def zdO (R : zaj) (H0 : Hp) : Option (Value × Hp) :=
 zar PP T.api_Fact [(0, (.int .i64 4)), (1, (.int .u64 1)), (4, (.int .u64 6))] fun v1 =>
 zaf R F.a7 [v1] H0 fun r2 H3 =>
 zah r2 0 fun v4 =>
 zah r2 1 fun v5 =>
 zac 5 [.int .i64 0, .int .u64 0, .int .u64 0, .int .u64 0, .int .u64 0] 0 v4 fun c6 =>
 zar PP T.api_Fact [(0, (.int .i64 4)), (3, (.int .u64 5)), (4, (.int .u64 6))] fun v7 =>
 zaf R F.a7 [v7] H3 fun r8 H9 =>
 zah r8 0 fun v10 =>
 zah r8 1 fun v11 =>
 zac 5 [.int .i64 0, .int .u64 0, .int .u64 0, .int .u64 0, .int .u64 0] 0 v10 fun c12 =>
 zar PP T.api_Fact [(0, (.int .i64 4)), (1, (.int .u64 8)), (4, (.int .u64 3))] fun v13 =>
 zaf R F.a7 [v13] H9 fun r14 H15 =>
 zah r14 0 fun v16 =>
 zah r14 1 fun v17 =>
 zac 5 [.int .i64 0, .int .u64 0, .int .u64 0, .int .u64 0, .int .u64 0] 0 v16 fun c18 =>
 zaf R F.a20 [(.int .i64 4), (.int .u64 5)] H15 fun r19 H20 =>
 zah r19 0 fun v21 =>
 zah r19 1 fun v22 =>
 zac 5 [.int .i64 0, .int .u64 0, .int .u64 0, .int .u64 0, .int .u64 0] 0 v21 fun c23 =>
 zar PP T.api_Node [(0, (.int .i64 20)), (1, (.int .i64 4))] fun v24 =>
 zab 5 true c23 0 fun v25 =>
 zar PP T.api_Fact [(0, (.int .i64 4)), (2, (.int .u64 1)), (4, (.int .u64 14))] fun v26 =>
 zar PP T.api_Fact [] fun v27 =>
 zaf R F.a15 [v24, v25, v26, v27] H20 fun r28 H29 =>
 zah r28 0 fun v30 =>
 zah r28 1 fun v31 =>
 zac 5 [.int .i64 0, .int .u64 0, .int .u64 0, .int .u64 0, .int .u64 0] 0 v30 fun c32 =>
 zaf R F.a19 [v5] H29 fun r33 H34 =>
 zaf R F.a19 [v11] H34 fun r35 H36 =>
 pBin PP .add T.int r33 r35 fun v37 =>
 zaf R F.a19 [v31] H36 fun r38 H39 =>
 pBin PP .add T.int v37 r38 fun v40 =>
 pBin PP .eql T.int v40 (.int .i64 0) fun v41 =>
 zad v41 fun b42 => br b42
 (zaf R F.a19 [v17] H39 fun r43 H44 =>
 pBin PP .eql T.int r43 (.int .i64 1) fun v45 =>
 zad v45 fun b46 => br b46
 (zab 5 true c6 0 fun v47 =>
 zar PP T.api_Fact [(0, (.int .i64 4)), (1, (.int .u64 1)), (2, (.int .u64 8)), (3, (.int .u64 1)), (4, (.int .u64 5))] fun v48 =>
 pBin PP .eql T.api_Fact v47 v48 fun v49 =>
 zad v49 fun b50 => br b50
 (zab 5 true c12 0 fun v51 =>
 zar PP T.api_Fact [(0, (.int .i64 4)), (1, (.int .u64 4)), (2, (.int .u64 8)), (3, (.int .u64 5)), (4, (.int .u64 6))] fun v52 =>
 pBin PP .eql T.api_Fact v51 v52 fun v53 =>
 zad v53 fun b54 => br b54
 (zab 5 true c32 0 fun v55 =>
 zar PP T.api_Fact [(0, (.int .i64 4)), (1, (.int .u64 1)), (3, (.int .u64 1)), (4, (.int .u64 15))] fun v56 =>
 pBin PP .eql T.api_Fact v55 v56 fun v57 =>
 some (v57, H44))
 (some ((.bool false), H44)))
 (some ((.bool false), H44)))
 (some ((.bool false), H44)))
 (some ((.bool false), H39))
noncomputable def zhu (R : zaj) (x0 : Value) (H0 : Hp) : Option (Value × Hp) :=
 pBin PP .leq T.int x0 (.int .i64 4) fun v1 =>
 zad v1 fun b2 => br b2
 (some ((.int .i64 0), H0))
 (pBin PP .eql T.int x0 (.int .i64 14) fun v3 =>
 zad v3 fun b4 => br b4
 (some ((.int .i64 3), H0))
 (pBin PP .eql T.int x0 (.int .i64 5) fun v5 =>
 zad v5 fun b6 => br b6
 (zad v5 fun b7 => br b7
 (some ((.int .i64 1), H0))
 (some ((.int .i64 2), H0)))
 (pBin PP .eql T.int x0 (.int .i64 15) fun v8 =>
 zad v8 fun b9 => br b9
 (zad v8 fun b10 => br b10
 (some ((.int .i64 1), H0))
 (some ((.int .i64 2), H0)))
 (pBin PP .eql T.int x0 (.int .i64 16) fun v11 =>
 zad v11 fun b12 => br b12
 (zad v11 fun b13 => br b13
 (some ((.int .i64 1), H0))
 (some ((.int .i64 2), H0)))
 (pBin PP .geq T.int x0 (.int .i64 31) fun v14 =>
 zad v14 fun b15 => br b15
 (some ((.int .i64 1), H0))
 (some ((.int .i64 2), H0)))))))
noncomputable def zjI (R : zaj) (x0 : Value) (H0 : Hp) : Option (Value × Hp) :=
 zaC (
 zab 1 false (zaa x0) 0 fun v1 =>
 pBin PP .lss T.int v1 (.int .i64 0) fun v2 =>
 zad v2 fun b3 => br b3
 (some (.ret, [(.bool false)], H0))
 (zab 1 false (zaa x0) 0 fun v4 =>
 pBin PP .gtr T.int v4 (.int .i64 64) fun v5 =>
 zad v5 fun b6 => br b6
 (some (.ret, [(.bool false)], H0))
 (some (.next, [], H0)))) fun q7 l8 H9 => zaJ q7
 (zab 1 false (zaa x0) 0 fun v11 =>
 zaf R F.a3 [v11] H9 fun r12 H13 =>
 zab 1 false (zaa x0) 1 fun v14 =>
 pBin PP .leq T.uint64 v14 r12 fun v15 =>
 zad v15 fun b16 => br b16
 (zab 1 false (zaa x0) 2 fun v17 =>
 pBin PP .leq T.uint64 v17 r12 fun v18 =>
 zad v18 fun b19 => br b19
 (zab 1 false (zaa x0) 3 fun v20 =>
 pBin PP .leq T.uint64 v20 r12 fun v21 =>
 zad v21 fun b22 => br b22
 (zab 1 false (zaa x0) 4 fun v23 =>
 pBin PP .leq T.uint64 v23 r12 fun v24 =>
 some (v24, H13))
 (some ((.bool false), H13)))
 (some ((.bool false), H13)))
 (some ((.bool false), H13)))
 (fun i10 => none)
 (some ((l8.headD undef), H9))
noncomputable def zgk (R : zaj) (x0 : Value) (H0 : Hp) : Option (Value × Hp) := zdW PP orc R F.a5 Go.Proofs.Tryz.f10 [x0] H0
noncomputable def zht (R : zaj) (x0 x1 : Value) (H0 : Hp) : Option (Value × Hp) := zdW PP orc R F.a53 Go.Proofs.Tryz.f11 [x0, x1] H0
noncomputable def zjH (R : zaj) (x0 : Value) (H0 : Hp) : Option (Value × Hp) :=
 zaf R F.a3 [x0] H0 fun r1 H2 =>
 zar PP T.api_Fact [(0, x0), (4, r1)] fun v3 =>
 zac 5 [.int .i64 0, .int .u64 0, .int .u64 0, .int .u64 0, .int .u64 0] 0 v3 fun c4 =>
 zab 5 true c4 0 fun v5 =>
 some (v5, H2)
noncomputable def zhv (R : zaj) (x0 x1 : Value) (H0 : Hp) : Option (Value × Hp) :=
 zaf R F.a3 [x0] H0 fun r1 H2 =>
 pBin PP .andNot T.uint64 r1 x1 fun v3 =>
 zar PP T.api_Fact [(0, x0), (1, x1), (2, v3), (3, x1), (4, x1)] fun v4 =>
 zac 5 [.int .i64 0, .int .u64 0, .int .u64 0, .int .u64 0, .int .u64 0] 0 v4 fun c5 =>
 zab 5 true c5 0 fun v6 =>
 some (v6, H2)
noncomputable def zhr (R : zaj) (x0 x1 : Value) (H0 : Hp) : Option (Value × Hp) := zdW PP orc R F.a56 Go.Proofs.Tryz.f14 [x0, x1] H0
noncomputable def zaF (R : zaj) (x0 x1 x2 x3 : Value) (H0 : Hp) : Option (Value × Hp) :=
 zab 1 false (zaa x0) 1 fun v1 =>
 zaf R F.a3 [v1] H0 fun r2 H3 =>
 zab 1 false (zaa x0) 0 fun v4 =>
 zaC (
 pBin PP .eql T.int v4 (.int .i64 5) fun v5 =>
 zad v5 fun b6 => br b6
 (some (.next, [v5], H3))
 (pBin PP .eql T.int v4 (.int .i64 15) fun v7 =>
 some (.next, [v7], H3))) fun q8 l9 H10 => zaJ q8
 (zad (l9.getD 0 undef) fun b12 => br b12
 (zab 1 false (zaa x1) 2 fun v13 =>
 zab 1 false (zaa x1) 1 fun v14 =>
 zab 1 false (zaa x1) 4 fun v15 =>
 pBin PP .sub T.uint64 r2 v15 fun v16 =>
 zab 1 false (zaa x1) 3 fun v17 =>
 pBin PP .sub T.uint64 r2 v17 fun v18 =>
 zar PP T.api_Fact [(0, v1), (1, v13), (2, v14), (3, v16), (4, v18)] fun v19 =>
 zac 5 [.int .i64 0, .int .u64 0, .int .u64 0, .int .u64 0, .int .u64 0] 0 v19 fun c20 =>
 zab 5 true c20 0 fun v21 =>
 some (v21, H10))
 (zaC (
 pBin PP .eql T.int v4 (.int .i64 6) fun v22 =>
 zad v22 fun b23 => br b23
 (some (.next, [v22], H10))
 (pBin PP .eql T.int v4 (.int .i64 17) fun v24 =>
 some (.next, [v24], H10))) fun q25 l26 H27 => zaJ q25
 (zad (l26.getD 0 undef) fun b29 => br b29
 (zab 1 false (zaa x1) 1 fun v30 =>
 zab 1 false (zaa x2) 1 fun v31 =>
 pBin PP .and T.uint64 v30 v31 fun v32 =>
 zab 1 false (zaa x1) 2 fun v33 =>
 zab 1 false (zaa x2) 2 fun v34 =>
 pBin PP .or T.uint64 v33 v34 fun v35 =>
 zab 1 false (zaa x1) 4 fun v36 =>
 zab 1 false (zaa x2) 4 fun v37 =>
 pMM false [v36, v37] fun v38 =>
 zar PP T.api_Fact [(0, v1), (1, v32), (2, v35), (4, v38)] fun v39 =>
 zac 5 [.int .i64 0, .int .u64 0, .int .u64 0, .int .u64 0, .int .u64 0] 0 v39 fun c40 =>
 zab 5 true c40 0 fun v41 =>
 some (v41, H27))
 (zaC (
 pBin PP .eql T.int v4 (.int .i64 7) fun v42 =>
 zad v42 fun b43 => br b43
 (some (.next, [v42], H27))
 (pBin PP .eql T.int v4 (.int .i64 18) fun v44 =>
 some (.next, [v44], H27))) fun q45 l46 H47 => zaJ q45
 (zad (l46.getD 0 undef) fun b49 => br b49
 (zab 1 false (zaa x1) 1 fun v50 =>
 zab 1 false (zaa x2) 1 fun v51 =>
 pBin PP .or T.uint64 v50 v51 fun v52 =>
 zab 1 false (zaa x1) 2 fun v53 =>
 zab 1 false (zaa x2) 2 fun v54 =>
 pBin PP .and T.uint64 v53 v54 fun v55 =>
 zab 1 false (zaa x1) 3 fun v56 =>
 zab 1 false (zaa x2) 3 fun v57 =>
 pMM true [v56, v57] fun v58 =>
 zar PP T.api_Fact [(0, v1), (1, v52), (2, v55), (3, v58), (4, r2)] fun v59 =>
 zac 5 [.int .i64 0, .int .u64 0, .int .u64 0, .int .u64 0, .int .u64 0] 0 v59 fun c60 =>
 zab 5 true c60 0 fun v61 =>
 some (v61, H47))
 (zaC (
 pBin PP .eql T.int v4 (.int .i64 8) fun v62 =>
 zad v62 fun b63 => br b63
 (some (.next, [v62], H47))
 (pBin PP .eql T.int v4 (.int .i64 19) fun v64 =>
 some (.next, [v64], H47))) fun q65 l66 H67 => zaJ q65
 (zad (l66.getD 0 undef) fun b69 => br b69
 (zab 1 false (zaa x1) 1 fun v70 =>
 zab 1 false (zaa x2) 2 fun v71 =>
 pBin PP .and T.uint64 v70 v71 fun v72 =>
 zab 1 false (zaa x1) 2 fun v73 =>
 zab 1 false (zaa x2) 1 fun v74 =>
 pBin PP .and T.uint64 v73 v74 fun v75 =>
 pBin PP .or T.uint64 v72 v75 fun v76 =>
 zab 1 false (zaa x1) 1 fun v77 =>
 zab 1 false (zaa x2) 1 fun v78 =>
 pBin PP .and T.uint64 v77 v78 fun v79 =>
 zab 1 false (zaa x1) 2 fun v80 =>
 zab 1 false (zaa x2) 2 fun v81 =>
 pBin PP .and T.uint64 v80 v81 fun v82 =>
 pBin PP .or T.uint64 v79 v82 fun v83 =>
 zaf R F.a11 [v1, v76, v83] H67 fun r84 H85 =>
 zac 5 [.int .i64 0, .int .u64 0, .int .u64 0, .int .u64 0, .int .u64 0] 0 r84 fun c86 =>
 zab 5 true c86 0 fun v87 =>
 some (v87, H85))
 (zaC (
 pBin PP .geq T.int v4 (.int .i64 9) fun v88 =>
 zad v88 fun b89 => br b89
 (pBin PP .leq T.int v4 (.int .i64 13) fun v90 =>
 some (.next, [v90], H67))
 (some (.next, [(.bool false)], H67))) fun q91 l92 H93 => zaJ q91
 (zad (l92.getD 0 undef) fun b95 => br b95
 (zab 5 true (zaa x1) 0 fun v96 =>
 zab 5 true (zaa x2) 0 fun v97 =>
 zaf R F.a114 [v4, v96, v97] H93 fun r98 H99 =>
 zac 5 [.int .i64 0, .int .u64 0, .int .u64 0, .int .u64 0, .int .u64 0] 0 r98 fun c100 =>
 zab 5 true c100 0 fun v101 =>
 some (v101, H99))
 (pBin PP .eql T.int v4 (.int .i64 14) fun v102 =>
 zad v102 fun b103 => br b103
 (zab 1 false (zaa x1) 3 fun v104 =>
 zab 1 false (zaa x1) 4 fun v105 =>
 pBin PP .eql T.uint64 v104 v105 fun v106 =>
 zad v106 fun b107 => br b107
 (zab 1 false (zaa x1) 3 fun v108 =>
 pBin PP .eql T.uint64 v108 (.int .u64 1) fun v109 =>
 zad v109 fun b110 => br b110
 (zab 5 true (zaa x2) 0 fun v111 =>
 zac 5 [.int .i64 0, .int .u64 0, .int .u64 0, .int .u64 0, .int .u64 0] 0 v111 fun c112 =>
 zab 5 true c112 0 fun v113 =>
 some (v113, H93))
 (zab 5 true (zaa x3) 0 fun v114 =>
 zac 5 [.int .i64 0, .int .u64 0, .int .u64 0, .int .u64 0, .int .u64 0] 0 v114 fun c115 =>
 zab 5 true c115 0 fun v116 =>
 some (v116, H93)))
 (zab 5 true (zaa x2) 0 fun v117 =>
 zab 5 true (zaa x3) 0 fun v118 =>
 zaf R F.a51 [v117, v118] H93 fun r119 H120 =>
 zac 5 [.int .i64 0, .int .u64 0, .int .u64 0, .int .u64 0, .int .u64 0] 0 r119 fun c121 =>
 zab 5 true c121 0 fun v122 =>
 some (v122, H120)))
 (pBin PP .eql T.int v4 (.int .i64 20) fun v123 =>
 zad v123 fun b124 => br b124
 (zab 5 true (zaa x1) 0 fun v125 =>
 zab 5 true (zaa x2) 0 fun v126 =>
 zaf R F.a120 [v125, v126] H93 fun r127 H128 =>
 zac 5 [.int .i64 0, .int .u64 0, .int .u64 0, .int .u64 0, .int .u64 0] 0 r127 fun c129 =>
 zab 5 true c129 0 fun v130 =>
 some (v130, H128))
 (pBin PP .eql T.int v4 (.int .i64 21) fun v131 =>
 zad v131 fun b132 => br b132
 (zab 5 true (zaa x1) 0 fun v133 =>
 zab 5 true (zaa x2) 0 fun v134 =>
 zaf R F.a76 [v133, v134] H93 fun r135 H136 =>
 zac 5 [.int .i64 0, .int .u64 0, .int .u64 0, .int .u64 0, .int .u64 0] 0 r135 fun c137 =>
 zab 5 true c137 0 fun v138 =>
 some (v138, H136))
 (pBin PP .eql T.int v4 (.int .i64 16) fun v139 =>
 zad v139 fun b140 => br b140
 (zaf R F.a16 [v1, (.int .u64 0)] H93 fun r141 H142 =>
 zab 5 true (zaa x1) 0 fun v143 =>
 zaf R F.a76 [r141, v143] H142 fun r144 H145 =>
 zac 5 [.int .i64 0, .int .u64 0, .int .u64 0, .int .u64 0, .int .u64 0] 0 r144 fun c146 =>
 zab 5 true c146 0 fun v147 =>
 some (v147, H145))
 (pBin PP .eql T.int v4 (.int .i64 22) fun v148 =>
 zad v148 fun b149 => br b149
 (zab 5 true (zaa x1) 0 fun v150 =>
 zab 5 true (zaa x2) 0 fun v151 =>
 zaf R F.a117 [v150, v151] H93 fun r152 H153 =>
 zac 5 [.int .i64 0, .int .u64 0, .int .u64 0, .int .u64 0, .int .u64 0] 0 r152 fun c154 =>
 zab 5 true c154 0 fun v155 =>
 some (v155, H153))
 (pBin PP .eql T.int v4 (.int .i64 23) fun v156 =>
 zad v156 fun b157 => br b157
 (zaf R F.a38 [v1] H93 fun r158 H159 =>
 zac 5 [.int .i64 0, .int .u64 0, .int .u64 0, .int .u64 0, .int .u64 0] 0 r158 fun c160 =>
 zab 1 false (zaa x2) 3 fun v161 =>
 pBin PP .gtr T.uint64 v161 (.int .u64 0) fun v162 =>
 zad v162 fun b163 => br b163
 (zab 1 false (zaa x1) 3 fun v164 =>
 zab 1 false (zaa x2) 4 fun v165 =>
 pBin PP .quo T.uint64 v164 v165 fun v166 =>
 zab 1 false (zaa x1) 4 fun v167 =>
 zab 1 false (zaa x2) 3 fun v168 =>
 pBin PP .quo T.uint64 v167 v168 fun v169 =>
 zac 1 c160 3 v166 fun c170 =>
 zac 1 c170 4 v169 fun c171 =>
 zab 5 true c171 0 fun v172 =>
 zac 5 [.int .i64 0, .int .u64 0, .int .u64 0, .int .u64 0, .int .u64 0] 0 v172 fun c173 =>
 zab 5 true c173 0 fun v174 =>
 some (v174, H159))
 (zab 5 true c160 0 fun v175 =>
 zac 5 [.int .i64 0, .int .u64 0, .int .u64 0, .int .u64 0, .int .u64 0] 0 v175 fun c176 =>
 zab 5 true c176 0 fun v177 =>
 some (v177, H159)))
 (pBin PP .eql T.int v4 (.int .i64 24) fun v178 =>
 zad v178 fun b179 => br b179
 (zab 5 true (zaa x1) 0 fun v180 =>
 zab 5 true (zaa x2) 0 fun v181 =>
 zaf R F.a118 [v180, v181] H93 fun r182 H183 =>
 zac 5 [.int .i64 0, .int .u64 0, .int .u64 0, .int .u64 0, .int .u64 0] 0 r182 fun c184 =>
 zab 5 true c184 0 fun v185 =>
 some (v185, H183))
 (pBin PP .geq T.int v4 (.int .i64 25) fun v186 =>
 zad v186 fun b187 => br b187
 (pBin PP .leq T.int v4 (.int .i64 29) fun v188 =>
 zad v188 fun b189 => br b189
 (zab 5 true (zaa x1) 0 fun v190 =>
 zab 5 true (zaa x2) 0 fun v191 =>
 zaf R F.a77 [v4, v190, v191] H93 fun r192 H193 =>
 zac 5 [.int .i64 0, .int .u64 0, .int .u64 0, .int .u64 0, .int .u64 0] 0 r192 fun c194 =>
 zab 5 true c194 0 fun v195 =>
 some (v195, H193))
 (zab 7 true (zaa x0) 0 fun v196 =>
 zab 5 true (zaa x1) 0 fun v197 =>
 zab 5 true (zaa x2) 0 fun v198 =>
 zaf R F.a18 [v196, v197, v198] H93 fun r199 H200 =>
 zac 5 [.int .i64 0, .int .u64 0, .int .u64 0, .int .u64 0, .int .u64 0] 0 r199 fun c201 =>
 zab 5 true c201 0 fun v202 =>
 some (v202, H200)))
 (zab 7 true (zaa x0) 0 fun v203 =>
 zab 5 true (zaa x1) 0 fun v204 =>
 zab 5 true (zaa x2) 0 fun v205 =>
 zaf R F.a18 [v203, v204, v205] H93 fun r206 H207 =>
 zac 5 [.int .i64 0, .int .u64 0, .int .u64 0, .int .u64 0, .int .u64 0] 0 r206 fun c208 =>
 zab 5 true c208 0 fun v209 =>
 some (v209, H207)))))))))))
 (fun i94 => zaE i94 0 (
 zab 7 true (zaa x0) 0 fun v210 =>
 zab 5 true (zaa x1) 0 fun v211 =>
 zab 5 true (zaa x2) 0 fun v212 =>
 zaf R F.a18 [v210, v211, v212] H93 fun r213 H214 =>
 zac 5 [.int .i64 0, .int .u64 0, .int .u64 0, .int .u64 0, .int .u64 0] 0 r213 fun c215 =>
 zab 5 true c215 0 fun v216 =>
 some (v216, H214)) (
 none))
 (some ((l92.headD undef), H93))))
 (fun i68 => zaE i68 0 (
 zab 7 true (zaa x0) 0 fun v217 =>
 zab 5 true (zaa x1) 0 fun v218 =>
 zab 5 true (zaa x2) 0 fun v219 =>
 zaf R F.a18 [v217, v218, v219] H67 fun r220 H221 =>
 zac 5 [.int .i64 0, .int .u64 0, .int .u64 0, .int .u64 0, .int .u64 0] 0 r220 fun c222 =>
 zab 5 true c222 0 fun v223 =>
 some (v223, H221)) (
 none))
 (some ((l66.headD undef), H67))))
 (fun i48 => zaE i48 0 (
 zab 7 true (zaa x0) 0 fun v224 =>
 zab 5 true (zaa x1) 0 fun v225 =>
 zab 5 true (zaa x2) 0 fun v226 =>
 zaf R F.a18 [v224, v225, v226] H47 fun r227 H228 =>
 zac 5 [.int .i64 0, .int .u64 0, .int .u64 0, .int .u64 0, .int .u64 0] 0 r227 fun c229 =>
 zab 5 true c229 0 fun v230 =>
 some (v230, H228)) (
 none))
 (some ((l46.headD undef), H47))))
 (fun i28 => zaE i28 0 (
 zab 7 true (zaa x0) 0 fun v231 =>
 zab 5 true (zaa x1) 0 fun v232 =>
 zab 5 true (zaa x2) 0 fun v233 =>
 zaf R F.a18 [v231, v232, v233] H27 fun r234 H235 =>
 zac 5 [.int .i64 0, .int .u64 0, .int .u64 0, .int .u64 0, .int .u64 0] 0 r234 fun c236 =>
 zab 5 true c236 0 fun v237 =>
 some (v237, H235)) (
 none))
 (some ((l26.headD undef), H27))))
 (fun i11 => zaE i11 0 (
 zab 7 true (zaa x0) 0 fun v238 =>
 zab 5 true (zaa x1) 0 fun v239 =>
 zab 5 true (zaa x2) 0 fun v240 =>
 zaf R F.a18 [v238, v239, v240] H10 fun r241 H242 =>
 zac 5 [.int .i64 0, .int .u64 0, .int .u64 0, .int .u64 0, .int .u64 0] 0 r241 fun c243 =>
 zab 5 true c243 0 fun v244 =>
 some (v244, H242)) (
 none))
 (some ((l9.headD undef), H10))
noncomputable def zdk (R : zaj) (x0 : Value) (H0 : Hp) : Option (Value × Hp) :=
 zaC (
 pBin PP .lss T.int x0 (.int .i64 1) fun v1 =>
 zad v1 fun b2 => br b2
 (some (.next, [(.bool true)], H0))
 (pBin PP .gtr T.int x0 (.int .i64 33) fun v3 =>
 some (.next, [v3], H0))) fun q4 l5 H6 => zaJ q4
 (zad (l5.getD 0 undef) fun b8 => br b8
 (some ((.int .i64 (-1)), H6))
 (pBin PP .leq T.int x0 (.int .i64 4) fun v9 =>
 zad v9 fun b10 => br b10
 (some ((.int .i64 0), H6))
 (pBin PP .eql T.int x0 (.int .i64 5) fun v11 =>
 zad v11 fun b12 => br b12
 (some ((.int .i64 1), H6))
 (pBin PP .eql T.int x0 (.int .i64 15) fun v13 =>
 zad v13 fun b14 => br b14
 (some ((.int .i64 1), H6))
 (pBin PP .eql T.int x0 (.int .i64 16) fun v15 =>
 zad v15 fun b16 => br b16
 (some ((.int .i64 1), H6))
 (pBin PP .geq T.int x0 (.int .i64 31) fun v17 =>
 zad v17 fun b18 => br b18
 (some ((.int .i64 1), H6))
 (pBin PP .eql T.int x0 (.int .i64 14) fun v19 =>
 zad v19 fun b20 => br b20
 (some ((.int .i64 3), H6))
 (some ((.int .i64 2), H6)))))))))
 (fun i7 => zaE i7 0 (
 some ((.int .i64 2), H6)) (
 none))
 (some ((l5.headD undef), H6))
noncomputable def zd9 (R : zaj) (x0 : Value) (H0 : Hp) : Option (Value × Hp) :=
 zaC (
 zab 1 false (zaa x0) 0 fun v1 =>
 pBin PP .lss T.int v1 (.int .i64 0) fun v2 =>
 zad v2 fun b3 => br b3
 (some (.ret, [(.bool false)], H0))
 (zab 1 false (zaa x0) 0 fun v4 =>
 pBin PP .gtr T.int v4 (.int .i64 64) fun v5 =>
 zad v5 fun b6 => br b6
 (some (.ret, [(.bool false)], H0))
 (some (.next, [], H0)))) fun q7 l8 H9 => zaJ q7
 (zab 1 false (zaa x0) 0 fun v11 =>
 zaf R F.a4 [v11] H9 fun r12 H13 =>
 zab 1 false (zaa x0) 1 fun v14 =>
 pBin PP .leq T.uint64 v14 r12 fun v15 =>
 zad v15 fun b16 => br b16
 (zab 1 false (zaa x0) 2 fun v17 =>
 pBin PP .leq T.uint64 v17 r12 fun v18 =>
 zad v18 fun b19 => br b19
 (zab 1 false (zaa x0) 3 fun v20 =>
 pBin PP .leq T.uint64 v20 r12 fun v21 =>
 zad v21 fun b22 => br b22
 (zab 1 false (zaa x0) 4 fun v23 =>
 pBin PP .leq T.uint64 v23 r12 fun v24 =>
 some (v24, H13))
 (some ((.bool false), H13)))
 (some ((.bool false), H13)))
 (some ((.bool false), H13)))
 (fun i10 => none)
 (some ((l8.headD undef), H9))
noncomputable def zcU (R : zaj) (x0 : Value) (H0 : Hp) : Option (Value × Hp) := zdW PP orc R F.a2 Go.Proofs.Tryz.f18 [x0] H0
noncomputable def zd8 (R : zaj) (x0 : Value) (H0 : Hp) : Option (Value × Hp) :=
 zab 1 false (zaa x0) 3 fun v1 =>
 zab 1 false (zaa x0) 4 fun v2 =>
 pBin PP .eql T.uint64 v1 v2 fun v3 =>
 some (v3, H0)
noncomputable def zdd (R : zaj) (x0 x1 x2 x3 : Value) (H0 : Hp) : Option (Value × Hp) :=
 pBin PP .gtr T.int x1 (.int .i64 0) fun v1 =>
 zaC (
 zab 1 false (zaa x0) 5 fun v2 =>
 pBin PP .neq T.uint64 v2 (.int .u64 0) fun v3 =>
 zad v3 fun b4 => br b4
 (zab 1 false (zaa x0) 0 fun v5 =>
 pBin PP .neq T.int v5 (.int .i64 3) fun v6 =>
 zad v6 fun b7 => br b7
 (zab 1 false (zaa x0) 0 fun v8 =>
 pBin PP .neq T.int v8 (.int .i64 31) fun v9 =>
 zad v9 fun b10 => br b10
 (some (.ret, [(.bool false)], H0))
 (some (.next, [], H0)))
 (some (.next, [], H0)))
 (some (.next, [], H0))) fun q11 l12 H13 => zaJ q11
 (zab 1 false (zaa x0) 0 fun v15 =>
 pBin PP .leq T.int v15 (.int .i64 2) fun v16 =>
 zad v16 fun b17 => br b17
 (zab 1 false (zaa x0) 1 fun v18 =>
 pBin PP .eql T.int v18 (.int .i64 0) fun v19 =>
 some (v19, H13))
 (pBin PP .eql T.int v15 (.int .i64 3) fun v20 =>
 zad v20 fun b21 => br b21
 (zab 1 false (zaa x0) 1 fun v22 =>
 pBin PP .gtr T.int v22 (.int .i64 0) fun v23 =>
 zad v23 fun b24 => br b24
 (zab 1 false (zaa x0) 5 fun v25 =>
 zab 1 false (zaa x0) 1 fun v26 =>
 zaf R F.a4 [v26] H13 fun r27 H28 =>
 pBin PP .leq T.uint64 v25 r27 fun v29 =>
 some (v29, H28))
 (some ((.bool false), H13)))
 (pBin PP .eql T.int v15 (.int .i64 4) fun v30 =>
 zad v30 fun b31 => br b31
 (some ((.bool true), H13))
 (pBin PP .eql T.int v15 (.int .i64 5) fun v32 =>
 zad v32 fun b33 => br b33
 (zab 1 false (zaa x0) 1 fun v34 =>
 pBin PP .eql T.int v34 (.int .i64 0) fun v35 =>
 zad v35 fun b36 => br b36
 (pBin PP .eql T.int x1 (.int .i64 0) fun v37 =>
 some (v37, H13))
 (some ((.bool false), H13)))
 (zaC (
 pBin PP .eql T.int v15 (.int .i64 6) fun v38 =>
 zad v38 fun b39 => br b39
 (some (.next, [(.bool true)], H13))
 (pBin PP .eql T.int v15 (.int .i64 7) fun v40 =>
 zad v40 fun b41 => br b41
 (some (.next, [(.bool true)], H13))
 (pBin PP .eql T.int v15 (.int .i64 8) fun v42 =>
 some (.next, [v42], H13)))) fun q43 l44 H45 => zaJ q43
 (zad (l44.getD 0 undef) fun b47 => br b47
 (zab 1 false (zaa x0) 1 fun v48 =>
 pBin PP .eql T.int v48 (.int .i64 0) fun v49 =>
 zad v49 fun b50 => br b50
 (pBin PP .eql T.int x1 (.int .i64 0) fun v51 =>
 zad v51 fun b52 => br b52
 (pBin PP .eql T.int x2 (.int .i64 0) fun v53 =>
 some (v53, H45))
 (some ((.bool false), H45)))
 (some ((.bool false), H45)))
 (pBin PP .eql T.int v15 (.int .i64 9) fun v54 =>
 zad v54 fun b55 => br b55
 (zab 1 false (zaa x0) 1 fun v56 =>
 pBin PP .eql T.int v56 (.int .i64 0) fun v57 =>
 zad v57 fun b58 => br b58
 (pBin PP .eql T.int x1 x2 fun v59 =>
 some (v59, H45))
 (some ((.bool false), H45)))
 (zaC (
 pBin PP .geq T.int v15 (.int .i64 10) fun v60 =>
 zad v60 fun b61 => br b61
 (pBin PP .leq T.int v15 (.int .i64 13) fun v62 =>
 some (.next, [v62], H45))
 (some (.next, [(.bool false)], H45))) fun q63 l64 H65 => zaJ q63
 (zad (l64.getD 0 undef) fun b67 => br b67
 (zab 1 false (zaa x0) 1 fun v68 =>
 pBin PP .eql T.int v68 (.int .i64 0) fun v69 =>
 zad v69 fun b70 => br b70
 (zad v1 fun b71 => br b71
 (pBin PP .eql T.int x1 x2 fun v72 =>
 some (v72, H65))
 (some ((.bool false), H65)))
 (some ((.bool false), H65)))
 (pBin PP .eql T.int v15 (.int .i64 14) fun v73 =>
 zad v73 fun b74 => br b74
 (pBin PP .eql T.int x1 (.int .i64 0) fun v75 =>
 zad v75 fun b76 => br b76
 (pBin PP .eql T.int x2 x3 fun v77 =>
 zad v77 fun b78 => br b78
 (zab 1 false (zaa x0) 1 fun v79 =>
 pBin PP .eql T.int v79 x2 fun v80 =>
 some (v80, H65))
 (some ((.bool false), H65)))
 (some ((.bool false), H65)))
 (zaC (
 pBin PP .eql T.int v15 (.int .i64 15) fun v81 =>
 zad v81 fun b82 => br b82
 (some (.next, [(.bool true)], H65))
 (pBin PP .eql T.int v15 (.int .i64 16) fun v83 =>
 some (.next, [v83], H65))) fun q84 l85 H86 => zaJ q84
 (zad (l85.getD 0 undef) fun b88 => br b88
 (zad v1 fun b89 => br b89
 (zab 1 false (zaa x0) 1 fun v90 =>
 pBin PP .eql T.int v90 x1 fun v91 =>
 some (v91, H86))
 (some ((.bool false), H86)))
 (zaC (
 pBin PP .geq T.int v15 (.int .i64 17) fun v92 =>
 zad v92 fun b93 => br b93
 (pBin PP .leq T.int v15 (.int .i64 24) fun v94 =>
 some (.next, [v94], H86))
 (some (.next, [(.bool false)], H86))) fun q95 l96 H97 => zaJ q95
 (zad (l96.getD 0 undef) fun b99 => br b99
 (zad v1 fun b100 => br b100
 (pBin PP .eql T.int x1 x2 fun v101 =>
 zad v101 fun b102 => br b102
 (zab 1 false (zaa x0) 1 fun v103 =>
 pBin PP .eql T.int v103 x1 fun v104 =>
 some (v104, H97))
 (some ((.bool false), H97)))
 (some ((.bool false), H97)))
 (zaC (
 pBin PP .geq T.int v15 (.int .i64 25) fun v105 =>
 zad v105 fun b106 => br b106
 (pBin PP .leq T.int v15 (.int .i64 29) fun v107 =>
 some (.next, [v107], H97))
 (some (.next, [(.bool false)], H97))) fun q108 l109 H110 => zaJ q108
 (zad (l109.getD 0 undef) fun b112 => br b112
 (zad v1 fun b113 => br b113
 (pBin PP .eql T.int x1 x2 fun v114 =>
 zad v114 fun b115 => br b115
 (zab 1 false (zaa x0) 1 fun v116 =>
 pBin PP .eql T.int v116 x1 fun v117 =>
 zad v117 fun b118 => br b118
 (zaf R F.a43 [x1] H110 fun r119 H120 =>
 some (r119, H120))
 (some ((.bool false), H110)))
 (some ((.bool false), H110)))
 (some ((.bool false), H110)))
 (pBin PP .eql T.int v15 (.int .i64 30) fun v121 =>
 zad v121 fun b122 => br b122
 (zad v1 fun b123 => br b123
 (pBin PP .gtr T.int x2 (.int .i64 0) fun v124 =>
 zad v124 fun b125 => br b125
 (zab 1 false (zaa x0) 1 fun v126 =>
 pBin PP .add T.int x1 x2 fun v127 =>
 pBin PP .eql T.int v126 v127 fun v128 =>
 some (v128, H110))
 (some ((.bool false), H110)))
 (some ((.bool false), H110)))
 (pBin PP .eql T.int v15 (.int .i64 31) fun v129 =>
 zad v129 fun b130 => br b130
 (zad v1 fun b131 => br b131
 (zab 1 false (zaa x0) 1 fun v132 =>
 pBin PP .geq T.int v132 (.int .i64 1) fun v133 =>
 zad v133 fun b134 => br b134
 (zab 1 false (zaa x0) 1 fun v135 =>
 pBin PP .leq T.int v135 x1 fun v136 =>
 zad v136 fun b137 => br b137
 (zab 1 false (zaa x0) 5 fun v138 =>
 zab 1 false (zaa x0) 1 fun v139 =>
 pBin PP .sub T.int x1 v139 fun v140 =>
 zal .u64 v140 fun v141 =>
 pBin PP .leq T.uint64 v138 v141 fun v142 =>
 some (v142, H110))
 (some ((.bool false), H110)))
 (some ((.bool false), H110)))
 (some ((.bool false), H110)))
 (zad v1 fun b143 => br b143
 (zab 1 false (zaa x0) 1 fun v144 =>
 pBin PP .geq T.int v144 x1 fun v145 =>
 some (v145, H110))
 (some ((.bool false), H110))))))
 (fun i111 => zaE i111 0 (
 zad v1 fun b146 => br b146
 (zab 1 false (zaa x0) 1 fun v147 =>
 pBin PP .geq T.int v147 x1 fun v148 =>
 some (v148, H110))
 (some ((.bool false), H110))) (
 none))
 (some ((l109.headD undef), H110))))
 (fun i98 => zaE i98 0 (
 zad v1 fun b149 => br b149
 (zab 1 false (zaa x0) 1 fun v150 =>
 pBin PP .geq T.int v150 x1 fun v151 =>
 some (v151, H97))
 (some ((.bool false), H97))) (
 none))
 (some ((l96.headD undef), H97))))
 (fun i87 => zaE i87 0 (
 zad v1 fun b152 => br b152
 (zab 1 false (zaa x0) 1 fun v153 =>
 pBin PP .geq T.int v153 x1 fun v154 =>
 some (v154, H86))
 (some ((.bool false), H86))) (
 none))
 (some ((l85.headD undef), H86)))))
 (fun i66 => zaE i66 0 (
 zad v1 fun b155 => br b155
 (zab 1 false (zaa x0) 1 fun v156 =>
 pBin PP .geq T.int v156 x1 fun v157 =>
 some (v157, H65))
 (some ((.bool false), H65))) (
 none))
 (some ((l64.headD undef), H65)))))
 (fun i46 => zaE i46 0 (
 zad v1 fun b158 => br b158
 (zab 1 false (zaa x0) 1 fun v159 =>
 pBin PP .geq T.int v159 x1 fun v160 =>
 some (v160, H45))
 (some ((.bool false), H45))) (
 none))
 (some ((l44.headD undef), H45)))))))
 (fun i14 => none)
 (some ((l12.headD undef), H13))
noncomputable def zea (R : zaj) (x0 : Value) (H0 : Hp) : Option (Value × Hp) :=
 pBin PP .lss T.int x0 (.int .i64 0) fun v1 =>
 zad v1 fun b2 => br b2
 (zar PP T.api_Fact [] fun v3 =>
 zac 5 [.int .i64 0, .int .u64 0, .int .u64 0, .int .u64 0, .int .u64 0] 0 v3 fun c4 =>
 zab 5 true c4 0 fun v5 =>
 some ((.tuple #[v5, (.int .i64 5)]), H0))
 (pBin PP .gtr T.int x0 (.int .i64 64) fun v6 =>
 zad v6 fun b7 => br b7
 (zar PP T.api_Fact [] fun v8 =>
 zac 5 [.int .i64 0, .int .u64 0, .int .u64 0, .int .u64 0, .int .u64 0] 0 v8 fun c9 =>
 zab 5 true c9 0 fun v10 =>
 some ((.tuple #[v10, (.int .i64 5)]), H0))
 (zaf R F.a4 [x0] H0 fun r11 H12 =>
 zar PP T.api_Fact [(0, x0), (4, r11)] fun v13 =>
 zac 5 [.int .i64 0, .int .u64 0, .int .u64 0, .int .u64 0, .int .u64 0] 0 v13 fun c14 =>
 zab 5 true c14 0 fun v15 =>
 some ((.tuple #[v15, (.int .i64 0)]), H12)))
noncomputable def zdj (R : zaj) (x0 x1 : Value) (H0 : Hp) : Option (Value × Hp) :=
 pBin PP .lss T.int x0 (.int .i64 0) fun v1 =>
 zad v1 fun b2 => br b2
 (zar PP T.api_Fact [] fun v3 =>
 zac 5 [.int .i64 0, .int .u64 0, .int .u64 0, .int .u64 0, .int .u64 0] 0 v3 fun c4 =>
 zab 5 true c4 0 fun v5 =>
 some ((.tuple #[v5, (.int .i64 5)]), H0))
 (pBin PP .gtr T.int x0 (.int .i64 64) fun v6 =>
 zad v6 fun b7 => br b7
 (zar PP T.api_Fact [] fun v8 =>
 zac 5 [.int .i64 0, .int .u64 0, .int .u64 0, .int .u64 0, .int .u64 0] 0 v8 fun c9 =>
 zab 5 true c9 0 fun v10 =>
 some ((.tuple #[v10, (.int .i64 5)]), H0))
 (zaf R F.a4 [x0] H0 fun r11 H12 =>
 pBin PP .gtr T.uint64 x1 r11 fun v13 =>
 zad v13 fun b14 => br b14
 (zar PP T.api_Fact [] fun v15 =>
 zac 5 [.int .i64 0, .int .u64 0, .int .u64 0, .int .u64 0, .int .u64 0] 0 v15 fun c16 =>
 zab 5 true c16 0 fun v17 =>
 some ((.tuple #[v17, (.int .i64 5)]), H12))
 (zaf R F.a4 [x0] H12 fun r18 H19 =>
 pBin PP .andNot T.uint64 r18 x1 fun v20 =>
 zar PP T.api_Fact [(0, x0), (1, x1), (2, v20), (3, x1), (4, x1)] fun v21 =>
 zac 5 [.int .i64 0, .int .u64 0, .int .u64 0, .int .u64 0, .int .u64 0] 0 v21 fun c22 =>
 zab 5 true c22 0 fun v23 =>
 some ((.tuple #[v23, (.int .i64 0)]), H19))))
noncomputable def zeG (R : zaj) (x0 x1 x2 x3 x4 x5 : Value) (H0 : Hp) : Option (Value × Hp) :=
 zab 1 false (zaa x0) 0 fun v1 =>
 pBin PP .eql T.int v1 (.int .i64 1) fun v2 =>
 zad v2 fun b3 => br b3
 (some ((.int .u64 1), H0))
 (zab 1 false (zaa x0) 0 fun v4 =>
 pBin PP .eql T.int v4 (.int .i64 3) fun v5 =>
 zad v5 fun b6 => br b6
 (zab 1 false (zaa x0) 5 fun v7 =>
 some (v7, H0))
 (zab 1 false (zaa x0) 0 fun v8 =>
 pBin PP .eql T.int v8 (.int .i64 5) fun v9 =>
 zad v9 fun b10 => br b10
 (pBin PP .sub T.uint64 (.int .u64 1) x1 fun v11 =>
 some (v11, H0))
 (zab 1 false (zaa x0) 0 fun v12 =>
 pBin PP .eql T.int v12 (.int .i64 6) fun v13 =>
 zad v13 fun b14 => br b14
 (pBin PP .mul T.uint64 x1 x2 fun v15 =>
 some (v15, H0))
 (zab 1 false (zaa x0) 0 fun v16 =>
 pBin PP .eql T.int v16 (.int .i64 7) fun v17 =>
 zad v17 fun b18 => br b18
 (pBin PP .add T.uint64 x1 x2 fun v19 =>
 pBin PP .mul T.uint64 x1 x2 fun v20 =>
 pBin PP .sub T.uint64 v19 v20 fun v21 =>
 some (v21, H0))
 (zab 1 false (zaa x0) 0 fun v22 =>
 pBin PP .eql T.int v22 (.int .i64 8) fun v23 =>
 zad v23 fun b24 => br b24
 (pBin PP .neq T.uint64 x1 x2 fun v25 =>
 zaf R F.a45 [v25] H0 fun r26 H27 =>
 some (r26, H27))
 (zab 1 false (zaa x0) 0 fun v28 =>
 pBin PP .eql T.int v28 (.int .i64 9) fun v29 =>
 zad v29 fun b30 => br b30
 (pBin PP .eql T.uint64 x1 x2 fun v31 =>
 zaf R F.a45 [v31] H0 fun r32 H33 =>
 some (r32, H33))
 (zaC (
 zab 1 false (zaa x0) 0 fun v34 =>
 pBin PP .geq T.int v34 (.int .i64 10) fun v35 =>
 zad v35 fun b36 => br b36
 (zab 1 false (zaa x0) 0 fun v37 =>
 pBin PP .leq T.int v37 (.int .i64 13) fun v38 =>
 some (.next, [v38], H0))
 (some (.next, [(.bool false)], H0))) fun q39 l40 H41 => zaJ q39
 (zad (l40.getD 0 undef) fun b43 => br b43
 (zab 1 false (zaa x0) 0 fun v44 =>
 zaf R F.a96 [v44, x4, x1, x2] H41 fun r45 H46 =>
 zah r45 0 fun v47 =>
 zah r45 1 fun v48 =>
 zaf R F.a45 [v47] H46 fun r49 H50 =>
 some (r49, H50))
 (zab 1 false (zaa x0) 0 fun v51 =>
 pBin PP .eql T.int v51 (.int .i64 14) fun v52 =>
 zad v52 fun b53 => br b53
 (pBin PP .eql T.uint64 x1 (.int .u64 1) fun v54 =>
 zad v54 fun b55 => br b55
 (some (x2, H41))
 (some (x3, H41)))
 (zaC (
 zab 1 false (zaa x0) 0 fun v56 =>
 pBin PP .eql T.int v56 (.int .i64 15) fun v57 =>
 zad v57 fun b58 => br b58
 (some (.next, [(.bool true)], H41))
 (zab 1 false (zaa x0) 0 fun v59 =>
 pBin PP .eql T.int v59 (.int .i64 16) fun v60 =>
 some (.next, [v60], H41))) fun q61 l62 H63 => zaJ q61
 (zad (l62.getD 0 undef) fun b65 => br b65
 (zab 1 false (zaa x0) 0 fun v66 =>
 zaf R F.a98 [v66, x4, x1] H63 fun r67 H68 =>
 zah r67 0 fun v69 =>
 zah r67 1 fun v70 =>
 some (v69, H68))
 (zaC (
 zab 1 false (zaa x0) 0 fun v71 =>
 pBin PP .geq T.int v71 (.int .i64 17) fun v72 =>
 zad v72 fun b73 => br b73
 (zab 1 false (zaa x0) 0 fun v74 =>
 pBin PP .leq T.int v74 (.int .i64 29) fun v75 =>
 some (.next, [v75], H63))
 (some (.next, [(.bool false)], H63))) fun q76 l77 H78 => zaJ q76
 (zad (l77.getD 0 undef) fun b80 => br b80
 (zab 1 false (zaa x0) 0 fun v81 =>
 zaf R F.a94 [v81, x4, x1, x2] H78 fun r82 H83 =>
 zah r82 0 fun v84 =>
 zah r82 1 fun v85 =>
 some (v84, H83))
 (zab 1 false (zaa x0) 0 fun v86 =>
 pBin PP .eql T.int v86 (.int .i64 30) fun v87 =>
 zad v87 fun b88 => br b88
 (zaf R F.a95 [x4, x1, x5, x2] H78 fun r89 H90 =>
 zah r89 0 fun v91 =>
 zah r89 1 fun v92 =>
 some (v91, H90))
 (zab 1 false (zaa x0) 0 fun v93 =>
 pBin PP .eql T.int v93 (.int .i64 31) fun v94 =>
 zad v94 fun b95 => br b95
 (zab 1 false (zaa x0) 5 fun v96 =>
 zal .i64 v96 fun v97 =>
 zab 1 false (zaa x0) 1 fun v98 =>
 zaf R F.a97 [x4, x1, v97, v98] H78 fun r99 H100 =>
 zah r99 0 fun v101 =>
 zah r99 1 fun v102 =>
 some (v101, H100))
 (zab 1 false (zaa x0) 0 fun v103 =>
 pBin PP .eql T.int v103 (.int .i64 32) fun v104 =>
 zad v104 fun b105 => br b105
 (zab 1 false (zaa x0) 0 fun v106 =>
 zab 1 false (zaa x0) 1 fun v107 =>
 zaf R F.a62 [v106, x4, x1, v107] H78 fun r108 H109 =>
 zah r108 0 fun v110 =>
 zah r108 1 fun v111 =>
 some (v110, H109))
 (zab 1 false (zaa x0) 0 fun v112 =>
 pBin PP .eql T.int v112 (.int .i64 33) fun v113 =>
 zad v113 fun b114 => br b114
 (zab 1 false (zaa x0) 0 fun v115 =>
 zab 1 false (zaa x0) 1 fun v116 =>
 zaf R F.a62 [v115, x4, x1, v116] H78 fun r117 H118 =>
 zah r117 0 fun v119 =>
 zah r117 1 fun v120 =>
 some (v119, H118))
 (some ((.int .u64 0), H78)))))))
 (fun i79 => zaE i79 0 (
 some ((.int .u64 0), H78)) (
 none))
 (some ((l77.headD undef), H78))))
 (fun i64 => zaE i64 0 (
 some ((.int .u64 0), H63)) (
 none))
 (some ((l62.headD undef), H63)))))
 (fun i42 => zaE i42 0 (
 some ((.int .u64 0), H41)) (
 none))
 (some ((l40.headD undef), H41)))))))))
noncomputable def zat (R : zaj) (x0 x1 x2 x3 : Value) (H0 : Hp) : Option (Value × Hp) :=
 zab 1 false (zaa x0) 1 fun v1 =>
 zab 1 false (zaa x0) 1 fun v2 =>
 zaf R F.a4 [v2] H0 fun r3 H4 =>
 zar PP T.api_Fact [(0, v1), (4, r3)] fun v5 =>
 zac 5 [.int .i64 0, .int .u64 0, .int .u64 0, .int .u64 0, .int .u64 0] 0 v5 fun c6 =>
 zab 1 false (zaa x0) 0 fun v7 =>
 zaC (
 pBin PP .eql T.int v7 (.int .i64 5) fun v8 =>
 zad v8 fun b9 => br b9
 (some (.next, [(.bool true)], H4))
 (pBin PP .eql T.int v7 (.int .i64 15) fun v10 =>
 some (.next, [v10], H4))) fun q11 l12 H13 => zaJ q11
 (zad (l12.getD 0 undef) fun b15 => br b15
 (zab 5 true (zaa x1) 0 fun v16 =>
 zaf R F.a70 [v16] H13 fun r17 H18 =>
 zac 5 [.int .i64 0, .int .u64 0, .int .u64 0, .int .u64 0, .int .u64 0] 0 r17 fun c19 =>
 zab 5 true c19 0 fun v20 =>
 some (v20, H18))
 (zaC (
 pBin PP .eql T.int v7 (.int .i64 6) fun v21 =>
 zad v21 fun b22 => br b22
 (some (.next, [(.bool true)], H13))
 (pBin PP .eql T.int v7 (.int .i64 17) fun v23 =>
 some (.next, [v23], H13))) fun q24 l25 H26 => zaJ q24
 (zad (l25.getD 0 undef) fun b28 => br b28
 (zab 1 false (zaa x1) 1 fun v29 =>
 zab 1 false (zaa x2) 1 fun v30 =>
 pBin PP .and T.uint64 v29 v30 fun v31 =>
 zac 1 c6 1 v31 fun c32 =>
 zab 1 false (zaa x1) 2 fun v33 =>
 zab 1 false (zaa x2) 2 fun v34 =>
 pBin PP .or T.uint64 v33 v34 fun v35 =>
 zac 1 c32 2 v35 fun c36 =>
 zab 1 false (zaa x1) 4 fun v37 =>
 zab 1 false (zaa x2) 4 fun v38 =>
 zaf R F.a66 [v37, v38] H26 fun r39 H40 =>
 zac 1 c36 4 r39 fun c41 =>
 zab 5 true c41 0 fun v42 =>
 zac 5 [.int .i64 0, .int .u64 0, .int .u64 0, .int .u64 0, .int .u64 0] 0 v42 fun c43 =>
 zab 5 true c43 0 fun v44 =>
 some (v44, H40))
 (zaC (
 pBin PP .eql T.int v7 (.int .i64 7) fun v45 =>
 zad v45 fun b46 => br b46
 (some (.next, [(.bool true)], H26))
 (pBin PP .eql T.int v7 (.int .i64 18) fun v47 =>
 some (.next, [v47], H26))) fun q48 l49 H50 => zaJ q48
 (zad (l49.getD 0 undef) fun b52 => br b52
 (zab 1 false (zaa x1) 1 fun v53 =>
 zab 1 false (zaa x2) 1 fun v54 =>
 pBin PP .or T.uint64 v53 v54 fun v55 =>
 zac 1 c6 1 v55 fun c56 =>
 zab 1 false (zaa x1) 2 fun v57 =>
 zab 1 false (zaa x2) 2 fun v58 =>
 pBin PP .and T.uint64 v57 v58 fun v59 =>
 zac 1 c56 2 v59 fun c60 =>
 zab 1 false (zaa x1) 3 fun v61 =>
 zab 1 false (zaa x2) 3 fun v62 =>
 zaf R F.a105 [v61, v62] H50 fun r63 H64 =>
 zac 1 c60 3 r63 fun c65 =>
 zab 5 true c65 0 fun v66 =>
 zac 5 [.int .i64 0, .int .u64 0, .int .u64 0, .int .u64 0, .int .u64 0] 0 v66 fun c67 =>
 zab 5 true c67 0 fun v68 =>
 some (v68, H64))
 (zaC (
 pBin PP .eql T.int v7 (.int .i64 8) fun v69 =>
 zad v69 fun b70 => br b70
 (some (.next, [(.bool true)], H50))
 (pBin PP .eql T.int v7 (.int .i64 19) fun v71 =>
 some (.next, [v71], H50))) fun q72 l73 H74 => zaJ q72
 (zad (l73.getD 0 undef) fun b76 => br b76
 (zab 1 false (zaa x1) 1 fun v77 =>
 zab 1 false (zaa x2) 2 fun v78 =>
 pBin PP .and T.uint64 v77 v78 fun v79 =>
 zab 1 false (zaa x1) 2 fun v80 =>
 zab 1 false (zaa x2) 1 fun v81 =>
 pBin PP .and T.uint64 v80 v81 fun v82 =>
 pBin PP .or T.uint64 v79 v82 fun v83 =>
 zac 1 c6 1 v83 fun c84 =>
 zab 1 false (zaa x1) 1 fun v85 =>
 zab 1 false (zaa x2) 1 fun v86 =>
 pBin PP .and T.uint64 v85 v86 fun v87 =>
 zab 1 false (zaa x1) 2 fun v88 =>
 zab 1 false (zaa x2) 2 fun v89 =>
 pBin PP .and T.uint64 v88 v89 fun v90 =>
 pBin PP .or T.uint64 v87 v90 fun v91 =>
 zac 1 c84 2 v91 fun c92 =>
 zab 5 true c92 0 fun v93 =>
 zac 5 [.int .i64 0, .int .u64 0, .int .u64 0, .int .u64 0, .int .u64 0] 0 v93 fun c94 =>
 zab 5 true c94 0 fun v95 =>
 some (v95, H74))
 (zaC (
 pBin PP .geq T.int v7 (.int .i64 9) fun v96 =>
 zad v96 fun b97 => br b97
 (pBin PP .leq T.int v7 (.int .i64 13) fun v98 =>
 some (.next, [v98], H74))
 (some (.next, [(.bool false)], H74))) fun q99 l100 H101 => zaJ q99
 (zad (l100.getD 0 undef) fun b103 => br b103
 (zab 5 true (zaa x1) 0 fun v104 =>
 zab 5 true (zaa x2) 0 fun v105 =>
 zaf R F.a102 [v7, v104, v105] H101 fun r106 H107 =>
 zac 5 [.int .i64 0, .int .u64 0, .int .u64 0, .int .u64 0, .int .u64 0] 0 r106 fun c108 =>
 zab 5 true c108 0 fun v109 =>
 some (v109, H107))
 (pBin PP .eql T.int v7 (.int .i64 14) fun v110 =>
 zad v110 fun b111 => br b111
 (zab 5 true (zaa x1) 0 fun v112 =>
 zaf R F.a34 [v112] H101 fun r113 H114 =>
 pUn .not r113 fun v115 =>
 zad v115 fun b116 => br b116
 (zab 5 true (zaa x2) 0 fun v117 =>
 zab 5 true (zaa x3) 0 fun v118 =>
 zaf R F.a48 [v117, v118] H114 fun r119 H120 =>
 zac 5 [.int .i64 0, .int .u64 0, .int .u64 0, .int .u64 0, .int .u64 0] 0 r119 fun c121 =>
 zab 5 true c121 0 fun v122 =>
 some (v122, H120))
 (zab 1 false (zaa x1) 3 fun v123 =>
 pBin PP .eql T.uint64 v123 (.int .u64 1) fun v124 =>
 zad v124 fun b125 => br b125
 (zab 5 true (zaa x2) 0 fun v126 =>
 zac 5 [.int .i64 0, .int .u64 0, .int .u64 0, .int .u64 0, .int .u64 0] 0 v126 fun c127 =>
 zab 5 true c127 0 fun v128 =>
 some (v128, H114))
 (zab 5 true (zaa x3) 0 fun v129 =>
 zac 5 [.int .i64 0, .int .u64 0, .int .u64 0, .int .u64 0, .int .u64 0] 0 v129 fun c130 =>
 zab 5 true c130 0 fun v131 =>
 some (v131, H114))))
 (pBin PP .eql T.int v7 (.int .i64 16) fun v132 =>
 zad v132 fun b133 => br b133
 (zab 1 false (zaa x1) 0 fun v134 =>
 zaf R F.a46 [v134, (.int .u64 0)] H101 fun r135 H136 =>
 zah r135 0 fun v137 =>
 zah r135 1 fun v138 =>
 zac 5 [.int .i64 0, .int .u64 0, .int .u64 0, .int .u64 0, .int .u64 0] 0 v137 fun c139 =>
 zab 5 true c139 0 fun v140 =>
 zab 5 true (zaa x1) 0 fun v141 =>
 zaf R F.a65 [v140, v141] H136 fun r142 H143 =>
 zac 5 [.int .i64 0, .int .u64 0, .int .u64 0, .int .u64 0, .int .u64 0] 0 r142 fun c144 =>
 zab 5 true c144 0 fun v145 =>
 some (v145, H143))
 (pBin PP .eql T.int v7 (.int .i64 20) fun v146 =>
 zad v146 fun b147 => br b147
 (zab 5 true (zaa x1) 0 fun v148 =>
 zab 5 true (zaa x2) 0 fun v149 =>
 zaf R F.a108 [v148, v149] H101 fun r150 H151 =>
 zac 5 [.int .i64 0, .int .u64 0, .int .u64 0, .int .u64 0, .int .u64 0] 0 r150 fun c152 =>
 zab 5 true c152 0 fun v153 =>
 some (v153, H151))
 (pBin PP .eql T.int v7 (.int .i64 21) fun v154 =>
 zad v154 fun b155 => br b155
 (zab 5 true (zaa x1) 0 fun v156 =>
 zab 5 true (zaa x2) 0 fun v157 =>
 zaf R F.a65 [v156, v157] H101 fun r158 H159 =>
 zac 5 [.int .i64 0, .int .u64 0, .int .u64 0, .int .u64 0, .int .u64 0] 0 r158 fun c160 =>
 zab 5 true c160 0 fun v161 =>
 some (v161, H159))
 (pBin PP .eql T.int v7 (.int .i64 22) fun v162 =>
 zad v162 fun b163 => br b163
 (zab 5 true (zaa x1) 0 fun v164 =>
 zab 5 true (zaa x2) 0 fun v165 =>
 zaf R F.a106 [v164, v165] H101 fun r166 H167 =>
 zac 5 [.int .i64 0, .int .u64 0, .int .u64 0, .int .u64 0, .int .u64 0] 0 r166 fun c168 =>
 zab 5 true c168 0 fun v169 =>
 some (v169, H167))
 (zaC (
 pBin PP .eql T.int v7 (.int .i64 23) fun v170 =>
 zad v170 fun b171 => br b171
 (some (.next, [(.bool true)], H101))
 (pBin PP .eql T.int v7 (.int .i64 24) fun v172 =>
 some (.next, [v172], H101))) fun q173 l174 H175 => zaJ q173
 (zad (l174.getD 0 undef) fun b177 => br b177
 (zab 5 true (zaa x1) 0 fun v178 =>
 zab 5 true (zaa x2) 0 fun v179 =>
 zaf R F.a103 [v7, v178, v179] H175 fun r180 H181 =>
 zac 5 [.int .i64 0, .int .u64 0, .int .u64 0, .int .u64 0, .int .u64 0] 0 r180 fun c182 =>
 zab 5 true c182 0 fun v183 =>
 some (v183, H181))
 (pBin PP .geq T.int v7 (.int .i64 25) fun v184 =>
 zad v184 fun b185 => br b185
 (pBin PP .leq T.int v7 (.int .i64 29) fun v186 =>
 zad v186 fun b187 => br b187
 (zab 5 true (zaa x1) 0 fun v188 =>
 zab 5 true (zaa x2) 0 fun v189 =>
 zaf R F.a69 [v7, v188, v189] H175 fun r190 H191 =>
 zac 5 [.int .i64 0, .int .u64 0, .int .u64 0, .int .u64 0, .int .u64 0] 0 r190 fun c192 =>
 zab 5 true c192 0 fun v193 =>
 some (v193, H191))
 (zab 7 true (zaa x0) 0 fun v194 =>
 zab 5 true (zaa x1) 0 fun v195 =>
 zab 5 true (zaa x2) 0 fun v196 =>
 zaf R F.a68 [v194, v195, v196] H175 fun r197 H198 =>
 zac 5 [.int .i64 0, .int .u64 0, .int .u64 0, .int .u64 0, .int .u64 0] 0 r197 fun c199 =>
 zab 5 true c199 0 fun v200 =>
 some (v200, H198)))
 (zab 7 true (zaa x0) 0 fun v201 =>
 zab 5 true (zaa x1) 0 fun v202 =>
 zab 5 true (zaa x2) 0 fun v203 =>
 zaf R F.a68 [v201, v202, v203] H175 fun r204 H205 =>
 zac 5 [.int .i64 0, .int .u64 0, .int .u64 0, .int .u64 0, .int .u64 0] 0 r204 fun c206 =>
 zab 5 true c206 0 fun v207 =>
 some (v207, H205))))
 (fun i176 => zaE i176 0 (
 zab 5 true c6 0 fun v208 =>
 zac 5 [.int .i64 0, .int .u64 0, .int .u64 0, .int .u64 0, .int .u64 0] 0 v208 fun c209 =>
 zab 5 true c209 0 fun v210 =>
 some (v210, H175)) (
 none))
 (some ((l174.headD undef), H175)))))))))
 (fun i102 => zaE i102 0 (
 zab 5 true c6 0 fun v211 =>
 zac 5 [.int .i64 0, .int .u64 0, .int .u64 0, .int .u64 0, .int .u64 0] 0 v211 fun c212 =>
 zab 5 true c212 0 fun v213 =>
 some (v213, H101)) (
 none))
 (some ((l100.headD undef), H101))))
 (fun i75 => zaE i75 0 (
 zab 5 true c6 0 fun v214 =>
 zac 5 [.int .i64 0, .int .u64 0, .int .u64 0, .int .u64 0, .int .u64 0] 0 v214 fun c215 =>
 zab 5 true c215 0 fun v216 =>
 some (v216, H74)) (
 none))
 (some ((l73.headD undef), H74))))
 (fun i51 => zaE i51 0 (
 zab 5 true c6 0 fun v217 =>
 zac 5 [.int .i64 0, .int .u64 0, .int .u64 0, .int .u64 0, .int .u64 0] 0 v217 fun c218 =>
 zab 5 true c218 0 fun v219 =>
 some (v219, H50)) (
 none))
 (some ((l49.headD undef), H50))))
 (fun i27 => zaE i27 0 (
 zab 5 true c6 0 fun v220 =>
 zac 5 [.int .i64 0, .int .u64 0, .int .u64 0, .int .u64 0, .int .u64 0] 0 v220 fun c221 =>
 zab 5 true c221 0 fun v222 =>
 some (v222, H26)) (
 none))
 (some ((l25.headD undef), H26))))
 (fun i14 => zaE i14 0 (
 zab 5 true c6 0 fun v223 =>
 zac 5 [.int .i64 0, .int .u64 0, .int .u64 0, .int .u64 0, .int .u64 0] 0 v223 fun c224 =>
 zab 5 true c224 0 fun v225 =>
 some (v225, H13)) (
 none))
 (some ((l12.headD undef), H13))
noncomputable def zgp (R : zaj) (x0 : Value) (H0 : Hp) : Option (Value × Hp) :=
 zab 5 true (zaa x0) 0 fun v1 =>
 zaf R F.a37 [v1] H0 fun r2 H3 =>
 pUn .not r2 fun v4 =>
 zad v4 fun b5 => br b5
 (zar PP T.api_Fact [] fun v6 =>
 zac 5 [.int .i64 0, .int .u64 0, .int .u64 0, .int .u64 0, .int .u64 0] 0 v6 fun c7 =>
 zab 5 true c7 0 fun v8 =>
 some ((.tuple #[v8, (.int .i64 5)]), H3))
 (zab 5 true (zaa x0) 0 fun v9 =>
 zaf R F.a5 [v9] H3 fun r10 H11 =>
 zah r10 0 fun v12 =>
 zah r10 1 fun v13 =>
 zac 5 [.int .i64 0, .int .u64 0, .int .u64 0, .int .u64 0, .int .u64 0] 0 v12 fun c14 =>
 pUn .not v13 fun v15 =>
 zad v15 fun b16 => br b16
 (zar PP T.api_Fact [] fun v17 =>
 zac 5 [.int .i64 0, .int .u64 0, .int .u64 0, .int .u64 0, .int .u64 0] 0 v17 fun c18 =>
 zab 5 true c18 0 fun v19 =>
 some ((.tuple #[v19, (.int .i64 1)]), H11))
 (zab 5 true c14 0 fun v20 =>
 zac 5 [.int .i64 0, .int .u64 0, .int .u64 0, .int .u64 0, .int .u64 0] 0 v20 fun c21 =>
 zab 5 true c21 0 fun v22 =>
 some ((.tuple #[v22, (.int .i64 0)]), H11)))
noncomputable def zhx (R : zaj) (x0 x1 : Value) (H0 : Hp) : Option (Value × Hp) :=
 pBin PP .lss T.int x0 (.int .i64 0) fun v1 =>
 zad v1 fun b2 => br b2
 (zar PP T.api_Fact [] fun v3 =>
 zac 5 [.int .i64 0, .int .u64 0, .int .u64 0, .int .u64 0, .int .u64 0] 0 v3 fun c4 =>
 zab 5 true c4 0 fun v5 =>
 some ((.tuple #[v5, (.int .i64 5)]), H0))
 (pBin PP .gtr T.int x0 (.int .i64 64) fun v6 =>
 zad v6 fun b7 => br b7
 (zar PP T.api_Fact [] fun v8 =>
 zac 5 [.int .i64 0, .int .u64 0, .int .u64 0, .int .u64 0, .int .u64 0] 0 v8 fun c9 =>
 zab 5 true c9 0 fun v10 =>
 some ((.tuple #[v10, (.int .i64 5)]), H0))
 (zaf R F.a3 [x0] H0 fun r11 H12 =>
 pBin PP .gtr T.uint64 x1 r11 fun v13 =>
 zad v13 fun b14 => br b14
 (zar PP T.api_Fact [] fun v15 =>
 zac 5 [.int .i64 0, .int .u64 0, .int .u64 0, .int .u64 0, .int .u64 0] 0 v15 fun c16 =>
 zab 5 true c16 0 fun v17 =>
 some ((.tuple #[v17, (.int .i64 5)]), H12))
 (zaf R F.a16 [x0, x1] H12 fun r18 H19 =>
 zac 5 [.int .i64 0, .int .u64 0, .int .u64 0, .int .u64 0, .int .u64 0] 0 r18 fun c20 =>
 zab 5 true c20 0 fun v21 =>
 some ((.tuple #[v21, (.int .i64 0)]), H19))))
noncomputable def zio (R : zaj) (x0 : Value) (H0 : Hp) : Option (Value × Hp) :=
 zaf R F.a41 [x0] H0 fun r1 H2 =>
 zaf R F.a0 [r1, (.int .u64 18446744073709551615)] H2 fun r3 H4 =>
 some (r3, H4)
noncomputable def zkS (R : zaj) (x0 x1 : Value) (H0 : Hp) : Option (Value × Hp) := zdW PP orc R F.a40 Go.Proofs.Tryz.f28 [x0, x1] H0
noncomputable def zis (R : zaj) (x0 x1 : Value) (H0 : Hp) : Option (Value × Hp) :=
 zab 1 false (zaa x0) 0 fun v1 =>
 zaf R F.a3 [v1] H0 fun r2 H3 =>
 zab 1 false (zaa x0) 0 fun v4 =>
 zab 1 false (zaa x0) 2 fun v5 =>
 zab 1 false (zaa x0) 1 fun v6 =>
 zar PP T.api_Fact [(0, v4), (1, v5), (2, v6)] fun v7 =>
 pBin PP .andNot T.uint64 r2 x1 fun v8 =>
 zaf R F.a40 [v7, v8] H3 fun r9 H10 =>
 zah r9 0 fun v11 =>
 zah r9 1 fun v12 =>
 pBin PP .andNot T.uint64 r2 v11 fun v13 =>
 some ((.tuple #[v13, v12]), H10)
noncomputable def zmT (R : zaj) (x0 : Value) (H0 : Hp) : Option (Value × Hp) :=
 pMM true [x0, (.int .i64 1)] fun v1 =>
 some (v1, H0)
noncomputable def zin (R : zaj) (x0 x1 x2 : Value) (H0 : Hp) : Option (Value × Hp) :=
 zab 5 true (zaa x0) 0 fun v1 =>
 zaf R F.a40 [v1, x1] H0 fun r2 H3 =>
 zah r2 0 fun v4 =>
 zah r2 1 fun v5 =>
 zad v5 fun b6 => br b6
 (pBin PP .leq T.uint64 v4 x2 fun v7 =>
 some (v7, H3))
 (some ((.bool false), H3))
noncomputable def zkR (R : zaj) (x0 : Value) (H0 : Hp) : Option (Value × Hp) :=
 pBin PP .lss T.int x0 (.int .i64 0) fun v1 =>
 zad v1 fun b2 => br b2
 (some ((.tuple #[(.pointer none), (.int .i64 1)]), H0))
 (zc4 H0 fun v3 H4 =>
 zc4 H4 fun v5 H6 =>
 zar PP T.term_Store [(0, x0), (2, v3), (3, v5)] fun v7 =>
 ze2 (zaa v7) H6 fun p8 H9 =>
 some ((.tuple #[p8, (.int .i64 0)]), H9))
noncomputable def ze4 (R : zaj) (x0 x1 x2 : Value) (H0 : Hp) : Option (Value × Hp) :=
 zar PP T.api_Node [(0, (.int .i64 4)), (1, x2), (6, x1)] fun v1 =>
 zaf R F.a12 [x0, v1] H0 fun r2 H3 =>
 zah r2 0 fun v4 =>
 zah r2 1 fun v5 =>
 some ((.tuple #[v4, v5]), H3)
noncomputable def zeD (R : zaj) (x0 x1 : Value) (H0 : Hp) : Option (Value × Hp) :=
 zaC (
 zab 1 false (zaa x1) 0 fun v1 =>
 pBin PP .lss T.int v1 (.int .i64 1) fun v2 =>
 zad v2 fun b3 => br b3
 (some (.ret, [(.tuple #[(.int .i64 0), (.int .i64 73)])], H0))
 (zab 1 false (zaa x1) 0 fun v4 =>
 pBin PP .gtr T.int v4 (.int .i64 33) fun v5 =>
 zad v5 fun b6 => br b6
 (some (.ret, [(.tuple #[(.int .i64 0), (.int .i64 73)])], H0))
 (some (.next, [], H0)))) fun q7 l8 H9 => zaJ q7
 (zaC (
 zab 1 false (zaa x1) 1 fun v11 =>
 pBin PP .lss T.int v11 (.int .i64 0) fun v12 =>
 zad v12 fun b13 => br b13
 (some (.ret, [(.tuple #[(.int .i64 0), (.int .i64 5)])], H9))
 (zab 1 false (zaa x1) 1 fun v14 =>
 pBin PP .gtr T.int v14 (.int .i64 64) fun v15 =>
 zad v15 fun b16 => br b16
 (some (.ret, [(.tuple #[(.int .i64 0), (.int .i64 5)])], H9))
 (some (.next, [], H9)))) fun q17 l18 H19 => zaJ q17
 (zab 1 false (zaa x1) 2 fun v21 =>
 zab 1 false (zaa x1) 3 fun v22 =>
 zab 1 false (zaa x1) 4 fun v23 =>
 zar PP T.a3_int [(0, v21), (1, v22), (2, v23)] fun v24 =>
 zaC (zaA (fun l25 H26 =>
 pBin PP .lss T.int (l25.getD 0 undef) (.int .i64 3) fun v27 =>
 zad v27 fun b28 => br b28
 (zcg 3 false 1 v24 (l25.getD 0 undef) fun v29 =>
 zab 1 false (zaa x1) 0 fun v30 =>
 zaf R F.a24 [v30] H26 fun r31 H32 =>
 pBin PP .lss T.int (l25.getD 0 undef) r31 fun v33 =>
 zad v33 fun b34 => br b34
 (zaf R F.a31 [x0, v29] H32 fun r35 H36 =>
 pUn .not r35 fun v37 =>
 zad v37 fun b38 => br b38
 (some (.ret, [(.tuple #[(.int .i64 0), (.int .i64 70)])], H36))
 (pBin PP .add T.int (l25.getD 0 undef) (.int .i64 1) fun v39 =>
 some (.next, [v39], H36)))
 (pBin PP .add T.int (l25.getD 0 undef) (.int .i64 1) fun v40 =>
 some (.next, [v40], H32)))
 (some (.exit 0, [(l25.getD 0 undef)], H26))) [(.int .i64 0)] H19) fun q41 l42 H43 => zaJ q41 none
 (fun i44 => zaE i44 0 (
 zab 7 true (zaa x1) 0 fun v45 =>
 zaf R F.a127 [v45] H43 fun r46 H47 =>
 zad r46 fun b48 => br b48
 (some ((.tuple #[(.int .i64 0), (.int .i64 1)]), H47))
 (zab 7 true (zaa x1) 0 fun v49 =>
 zaf R F.a125 [x0, v49] H47 fun r50 H51 =>
 pUn .not r50 fun v52 =>
 zad v52 fun b53 => br b53
 (some ((.tuple #[(.int .i64 0), (.int .i64 71)]), H51))
 (zab 7 true (zaa x1) 0 fun v54 =>
 zaf R F.a126 [x0, v54] H51 fun r55 H56 =>
 pUn .not r55 fun v57 =>
 zad v57 fun b58 => br b58
 (some ((.tuple #[(.int .i64 0), (.int .i64 5)]), H56))
 (zaC (
 zab 1 false (zaa x1) 0 fun v59 =>
 pBin PP .eql T.int v59 (.int .i64 4) fun v60 =>
 zad v60 fun b61 => br b61
 (pNil x0 (
 za7 3 x0 fun p62 =>
 zaB 1 false H56 p62 fun v63 =>
 zab 1 false (zaa x1) 6 fun v64 =>
 zcn PP T.string (.int .i64 0) v63 v64 true H56 fun v65 =>
 zah v65 0 fun v66 =>
 zah v65 1 fun v67 =>
 zab 1 false (zaa x1) 6 fun v68 =>
 zaf R F.a59 [v68] H56 fun r69 H70 =>
 pUn .not r69 fun v71 =>
 zad v71 fun b72 => br b72
 (some (.ret, [(.tuple #[(.int .i64 0), (.int .i64 72)])], H70))
 (zad v67 fun b73 => br b73
 (zab 1 false (zaa x1) 1 fun v74 =>
 pBin PP .neq T.int v66 v74 fun v75 =>
 zad v75 fun b76 => br b76
 (some (.ret, [(.tuple #[(.int .i64 0), (.int .i64 72)])], H70))
 (some (.next, [], H70)))
 (some (.next, [], H70)))))
 (some (.next, [], H56))) fun q77 l78 H79 => zaJ q77
 (pNil x0 (
 za7 2 x0 fun p81 =>
 zaB 1 false H79 p81 fun v82 =>
 zab 7 true (zaa x1) 0 fun v83 =>
 zcn PP T.api_Node (.int .i64 0) v82 v83 true H79 fun v84 =>
 zah v84 0 fun v85 =>
 zah v84 1 fun v86 =>
 zad v86 fun b87 => br b87
 (some ((.tuple #[v85, (.int .i64 0)]), H79))
 (zaC (
 pNil x0 (
 za7 0 x0 fun p88 =>
 zaB 1 false H79 p88 fun v89 =>
 pBin PP .gtr T.int v89 (.int .i64 0) fun v90 =>
 zad v90 fun b91 => br b91
 (pNil x0 (
 za7 1 x0 fun p92 =>
 zaB 1 false H79 p92 fun v93 =>
 pLen .sl v93 H79 fun v94 =>
 pNil x0 (
 za7 0 x0 fun p95 =>
 zaB 1 false H79 p95 fun v96 =>
 pBin PP .geq T.int v94 v96 fun v97 =>
 zad v97 fun b98 => br b98
 (some (.ret, [(.tuple #[(.int .i64 0), (.int .i64 4)])], H79))
 (some (.next, [], H79)))))
 (some (.next, [], H79)))) fun q99 l100 H101 => zaJ q99
 (pNil x0 (
 za7 1 x0 fun p103 =>
 zaB 1 false H101 p103 fun v104 =>
 zab 7 true (zaa x1) 0 fun v105 =>
 zaR 7 [.int .i64 0, .int .i64 0, .int .i64 0, .int .i64 0, .int .i64 0, .int .u64 0, .string ⟨#[]⟩] 1 [(0, v105)] H101 fun v106 H107 =>
 chk (Hp.rdP H107 p103 1 false = some v104) (
 zby 7 64 v104 v106 H107 fun v108 H109 =>
 pNil x0 (
 za7 1 x0 fun p110 =>
 zcc 1 H109 p110 v108 fun H111 =>
 pNil x0 (
 za7 2 x0 fun p112 =>
 zaB 1 false H111 p112 fun v113 =>
 zab 7 true (zaa x1) 0 fun v114 =>
 pNil x0 (
 za7 1 x0 fun p115 =>
 zaB 1 false H111 p115 fun v116 =>
 pLen .sl v116 H111 fun v117 =>
 pUpd PP T.api_Node v113 v114 v117 H111 fun H118 =>
 zab 1 false (zaa x1) 0 fun v119 =>
 pBin PP .eql T.int v119 (.int .i64 4) fun v120 =>
 zad v120 fun b121 => br b121
 (pNil x0 (
 za7 3 x0 fun p122 =>
 zaB 1 false H118 p122 fun v123 =>
 zab 1 false (zaa x1) 6 fun v124 =>
 zab 1 false (zaa x1) 1 fun v125 =>
 pUpd PP T.string v123 v124 v125 H118 fun H126 =>
 pNil x0 (
 za7 1 x0 fun p127 =>
 zaB 1 false H126 p127 fun v128 =>
 pLen .sl v128 H126 fun v129 =>
 some ((.tuple #[v129, (.int .i64 0)]), H126))))
 (pNil x0 (
 za7 1 x0 fun p130 =>
 zaB 1 false H118 p130 fun v131 =>
 pLen .sl v131 H118 fun v132 =>
 some ((.tuple #[v132, (.int .i64 0)]), H118)))))))))
 (fun i102 => none)
 (some ((l100.headD undef), H101)))))
 (fun i80 => none)
 (some ((l78.headD undef), H79)))))) (
 none))
 (some ((l42.headD undef), H43)))
 (fun i20 => none)
 (some ((l18.headD undef), H19)))
 (fun i10 => none)
 (some ((l8.headD undef), H9))
noncomputable def zd2 (R : zaj) (x0 x1 : Value) (H0 : Hp) : Option (Value × Hp) :=
 zad x1 fun b1 => br b1
 (zar PP T.api_Node [(0, (.int .i64 1))] fun v2 =>
 zaf R F.a12 [x0, v2] H0 fun r3 H4 =>
 zah r3 0 fun v5 =>
 zah r3 1 fun v6 =>
 some ((.tuple #[v5, v6]), H4))
 (zar PP T.api_Node [(0, (.int .i64 2))] fun v7 =>
 zaf R F.a12 [x0, v7] H0 fun r8 H9 =>
 zah r8 0 fun v10 =>
 zah r8 1 fun v11 =>
 some ((.tuple #[v10, v11]), H9))
noncomputable def zd4 (R : zaj) (x0 x1 x2 : Value) (H0 : Hp) : Option (Value × Hp) :=
 zaf R F.a0 [x1, x2] H0 fun r1 H2 =>
 zar PP T.api_Node [(0, (.int .i64 3)), (1, x1), (5, r1)] fun v3 =>
 zaf R F.a12 [x0, v3] H2 fun r4 H5 =>
 zah r4 0 fun v6 =>
 zah r4 1 fun v7 =>
 some ((.tuple #[v6, v7]), H5)
noncomputable def ziu (R : zaj) (x0 x1 x2 : Value) (H0 : Hp) : Option (Value × Hp) :=
 zaR 1 [.int .i64 0] 1 [(0, x1)] H0 fun v1 H2 =>
 zaf R F.a71 [x0, v1, x2] H2 fun r3 H4 =>
 zah r3 0 fun v5 =>
 zah r3 1 fun v6 =>
 pBin PP .neq T.api_Errno v6 (.int .i64 0) fun v7 =>
 zad v7 fun b8 => br b8
 (some ((.tuple #[(.int .u64 0), v6]), H4))
 (pIdx 1 v5 (.int .i64 0) fun p9 =>
 zaB 1 false H4 p9 fun v10 =>
 some ((.tuple #[v10, (.int .i64 0)]), H4))
noncomputable def zjG (R : zaj) (x0 x1 x2 : Value) (H0 : Hp) : Option (Value × Hp) :=
 zaf R F.a3 [x0] H0 fun r1 H2 =>
 pBin PP .and T.uint64 x1 r1 fun v3 =>
 pBin PP .and T.uint64 x2 r1 fun v4 =>
 zar PP T.api_Fact [(0, x0), (1, v3), (2, v4), (4, r1)] fun v5 =>
 zac 5 [.int .i64 0, .int .u64 0, .int .u64 0, .int .u64 0, .int .u64 0] 0 v5 fun c6 =>
 zab 5 true c6 0 fun v7 =>
 some (v7, H2)
noncomputable def zfx (R : zaj) (x0 x1 x2 : Value) (H0 : Hp) : Option (Value × Hp) :=
 pBin PP .eql T.int x0 (.int .i64 9) fun v1 =>
 zad v1 fun b2 => br b2
 (zab 5 true (zaa x1) 0 fun v3 =>
 zab 5 true (zaa x2) 0 fun v4 =>
 zaf R F.a74 [v3, v4] H0 fun r5 H6 =>
 zah r5 0 fun v7 =>
 zah r5 1 fun v8 =>
 zac 5 [.int .i64 0, .int .u64 0, .int .u64 0, .int .u64 0, .int .u64 0] 0 v7 fun c9 =>
 pBin PP .neq T.api_Errno v8 (.int .i64 0) fun v10 =>
 zaf R F.a22 [(.bool false), v10] H6 fun r11 H12 =>
 zac 5 [.int .i64 0, .int .u64 0, .int .u64 0, .int .u64 0, .int .u64 0] 0 r11 fun c13 =>
 zab 5 true c13 0 fun v14 =>
 some (v14, H12))
 (pBin PP .eql T.int x0 (.int .i64 10) fun v15 =>
 zad v15 fun b16 => br b16
 (zab 1 false (zaa x1) 4 fun v17 =>
 zab 1 false (zaa x2) 3 fun v18 =>
 pBin PP .lss T.uint64 v17 v18 fun v19 =>
 zab 1 false (zaa x1) 3 fun v20 =>
 zab 1 false (zaa x2) 4 fun v21 =>
 pBin PP .geq T.uint64 v20 v21 fun v22 =>
 zaf R F.a22 [v19, v22] H0 fun r23 H24 =>
 zac 5 [.int .i64 0, .int .u64 0, .int .u64 0, .int .u64 0, .int .u64 0] 0 r23 fun c25 =>
 zab 5 true c25 0 fun v26 =>
 some (v26, H24))
 (pBin PP .eql T.int x0 (.int .i64 11) fun v27 =>
 zad v27 fun b28 => br b28
 (zab 1 false (zaa x1) 4 fun v29 =>
 zab 1 false (zaa x2) 3 fun v30 =>
 pBin PP .leq T.uint64 v29 v30 fun v31 =>
 zab 1 false (zaa x1) 3 fun v32 =>
 zab 1 false (zaa x2) 4 fun v33 =>
 pBin PP .gtr T.uint64 v32 v33 fun v34 =>
 zaf R F.a22 [v31, v34] H0 fun r35 H36 =>
 zac 5 [.int .i64 0, .int .u64 0, .int .u64 0, .int .u64 0, .int .u64 0] 0 r35 fun c37 =>
 zab 5 true c37 0 fun v38 =>
 some (v38, H36))
 (zab 5 true (zaa x1) 0 fun v39 =>
 zaf R F.a55 [v39] H0 fun r40 H41 =>
 zah r40 0 fun v42 =>
 zah r40 1 fun v43 =>
 zab 5 true (zaa x2) 0 fun v44 =>
 zaf R F.a55 [v44] H41 fun r45 H46 =>
 zah r45 0 fun v47 =>
 zah r45 1 fun v48 =>
 pBin PP .eql T.int x0 (.int .i64 12) fun v49 =>
 zad v49 fun b50 => br b50
 (pBin PP .lss T.int64 v43 v47 fun v51 =>
 pBin PP .geq T.int64 v42 v48 fun v52 =>
 zaf R F.a22 [v51, v52] H46 fun r53 H54 =>
 zac 5 [.int .i64 0, .int .u64 0, .int .u64 0, .int .u64 0, .int .u64 0] 0 r53 fun c55 =>
 zab 5 true c55 0 fun v56 =>
 some (v56, H54))
 (pBin PP .leq T.int64 v43 v47 fun v57 =>
 pBin PP .gtr T.int64 v42 v48 fun v58 =>
 zaf R F.a22 [v57, v58] H46 fun r59 H60 =>
 zac 5 [.int .i64 0, .int .u64 0, .int .u64 0, .int .u64 0, .int .u64 0] 0 r59 fun c61 =>
 zab 5 true c61 0 fun v62 =>
 some (v62, H60)))))
noncomputable def ziq (R : zaj) (x0 x1 : Value) (H0 : Hp) : Option (Value × Hp) :=
 zab 1 false (zaa x0) 0 fun v1 =>
 zab 1 false (zaa x0) 1 fun v2 =>
 zab 1 false (zaa x1) 1 fun v3 =>
 pBin PP .and T.uint64 v2 v3 fun v4 =>
 zab 1 false (zaa x0) 2 fun v5 =>
 zab 1 false (zaa x1) 2 fun v6 =>
 pBin PP .and T.uint64 v5 v6 fun v7 =>
 zab 1 false (zaa x0) 3 fun v8 =>
 zab 1 false (zaa x1) 3 fun v9 =>
 pMM false [v8, v9] fun v10 =>
 zab 1 false (zaa x0) 4 fun v11 =>
 zab 1 false (zaa x1) 4 fun v12 =>
 pMM true [v11, v12] fun v13 =>
 zar PP T.api_Fact [(0, v1), (1, v4), (2, v7), (3, v10), (4, v13)] fun v14 =>
 zac 5 [.int .i64 0, .int .u64 0, .int .u64 0, .int .u64 0, .int .u64 0] 0 v14 fun c15 =>
 zab 5 true c15 0 fun v16 =>
 some (v16, H0)
noncomputable def zjF (R : zaj) (x0 x1 : Value) (H0 : Hp) : Option (Value × Hp) :=
 zab 1 false (zaa x0) 0 fun v1 =>
 zaf R F.a11 [v1, (.int .u64 0), (.int .u64 0)] H0 fun r2 H3 =>
 zac 5 [.int .i64 0, .int .u64 0, .int .u64 0, .int .u64 0, .int .u64 0] 0 r2 fun c4 =>
 zab 5 true (zaa x0) 0 fun v5 =>
 zab 5 true (zaa x1) 0 fun v6 =>
 zaf R F.a39 [v1, v5, v6, (.bool false)] H3 fun r7 H8 =>
 zah r7 0 fun v9 =>
 zah r7 1 fun v10 =>
 zac 1 c4 1 v9 fun c11 =>
 zac 1 c11 2 v10 fun c12 =>
 zaf R F.a3 [v1] H8 fun r13 H14 =>
 zab 1 false (zaa x0) 4 fun v15 =>
 zab 1 false (zaa x1) 4 fun v16 =>
 zaf R F.a75 [v1, v15, v16] H14 fun r17 H18 =>
 pUn .not r17 fun v19 =>
 zad v19 fun b20 => br b20
 (zab 1 false (zaa x0) 3 fun v21 =>
 zab 1 false (zaa x1) 3 fun v22 =>
 pBin PP .add T.uint64 v21 v22 fun v23 =>
 pBin PP .and T.uint64 v23 r13 fun v24 =>
 zab 1 false (zaa x0) 4 fun v25 =>
 zab 1 false (zaa x1) 4 fun v26 =>
 pBin PP .add T.uint64 v25 v26 fun v27 =>
 pBin PP .and T.uint64 v27 r13 fun v28 =>
 zac 1 c12 3 v24 fun c29 =>
 zac 1 c29 4 v28 fun c30 =>
 zab 5 true c30 0 fun v31 =>
 zac 5 [.int .i64 0, .int .u64 0, .int .u64 0, .int .u64 0, .int .u64 0] 0 v31 fun c32 =>
 zab 5 true c32 0 fun v33 =>
 some (v33, H18))
 (zab 1 false (zaa x0) 3 fun v34 =>
 zab 1 false (zaa x1) 3 fun v35 =>
 zaf R F.a75 [v1, v34, v35] H18 fun r36 H37 =>
 zad r36 fun b38 => br b38
 (zab 1 false (zaa x0) 3 fun v39 =>
 zab 1 false (zaa x1) 3 fun v40 =>
 pBin PP .add T.uint64 v39 v40 fun v41 =>
 pBin PP .and T.uint64 v41 r13 fun v42 =>
 zab 1 false (zaa x0) 4 fun v43 =>
 zab 1 false (zaa x1) 4 fun v44 =>
 pBin PP .add T.uint64 v43 v44 fun v45 =>
 pBin PP .and T.uint64 v45 r13 fun v46 =>
 zac 1 c12 3 v42 fun c47 =>
 zac 1 c47 4 v46 fun c48 =>
 zab 5 true c48 0 fun v49 =>
 zac 5 [.int .i64 0, .int .u64 0, .int .u64 0, .int .u64 0, .int .u64 0] 0 v49 fun c50 =>
 zab 5 true c50 0 fun v51 =>
 some (v51, H37))
 (zab 5 true c12 0 fun v52 =>
 zac 5 [.int .i64 0, .int .u64 0, .int .u64 0, .int .u64 0, .int .u64 0] 0 v52 fun c53 =>
 zab 5 true c53 0 fun v54 =>
 some (v54, H37)))
noncomputable def zd5 (R : zaj) (x0 x1 : Value) (H0 : Hp) : Option (Value × Hp) :=
 zab 1 false (zaa x0) 0 fun v1 =>
 zaf R F.a3 [v1] H0 fun r2 H3 =>
 zaf R F.a11 [v1, (.int .u64 0), (.int .u64 0)] H3 fun r4 H5 =>
 zac 5 [.int .i64 0, .int .u64 0, .int .u64 0, .int .u64 0, .int .u64 0] 0 r4 fun c6 =>
 zab 5 true (zaa x0) 0 fun v7 =>
 zab 1 false (zaa x1) 2 fun v8 =>
 zab 1 false (zaa x1) 1 fun v9 =>
 zar PP T.api_Fact [(0, v1), (1, v8), (2, v9)] fun v10 =>
 zaf R F.a39 [v1, v7, v10, (.bool true)] H5 fun r11 H12 =>
 zah r11 0 fun v13 =>
 zah r11 1 fun v14 =>
 zac 1 c6 1 v13 fun c15 =>
 zac 1 c15 2 v14 fun c16 =>
 zab 1 false (zaa x0) 3 fun v17 =>
 zab 1 false (zaa x1) 4 fun v18 =>
 pBin PP .geq T.uint64 v17 v18 fun v19 =>
 zad v19 fun b20 => br b20
 (zab 1 false (zaa x0) 3 fun v21 =>
 zab 1 false (zaa x1) 4 fun v22 =>
 pBin PP .sub T.uint64 v21 v22 fun v23 =>
 pBin PP .and T.uint64 v23 r2 fun v24 =>
 zab 1 false (zaa x0) 4 fun v25 =>
 zab 1 false (zaa x1) 3 fun v26 =>
 pBin PP .sub T.uint64 v25 v26 fun v27 =>
 pBin PP .and T.uint64 v27 r2 fun v28 =>
 zac 1 c16 3 v24 fun c29 =>
 zac 1 c29 4 v28 fun c30 =>
 zab 5 true c30 0 fun v31 =>
 zac 5 [.int .i64 0, .int .u64 0, .int .u64 0, .int .u64 0, .int .u64 0] 0 v31 fun c32 =>
 zab 5 true c32 0 fun v33 =>
 some (v33, H12))
 (zab 1 false (zaa x0) 4 fun v34 =>
 zab 1 false (zaa x1) 3 fun v35 =>
 pBin PP .lss T.uint64 v34 v35 fun v36 =>
 zad v36 fun b37 => br b37
 (zab 1 false (zaa x0) 3 fun v38 =>
 zab 1 false (zaa x1) 4 fun v39 =>
 pBin PP .sub T.uint64 v38 v39 fun v40 =>
 pBin PP .and T.uint64 v40 r2 fun v41 =>
 zab 1 false (zaa x0) 4 fun v42 =>
 zab 1 false (zaa x1) 3 fun v43 =>
 pBin PP .sub T.uint64 v42 v43 fun v44 =>
 pBin PP .and T.uint64 v44 r2 fun v45 =>
 zac 1 c16 3 v41 fun c46 =>
 zac 1 c46 4 v45 fun c47 =>
 zab 5 true c47 0 fun v48 =>
 zac 5 [.int .i64 0, .int .u64 0, .int .u64 0, .int .u64 0, .int .u64 0] 0 v48 fun c49 =>
 zab 5 true c49 0 fun v50 =>
 some (v50, H12))
 (zab 5 true c16 0 fun v51 =>
 zac 5 [.int .i64 0, .int .u64 0, .int .u64 0, .int .u64 0, .int .u64 0] 0 v51 fun c52 =>
 zab 5 true c52 0 fun v53 =>
 some (v53, H12)))
noncomputable def zfw (R : zaj) (x0 x1 : Value) (H0 : Hp) : Option (Value × Hp) :=
 zab 1 false (zaa x0) 0 fun v1 =>
 zaf R F.a11 [v1, (.int .u64 0), (.int .u64 0)] H0 fun r2 H3 =>
 zac 5 [.int .i64 0, .int .u64 0, .int .u64 0, .int .u64 0, .int .u64 0] 0 r2 fun c4 =>
 zab 5 true (zaa x0) 0 fun v5 =>
 zaf R F.a79 [v5] H3 fun r6 H7 =>
 zaf R F.a30 [r6, v1] H7 fun r8 H9 =>
 zab 5 true (zaa x1) 0 fun v10 =>
 zaf R F.a79 [v10] H9 fun r11 H12 =>
 zaf R F.a30 [r11, v1] H12 fun r13 H14 =>
 pMM false [r8, r13] fun v15 =>
 zab 1 false (zaa x0) 1 fun v16 =>
 zab 1 false (zaa x1) 1 fun v17 =>
 pBin PP .mul T.uint64 v16 v17 fun v18 =>
 zaf R F.a0 [v15, v18] H14 fun r19 H20 =>
 zac 1 c4 1 r19 fun c21 =>
 pUn .xor r19 fun v22 =>
 zaf R F.a0 [v15, v22] H20 fun r23 H24 =>
 zac 1 c21 2 r23 fun c25 =>
 zab 1 false c25 2 fun v26 =>
 zab 1 false (zaa x0) 2 fun v27 =>
 zaf R F.a30 [v27, v1] H24 fun r28 H29 =>
 zab 1 false (zaa x1) 2 fun v30 =>
 zaf R F.a30 [v30, v1] H29 fun r31 H32 =>
 pBin PP .add T.int r28 r31 fun v33 =>
 pMM false [v33, v1] fun v34 =>
 zaf R F.a0 [v34, (.int .u64 18446744073709551615)] H32 fun r35 H36 =>
 pBin PP .or T.uint64 v26 r35 fun v37 =>
 zac 1 c25 2 v37 fun c38 =>
 zab 1 false (zaa x0) 4 fun v39 =>
 zab 1 false (zaa x1) 4 fun v40 =>
 zaf R F.a58 [v39, v40] H36 fun r41 H42 =>
 zah r41 0 fun v43 =>
 zah r41 1 fun v44 =>
 pBin PP .eql T.uint64 v43 (.int .u64 0) fun v45 =>
 zad v45 fun b46 => br b46
 (zaf R F.a3 [v1] H42 fun r47 H48 =>
 pBin PP .leq T.uint64 v44 r47 fun v49 =>
 zad v49 fun b50 => br b50
 (zab 1 false (zaa x0) 3 fun v51 =>
 zab 1 false (zaa x1) 3 fun v52 =>
 pBin PP .mul T.uint64 v51 v52 fun v53 =>
 zac 1 c38 3 v53 fun c54 =>
 zac 1 c54 4 v44 fun c55 =>
 zab 5 true c55 0 fun v56 =>
 zac 5 [.int .i64 0, .int .u64 0, .int .u64 0, .int .u64 0, .int .u64 0] 0 v56 fun c57 =>
 zab 5 true c57 0 fun v58 =>
 some (v58, H48))
 (zab 5 true c38 0 fun v59 =>
 zac 5 [.int .i64 0, .int .u64 0, .int .u64 0, .int .u64 0, .int .u64 0] 0 v59 fun c60 =>
 zab 5 true c60 0 fun v61 =>
 some (v61, H48)))
 (zab 5 true c38 0 fun v62 =>
 zac 5 [.int .i64 0, .int .u64 0, .int .u64 0, .int .u64 0, .int .u64 0] 0 v62 fun c63 =>
 zab 5 true c63 0 fun v64 =>
 some (v64, H42))
noncomputable def zeF (R : zaj) (x0 x1 : Value) (H0 : Hp) : Option (Value × Hp) :=
 zab 1 false (zaa x1) 3 fun v1 =>
 zab 1 false (zaa x0) 4 fun v2 =>
 pBin PP .gtr T.uint64 v1 v2 fun v3 =>
 zad v3 fun b4 => br b4
 (zab 5 true (zaa x0) 0 fun v5 =>
 zac 5 [.int .i64 0, .int .u64 0, .int .u64 0, .int .u64 0, .int .u64 0] 0 v5 fun c6 =>
 zab 5 true c6 0 fun v7 =>
 some (v7, H0))
 (zab 1 false (zaa x0) 0 fun v8 =>
 zaf R F.a38 [v8] H0 fun r9 H10 =>
 zac 5 [.int .i64 0, .int .u64 0, .int .u64 0, .int .u64 0, .int .u64 0] 0 r9 fun c11 =>
 zab 1 false (zaa x0) 4 fun v12 =>
 zac 1 c11 4 v12 fun c13 =>
 zab 1 false (zaa x1) 3 fun v14 =>
 pBin PP .gtr T.uint64 v14 (.int .u64 0) fun v15 =>
 zad v15 fun b16 => br b16
 (zab 1 false (zaa x0) 4 fun v17 =>
 zab 1 false (zaa x1) 4 fun v18 =>
 pBin PP .sub T.uint64 v18 (.int .u64 1) fun v19 =>
 pMM false [v17, v19] fun v20 =>
 zac 1 c13 4 v20 fun c21 =>
 zab 5 true c21 0 fun v22 =>
 zac 5 [.int .i64 0, .int .u64 0, .int .u64 0, .int .u64 0, .int .u64 0] 0 v22 fun c23 =>
 zab 5 true c23 0 fun v24 =>
 some (v24, H10))
 (zab 5 true c13 0 fun v25 =>
 zac 5 [.int .i64 0, .int .u64 0, .int .u64 0, .int .u64 0, .int .u64 0] 0 v25 fun c26 =>
 zab 5 true c26 0 fun v27 =>
 some (v27, H10)))
noncomputable def zgj (R : zaj) (x0 x1 x2 : Value) (H0 : Hp) : Option (Value × Hp) := zdW PP orc R F.a77 Go.Proofs.Tryz.f45 [x0, x1, x2] H0
noncomputable def zgl (R : zaj) (x0 x1 x2 : Value) (H0 : Hp) : Option (Value × Hp) :=
 zab 1 false (zaa x0) 1 fun v1 =>
 zab 1 false (zaa x0) 0 fun v2 =>
 pBin PP .eql T.int v2 (.int .i64 30) fun v3 =>
 zad v3 fun b4 => br b4
 (zab 1 false (zaa x2) 0 fun v5 =>
 zal .u64 v5 fun v6 =>
 zab 1 false (zaa x1) 1 fun v7 =>
 pBin PP .shl T.uint64 v7 v6 fun v8 =>
 zab 1 false (zaa x2) 1 fun v9 =>
 pBin PP .or T.uint64 v8 v9 fun v10 =>
 zab 1 false (zaa x1) 2 fun v11 =>
 pBin PP .shl T.uint64 v11 v6 fun v12 =>
 zab 1 false (zaa x2) 2 fun v13 =>
 pBin PP .or T.uint64 v12 v13 fun v14 =>
 zab 1 false (zaa x1) 3 fun v15 =>
 pBin PP .shl T.uint64 v15 v6 fun v16 =>
 zab 1 false (zaa x2) 3 fun v17 =>
 pBin PP .or T.uint64 v16 v17 fun v18 =>
 zab 1 false (zaa x1) 4 fun v19 =>
 pBin PP .shl T.uint64 v19 v6 fun v20 =>
 zab 1 false (zaa x2) 4 fun v21 =>
 pBin PP .or T.uint64 v20 v21 fun v22 =>
 zar PP T.api_Fact [(0, v1), (1, v10), (2, v14), (3, v18), (4, v22)] fun v23 =>
 zac 5 [.int .i64 0, .int .u64 0, .int .u64 0, .int .u64 0, .int .u64 0] 0 v23 fun c24 =>
 zab 5 true c24 0 fun v25 =>
 some (v25, H0))
 (pBin PP .eql T.int v2 (.int .i64 31) fun v26 =>
 zad v26 fun b27 => br b27
 (zab 1 false (zaa x1) 1 fun v28 =>
 zab 1 false (zaa x0) 5 fun v29 =>
 pBin PP .shr T.uint64 v28 v29 fun v30 =>
 zab 1 false (zaa x1) 2 fun v31 =>
 zab 1 false (zaa x0) 5 fun v32 =>
 pBin PP .shr T.uint64 v31 v32 fun v33 =>
 zaf R F.a11 [v1, v30, v33] H0 fun r34 H35 =>
 zac 5 [.int .i64 0, .int .u64 0, .int .u64 0, .int .u64 0, .int .u64 0] 0 r34 fun c36 =>
 zab 1 false (zaa x1) 3 fun v37 =>
 zab 1 false (zaa x0) 5 fun v38 =>
 pBin PP .shr T.uint64 v37 v38 fun v39 =>
 zab 1 false (zaa x1) 4 fun v40 =>
 zab 1 false (zaa x0) 5 fun v41 =>
 pBin PP .shr T.uint64 v40 v41 fun v42 =>
 pBin PP .eql T.int v1 (.int .i64 64) fun v43 =>
 zad v43 fun b44 => br b44
 (zaf R F.a0 [v1, v39] H35 fun r45 H46 =>
 zaf R F.a0 [v1, v42] H46 fun r47 H48 =>
 zac 1 c36 3 r45 fun c49 =>
 zac 1 c49 4 r47 fun c50 =>
 zab 5 true c50 0 fun v51 =>
 zac 5 [.int .i64 0, .int .u64 0, .int .u64 0, .int .u64 0, .int .u64 0] 0 v51 fun c52 =>
 zab 5 true c52 0 fun v53 =>
 some (v53, H48))
 (zal .u64 v1 fun v54 =>
 pBin PP .shr T.uint64 v39 v54 fun v55 =>
 zal .u64 v1 fun v56 =>
 pBin PP .shr T.uint64 v42 v56 fun v57 =>
 pBin PP .eql T.uint64 v55 v57 fun v58 =>
 zad v58 fun b59 => br b59
 (zaf R F.a0 [v1, v39] H35 fun r60 H61 =>
 zaf R F.a0 [v1, v42] H61 fun r62 H63 =>
 zac 1 c36 3 r60 fun c64 =>
 zac 1 c64 4 r62 fun c65 =>
 zab 5 true c65 0 fun v66 =>
 zac 5 [.int .i64 0, .int .u64 0, .int .u64 0, .int .u64 0, .int .u64 0] 0 v66 fun c67 =>
 zab 5 true c67 0 fun v68 =>
 some (v68, H63))
 (zab 5 true c36 0 fun v69 =>
 zac 5 [.int .i64 0, .int .u64 0, .int .u64 0, .int .u64 0, .int .u64 0] 0 v69 fun c70 =>
 zab 5 true c70 0 fun v71 =>
 some (v71, H35))))
 (pBin PP .eql T.int v2 (.int .i64 32) fun v72 =>
 zad v72 fun b73 => br b73
 (zab 1 false (zaa x1) 1 fun v74 =>
 zab 1 false (zaa x1) 2 fun v75 =>
 zaf R F.a3 [v1] H0 fun r76 H77 =>
 zab 1 false (zaa x1) 0 fun v78 =>
 zaf R F.a3 [v78] H77 fun r79 H80 =>
 pBin PP .andNot T.uint64 r76 r79 fun v81 =>
 pBin PP .or T.uint64 v75 v81 fun v82 =>
 zab 1 false (zaa x1) 3 fun v83 =>
 zab 1 false (zaa x1) 4 fun v84 =>
 zar PP T.api_Fact [(0, v1), (1, v74), (2, v82), (3, v83), (4, v84)] fun v85 =>
 zac 5 [.int .i64 0, .int .u64 0, .int .u64 0, .int .u64 0, .int .u64 0] 0 v85 fun c86 =>
 zab 5 true c86 0 fun v87 =>
 some (v87, H80))
 (zaf R F.a3 [v1] H0 fun r88 H89 =>
 zab 1 false (zaa x1) 0 fun v90 =>
 zaf R F.a3 [v90] H89 fun r91 H92 =>
 pBin PP .andNot T.uint64 r88 r91 fun v93 =>
 zab 1 false (zaa x1) 0 fun v94 =>
 pBin PP .sub T.int v94 (.int .i64 1) fun v95 =>
 zal .u64 v95 fun v96 =>
 pBin PP .shl T.uint64 (.int .u64 1) v96 fun v97 =>
 zab 1 false (zaa x1) 1 fun v98 =>
 zab 1 false (zaa x1) 2 fun v99 =>
 zaf R F.a11 [v1, v98, v99] H92 fun r100 H101 =>
 zac 5 [.int .i64 0, .int .u64 0, .int .u64 0, .int .u64 0, .int .u64 0] 0 r100 fun c102 =>
 zab 1 false (zaa x1) 2 fun v103 =>
 pBin PP .and T.uint64 v103 v97 fun v104 =>
 pBin PP .neq T.uint64 v104 (.int .u64 0) fun v105 =>
 zad v105 fun b106 => br b106
 (zab 1 false c102 2 fun v107 =>
 pBin PP .or T.uint64 v107 v93 fun v108 =>
 zac 1 c102 2 v108 fun c109 =>
 zab 1 false (zaa x1) 3 fun v110 =>
 zab 1 false (zaa x1) 4 fun v111 =>
 zac 1 c109 3 v110 fun c112 =>
 zac 1 c112 4 v111 fun c113 =>
 zab 5 true c113 0 fun v114 =>
 zac 5 [.int .i64 0, .int .u64 0, .int .u64 0, .int .u64 0, .int .u64 0] 0 v114 fun c115 =>
 zab 5 true c115 0 fun v116 =>
 some (v116, H101))
 (zab 1 false (zaa x1) 1 fun v117 =>
 pBin PP .and T.uint64 v117 v97 fun v118 =>
 pBin PP .neq T.uint64 v118 (.int .u64 0) fun v119 =>
 zad v119 fun b120 => br b120
 (zab 1 false c102 1 fun v121 =>
 pBin PP .or T.uint64 v121 v93 fun v122 =>
 zac 1 c102 1 v122 fun c123 =>
 zab 1 false (zaa x1) 3 fun v124 =>
 pBin PP .or T.uint64 v124 v93 fun v125 =>
 zab 1 false (zaa x1) 4 fun v126 =>
 pBin PP .or T.uint64 v126 v93 fun v127 =>
 zac 1 c123 3 v125 fun c128 =>
 zac 1 c128 4 v127 fun c129 =>
 zab 5 true c129 0 fun v130 =>
 zac 5 [.int .i64 0, .int .u64 0, .int .u64 0, .int .u64 0, .int .u64 0] 0 v130 fun c131 =>
 zab 5 true c131 0 fun v132 =>
 some (v132, H101))
 (zab 5 true c102 0 fun v133 =>
 zac 5 [.int .i64 0, .int .u64 0, .int .u64 0, .int .u64 0, .int .u64 0] 0 v133 fun c134 =>
 zab 5 true c134 0 fun v135 =>
 some (v135, H101))))))
noncomputable def zdL (R : zaj) (x0 : Value) (H0 : Hp) : Option (Value × Hp) :=
 zaf R F.a26 [x0] H0 fun r1 H2 =>
 pBin PP .geq T.int r1 (.int .i64 64) fun v3 =>
 zad v3 fun b4 => br b4
 (some ((.int .u64 18446744073709551615), H2))
 (zal .u64 r1 fun v5 =>
 pBin PP .shl T.uint64 (.int .u64 1) v5 fun v6 =>
 pBin PP .sub T.uint64 v6 (.int .u64 1) fun v7 =>
 some (v7, H2))
noncomputable def zdf (R : zaj) (x0 : Value) (H0 : Hp) : Option (Value × Hp) := zdW PP orc R F.a14 Go.Proofs.Tryz.f48 [x0] H0
noncomputable def zch (R : zaj) (x0 : Value) (H0 : Hp) : Option (Value × Hp) := zdW PP orc R F.a47 Go.Proofs.Tryz.f49 [x0] H0
noncomputable def zdh (R : zaj) (x0 : Value) (H0 : Hp) : Option (Value × Hp) :=
 pBin PP .eql T.int x0 (.int .i64 0) fun v1 =>
 zad v1 fun b2 => br b2
 (some ((.int .i64 1), H0))
 (some (x0, H0))
noncomputable def zcW (R : zaj) (x0 : Value) (H0 : Hp) : Option (Value × Hp) :=
 zaC (zaA (fun l1 H2 =>
 pBin PP .leq T.int (l1.getD 0 undef) (.int .i64 64) fun v3 =>
 zad v3 fun b4 => br b4
 (pBin PP .eql T.int x0 (l1.getD 0 undef) fun v5 =>
 zad v5 fun b6 => br b6
 (some (.ret, [(.bool true)], H2))
 (pBin PP .mul T.int (.int .i64 2) (l1.getD 0 undef) fun v7 =>
 some (.next, [v7], H2)))
 (some (.exit 0, [(l1.getD 0 undef)], H2))) [(.int .i64 1)] H0) fun q8 l9 H10 => zaJ q8 none
 (fun i11 => zaE i11 0 (
 some ((.bool false), H10)) (
 none))
 (some ((l9.headD undef), H10))
noncomputable def zeb (R : zaj) (x0 : Value) (H0 : Hp) : Option (Value × Hp) :=
 zad x0 fun b1 => br b1
 (some ((.int .u64 1), H0))
 (some ((.int .u64 0), H0))
noncomputable def zee (R : zaj) (x0 x1 x2 x3 : Value) (H0 : Hp) : Option (Value × Hp) :=
 zaC (
 pBin PP .lss T.int x0 (.int .i64 9) fun v1 =>
 zad v1 fun b2 => br b2
 (some (.ret, [(.tuple #[(.bool false), (.int .i64 73)])], H0))
 (pBin PP .gtr T.int x0 (.int .i64 13) fun v3 =>
 zad v3 fun b4 => br b4
 (some (.ret, [(.tuple #[(.bool false), (.int .i64 73)])], H0))
 (some (.next, [], H0)))) fun q5 l6 H7 => zaJ q5
 (zaf R F.a9 [x1] H7 fun r9 H10 =>
 pUn .not r9 fun v11 =>
 zad v11 fun b12 => br b12
 (some ((.tuple #[(.bool false), (.int .i64 5)]), H10))
 (zaf R F.a1 [x1, x2] H10 fun r13 H14 =>
 zaf R F.a1 [x1, x3] H14 fun r15 H16 =>
 pBin PP .eql T.int x0 (.int .i64 9) fun v17 =>
 zad v17 fun b18 => br b18
 (pBin PP .eql T.uint64 r13 r15 fun v19 =>
 some ((.tuple #[v19, (.int .i64 0)]), H16))
 (pBin PP .eql T.int x0 (.int .i64 10) fun v20 =>
 zad v20 fun b21 => br b21
 (pBin PP .lss T.uint64 r13 r15 fun v22 =>
 some ((.tuple #[v22, (.int .i64 0)]), H16))
 (pBin PP .eql T.int x0 (.int .i64 11) fun v23 =>
 zad v23 fun b24 => br b24
 (pBin PP .leq T.uint64 r13 r15 fun v25 =>
 some ((.tuple #[v25, (.int .i64 0)]), H16))
 (pBin PP .eql T.int x0 (.int .i64 12) fun v26 =>
 zad v26 fun b27 => br b27
 (zaf R F.a25 [x1, r13] H16 fun r28 H29 =>
 zaf R F.a25 [x1, r15] H29 fun r30 H31 =>
 pBin PP .lss T.int64 r28 r30 fun v32 =>
 some ((.tuple #[v32, (.int .i64 0)]), H31))
 (zaf R F.a25 [x1, r13] H16 fun r33 H34 =>
 zaf R F.a25 [x1, r15] H34 fun r35 H36 =>
 pBin PP .leq T.int64 r33 r35 fun v37 =>
 some ((.tuple #[v37, (.int .i64 0)]), H36)))))))
 (fun i8 => none)
 (some ((l6.headD undef), H7))
noncomputable def zeH (R : zaj) (x0 x1 x2 : Value) (H0 : Hp) : Option (Value × Hp) :=
 pBin PP .neq T.int x0 (.int .i64 15) fun v1 =>
 zad v1 fun b2 => br b2
 (pBin PP .neq T.int x0 (.int .i64 16) fun v3 =>
 zad v3 fun b4 => br b4
 (some ((.tuple #[(.int .u64 0), (.int .i64 73)]), H0))
 (zaf R F.a9 [x1] H0 fun r5 H6 =>
 pUn .not r5 fun v7 =>
 zad v7 fun b8 => br b8
 (some ((.tuple #[(.int .u64 0), (.int .i64 5)]), H6))
 (pBin PP .eql T.int x0 (.int .i64 15) fun v9 =>
 zad v9 fun b10 => br b10
 (pUn .xor x2 fun v11 =>
 zaf R F.a1 [x1, v11] H6 fun r12 H13 =>
 some ((.tuple #[r12, (.int .i64 0)]), H13))
 (pBin PP .sub T.uint64 (.int .u64 0) x2 fun v14 =>
 zaf R F.a1 [x1, v14] H6 fun r15 H16 =>
 some ((.tuple #[r15, (.int .i64 0)]), H16)))))
 (zaf R F.a9 [x1] H0 fun r17 H18 =>
 pUn .not r17 fun v19 =>
 zad v19 fun b20 => br b20
 (some ((.tuple #[(.int .u64 0), (.int .i64 5)]), H18))
 (pBin PP .eql T.int x0 (.int .i64 15) fun v21 =>
 zad v21 fun b22 => br b22
 (pUn .xor x2 fun v23 =>
 zaf R F.a1 [x1, v23] H18 fun r24 H25 =>
 some ((.tuple #[r24, (.int .i64 0)]), H25))
 (pBin PP .sub T.uint64 (.int .u64 0) x2 fun v26 =>
 zaf R F.a1 [x1, v26] H18 fun r27 H28 =>
 some ((.tuple #[r27, (.int .i64 0)]), H28))))
noncomputable def zeg (R : zaj) (x0 x1 x2 x3 : Value) (H0 : Hp) : Option (Value × Hp) :=
 zaC (
 pBin PP .lss T.int x0 (.int .i64 17) fun v1 =>
 zad v1 fun b2 => br b2
 (some (.ret, [(.tuple #[(.int .u64 0), (.int .i64 73)])], H0))
 (pBin PP .gtr T.int x0 (.int .i64 29) fun v3 =>
 zad v3 fun b4 => br b4
 (some (.ret, [(.tuple #[(.int .u64 0), (.int .i64 73)])], H0))
 (some (.next, [], H0)))) fun q5 l6 H7 => zaJ q5
 (zaC (
 zaf R F.a9 [x1] H7 fun r9 H10 =>
 pUn .not r9 fun v11 =>
 zad v11 fun b12 => br b12
 (some (.ret, [(.tuple #[(.int .u64 0), (.int .i64 5)])], H10))
 (pBin PP .geq T.int x0 (.int .i64 25) fun v13 =>
 zad v13 fun b14 => br b14
 (zaf R F.a43 [x1] H10 fun r15 H16 =>
 pUn .not r15 fun v17 =>
 zad v17 fun b18 => br b18
 (some (.ret, [(.tuple #[(.int .u64 0), (.int .i64 5)])], H16))
 (some (.next, [], H16)))
 (some (.next, [], H10)))) fun q19 l20 H21 => zaJ q19
 (zaf R F.a1 [x1, x2] H21 fun r23 H24 =>
 zaf R F.a1 [x1, x3] H24 fun r25 H26 =>
 pBin PP .eql T.int x0 (.int .i64 17) fun v27 =>
 zad v27 fun b28 => br b28
 (pBin PP .and T.uint64 r23 r25 fun v29 =>
 some ((.tuple #[v29, (.int .i64 0)]), H26))
 (pBin PP .eql T.int x0 (.int .i64 18) fun v30 =>
 zad v30 fun b31 => br b31
 (pBin PP .or T.uint64 r23 r25 fun v32 =>
 some ((.tuple #[v32, (.int .i64 0)]), H26))
 (pBin PP .eql T.int x0 (.int .i64 19) fun v33 =>
 zad v33 fun b34 => br b34
 (pBin PP .xor T.uint64 r23 r25 fun v35 =>
 some ((.tuple #[v35, (.int .i64 0)]), H26))
 (pBin PP .eql T.int x0 (.int .i64 20) fun v36 =>
 zad v36 fun b37 => br b37
 (pBin PP .add T.uint64 r23 r25 fun v38 =>
 zaf R F.a1 [x1, v38] H26 fun r39 H40 =>
 some ((.tuple #[r39, (.int .i64 0)]), H40))
 (pBin PP .eql T.int x0 (.int .i64 21) fun v41 =>
 zad v41 fun b42 => br b42
 (pBin PP .sub T.uint64 r23 r25 fun v43 =>
 zaf R F.a1 [x1, v43] H26 fun r44 H45 =>
 some ((.tuple #[r44, (.int .i64 0)]), H45))
 (pBin PP .eql T.int x0 (.int .i64 22) fun v46 =>
 zad v46 fun b47 => br b47
 (pBin PP .mul T.uint64 r23 r25 fun v48 =>
 zaf R F.a1 [x1, v48] H26 fun r49 H50 =>
 some ((.tuple #[r49, (.int .i64 0)]), H50))
 (pBin PP .eql T.int x0 (.int .i64 23) fun v51 =>
 zad v51 fun b52 => br b52
 (pBin PP .eql T.uint64 r25 (.int .u64 0) fun v53 =>
 zad v53 fun b54 => br b54
 (zaf R F.a1 [x1, (.int .u64 18446744073709551615)] H26 fun r55 H56 =>
 some ((.tuple #[r55, (.int .i64 0)]), H56))
 (pBin PP .quo T.uint64 r23 r25 fun v57 =>
 some ((.tuple #[v57, (.int .i64 0)]), H26)))
 (pBin PP .eql T.int x0 (.int .i64 24) fun v58 =>
 zad v58 fun b59 => br b59
 (pBin PP .eql T.uint64 r25 (.int .u64 0) fun v60 =>
 zad v60 fun b61 => br b61
 (some ((.tuple #[r23, (.int .i64 0)]), H26))
 (pBin PP .rem T.uint64 r23 r25 fun v62 =>
 some ((.tuple #[v62, (.int .i64 0)]), H26)))
 (zal .u64 x1 fun v63 =>
 pBin PP .rem T.uint64 r25 v63 fun v64 =>
 zal .i64 v64 fun v65 =>
 zaf R F.a44 [x0, x1, r23, v65] H26 fun r66 H67 =>
 some ((.tuple #[r66, (.int .i64 0)]), H67))))))))))
 (fun i22 => none)
 (some ((l20.headD undef), H21)))
 (fun i8 => none)
 (some ((l6.headD undef), H7))
noncomputable def zef (R : zaj) (x0 x1 x2 x3 : Value) (H0 : Hp) : Option (Value × Hp) :=
 zaf R F.a9 [x0] H0 fun r1 H2 =>
 pUn .not r1 fun v3 =>
 zad v3 fun b4 => br b4
 (some ((.tuple #[(.int .u64 0), (.int .i64 5)]), H2))
 (zaf R F.a9 [x2] H2 fun r5 H6 =>
 pUn .not r5 fun v7 =>
 zad v7 fun b8 => br b8
 (some ((.tuple #[(.int .u64 0), (.int .i64 5)]), H6))
 (pBin PP .add T.int x0 x2 fun v9 =>
 pBin PP .gtr T.int v9 (.int .i64 64) fun v10 =>
 zad v10 fun b11 => br b11
 (some ((.tuple #[(.int .u64 0), (.int .i64 5)]), H6))
 (zaf R F.a1 [x0, x1] H6 fun r12 H13 =>
 zal .u64 x2 fun v14 =>
 pBin PP .shl T.uint64 r12 v14 fun v15 =>
 zaf R F.a1 [x2, x3] H13 fun r16 H17 =>
 pBin PP .add T.uint64 v15 r16 fun v18 =>
 some ((.tuple #[v18, (.int .i64 0)]), H17))))
noncomputable def zdm (R : zaj) (x0 x1 x2 x3 : Value) (H0 : Hp) : Option (Value × Hp) :=
 zaC (
 zaf R F.a9 [x0] H0 fun r1 H2 =>
 pUn .not r1 fun v3 =>
 zad v3 fun b4 => br b4
 (some (.ret, [(.tuple #[(.int .u64 0), (.int .i64 5)])], H2))
 (pBin PP .lss T.int x3 (.int .i64 1) fun v5 =>
 zad v5 fun b6 => br b6
 (some (.ret, [(.tuple #[(.int .u64 0), (.int .i64 5)])], H2))
 (pBin PP .gtr T.int x3 (.int .i64 64) fun v7 =>
 zad v7 fun b8 => br b8
 (some (.ret, [(.tuple #[(.int .u64 0), (.int .i64 5)])], H2))
 (pBin PP .lss T.int x2 (.int .i64 0) fun v9 =>
 zad v9 fun b10 => br b10
 (some (.ret, [(.tuple #[(.int .u64 0), (.int .i64 5)])], H2))
 (pBin PP .sub T.int x0 x3 fun v11 =>
 pBin PP .gtr T.int x2 v11 fun v12 =>
 zad v12 fun b13 => br b13
 (some (.ret, [(.tuple #[(.int .u64 0), (.int .i64 5)])], H2))
 (some (.next, [], H2))))))) fun q14 l15 H16 => zaJ q14
 (zaf R F.a1 [x0, x1] H16 fun r18 H19 =>
 zal .u64 x2 fun v20 =>
 pBin PP .shr T.uint64 r18 v20 fun v21 =>
 zaf R F.a1 [x3, v21] H19 fun r22 H23 =>
 some ((.tuple #[r22, (.int .i64 0)]), H23))
 (fun i17 => none)
 (some ((l15.headD undef), H16))
noncomputable def zed (R : zaj) (x0 x1 x2 x3 : Value) (H0 : Hp) : Option (Value × Hp) :=
 zaC (
 pBin PP .neq T.int x0 (.int .i64 32) fun v1 =>
 zad v1 fun b2 => br b2
 (pBin PP .neq T.int x0 (.int .i64 33) fun v3 =>
 zad v3 fun b4 => br b4
 (some (.ret, [(.tuple #[(.int .u64 0), (.int .i64 73)])], H0))
 (some (.next, [], H0)))
 (some (.next, [], H0))) fun q5 l6 H7 => zaJ q5
 (zaC (
 zaf R F.a9 [x1] H7 fun r9 H10 =>
 pUn .not r9 fun v11 =>
 zad v11 fun b12 => br b12
 (some (.ret, [(.tuple #[(.int .u64 0), (.int .i64 5)])], H10))
 (zaf R F.a9 [x3] H10 fun r13 H14 =>
 pUn .not r13 fun v15 =>
 zad v15 fun b16 => br b16
 (some (.ret, [(.tuple #[(.int .u64 0), (.int .i64 5)])], H14))
 (pBin PP .lss T.int x3 x1 fun v17 =>
 zad v17 fun b18 => br b18
 (some (.ret, [(.tuple #[(.int .u64 0), (.int .i64 5)])], H14))
 (some (.next, [], H14))))) fun q19 l20 H21 => zaJ q19
 (pBin PP .eql T.int x0 (.int .i64 32) fun v23 =>
 zad v23 fun b24 => br b24
 (zaf R F.a1 [x1, x2] H21 fun r25 H26 =>
 some ((.tuple #[r25, (.int .i64 0)]), H26))
 (zaf R F.a25 [x1, x2] H21 fun r27 H28 =>
 zal .u64 r27 fun v29 =>
 zaf R F.a1 [x3, v29] H28 fun r30 H31 =>
 some ((.tuple #[r30, (.int .i64 0)]), H31)))
 (fun i22 => none)
 (some ((l20.headD undef), H21)))
 (fun i8 => none)
 (some ((l6.headD undef), H7))
noncomputable def zcQ (R : zaj) (x0 : Value) (H0 : Hp) : Option (Value × Hp) :=
 zab 1 false (zaa x0) 0 fun v1 =>
 zaf R F.a4 [v1] H0 fun r2 H3 =>
 zab 1 false (zaa x0) 0 fun v4 =>
 zab 1 false (zaa x0) 2 fun v5 =>
 zab 1 false (zaa x0) 1 fun v6 =>
 zab 1 false (zaa x0) 4 fun v7 =>
 pBin PP .sub T.uint64 r2 v7 fun v8 =>
 zab 1 false (zaa x0) 3 fun v9 =>
 pBin PP .sub T.uint64 r2 v9 fun v10 =>
 zar PP T.api_Fact [(0, v4), (1, v5), (2, v6), (3, v8), (4, v10)] fun v11 =>
 zac 5 [.int .i64 0, .int .u64 0, .int .u64 0, .int .u64 0, .int .u64 0] 0 v11 fun c12 =>
 zab 5 true c12 0 fun v13 =>
 some (v13, H3)
noncomputable def zcT (R : zaj) (x0 x1 : Value) (H0 : Hp) : Option (Value × Hp) :=
 pBin PP .lss T.uint64 x0 x1 fun v1 =>
 zad v1 fun b2 => br b2
 (some (x0, H0))
 (some (x1, H0))
noncomputable def zcq (R : zaj) (x0 x1 : Value) (H0 : Hp) : Option (Value × Hp) :=
 pBin PP .gtr T.uint64 x0 x1 fun v1 =>
 zad v1 fun b2 => br b2
 (some (x0, H0))
 (some (x1, H0))
noncomputable def zcj (R : zaj) (x0 x1 x2 : Value) (H0 : Hp) : Option (Value × Hp) :=
 zab 1 false (zaa x1) 3 fun v1 =>
 zab 1 false (zaa x1) 4 fun v2 =>
 zab 1 false (zaa x2) 3 fun v3 =>
 zab 1 false (zaa x2) 4 fun v4 =>
 zaC (
 pBin PP .eql T.int x0 (.int .i64 12) fun v5 =>
 zad v5 fun b6 => br b6
 (zab 5 true (zaa x1) 0 fun v7 =>
 zaf R F.a27 [v7] H0 fun r8 H9 =>
 zah r8 0 fun v10 =>
 zah r8 1 fun v11 =>
 zab 5 true (zaa x2) 0 fun v12 =>
 zaf R F.a27 [v12] H9 fun r13 H14 =>
 zah r13 0 fun v15 =>
 zah r13 1 fun v16 =>
 some (.next, [v10, v11, v15, v16], H14))
 (pBin PP .eql T.int x0 (.int .i64 13) fun v17 =>
 zad v17 fun b18 => br b18
 (zab 5 true (zaa x1) 0 fun v19 =>
 zaf R F.a27 [v19] H0 fun r20 H21 =>
 zah r20 0 fun v22 =>
 zah r20 1 fun v23 =>
 zab 5 true (zaa x2) 0 fun v24 =>
 zaf R F.a27 [v24] H21 fun r25 H26 =>
 zah r25 0 fun v27 =>
 zah r25 1 fun v28 =>
 some (.next, [v22, v23, v27, v28], H26))
 (some (.next, [v1, v2, v3, v4], H0)))) fun q29 l30 H31 => zaJ q29
 (zaC (
 pBin PP .eql T.int x0 (.int .i64 9) fun v33 =>
 zad v33 fun b34 => br b34
 (zab 5 true (zaa x1) 0 fun v35 =>
 zab 5 true (zaa x2) 0 fun v36 =>
 zaf R F.a64 [v35, v36] H31 fun r37 H38 =>
 zah r37 0 fun v39 =>
 zah r37 1 fun v40 =>
 zac 5 [.int .i64 0, .int .u64 0, .int .u64 0, .int .u64 0, .int .u64 0] 0 v39 fun c41 =>
 pBin PP .neq T.int v40 (.int .i64 0) fun v42 =>
 zab 5 true (zaa x1) 0 fun v43 =>
 zaf R F.a34 [v43] H38 fun r44 H45 =>
 zad r44 fun b46 => br b46
 (zab 5 true (zaa x2) 0 fun v47 =>
 zaf R F.a34 [v47] H45 fun r48 H49 =>
 zad r48 fun b50 => br b50
 (zab 1 false (zaa x1) 3 fun v51 =>
 zab 1 false (zaa x2) 3 fun v52 =>
 pBin PP .eql T.uint64 v51 v52 fun v53 =>
 some (.next, [v53, v42], H49))
 (some (.next, [(.bool false), v42], H49)))
 (some (.next, [(.bool false), v42], H45)))
 (pBin PP .eql T.int x0 (.int .i64 10) fun v54 =>
 zad v54 fun b55 => br b55
 (zad v54 fun b56 => br b56
 (pBin PP .lss T.uint64 (l30.getD 1 undef) (l30.getD 2 undef) fun v57 =>
 pBin PP .geq T.uint64 (l30.getD 0 undef) (l30.getD 3 undef) fun v58 =>
 some (.next, [v57, v58], H31))
 (pBin PP .leq T.uint64 (l30.getD 1 undef) (l30.getD 2 undef) fun v59 =>
 pBin PP .gtr T.uint64 (l30.getD 0 undef) (l30.getD 3 undef) fun v60 =>
 some (.next, [v59, v60], H31)))
 (pBin PP .eql T.int x0 (.int .i64 12) fun v61 =>
 zad v61 fun b62 => br b62
 (pBin PP .lss T.uint64 (l30.getD 1 undef) (l30.getD 2 undef) fun v63 =>
 pBin PP .geq T.uint64 (l30.getD 0 undef) (l30.getD 3 undef) fun v64 =>
 some (.next, [v63, v64], H31))
 (pBin PP .leq T.uint64 (l30.getD 1 undef) (l30.getD 2 undef) fun v65 =>
 pBin PP .gtr T.uint64 (l30.getD 0 undef) (l30.getD 3 undef) fun v66 =>
 some (.next, [v65, v66], H31))))) fun q67 l68 H69 => zaJ q67
 (zar PP T.api_Fact [(4, (.int .u64 1))] fun v71 =>
 zac 5 [.int .i64 0, .int .u64 0, .int .u64 0, .int .u64 0, .int .u64 0] 0 v71 fun c72 =>
 zad (l68.getD 0 undef) fun b73 => br b73
 (zac 1 c72 1 (.int .u64 1) fun c74 =>
 zad (l68.getD 1 undef) fun b75 => br b75
 (zac 1 c74 2 (.int .u64 1) fun c76 =>
 zab 5 true c76 0 fun v77 =>
 zac 5 [.int .i64 0, .int .u64 0, .int .u64 0, .int .u64 0, .int .u64 0] 0 v77 fun c78 =>
 zab 5 true c78 0 fun v79 =>
 some (v79, H69))
 (zab 5 true c74 0 fun v80 =>
 zac 5 [.int .i64 0, .int .u64 0, .int .u64 0, .int .u64 0, .int .u64 0] 0 v80 fun c81 =>
 zab 5 true c81 0 fun v82 =>
 some (v82, H69)))
 (zad (l68.getD 1 undef) fun b83 => br b83
 (zac 1 c72 2 (.int .u64 1) fun c84 =>
 zab 5 true c84 0 fun v85 =>
 zac 5 [.int .i64 0, .int .u64 0, .int .u64 0, .int .u64 0, .int .u64 0] 0 v85 fun c86 =>
 zab 5 true c86 0 fun v87 =>
 some (v87, H69))
 (zab 5 true c72 0 fun v88 =>
 zac 5 [.int .i64 0, .int .u64 0, .int .u64 0, .int .u64 0, .int .u64 0] 0 v88 fun c89 =>
 zab 5 true c89 0 fun v90 =>
 some (v90, H69))))
 (fun i70 => none)
 (some ((l68.headD undef), H69)))
 (fun i32 => none)
 (some ((l30.headD undef), H31))
noncomputable def zdI (R : zaj) (x0 x1 : Value) (H0 : Hp) : Option (Value × Hp) :=
 zab 1 false (zaa x0) 0 fun v1 =>
 zab 1 false (zaa x0) 1 fun v2 =>
 zab 1 false (zaa x1) 1 fun v3 =>
 pBin PP .and T.uint64 v2 v3 fun v4 =>
 zab 1 false (zaa x0) 2 fun v5 =>
 zab 1 false (zaa x1) 2 fun v6 =>
 pBin PP .and T.uint64 v5 v6 fun v7 =>
 zab 1 false (zaa x0) 3 fun v8 =>
 zab 1 false (zaa x0) 4 fun v9 =>
 zar PP T.api_Fact [(0, v1), (1, v4), (2, v7), (3, v8), (4, v9)] fun v10 =>
 zac 5 [.int .i64 0, .int .u64 0, .int .u64 0, .int .u64 0, .int .u64 0] 0 v10 fun c11 =>
 zab 1 false (zaa x1) 3 fun v12 =>
 zab 1 false c11 3 fun v13 =>
 pBin PP .lss T.uint64 v12 v13 fun v14 =>
 zad v14 fun b15 => br b15
 (zab 1 false (zaa x1) 3 fun v16 =>
 zac 1 c11 3 v16 fun c17 =>
 zab 1 false (zaa x1) 4 fun v18 =>
 zab 1 false c17 4 fun v19 =>
 pBin PP .gtr T.uint64 v18 v19 fun v20 =>
 zad v20 fun b21 => br b21
 (zab 1 false (zaa x1) 4 fun v22 =>
 zac 1 c17 4 v22 fun c23 =>
 zab 5 true c23 0 fun v24 =>
 zac 5 [.int .i64 0, .int .u64 0, .int .u64 0, .int .u64 0, .int .u64 0] 0 v24 fun c25 =>
 zab 5 true c25 0 fun v26 =>
 some (v26, H0))
 (zab 5 true c17 0 fun v27 =>
 zac 5 [.int .i64 0, .int .u64 0, .int .u64 0, .int .u64 0, .int .u64 0] 0 v27 fun c28 =>
 zab 5 true c28 0 fun v29 =>
 some (v29, H0)))
 (zab 1 false (zaa x1) 4 fun v30 =>
 zab 1 false c11 4 fun v31 =>
 pBin PP .gtr T.uint64 v30 v31 fun v32 =>
 zad v32 fun b33 => br b33
 (zab 1 false (zaa x1) 4 fun v34 =>
 zac 1 c11 4 v34 fun c35 =>
 zab 5 true c35 0 fun v36 =>
 zac 5 [.int .i64 0, .int .u64 0, .int .u64 0, .int .u64 0, .int .u64 0] 0 v36 fun c37 =>
 zab 5 true c37 0 fun v38 =>
 some (v38, H0))
 (zab 5 true c11 0 fun v39 =>
 zac 5 [.int .i64 0, .int .u64 0, .int .u64 0, .int .u64 0, .int .u64 0] 0 v39 fun c40 =>
 zab 5 true c40 0 fun v41 =>
 some (v41, H0)))
noncomputable def zdH (R : zaj) (x0 x1 : Value) (H0 : Hp) : Option (Value × Hp) :=
 zab 5 true (zaa x0) 0 fun v1 =>
 zab 5 true (zaa x1) 0 fun v2 =>
 zaf R F.a70 [v2] H0 fun r3 H4 =>
 zaf R F.a29 [v1, r3, (.int .i64 1)] H4 fun r5 H6 =>
 zac 5 [.int .i64 0, .int .u64 0, .int .u64 0, .int .u64 0, .int .u64 0] 0 r5 fun c7 =>
 zab 1 false (zaa x0) 0 fun v8 =>
 zaf R F.a4 [v8] H6 fun r9 H10 =>
 zab 1 false (zaa x0) 3 fun v11 =>
 zab 1 false (zaa x1) 4 fun v12 =>
 pBin PP .geq T.uint64 v11 v12 fun v13 =>
 zad v13 fun b14 => br b14
 (zab 1 false (zaa x0) 3 fun v15 =>
 zab 1 false (zaa x1) 4 fun v16 =>
 pBin PP .sub T.uint64 v15 v16 fun v17 =>
 pBin PP .and T.uint64 v17 r9 fun v18 =>
 zac 1 c7 3 v18 fun c19 =>
 zab 1 false (zaa x0) 4 fun v20 =>
 zab 1 false (zaa x1) 3 fun v21 =>
 pBin PP .sub T.uint64 v20 v21 fun v22 =>
 pBin PP .and T.uint64 v22 r9 fun v23 =>
 zac 1 c19 4 v23 fun c24 =>
 zab 5 true c24 0 fun v25 =>
 zac 5 [.int .i64 0, .int .u64 0, .int .u64 0, .int .u64 0, .int .u64 0] 0 v25 fun c26 =>
 zab 5 true c26 0 fun v27 =>
 some (v27, H10))
 (zab 1 false (zaa x0) 4 fun v28 =>
 zab 1 false (zaa x1) 3 fun v29 =>
 pBin PP .lss T.uint64 v28 v29 fun v30 =>
 zad v30 fun b31 => br b31
 (zab 1 false (zaa x0) 3 fun v32 =>
 zab 1 false (zaa x1) 4 fun v33 =>
 pBin PP .sub T.uint64 v32 v33 fun v34 =>
 pBin PP .and T.uint64 v34 r9 fun v35 =>
 zac 1 c7 3 v35 fun c36 =>
 zab 1 false (zaa x0) 4 fun v37 =>
 zab 1 false (zaa x1) 3 fun v38 =>
 pBin PP .sub T.uint64 v37 v38 fun v39 =>
 pBin PP .and T.uint64 v39 r9 fun v40 =>
 zac 1 c36 4 v40 fun c41 =>
 zab 5 true c41 0 fun v42 =>
 zac 5 [.int .i64 0, .int .u64 0, .int .u64 0, .int .u64 0, .int .u64 0] 0 v42 fun c43 =>
 zab 5 true c43 0 fun v44 =>
 some (v44, H10))
 (zab 5 true c7 0 fun v45 =>
 zac 5 [.int .i64 0, .int .u64 0, .int .u64 0, .int .u64 0, .int .u64 0] 0 v45 fun c46 =>
 zab 5 true c46 0 fun v47 =>
 some (v47, H10)))
noncomputable def zd6 (R : zaj) (x0 x1 : Value) (H0 : Hp) : Option (Value × Hp) :=
 zab 5 true (zaa x0) 0 fun v1 =>
 zab 5 true (zaa x1) 0 fun v2 =>
 zaf R F.a29 [v1, v2, (.int .i64 0)] H0 fun r3 H4 =>
 zac 5 [.int .i64 0, .int .u64 0, .int .u64 0, .int .u64 0, .int .u64 0] 0 r3 fun c5 =>
 zab 1 false (zaa x0) 0 fun v6 =>
 zaf R F.a4 [v6] H4 fun r7 H8 =>
 zab 1 false (zaa x0) 0 fun v9 =>
 zab 1 false (zaa x0) 4 fun v10 =>
 zab 1 false (zaa x1) 4 fun v11 =>
 zaf R F.a67 [v9, v10, v11] H8 fun r12 H13 =>
 zab 1 false (zaa x0) 0 fun v14 =>
 zab 1 false (zaa x0) 3 fun v15 =>
 zab 1 false (zaa x1) 3 fun v16 =>
 zaf R F.a67 [v14, v15, v16] H13 fun r17 H18 =>
 pBin PP .eql T.bool r12 r17 fun v19 =>
 zad v19 fun b20 => br b20
 (zab 1 false (zaa x0) 3 fun v21 =>
 zab 1 false (zaa x1) 3 fun v22 =>
 pBin PP .add T.uint64 v21 v22 fun v23 =>
 pBin PP .and T.uint64 v23 r7 fun v24 =>
 zac 1 c5 3 v24 fun c25 =>
 zab 1 false (zaa x0) 4 fun v26 =>
 zab 1 false (zaa x1) 4 fun v27 =>
 pBin PP .add T.uint64 v26 v27 fun v28 =>
 pBin PP .and T.uint64 v28 r7 fun v29 =>
 zac 1 c25 4 v29 fun c30 =>
 zab 5 true c30 0 fun v31 =>
 zac 5 [.int .i64 0, .int .u64 0, .int .u64 0, .int .u64 0, .int .u64 0] 0 v31 fun c32 =>
 zab 5 true c32 0 fun v33 =>
 some (v33, H18))
 (zab 5 true c5 0 fun v34 =>
 zac 5 [.int .i64 0, .int .u64 0, .int .u64 0, .int .u64 0, .int .u64 0] 0 v34 fun c35 =>
 zab 5 true c35 0 fun v36 =>
 some (v36, H18))
noncomputable def zcp (R : zaj) (x0 x1 : Value) (H0 : Hp) : Option (Value × Hp) :=
 zab 1 false (zaa x0) 0 fun v1 =>
 zaf R F.a4 [v1] H0 fun r2 H3 =>
 zab 1 false (zaa x0) 0 fun v4 =>
 zar PP T.api_Fact [(0, v4), (4, r2)] fun v5 =>
 zac 5 [.int .i64 0, .int .u64 0, .int .u64 0, .int .u64 0, .int .u64 0] 0 v5 fun c6 =>
 zab 5 true (zaa x0) 0 fun v7 =>
 zaf R F.a28 [v7] H3 fun r8 H9 =>
 zaC (
 zab 5 true (zaa x1) 0 fun v10 =>
 zaf R F.a28 [v10] H9 fun r11 H12 =>
 pBin PP .lss T.int r11 r8 fun v13 =>
 zad v13 fun b14 => br b14
 (zab 5 true (zaa x1) 0 fun v15 =>
 zaf R F.a28 [v15] H12 fun r16 H17 =>
 some (.next, [r16], H17))
 (some (.next, [r8], H12))) fun q18 l19 H20 => zaJ q18
 (zab 1 false (zaa x0) 1 fun v22 =>
 zab 1 false (zaa x1) 1 fun v23 =>
 pBin PP .mul T.uint64 v22 v23 fun v24 =>
 zaf R F.a17 [(l19.getD 0 undef)] H20 fun r25 H26 =>
 pBin PP .and T.uint64 v24 r25 fun v27 =>
 zab 5 true (zaa x0) 0 fun v28 =>
 zaf R F.a50 [v28] H26 fun r29 H30 =>
 zab 5 true (zaa x1) 0 fun v31 =>
 zaf R F.a50 [v31] H30 fun r32 H33 =>
 pBin PP .add T.int r29 r32 fun v34 =>
 zaC (
 zab 1 false (zaa x0) 0 fun v35 =>
 pBin PP .gtr T.int v34 v35 fun v36 =>
 zad v36 fun b37 => br b37
 (zab 1 false (zaa x0) 0 fun v38 =>
 some (.next, [v38], H33))
 (some (.next, [v34], H33))) fun q39 l40 H41 => zaJ q39
 (zac 1 c6 1 v27 fun c43 =>
 zaf R F.a17 [(l19.getD 0 undef)] H41 fun r44 H45 =>
 pBin PP .andNot T.uint64 r44 v27 fun v46 =>
 zaf R F.a17 [(l40.getD 0 undef)] H45 fun r47 H48 =>
 pBin PP .or T.uint64 v46 r47 fun v49 =>
 pBin PP .and T.uint64 v49 r2 fun v50 =>
 zac 1 c43 2 v50 fun c51 =>
 zab 1 false (zaa x1) 4 fun v52 =>
 pBin PP .eql T.uint64 v52 (.int .u64 0) fun v53 =>
 zad v53 fun b54 => br b54
 (zab 1 false (zaa x0) 3 fun v55 =>
 zab 1 false (zaa x1) 3 fun v56 =>
 pBin PP .mul T.uint64 v55 v56 fun v57 =>
 zac 1 c51 3 v57 fun c58 =>
 zab 1 false (zaa x0) 4 fun v59 =>
 zab 1 false (zaa x1) 4 fun v60 =>
 pBin PP .mul T.uint64 v59 v60 fun v61 =>
 zac 1 c58 4 v61 fun c62 =>
 zab 5 true c62 0 fun v63 =>
 zac 5 [.int .i64 0, .int .u64 0, .int .u64 0, .int .u64 0, .int .u64 0] 0 v63 fun c64 =>
 zab 5 true c64 0 fun v65 =>
 some (v65, H48))
 (zab 1 false (zaa x0) 4 fun v66 =>
 zab 1 false (zaa x1) 4 fun v67 =>
 pBin PP .quo T.uint64 r2 v67 fun v68 =>
 pBin PP .leq T.uint64 v66 v68 fun v69 =>
 zad v69 fun b70 => br b70
 (zab 1 false (zaa x0) 3 fun v71 =>
 zab 1 false (zaa x1) 3 fun v72 =>
 pBin PP .mul T.uint64 v71 v72 fun v73 =>
 zac 1 c51 3 v73 fun c74 =>
 zab 1 false (zaa x0) 4 fun v75 =>
 zab 1 false (zaa x1) 4 fun v76 =>
 pBin PP .mul T.uint64 v75 v76 fun v77 =>
 zac 1 c74 4 v77 fun c78 =>
 zab 5 true c78 0 fun v79 =>
 zac 5 [.int .i64 0, .int .u64 0, .int .u64 0, .int .u64 0, .int .u64 0] 0 v79 fun c80 =>
 zab 5 true c80 0 fun v81 =>
 some (v81, H48))
 (zab 5 true c51 0 fun v82 =>
 zac 5 [.int .i64 0, .int .u64 0, .int .u64 0, .int .u64 0, .int .u64 0] 0 v82 fun c83 =>
 zab 5 true c83 0 fun v84 =>
 some (v84, H48))))
 (fun i42 => none)
 (some ((l40.headD undef), H41)))
 (fun i21 => none)
 (some ((l19.headD undef), H20))
noncomputable def zcr (R : zaj) (x0 x1 x2 : Value) (H0 : Hp) : Option (Value × Hp) :=
 zab 1 false (zaa x1) 0 fun v1 =>
 zab 1 false (zaa x1) 0 fun v2 =>
 zaf R F.a4 [v2] H0 fun r3 H4 =>
 zar PP T.api_Fact [(0, v1), (4, r3)] fun v5 =>
 zac 5 [.int .i64 0, .int .u64 0, .int .u64 0, .int .u64 0, .int .u64 0] 0 v5 fun c6 =>
 pBin PP .eql T.int x0 (.int .i64 24) fun v7 =>
 zad v7 fun b8 => br b8
 (zab 1 false (zaa x2) 3 fun v9 =>
 zab 1 false (zaa x1) 4 fun v10 =>
 pBin PP .gtr T.uint64 v9 v10 fun v11 =>
 zad v11 fun b12 => br b12
 (zab 5 true (zaa x1) 0 fun v13 =>
 zac 5 [.int .i64 0, .int .u64 0, .int .u64 0, .int .u64 0, .int .u64 0] 0 v13 fun c14 =>
 zab 5 true c14 0 fun v15 =>
 some (v15, H4))
 (zab 1 false (zaa x1) 4 fun v16 =>
 zac 1 c6 4 v16 fun c17 =>
 zab 1 false (zaa x2) 3 fun v18 =>
 pBin PP .gtr T.uint64 v18 (.int .u64 0) fun v19 =>
 zad v19 fun b20 => br b20
 (zab 1 false (zaa x1) 4 fun v21 =>
 zab 1 false (zaa x2) 4 fun v22 =>
 pBin PP .sub T.uint64 v22 (.int .u64 1) fun v23 =>
 zaf R F.a66 [v21, v23] H4 fun r24 H25 =>
 zac 1 c17 4 r24 fun c26 =>
 zab 5 true c26 0 fun v27 =>
 zac 5 [.int .i64 0, .int .u64 0, .int .u64 0, .int .u64 0, .int .u64 0] 0 v27 fun c28 =>
 zab 5 true c28 0 fun v29 =>
 some (v29, H25))
 (zab 5 true c17 0 fun v30 =>
 zac 5 [.int .i64 0, .int .u64 0, .int .u64 0, .int .u64 0, .int .u64 0] 0 v30 fun c31 =>
 zab 5 true c31 0 fun v32 =>
 some (v32, H4))))
 (zab 1 false (zaa x2) 3 fun v33 =>
 pBin PP .gtr T.uint64 v33 (.int .u64 0) fun v34 =>
 zad v34 fun b35 => br b35
 (zab 1 false (zaa x1) 3 fun v36 =>
 zab 1 false (zaa x2) 4 fun v37 =>
 pBin PP .quo T.uint64 v36 v37 fun v38 =>
 zac 1 c6 3 v38 fun c39 =>
 zab 1 false (zaa x1) 4 fun v40 =>
 zab 1 false (zaa x2) 3 fun v41 =>
 pBin PP .quo T.uint64 v40 v41 fun v42 =>
 zac 1 c39 4 v42 fun c43 =>
 zab 5 true c43 0 fun v44 =>
 zac 5 [.int .i64 0, .int .u64 0, .int .u64 0, .int .u64 0, .int .u64 0] 0 v44 fun c45 =>
 zab 5 true c45 0 fun v46 =>
 some (v46, H4))
 (zab 5 true c6 0 fun v47 =>
 zac 5 [.int .i64 0, .int .u64 0, .int .u64 0, .int .u64 0, .int .u64 0] 0 v47 fun c48 =>
 zab 5 true c48 0 fun v49 =>
 some (v49, H4)))
noncomputable def zco (R : zaj) (x0 x1 x2 : Value) (H0 : Hp) : Option (Value × Hp) := zdW PP orc R F.a69 Go.Proofs.Tryz.f68 [x0, x1, x2] H0
noncomputable def zcS (R : zaj) (x0 x1 x2 : Value) (H0 : Hp) : Option (Value × Hp) :=
 zab 1 false (zaa x0) 1 fun v1 =>
 zaf R F.a4 [v1] H0 fun r2 H3 =>
 zab 1 false (zaa x0) 1 fun v4 =>
 zar PP T.api_Fact [(0, v4), (4, r2)] fun v5 =>
 zac 5 [.int .i64 0, .int .u64 0, .int .u64 0, .int .u64 0, .int .u64 0] 0 v5 fun c6 =>
 zab 1 false (zaa x0) 0 fun v7 =>
 pBin PP .eql T.int v7 (.int .i64 30) fun v8 =>
 zad v8 fun b9 => br b9
 (zab 1 false (zaa x2) 0 fun v10 =>
 zal .u64 v10 fun v11 =>
 zab 1 false (zaa x0) 1 fun v12 =>
 zab 1 false (zaa x1) 1 fun v13 =>
 pBin PP .shl T.uint64 v13 v11 fun v14 =>
 zab 1 false (zaa x2) 1 fun v15 =>
 pBin PP .or T.uint64 v14 v15 fun v16 =>
 zab 1 false (zaa x1) 2 fun v17 =>
 pBin PP .shl T.uint64 v17 v11 fun v18 =>
 zab 1 false (zaa x2) 2 fun v19 =>
 pBin PP .or T.uint64 v18 v19 fun v20 =>
 zab 1 false (zaa x1) 3 fun v21 =>
 pBin PP .shl T.uint64 v21 v11 fun v22 =>
 zab 1 false (zaa x2) 3 fun v23 =>
 pBin PP .or T.uint64 v22 v23 fun v24 =>
 zab 1 false (zaa x1) 4 fun v25 =>
 pBin PP .shl T.uint64 v25 v11 fun v26 =>
 zab 1 false (zaa x2) 4 fun v27 =>
 pBin PP .or T.uint64 v26 v27 fun v28 =>
 zar PP T.api_Fact [(0, v12), (1, v16), (2, v20), (3, v24), (4, v28)] fun v29 =>
 zac 5 [.int .i64 0, .int .u64 0, .int .u64 0, .int .u64 0, .int .u64 0] 0 v29 fun c30 =>
 zab 5 true c30 0 fun v31 =>
 some (v31, H3))
 (pBin PP .eql T.int v7 (.int .i64 31) fun v32 =>
 zad v32 fun b33 => br b33
 (zab 1 false (zaa x0) 5 fun v34 =>
 zab 1 false (zaa x1) 1 fun v35 =>
 pBin PP .shr T.uint64 v35 v34 fun v36 =>
 pBin PP .and T.uint64 v36 r2 fun v37 =>
 zac 1 c6 1 v37 fun c38 =>
 zab 1 false (zaa x1) 2 fun v39 =>
 pBin PP .shr T.uint64 v39 v34 fun v40 =>
 pBin PP .and T.uint64 v40 r2 fun v41 =>
 zac 1 c38 2 v41 fun c42 =>
 zab 1 false (zaa x1) 3 fun v43 =>
 pBin PP .shr T.uint64 v43 v34 fun v44 =>
 zab 1 false (zaa x1) 4 fun v45 =>
 pBin PP .shr T.uint64 v45 v34 fun v46 =>
 zab 1 false (zaa x0) 1 fun v47 =>
 pBin PP .geq T.int v47 (.int .i64 64) fun v48 =>
 zad v48 fun b49 => br b49
 (pBin PP .and T.uint64 v44 r2 fun v50 =>
 zac 1 c42 3 v50 fun c51 =>
 pBin PP .and T.uint64 v46 r2 fun v52 =>
 zac 1 c51 4 v52 fun c53 =>
 zab 5 true c53 0 fun v54 =>
 zac 5 [.int .i64 0, .int .u64 0, .int .u64 0, .int .u64 0, .int .u64 0] 0 v54 fun c55 =>
 zab 5 true c55 0 fun v56 =>
 some (v56, H3))
 (zab 1 false (zaa x0) 1 fun v57 =>
 zal .u64 v57 fun v58 =>
 pBin PP .shr T.uint64 v44 v58 fun v59 =>
 zab 1 false (zaa x0) 1 fun v60 =>
 zal .u64 v60 fun v61 =>
 pBin PP .shr T.uint64 v46 v61 fun v62 =>
 pBin PP .eql T.uint64 v59 v62 fun v63 =>
 zad v63 fun b64 => br b64
 (pBin PP .and T.uint64 v44 r2 fun v65 =>
 zac 1 c42 3 v65 fun c66 =>
 pBin PP .and T.uint64 v46 r2 fun v67 =>
 zac 1 c66 4 v67 fun c68 =>
 zab 5 true c68 0 fun v69 =>
 zac 5 [.int .i64 0, .int .u64 0, .int .u64 0, .int .u64 0, .int .u64 0] 0 v69 fun c70 =>
 zab 5 true c70 0 fun v71 =>
 some (v71, H3))
 (zab 5 true c42 0 fun v72 =>
 zac 5 [.int .i64 0, .int .u64 0, .int .u64 0, .int .u64 0, .int .u64 0] 0 v72 fun c73 =>
 zab 5 true c73 0 fun v74 =>
 some (v74, H3))))
 (pBin PP .eql T.int v7 (.int .i64 32) fun v75 =>
 zad v75 fun b76 => br b76
 (zab 1 false (zaa x0) 1 fun v77 =>
 zab 1 false (zaa x1) 1 fun v78 =>
 zab 1 false (zaa x1) 2 fun v79 =>
 zab 1 false (zaa x1) 0 fun v80 =>
 zaf R F.a4 [v80] H3 fun r81 H82 =>
 pBin PP .andNot T.uint64 r2 r81 fun v83 =>
 pBin PP .or T.uint64 v79 v83 fun v84 =>
 zab 1 false (zaa x1) 3 fun v85 =>
 zab 1 false (zaa x1) 4 fun v86 =>
 zar PP T.api_Fact [(0, v77), (1, v78), (2, v84), (3, v85), (4, v86)] fun v87 =>
 zac 5 [.int .i64 0, .int .u64 0, .int .u64 0, .int .u64 0, .int .u64 0] 0 v87 fun c88 =>
 zab 5 true c88 0 fun v89 =>
 some (v89, H82))
 (pBin PP .eql T.int v7 (.int .i64 33) fun v90 =>
 zad v90 fun b91 => br b91
 (zab 5 true (zaa x1) 0 fun v92 =>
 zab 1 false (zaa x0) 1 fun v93 =>
 zaf R F.a104 [v92, r2, v93] H3 fun r94 H95 =>
 zac 5 [.int .i64 0, .int .u64 0, .int .u64 0, .int .u64 0, .int .u64 0] 0 r94 fun c96 =>
 zab 5 true c96 0 fun v97 =>
 some (v97, H95))
 (zab 5 true c6 0 fun v98 =>
 zac 5 [.int .i64 0, .int .u64 0, .int .u64 0, .int .u64 0, .int .u64 0] 0 v98 fun c99 =>
 zab 5 true c99 0 fun v100 =>
 some (v100, H3)))))
noncomputable def zgJ (R : zaj) (x0 x1 : Value) (H0 : Hp) : Option (Value × Hp) :=
 pBin PP .lss T.int x0 (.int .i64 1) fun v1 =>
 zad v1 fun b2 => br b2
 (some ((.int .u64 0), H0))
 (pBin PP .geq T.int x0 (.int .i64 64) fun v3 =>
 zad v3 fun b4 => br b4
 (some (x1, H0))
 (zal .u64 x0 fun v5 =>
 pBin PP .shl T.uint64 (.int .u64 1) v5 fun v6 =>
 pBin PP .sub T.uint64 v6 (.int .u64 1) fun v7 =>
 pBin PP .and T.uint64 x1 v7 fun v8 =>
 some (v8, H0)))
noncomputable def zir (R : zaj) (x0 x1 : Value) (H0 : Hp) : Option (Value × Hp) :=
 zab 1 false (zaa x0) 1 fun v1 =>
 pBin PP .and T.uint64 x1 v1 fun v2 =>
 zab 1 false (zaa x0) 1 fun v3 =>
 pBin PP .eql T.uint64 v2 v3 fun v4 =>
 zad v4 fun b5 => br b5
 (zab 1 false (zaa x0) 2 fun v6 =>
 pBin PP .and T.uint64 x1 v6 fun v7 =>
 pBin PP .eql T.uint64 v7 (.int .u64 0) fun v8 =>
 some (v8, H0))
 (some ((.bool false), H0))
noncomputable def zcX (R : zaj) (x0 : Value) (H0 : Hp) : Option (Value × Hp) :=
 zaf R F.a88 [x0] H0 fun r1 H2 =>
 pBin PP .sub T.int (.int .i64 64) r1 fun v3 =>
 some (v3, H2)
noncomputable def zil (R : zaj) (x0 : Value) (H0 : Hp) : Option (Value × Hp) :=
 zaC (
 pBin PP .eql T.int x0 (.int .i64 1) fun v1 =>
 zad v1 fun b2 => br b2
 (some (.next, [v1], H0))
 (pBin PP .eql T.int x0 (.int .i64 2) fun v3 =>
 zad v3 fun b4 => br b4
 (some (.next, [v3], H0))
 (pBin PP .eql T.int x0 (.int .i64 3) fun v5 =>
 zad v5 fun b6 => br b6
 (some (.next, [v5], H0))
 (pBin PP .eql T.int x0 (.int .i64 4) fun v7 =>
 some (.next, [v7], H0))))) fun q8 l9 H10 => zaJ q8
 (zad (l9.getD 0 undef) fun b12 => br b12
 (some ((.int .i64 0), H10))
 (pBin PP .eql T.int x0 (.int .i64 5) fun v13 =>
 zad v13 fun b14 => br b14
 (zad v13 fun b15 => br b15
 (some ((.int .i64 1), H10))
 (pBin PP .eql T.int x0 (.int .i64 14) fun v16 =>
 zad v16 fun b17 => br b17
 (some ((.int .i64 3), H10))
 (some ((.int .i64 2), H10))))
 (pBin PP .eql T.int x0 (.int .i64 15) fun v18 =>
 zad v18 fun b19 => br b19
 (zad v18 fun b20 => br b20
 (some ((.int .i64 1), H10))
 (pBin PP .eql T.int x0 (.int .i64 14) fun v21 =>
 zad v21 fun b22 => br b22
 (some ((.int .i64 3), H10))
 (some ((.int .i64 2), H10))))
 (pBin PP .eql T.int x0 (.int .i64 16) fun v23 =>
 zad v23 fun b24 => br b24
 (zad v23 fun b25 => br b25
 (some ((.int .i64 1), H10))
 (pBin PP .eql T.int x0 (.int .i64 14) fun v26 =>
 zad v26 fun b27 => br b27
 (some ((.int .i64 3), H10))
 (some ((.int .i64 2), H10))))
 (pBin PP .eql T.int x0 (.int .i64 31) fun v28 =>
 zad v28 fun b29 => br b29
 (zad v28 fun b30 => br b30
 (some ((.int .i64 1), H10))
 (pBin PP .eql T.int x0 (.int .i64 14) fun v31 =>
 zad v31 fun b32 => br b32
 (some ((.int .i64 3), H10))
 (some ((.int .i64 2), H10))))
 (pBin PP .eql T.int x0 (.int .i64 32) fun v33 =>
 zad v33 fun b34 => br b34
 (zad v33 fun b35 => br b35
 (some ((.int .i64 1), H10))
 (pBin PP .eql T.int x0 (.int .i64 14) fun v36 =>
 zad v36 fun b37 => br b37
 (some ((.int .i64 3), H10))
 (some ((.int .i64 2), H10))))
 (pBin PP .eql T.int x0 (.int .i64 33) fun v38 =>
 zad v38 fun b39 => br b39
 (some ((.int .i64 1), H10))
 (pBin PP .eql T.int x0 (.int .i64 14) fun v40 =>
 zad v40 fun b41 => br b41
 (some ((.int .i64 3), H10))
 (some ((.int .i64 2), H10))))))))))
 (fun i11 => zaE i11 0 (
 some ((.int .i64 2), H10)) (
 none))
 (some ((l9.headD undef), H10))
noncomputable def zfu (R : zaj) (x0 x1 : Value) (H0 : Hp) : Option (Value × Hp) :=
 pBin PP .geq T.int x1 (.int .i64 1) fun v1 =>
 zad v1 fun b2 => br b2
 (pNil x0 (
 za7 1 x0 fun p3 =>
 zaB 1 false H0 p3 fun v4 =>
 pLen .sl v4 H0 fun v5 =>
 pBin PP .leq T.int x1 v5 fun v6 =>
 some (v6, H0)))
 (some ((.bool false), H0))
noncomputable def zik (R : zaj) (x0 : Value) (H0 : Hp) : Option (Value × Hp) :=
 zab 1 false (zaa x0) 0 fun v1 =>
 zaf R F.a24 [v1] H0 fun r2 H3 =>
 pBin PP .lss T.int r2 (.int .i64 1) fun v4 =>
 zad v4 fun b5 => br b5
 (zab 1 false (zaa x0) 2 fun v6 =>
 pBin PP .neq T.int v6 (.int .i64 0) fun v7 =>
 zad v7 fun b8 => br b8
 (some ((.bool true), H3))
 (pBin PP .lss T.int r2 (.int .i64 2) fun v9 =>
 zad v9 fun b10 => br b10
 (zab 1 false (zaa x0) 3 fun v11 =>
 pBin PP .neq T.int v11 (.int .i64 0) fun v12 =>
 zad v12 fun b13 => br b13
 (some ((.bool true), H3))
 (pBin PP .lss T.int r2 (.int .i64 3) fun v14 =>
 zad v14 fun b15 => br b15
 (zab 1 false (zaa x0) 4 fun v16 =>
 pBin PP .neq T.int v16 (.int .i64 0) fun v17 =>
 zad v17 fun b18 => br b18
 (some ((.bool true), H3))
 (zab 1 false (zaa x0) 5 fun v19 =>
 pBin PP .neq T.uint64 v19 (.int .u64 0) fun v20 =>
 zad v20 fun b21 => br b21
 (zab 1 false (zaa x0) 0 fun v22 =>
 pBin PP .neq T.int v22 (.int .i64 3) fun v23 =>
 zad v23 fun b24 => br b24
 (zab 1 false (zaa x0) 0 fun v25 =>
 pBin PP .neq T.int v25 (.int .i64 31) fun v26 =>
 zad v26 fun b27 => br b27
 (some ((.bool true), H3))
 (zab 1 false (zaa x0) 6 fun v28 =>
 pBin PP .neq T.string v28 (.string ⟨#[]⟩) fun v29 =>
 zad v29 fun b30 => br b30
 (zab 1 false (zaa x0) 0 fun v31 =>
 pBin PP .neq T.int v31 (.int .i64 4) fun v32 =>
 some (v32, H3))
 (some ((.bool false), H3))))
 (zab 1 false (zaa x0) 6 fun v33 =>
 pBin PP .neq T.string v33 (.string ⟨#[]⟩) fun v34 =>
 zad v34 fun b35 => br b35
 (zab 1 false (zaa x0) 0 fun v36 =>
 pBin PP .neq T.int v36 (.int .i64 4) fun v37 =>
 some (v37, H3))
 (some ((.bool false), H3))))
 (zab 1 false (zaa x0) 6 fun v38 =>
 pBin PP .neq T.string v38 (.string ⟨#[]⟩) fun v39 =>
 zad v39 fun b40 => br b40
 (zab 1 false (zaa x0) 0 fun v41 =>
 pBin PP .neq T.int v41 (.int .i64 4) fun v42 =>
 some (v42, H3))
 (some ((.bool false), H3)))))
 (zab 1 false (zaa x0) 5 fun v43 =>
 pBin PP .neq T.uint64 v43 (.int .u64 0) fun v44 =>
 zad v44 fun b45 => br b45
 (zab 1 false (zaa x0) 0 fun v46 =>
 pBin PP .neq T.int v46 (.int .i64 3) fun v47 =>
 zad v47 fun b48 => br b48
 (zab 1 false (zaa x0) 0 fun v49 =>
 pBin PP .neq T.int v49 (.int .i64 31) fun v50 =>
 zad v50 fun b51 => br b51
 (some ((.bool true), H3))
 (zab 1 false (zaa x0) 6 fun v52 =>
 pBin PP .neq T.string v52 (.string ⟨#[]⟩) fun v53 =>
 zad v53 fun b54 => br b54
 (zab 1 false (zaa x0) 0 fun v55 =>
 pBin PP .neq T.int v55 (.int .i64 4) fun v56 =>
 some (v56, H3))
 (some ((.bool false), H3))))
 (zab 1 false (zaa x0) 6 fun v57 =>
 pBin PP .neq T.string v57 (.string ⟨#[]⟩) fun v58 =>
 zad v58 fun b59 => br b59
 (zab 1 false (zaa x0) 0 fun v60 =>
 pBin PP .neq T.int v60 (.int .i64 4) fun v61 =>
 some (v61, H3))
 (some ((.bool false), H3))))
 (zab 1 false (zaa x0) 6 fun v62 =>
 pBin PP .neq T.string v62 (.string ⟨#[]⟩) fun v63 =>
 zad v63 fun b64 => br b64
 (zab 1 false (zaa x0) 0 fun v65 =>
 pBin PP .neq T.int v65 (.int .i64 4) fun v66 =>
 some (v66, H3))
 (some ((.bool false), H3))))))
 (pBin PP .lss T.int r2 (.int .i64 3) fun v67 =>
 zad v67 fun b68 => br b68
 (zab 1 false (zaa x0) 4 fun v69 =>
 pBin PP .neq T.int v69 (.int .i64 0) fun v70 =>
 zad v70 fun b71 => br b71
 (some ((.bool true), H3))
 (zab 1 false (zaa x0) 5 fun v72 =>
 pBin PP .neq T.uint64 v72 (.int .u64 0) fun v73 =>
 zad v73 fun b74 => br b74
 (zab 1 false (zaa x0) 0 fun v75 =>
 pBin PP .neq T.int v75 (.int .i64 3) fun v76 =>
 zad v76 fun b77 => br b77
 (zab 1 false (zaa x0) 0 fun v78 =>
 pBin PP .neq T.int v78 (.int .i64 31) fun v79 =>
 zad v79 fun b80 => br b80
 (some ((.bool true), H3))
 (zab 1 false (zaa x0) 6 fun v81 =>
 pBin PP .neq T.string v81 (.string ⟨#[]⟩) fun v82 =>
 zad v82 fun b83 => br b83
 (zab 1 false (zaa x0) 0 fun v84 =>
 pBin PP .neq T.int v84 (.int .i64 4) fun v85 =>
 some (v85, H3))
 (some ((.bool false), H3))))
 (zab 1 false (zaa x0) 6 fun v86 =>
 pBin PP .neq T.string v86 (.string ⟨#[]⟩) fun v87 =>
 zad v87 fun b88 => br b88
 (zab 1 false (zaa x0) 0 fun v89 =>
 pBin PP .neq T.int v89 (.int .i64 4) fun v90 =>
 some (v90, H3))
 (some ((.bool false), H3))))
 (zab 1 false (zaa x0) 6 fun v91 =>
 pBin PP .neq T.string v91 (.string ⟨#[]⟩) fun v92 =>
 zad v92 fun b93 => br b93
 (zab 1 false (zaa x0) 0 fun v94 =>
 pBin PP .neq T.int v94 (.int .i64 4) fun v95 =>
 some (v95, H3))
 (some ((.bool false), H3)))))
 (zab 1 false (zaa x0) 5 fun v96 =>
 pBin PP .neq T.uint64 v96 (.int .u64 0) fun v97 =>
 zad v97 fun b98 => br b98
 (zab 1 false (zaa x0) 0 fun v99 =>
 pBin PP .neq T.int v99 (.int .i64 3) fun v100 =>
 zad v100 fun b101 => br b101
 (zab 1 false (zaa x0) 0 fun v102 =>
 pBin PP .neq T.int v102 (.int .i64 31) fun v103 =>
 zad v103 fun b104 => br b104
 (some ((.bool true), H3))
 (zab 1 false (zaa x0) 6 fun v105 =>
 pBin PP .neq T.string v105 (.string ⟨#[]⟩) fun v106 =>
 zad v106 fun b107 => br b107
 (zab 1 false (zaa x0) 0 fun v108 =>
 pBin PP .neq T.int v108 (.int .i64 4) fun v109 =>
 some (v109, H3))
 (some ((.bool false), H3))))
 (zab 1 false (zaa x0) 6 fun v110 =>
 pBin PP .neq T.string v110 (.string ⟨#[]⟩) fun v111 =>
 zad v111 fun b112 => br b112
 (zab 1 false (zaa x0) 0 fun v113 =>
 pBin PP .neq T.int v113 (.int .i64 4) fun v114 =>
 some (v114, H3))
 (some ((.bool false), H3))))
 (zab 1 false (zaa x0) 6 fun v115 =>
 pBin PP .neq T.string v115 (.string ⟨#[]⟩) fun v116 =>
 zad v116 fun b117 => br b117
 (zab 1 false (zaa x0) 0 fun v118 =>
 pBin PP .neq T.int v118 (.int .i64 4) fun v119 =>
 some (v119, H3))
 (some ((.bool false), H3)))))))
 (pBin PP .lss T.int r2 (.int .i64 2) fun v120 =>
 zad v120 fun b121 => br b121
 (zab 1 false (zaa x0) 3 fun v122 =>
 pBin PP .neq T.int v122 (.int .i64 0) fun v123 =>
 zad v123 fun b124 => br b124
 (some ((.bool true), H3))
 (pBin PP .lss T.int r2 (.int .i64 3) fun v125 =>
 zad v125 fun b126 => br b126
 (zab 1 false (zaa x0) 4 fun v127 =>
 pBin PP .neq T.int v127 (.int .i64 0) fun v128 =>
 zad v128 fun b129 => br b129
 (some ((.bool true), H3))
 (zab 1 false (zaa x0) 5 fun v130 =>
 pBin PP .neq T.uint64 v130 (.int .u64 0) fun v131 =>
 zad v131 fun b132 => br b132
 (zab 1 false (zaa x0) 0 fun v133 =>
 pBin PP .neq T.int v133 (.int .i64 3) fun v134 =>
 zad v134 fun b135 => br b135
 (zab 1 false (zaa x0) 0 fun v136 =>
 pBin PP .neq T.int v136 (.int .i64 31) fun v137 =>
 zad v137 fun b138 => br b138
 (some ((.bool true), H3))
 (zab 1 false (zaa x0) 6 fun v139 =>
 pBin PP .neq T.string v139 (.string ⟨#[]⟩) fun v140 =>
 zad v140 fun b141 => br b141
 (zab 1 false (zaa x0) 0 fun v142 =>
 pBin PP .neq T.int v142 (.int .i64 4) fun v143 =>
 some (v143, H3))
 (some ((.bool false), H3))))
 (zab 1 false (zaa x0) 6 fun v144 =>
 pBin PP .neq T.string v144 (.string ⟨#[]⟩) fun v145 =>
 zad v145 fun b146 => br b146
 (zab 1 false (zaa x0) 0 fun v147 =>
 pBin PP .neq T.int v147 (.int .i64 4) fun v148 =>
 some (v148, H3))
 (some ((.bool false), H3))))
 (zab 1 false (zaa x0) 6 fun v149 =>
 pBin PP .neq T.string v149 (.string ⟨#[]⟩) fun v150 =>
 zad v150 fun b151 => br b151
 (zab 1 false (zaa x0) 0 fun v152 =>
 pBin PP .neq T.int v152 (.int .i64 4) fun v153 =>
 some (v153, H3))
 (some ((.bool false), H3)))))
 (zab 1 false (zaa x0) 5 fun v154 =>
 pBin PP .neq T.uint64 v154 (.int .u64 0) fun v155 =>
 zad v155 fun b156 => br b156
 (zab 1 false (zaa x0) 0 fun v157 =>
 pBin PP .neq T.int v157 (.int .i64 3) fun v158 =>
 zad v158 fun b159 => br b159
 (zab 1 false (zaa x0) 0 fun v160 =>
 pBin PP .neq T.int v160 (.int .i64 31) fun v161 =>
 zad v161 fun b162 => br b162
 (some ((.bool true), H3))
 (zab 1 false (zaa x0) 6 fun v163 =>
 pBin PP .neq T.string v163 (.string ⟨#[]⟩) fun v164 =>
 zad v164 fun b165 => br b165
 (zab 1 false (zaa x0) 0 fun v166 =>
 pBin PP .neq T.int v166 (.int .i64 4) fun v167 =>
 some (v167, H3))
 (some ((.bool false), H3))))
 (zab 1 false (zaa x0) 6 fun v168 =>
 pBin PP .neq T.string v168 (.string ⟨#[]⟩) fun v169 =>
 zad v169 fun b170 => br b170
 (zab 1 false (zaa x0) 0 fun v171 =>
 pBin PP .neq T.int v171 (.int .i64 4) fun v172 =>
 some (v172, H3))
 (some ((.bool false), H3))))
 (zab 1 false (zaa x0) 6 fun v173 =>
 pBin PP .neq T.string v173 (.string ⟨#[]⟩) fun v174 =>
 zad v174 fun b175 => br b175
 (zab 1 false (zaa x0) 0 fun v176 =>
 pBin PP .neq T.int v176 (.int .i64 4) fun v177 =>
 some (v177, H3))
 (some ((.bool false), H3))))))
 (pBin PP .lss T.int r2 (.int .i64 3) fun v178 =>
 zad v178 fun b179 => br b179
 (zab 1 false (zaa x0) 4 fun v180 =>
 pBin PP .neq T.int v180 (.int .i64 0) fun v181 =>
 zad v181 fun b182 => br b182
 (some ((.bool true), H3))
 (zab 1 false (zaa x0) 5 fun v183 =>
 pBin PP .neq T.uint64 v183 (.int .u64 0) fun v184 =>
 zad v184 fun b185 => br b185
 (zab 1 false (zaa x0) 0 fun v186 =>
 pBin PP .neq T.int v186 (.int .i64 3) fun v187 =>
 zad v187 fun b188 => br b188
 (zab 1 false (zaa x0) 0 fun v189 =>
 pBin PP .neq T.int v189 (.int .i64 31) fun v190 =>
 zad v190 fun b191 => br b191
 (some ((.bool true), H3))
 (zab 1 false (zaa x0) 6 fun v192 =>
 pBin PP .neq T.string v192 (.string ⟨#[]⟩) fun v193 =>
 zad v193 fun b194 => br b194
 (zab 1 false (zaa x0) 0 fun v195 =>
 pBin PP .neq T.int v195 (.int .i64 4) fun v196 =>
 some (v196, H3))
 (some ((.bool false), H3))))
 (zab 1 false (zaa x0) 6 fun v197 =>
 pBin PP .neq T.string v197 (.string ⟨#[]⟩) fun v198 =>
 zad v198 fun b199 => br b199
 (zab 1 false (zaa x0) 0 fun v200 =>
 pBin PP .neq T.int v200 (.int .i64 4) fun v201 =>
 some (v201, H3))
 (some ((.bool false), H3))))
 (zab 1 false (zaa x0) 6 fun v202 =>
 pBin PP .neq T.string v202 (.string ⟨#[]⟩) fun v203 =>
 zad v203 fun b204 => br b204
 (zab 1 false (zaa x0) 0 fun v205 =>
 pBin PP .neq T.int v205 (.int .i64 4) fun v206 =>
 some (v206, H3))
 (some ((.bool false), H3)))))
 (zab 1 false (zaa x0) 5 fun v207 =>
 pBin PP .neq T.uint64 v207 (.int .u64 0) fun v208 =>
 zad v208 fun b209 => br b209
 (zab 1 false (zaa x0) 0 fun v210 =>
 pBin PP .neq T.int v210 (.int .i64 3) fun v211 =>
 zad v211 fun b212 => br b212
 (zab 1 false (zaa x0) 0 fun v213 =>
 pBin PP .neq T.int v213 (.int .i64 31) fun v214 =>
 zad v214 fun b215 => br b215
 (some ((.bool true), H3))
 (zab 1 false (zaa x0) 6 fun v216 =>
 pBin PP .neq T.string v216 (.string ⟨#[]⟩) fun v217 =>
 zad v217 fun b218 => br b218
 (zab 1 false (zaa x0) 0 fun v219 =>
 pBin PP .neq T.int v219 (.int .i64 4) fun v220 =>
 some (v220, H3))
 (some ((.bool false), H3))))
 (zab 1 false (zaa x0) 6 fun v221 =>
 pBin PP .neq T.string v221 (.string ⟨#[]⟩) fun v222 =>
 zad v222 fun b223 => br b223
 (zab 1 false (zaa x0) 0 fun v224 =>
 pBin PP .neq T.int v224 (.int .i64 4) fun v225 =>
 some (v225, H3))
 (some ((.bool false), H3))))
 (zab 1 false (zaa x0) 6 fun v226 =>
 pBin PP .neq T.string v226 (.string ⟨#[]⟩) fun v227 =>
 zad v227 fun b228 => br b228
 (zab 1 false (zaa x0) 0 fun v229 =>
 pBin PP .neq T.int v229 (.int .i64 4) fun v230 =>
 some (v230, H3))
 (some ((.bool false), H3))))))
noncomputable def zdF (R : zaj) (x0 x1 : Value) (H0 : Hp) : Option (Value × Hp) :=
 zab 1 false (zaa x1) 2 fun v1 =>
 zaf R F.a23 [x0, v1] H0 fun r2 H3 =>
 zab 1 false (zaa x1) 3 fun v4 =>
 zaf R F.a23 [x0, v4] H3 fun r5 H6 =>
 zab 1 false (zaa x1) 0 fun v7 =>
 zaf R F.a24 [v7] H6 fun r8 H9 =>
 pBin PP .eql T.int r8 (.int .i64 0) fun v10 =>
 zad v10 fun b11 => br b11
 (some ((.bool true), H9))
 (pBin PP .eql T.int v7 (.int .i64 5) fun v12 =>
 zad v12 fun b13 => br b13
 (pBin PP .eql T.int r2 (.int .i64 0) fun v14 =>
 some (v14, H9))
 (zaC (
 pBin PP .eql T.int v7 (.int .i64 6) fun v15 =>
 zad v15 fun b16 => br b16
 (some (.next, [(.bool true)], H9))
 (pBin PP .eql T.int v7 (.int .i64 7) fun v17 =>
 zad v17 fun b18 => br b18
 (some (.next, [(.bool true)], H9))
 (pBin PP .eql T.int v7 (.int .i64 8) fun v19 =>
 some (.next, [v19], H9)))) fun q20 l21 H22 => zaJ q20
 (zad (l21.getD 0 undef) fun b24 => br b24
 (pBin PP .eql T.int r2 (.int .i64 0) fun v25 =>
 zad v25 fun b26 => br b26
 (pBin PP .eql T.int r5 (.int .i64 0) fun v27 =>
 some (v27, H22))
 (some ((.bool false), H22)))
 (pBin PP .eql T.int v7 (.int .i64 9) fun v28 =>
 zad v28 fun b29 => br b29
 (pBin PP .eql T.int r2 r5 fun v30 =>
 some (v30, H22))
 (pBin PP .eql T.int v7 (.int .i64 14) fun v31 =>
 zad v31 fun b32 => br b32
 (pBin PP .eql T.int r2 (.int .i64 0) fun v33 =>
 zad v33 fun b34 => br b34
 (zab 1 false (zaa x1) 4 fun v35 =>
 zaf R F.a23 [x0, v35] H22 fun r36 H37 =>
 pBin PP .eql T.int r5 r36 fun v38 =>
 some (v38, H37))
 (some ((.bool false), H22)))
 (pBin PP .eql T.int v7 (.int .i64 30) fun v39 =>
 zad v39 fun b40 => br b40
 (pBin PP .gtr T.int r2 (.int .i64 0) fun v41 =>
 zad v41 fun b42 => br b42
 (pBin PP .gtr T.int r5 (.int .i64 0) fun v43 =>
 some (v43, H22))
 (some ((.bool false), H22)))
 (zaf R F.a24 [v7] H22 fun r44 H45 =>
 pBin PP .eql T.int r44 (.int .i64 1) fun v46 =>
 zad v46 fun b47 => br b47
 (pBin PP .gtr T.int r2 (.int .i64 0) fun v48 =>
 some (v48, H45))
 (pBin PP .gtr T.int r2 (.int .i64 0) fun v49 =>
 zad v49 fun b50 => br b50
 (pBin PP .eql T.int r2 r5 fun v51 =>
 some (v51, H45))
 (some ((.bool false), H45))))))))
 (fun i23 => zaE i23 0 (
 pBin PP .gtr T.int r2 (.int .i64 0) fun v52 =>
 zad v52 fun b53 => br b53
 (pBin PP .eql T.int r2 r5 fun v54 =>
 some (v54, H22))
 (some ((.bool false), H22))) (
 none))
 (some ((l21.headD undef), H22))))
noncomputable def zeB (R : zaj) (x0 x1 : Value) (H0 : Hp) : Option (Value × Hp) :=
 zab 1 false (zaa x1) 2 fun v1 =>
 zaf R F.a23 [x0, v1] H0 fun r2 H3 =>
 zab 1 false (zaa x1) 0 fun v4 =>
 zaC (
 pBin PP .eql T.int v4 (.int .i64 1) fun v5 =>
 zad v5 fun b6 => br b6
 (some (.next, [(.bool true)], H3))
 (pBin PP .eql T.int v4 (.int .i64 2) fun v7 =>
 zad v7 fun b8 => br b8
 (some (.next, [(.bool true)], H3))
 (pBin PP .geq T.int v4 (.int .i64 5) fun v9 =>
 zad v9 fun b10 => br b10
 (pBin PP .leq T.int v4 (.int .i64 13) fun v11 =>
 some (.next, [v11], H3))
 (some (.next, [(.bool false)], H3))))) fun q12 l13 H14 => zaJ q12
 (zad (l13.getD 0 undef) fun b16 => br b16
 (zab 1 false (zaa x1) 1 fun v17 =>
 pBin PP .eql T.int v17 (.int .i64 0) fun v18 =>
 some (v18, H14))
 (pBin PP .eql T.int v4 (.int .i64 3) fun v19 =>
 zad v19 fun b20 => br b20
 (zab 1 false (zaa x1) 1 fun v21 =>
 pBin PP .gtr T.int v21 (.int .i64 0) fun v22 =>
 zad v22 fun b23 => br b23
 (zab 1 false (zaa x1) 1 fun v24 =>
 zab 1 false (zaa x1) 5 fun v25 =>
 zaf R F.a0 [v24, v25] H14 fun r26 H27 =>
 zab 1 false (zaa x1) 5 fun v28 =>
 pBin PP .eql T.uint64 r26 v28 fun v29 =>
 some (v29, H27))
 (some ((.bool false), H14)))
 (pBin PP .eql T.int v4 (.int .i64 4) fun v30 =>
 zad v30 fun b31 => br b31
 (some ((.bool true), H14))
 (pBin PP .eql T.int v4 (.int .i64 14) fun v32 =>
 zad v32 fun b33 => br b33
 (zab 1 false (zaa x1) 1 fun v34 =>
 zab 1 false (zaa x1) 3 fun v35 =>
 zaf R F.a23 [x0, v35] H14 fun r36 H37 =>
 pBin PP .eql T.int v34 r36 fun v38 =>
 some (v38, H37))
 (zaC (
 pBin PP .geq T.int v4 (.int .i64 25) fun v39 =>
 zad v39 fun b40 => br b40
 (pBin PP .leq T.int v4 (.int .i64 29) fun v41 =>
 some (.next, [v41], H14))
 (some (.next, [(.bool false)], H14))) fun q42 l43 H44 => zaJ q42
 (zad (l43.getD 0 undef) fun b46 => br b46
 (zab 1 false (zaa x1) 1 fun v47 =>
 pBin PP .eql T.int v47 r2 fun v48 =>
 zad v48 fun b49 => br b49
 (zal .u64 r2 fun v50 =>
 zaf R F.a42 [v50] H44 fun r51 H52 =>
 pBin PP .eql T.int r51 (.int .i64 1) fun v53 =>
 some (v53, H52))
 (some ((.bool false), H44)))
 (pBin PP .eql T.int v4 (.int .i64 30) fun v54 =>
 zad v54 fun b55 => br b55
 (zab 1 false (zaa x1) 1 fun v56 =>
 zab 1 false (zaa x1) 3 fun v57 =>
 zaf R F.a23 [x0, v57] H44 fun r58 H59 =>
 pBin PP .add T.int r2 r58 fun v60 =>
 pBin PP .eql T.int v56 v60 fun v61 =>
 some (v61, H59))
 (pBin PP .eql T.int v4 (.int .i64 31) fun v62 =>
 zad v62 fun b63 => br b63
 (zab 1 false (zaa x1) 1 fun v64 =>
 pBin PP .geq T.int v64 (.int .i64 1) fun v65 =>
 zad v65 fun b66 => br b66
 (zab 1 false (zaa x1) 1 fun v67 =>
 pBin PP .leq T.int v67 r2 fun v68 =>
 zad v68 fun b69 => br b69
 (zab 1 false (zaa x1) 5 fun v70 =>
 zab 1 false (zaa x1) 1 fun v71 =>
 pBin PP .sub T.int r2 v71 fun v72 =>
 zal .u64 v72 fun v73 =>
 pBin PP .leq T.uint64 v70 v73 fun v74 =>
 some (v74, H44))
 (some ((.bool false), H44)))
 (some ((.bool false), H44)))
 (pBin PP .eql T.int v4 (.int .i64 32) fun v75 =>
 zad v75 fun b76 => br b76
 (zab 1 false (zaa x1) 1 fun v77 =>
 pBin PP .geq T.int v77 r2 fun v78 =>
 some (v78, H44))
 (pBin PP .eql T.int v4 (.int .i64 33) fun v79 =>
 zad v79 fun b80 => br b80
 (zab 1 false (zaa x1) 1 fun v81 =>
 pBin PP .geq T.int v81 r2 fun v82 =>
 some (v82, H44))
 (zab 1 false (zaa x1) 1 fun v83 =>
 pBin PP .eql T.int v83 r2 fun v84 =>
 some (v84, H44)))))))
 (fun i45 => zaE i45 0 (
 zab 1 false (zaa x1) 1 fun v85 =>
 pBin PP .eql T.int v85 r2 fun v86 =>
 some (v86, H44)) (
 none))
 (some ((l43.headD undef), H44)))))))
 (fun i15 => zaE i15 0 (
 zab 1 false (zaa x1) 1 fun v87 =>
 pBin PP .eql T.int v87 r2 fun v88 =>
 some (v88, H14)) (
 none))
 (some ((l13.headD undef), H14))
noncomputable def zjL (R : zaj) (x0 : Value) (H0 : Hp) : Option (Value × Hp) :=
 zaC (
 pLen .str x0 H0 fun v1 =>
 pBin PP .lss T.int v1 (.int .i64 1) fun v2 =>
 zad v2 fun b3 => br b3
 (some (.ret, [(.bool false)], H0))
 (pLen .str x0 H0 fun v4 =>
 pBin PP .gtr T.int v4 (.int .i64 24) fun v5 =>
 zad v5 fun b6 => br b6
 (some (.ret, [(.bool false)], H0))
 (some (.next, [], H0)))) fun q7 l8 H9 => zaJ q7
 (zpD x0 fun s11 =>
 zaC (zaA (fun l12 H13 =>
 br (Nat.blt (zbr ((l12.drop 0).getD 0 undef)) (zbu ((l12.drop 0).getD 0 undef)).size)
 (zaC (
 pBin PP .geq T.int32 (.int .i32 (Utf8.decode (zbu ((l12.drop 0).getD 0 undef)) (zbr ((l12.drop 0).getD 0 undef))).1) (.int .i32 97) fun v14 =>
 zad v14 fun b15 => br b15
 (pBin PP .leq T.int32 (.int .i32 (Utf8.decode (zbu ((l12.drop 0).getD 0 undef)) (zbr ((l12.drop 0).getD 0 undef))).1) (.int .i32 122) fun v16 =>
 zad v16 fun b17 => br b17
 (some (.next, [(.bool true)], H13))
 (pBin PP .geq T.int32 (.int .i32 (Utf8.decode (zbu ((l12.drop 0).getD 0 undef)) (zbr ((l12.drop 0).getD 0 undef))).1) (.int .i32 65) fun v18 =>
 zad v18 fun b19 => br b19
 (pBin PP .leq T.int32 (.int .i32 (Utf8.decode (zbu ((l12.drop 0).getD 0 undef)) (zbr ((l12.drop 0).getD 0 undef))).1) (.int .i32 90) fun v20 =>
 zad v20 fun b21 => br b21
 (some (.next, [(.bool true)], H13))
 (pBin PP .eql T.int32 (.int .i32 (Utf8.decode (zbu ((l12.drop 0).getD 0 undef)) (zbr ((l12.drop 0).getD 0 undef))).1) (.int .i32 95) fun v22 =>
 some (.next, [v22], H13)))
 (pBin PP .eql T.int32 (.int .i32 (Utf8.decode (zbu ((l12.drop 0).getD 0 undef)) (zbr ((l12.drop 0).getD 0 undef))).1) (.int .i32 95) fun v23 =>
 some (.next, [v23], H13))))
 (pBin PP .geq T.int32 (.int .i32 (Utf8.decode (zbu ((l12.drop 0).getD 0 undef)) (zbr ((l12.drop 0).getD 0 undef))).1) (.int .i32 65) fun v24 =>
 zad v24 fun b25 => br b25
 (pBin PP .leq T.int32 (.int .i32 (Utf8.decode (zbu ((l12.drop 0).getD 0 undef)) (zbr ((l12.drop 0).getD 0 undef))).1) (.int .i32 90) fun v26 =>
 zad v26 fun b27 => br b27
 (some (.next, [(.bool true)], H13))
 (pBin PP .eql T.int32 (.int .i32 (Utf8.decode (zbu ((l12.drop 0).getD 0 undef)) (zbr ((l12.drop 0).getD 0 undef))).1) (.int .i32 95) fun v28 =>
 some (.next, [v28], H13)))
 (pBin PP .eql T.int32 (.int .i32 (Utf8.decode (zbu ((l12.drop 0).getD 0 undef)) (zbr ((l12.drop 0).getD 0 undef))).1) (.int .i32 95) fun v29 =>
 some (.next, [v29], H13)))) fun q30 l31 H32 => zaJ q30
 (pUn .not (l31.getD 0 undef) fun v34 =>
 zad v34 fun b35 => br b35
 (pBin PP .eql T.int (.int .i64 ((zbr ((l12.drop 0).getD 0 undef)) : Nat)) (.int .i64 0) fun v36 =>
 zad v36 fun b37 => br b37
 (some (.ret, [(.bool false)], H32))
 (pBin PP .lss T.int32 (.int .i32 (Utf8.decode (zbu ((l12.drop 0).getD 0 undef)) (zbr ((l12.drop 0).getD 0 undef))).1) (.int .i32 48) fun v38 =>
 zad v38 fun b39 => br b39
 (some (.ret, [(.bool false)], H32))
 (pBin PP .gtr T.int32 (.int .i32 (Utf8.decode (zbu ((l12.drop 0).getD 0 undef)) (zbr ((l12.drop 0).getD 0 undef))).1) (.int .i32 57) fun v40 =>
 zad v40 fun b41 => br b41
 (some (.ret, [(.bool false)], H32))
 (some (.next, [(.tuple #[.string (zbu ((l12.drop 0).getD 0 undef)), .int .i64 (((zbr ((l12.drop 0).getD 0 undef)) + (Utf8.decode (zbu ((l12.drop 0).getD 0 undef)) (zbr ((l12.drop 0).getD 0 undef))).2) : Nat)])], H32)))))
 (some (.next, [(.tuple #[.string (zbu ((l12.drop 0).getD 0 undef)), .int .i64 (((zbr ((l12.drop 0).getD 0 undef)) + (Utf8.decode (zbu ((l12.drop 0).getD 0 undef)) (zbr ((l12.drop 0).getD 0 undef))).2) : Nat)])], H32)))
 (fun i33 => zaE i33 1 (
 some (.next, [(.tuple #[.string (zbu ((l12.drop 0).getD 0 undef)), .int .i64 (((zbr ((l12.drop 0).getD 0 undef)) + (Utf8.decode (zbu ((l12.drop 0).getD 0 undef)) (zbr ((l12.drop 0).getD 0 undef))).2) : Nat)])], H32)) (
 some (.exit i33, [(.tuple #[.string (zbu ((l12.drop 0).getD 0 undef)), .int .i64 (((zbr ((l12.drop 0).getD 0 undef)) + (Utf8.decode (zbu ((l12.drop 0).getD 0 undef)) (zbr ((l12.drop 0).getD 0 undef))).2) : Nat)])], H32)))
 (some (.ret, [(l31.headD undef)], H32)))
 (some (.exit 0, [(.tuple #[.string (zbu ((l12.drop 0).getD 0 undef)), .int .i64 ((zbr ((l12.drop 0).getD 0 undef)) : Nat)])], H13))) [(.tuple #[.string s11, .int .i64 (0 : Nat)])] H9) fun q42 l43 H44 => zaJ q42 none
 (fun i45 => zaE i45 0 (
 some ((.bool true), H44)) (
 none))
 (some ((l43.headD undef), H44)))
 (fun i10 => none)
 (some ((l8.headD undef), H9))
noncomputable def zhy (R : zaj) (x0 x1 x2 : Value) (H0 : Hp) : Option (Value × Hp) := zdW PP orc R F.a71 Go.Proofs.Tryz.f79 [x0, x1, x2] H0
noncomputable def zit (R : zaj) (x0 x1 : Value) (H0 : Hp) : Option (Value × Hp) :=
 zab 5 true (zaa x0) 0 fun v1 =>
 zab 5 true (zaa x1) 0 fun v2 =>
 zaf R F.a121 [v1, v2] H0 fun r3 H4 =>
 zah r3 0 fun v5 =>
 zah r3 1 fun v6 =>
 zah r3 2 fun v7 =>
 zac 5 [.int .i64 0, .int .u64 0, .int .u64 0, .int .u64 0, .int .u64 0] 0 v5 fun c8 =>
 zac 5 [.int .i64 0, .int .u64 0, .int .u64 0, .int .u64 0, .int .u64 0] 0 v6 fun c9 =>
 pBin PP .neq T.api_Errno v7 (.int .i64 0) fun v10 =>
 zad v10 fun b11 => br b11
 (zar PP T.api_Fact [] fun v12 =>
 zac 5 [.int .i64 0, .int .u64 0, .int .u64 0, .int .u64 0, .int .u64 0] 0 v12 fun c13 =>
 zab 5 true c13 0 fun v14 =>
 some ((.tuple #[v14, v7]), H4))
 (zab 1 false c8 0 fun v15 =>
 zab 1 false c8 1 fun v16 =>
 zab 1 false c9 1 fun v17 =>
 pBin PP .or T.uint64 v16 v17 fun v18 =>
 zab 1 false c8 2 fun v19 =>
 zab 1 false c9 2 fun v20 =>
 pBin PP .or T.uint64 v19 v20 fun v21 =>
 zab 1 false c8 3 fun v22 =>
 zab 1 false c9 3 fun v23 =>
 pMM true [v22, v23] fun v24 =>
 zab 1 false c8 4 fun v25 =>
 zab 1 false c9 4 fun v26 =>
 pMM false [v25, v26] fun v27 =>
 zar PP T.api_Fact [(0, v15), (1, v18), (2, v21), (3, v24), (4, v27)] fun v28 =>
 zaf R F.a7 [v28] H4 fun r29 H30 =>
 zah r29 0 fun v31 =>
 zah r29 1 fun v32 =>
 zac 5 [.int .i64 0, .int .u64 0, .int .u64 0, .int .u64 0, .int .u64 0] 0 v31 fun c33 =>
 zab 5 true c33 0 fun v34 =>
 some ((.tuple #[v34, v32]), H30))
noncomputable def zhs (R : zaj) (x0 x1 : Value) (H0 : Hp) : Option (Value × Hp) :=
 zad x0 fun b1 => br b1
 (zaf R F.a16 [(.int .i64 0), (.int .u64 1)] H0 fun r2 H3 =>
 zac 5 [.int .i64 0, .int .u64 0, .int .u64 0, .int .u64 0, .int .u64 0] 0 r2 fun c4 =>
 zab 5 true c4 0 fun v5 =>
 some (v5, H3))
 (zad x1 fun b6 => br b6
 (zaf R F.a16 [(.int .i64 0), (.int .u64 0)] H0 fun r7 H8 =>
 zac 5 [.int .i64 0, .int .u64 0, .int .u64 0, .int .u64 0, .int .u64 0] 0 r7 fun c9 =>
 zab 5 true c9 0 fun v10 =>
 some (v10, H8))
 (zaf R F.a38 [(.int .i64 0)] H0 fun r11 H12 =>
 zac 5 [.int .i64 0, .int .u64 0, .int .u64 0, .int .u64 0, .int .u64 0] 0 r11 fun c13 =>
 zab 5 true c13 0 fun v14 =>
 some (v14, H12)))
noncomputable def zgi (R : zaj) (x0 : Value) (H0 : Hp) : Option (Value × Hp) :=
 ze2 (zaa x0) H0 fun p1 H2 =>
 za7 0 p1 fun p3 =>
 zaB 1 false H2 p3 fun v4 =>
 pBin PP .sub T.int v4 (.int .i64 1) fun v5 =>
 zal .u64 v5 fun v6 =>
 pBin PP .shl T.uint64 (.int .u64 1) v6 fun v7 =>
 za7 1 p1 fun p8 =>
 zaB 1 false H2 p8 fun v9 =>
 pBin PP .and T.uint64 v9 v7 fun v10 =>
 pBin PP .neq T.uint64 v10 (.int .u64 0) fun v11 =>
 zad v11 fun b12 => br b12
 (zad v11 fun b13 => br b13
 (za7 0 p1 fun p14 =>
 zaB 1 false H2 p14 fun v15 =>
 za7 3 p1 fun p16 =>
 zaB 1 false H2 p16 fun v17 =>
 zaf R F.a6 [v15, v17] H2 fun r18 H19 =>
 za7 0 p1 fun p20 =>
 zaB 1 false H19 p20 fun v21 =>
 chk (Hp.rdP H2 p20 1 false = some v21) (
 za7 4 p1 fun p22 =>
 zaB 1 false H19 p22 fun v23 =>
 chk (Hp.rdP H2 p22 1 false = some v23) (
 zaf R F.a6 [v21, v23] H19 fun r24 H25 =>
 some ((.tuple #[r18, r24]), H25))))
 (za7 0 p1 fun p26 =>
 zaB 1 false H2 p26 fun v27 =>
 zaf R F.a21 [v7, (.int .u64 0), p1] H2 fun r28 H29 =>
 chk (Hp.rdP H29 p26 1 false = some v27) (
 zhZ false 1 3 r28 fun v30 =>
 zaf R F.a6 [v27, v30] H29 fun r31 H32 =>
 za7 0 p1 fun p33 =>
 zaB 1 false H32 p33 fun v34 =>
 chk (Hp.rdP H2 p33 1 false = some v34) (
 chk (Hp.rdP H29 p33 1 false = some v34) (
 zaf R F.a21 [(.int .u64 0), v7, p1] H32 fun r35 H36 =>
 chk (Hp.rdP H36 p33 1 false = some v34) (
 zhZ false 1 4 r35 fun v37 =>
 zaf R F.a6 [v34, v37] H36 fun r38 H39 =>
 some ((.tuple #[r31, r38]), H39)))))))
 (za7 2 p1 fun p40 =>
 zaB 1 false H2 p40 fun v41 =>
 pBin PP .and T.uint64 v41 v7 fun v42 =>
 pBin PP .neq T.uint64 v42 (.int .u64 0) fun v43 =>
 zad v43 fun b44 => br b44
 (za7 0 p1 fun p45 =>
 zaB 1 false H2 p45 fun v46 =>
 za7 3 p1 fun p47 =>
 zaB 1 false H2 p47 fun v48 =>
 zaf R F.a6 [v46, v48] H2 fun r49 H50 =>
 za7 0 p1 fun p51 =>
 zaB 1 false H50 p51 fun v52 =>
 chk (Hp.rdP H2 p51 1 false = some v52) (
 za7 4 p1 fun p53 =>
 zaB 1 false H50 p53 fun v54 =>
 chk (Hp.rdP H2 p53 1 false = some v54) (
 zaf R F.a6 [v52, v54] H50 fun r55 H56 =>
 some ((.tuple #[r49, r55]), H56))))
 (za7 0 p1 fun p57 =>
 zaB 1 false H2 p57 fun v58 =>
 zaf R F.a21 [v7, (.int .u64 0), p1] H2 fun r59 H60 =>
 chk (Hp.rdP H60 p57 1 false = some v58) (
 zhZ false 1 3 r59 fun v61 =>
 zaf R F.a6 [v58, v61] H60 fun r62 H63 =>
 za7 0 p1 fun p64 =>
 zaB 1 false H63 p64 fun v65 =>
 chk (Hp.rdP H2 p64 1 false = some v65) (
 chk (Hp.rdP H60 p64 1 false = some v65) (
 zaf R F.a21 [(.int .u64 0), v7, p1] H63 fun r66 H67 =>
 chk (Hp.rdP H67 p64 1 false = some v65) (
 zhZ false 1 4 r66 fun v68 =>
 zaf R F.a6 [v65, v68] H67 fun r69 H70 =>
 some ((.tuple #[r62, r69]), H70)))))))
noncomputable def zfy (R : zaj) (x0 x1 x2 x3 : Value) (H0 : Hp) : Option (Value × Hp) := zdW PP orc R F.a39 Go.Proofs.Tryz.f83 [x0, x1, x2, x3] H0
noncomputable def zgn (R : zaj) (x0 x1 x2 : Value) (H0 : Hp) : Option (Value × Hp) :=
 zaf R F.a83 [x1, x2, (.int .u64 0)] H0 fun r1 H2 =>
 zah r1 0 fun v3 =>
 zah r1 1 fun v4 =>
 pBin PP .eql T.uint64 v4 (.int .u64 1) fun v5 =>
 zad v5 fun b6 => br b6
 (some ((.bool true), H2))
 (zaf R F.a3 [x0] H2 fun r7 H8 =>
 pBin PP .gtr T.uint64 v3 r7 fun v9 =>
 some (v9, H8))
noncomputable def zgm (R : zaj) (x0 x1 : Value) (H0 : Hp) : Option (Value × Hp) :=
 pUn .xor x0 fun v1 =>
 zaf R F.a91 [v1] H0 fun r2 H3 =>
 pMM false [r2, x1] fun v4 =>
 some (v4, H3)
noncomputable def zim (R : zaj) (x0 : Value) (H0 : Hp) : Option (Value × Hp) :=
 zab 1 false (zaa x0) 1 fun v1 =>
 zab 1 false (zaa x0) 2 fun v2 =>
 pBin PP .or T.uint64 v1 v2 fun v3 =>
 some (v3, H0)
noncomputable def ziy (R : zaj) (x0 x1 : Value) (H0 : Hp) : Option (Value × Hp) :=
 pBin PP .and T.uint64 x0 (.int .u64 4294967295) fun v1 =>
 pBin PP .shr T.uint64 x0 (.int .u64 32) fun v2 =>
 pBin PP .and T.uint64 x1 (.int .u64 4294967295) fun v3 =>
 pBin PP .shr T.uint64 x1 (.int .u64 32) fun v4 =>
 pBin PP .mul T.uint64 v1 v3 fun v5 =>
 pBin PP .mul T.uint64 v2 v3 fun v6 =>
 pBin PP .shr T.uint64 v5 (.int .u64 32) fun v7 =>
 pBin PP .add T.uint64 v6 v7 fun v8 =>
 pBin PP .and T.uint64 v8 (.int .u64 4294967295) fun v9 =>
 pBin PP .shr T.uint64 v8 (.int .u64 32) fun v10 =>
 pBin PP .mul T.uint64 v1 v4 fun v11 =>
 pBin PP .add T.uint64 v9 v11 fun v12 =>
 pBin PP .mul T.uint64 v2 v4 fun v13 =>
 pBin PP .add T.uint64 v13 v10 fun v14 =>
 pBin PP .shr T.uint64 v12 (.int .u64 32) fun v15 =>
 pBin PP .add T.uint64 v14 v15 fun v16 =>
 pBin PP .mul T.uint64 x0 x1 fun v17 =>
 some ((.tuple #[v16, v17]), H0)
noncomputable def zgo (R : zaj) (x0 x1 : Value) (H0 : Hp) : Option (Value × Hp) :=
 zab 1 false (zaa x0) 0 fun v1 =>
 pBin PP .sub T.int v1 (.int .i64 1) fun v2 =>
 zal .u64 v2 fun v3 =>
 zab 1 false (zaa x0) 0 fun v4 =>
 zab 1 false (zaa x0) 1 fun v5 =>
 zal .u64 x1 fun v6 =>
 pBin PP .or T.uint64 v5 v6 fun v7 =>
 zab 1 false (zaa x0) 2 fun v8 =>
 zal .u64 x1 fun v9 =>
 pBin PP .andNot T.uint64 v3 v9 fun v10 =>
 pBin PP .or T.uint64 v8 v10 fun v11 =>
 zab 1 false (zaa x0) 3 fun v12 =>
 zab 1 false (zaa x0) 4 fun v13 =>
 zar PP T.api_Fact [(0, v4), (1, v7), (2, v11), (3, v12), (4, v13)] fun v14 =>
 zac 5 [.int .i64 0, .int .u64 0, .int .u64 0, .int .u64 0, .int .u64 0] 0 v14 fun c15 =>
 zab 5 true c15 0 fun v16 =>
 zaf R F.a5 [v16] H0 fun r17 H18 =>
 zah r17 0 fun v19 =>
 zah r17 1 fun v20 =>
 zac 5 [.int .i64 0, .int .u64 0, .int .u64 0, .int .u64 0, .int .u64 0] 0 v19 fun c21 =>
 some (v20, H18)
noncomputable def zfv (R : zaj) (x0 x1 x2 : Value) (H0 : Hp) : Option (Value × Hp) :=
 ze2 (zaa x0) H0 fun p1 H2 =>
 ze2 (zaa x2) H2 fun p3 H4 =>
 zab 1 false (zaa x1) 0 fun v5 =>
 ze2 [.int .i64 0] H4 fun p6 H7 =>
 zcc 1 H7 p6 v5 fun H8 =>
 zaB 1 false H8 p6 fun v9 =>
 zab 1 false (zaa x1) 1 fun v10 =>
 zaf R F.a54 [v10, p1, p6, p3] H8 fun r11 H12 =>
 chk (Hp.rdP H12 p6 1 false = some v9) (
 zab 1 false (zaa x1) 2 fun v13 =>
 zaf R F.a54 [v13, p1, p6, p3] H12 fun r14 H15 =>
 chk (Hp.rdP H15 p6 1 false = some v9) (
 zaf R F.a11 [v9, r11, r14] H15 fun r16 H17 =>
 zac 5 [.int .i64 0, .int .u64 0, .int .u64 0, .int .u64 0, .int .u64 0] 0 r16 fun c18 =>
 zaB 1 false H17 p6 fun v19 =>
 zaf R F.a3 [v19] H17 fun r20 H21 =>
 zaB 1 false H21 p6 fun v22 =>
 chk (Hp.rdP H17 p6 1 false = some v22) (
 zaf R F.a3 [v22] H21 fun r23 H24 =>
 zaf R F.a54 [r23, p1, p6, p3] H24 fun r25 H26 =>
 pBin PP .andNot T.uint64 r20 r25 fun v27 =>
 zaB 1 false H26 p1 fun v28 =>
 pBin PP .eql T.int v28 (.int .i64 25) fun v29 =>
 zad v29 fun b30 => br b30
 (zab 1 false c18 2 fun v31 =>
 pBin PP .or T.uint64 v31 v27 fun v32 =>
 zac 1 c18 2 v32 fun c33 =>
 zab 1 false (zaa x1) 4 fun v34 =>
 zaB 1 false H26 p3 fun v35 =>
 zal .u64 v35 fun v36 =>
 pBin PP .shl T.uint64 (.int .u64 1) v36 fun v37 =>
 zaf R F.a58 [v34, v37] H26 fun r38 H39 =>
 zah r38 0 fun v40 =>
 zah r38 1 fun v41 =>
 pBin PP .eql T.uint64 v40 (.int .u64 0) fun v42 =>
 zad v42 fun b43 => br b43
 (zaB 1 false H39 p6 fun v44 =>
 zaf R F.a3 [v44] H39 fun r45 H46 =>
 pBin PP .leq T.uint64 v41 r45 fun v47 =>
 zad v47 fun b48 => br b48
 (zab 1 false (zaa x1) 3 fun v49 =>
 zaB 1 false H46 p3 fun v50 =>
 zal .u64 v50 fun v51 =>
 pBin PP .shl T.uint64 v49 v51 fun v52 =>
 zac 1 c33 3 v52 fun c53 =>
 zac 1 c53 4 v41 fun c54 =>
 zab 5 true c54 0 fun v55 =>
 zac 5 [.int .i64 0, .int .u64 0, .int .u64 0, .int .u64 0, .int .u64 0] 0 v55 fun c56 =>
 zab 5 true c56 0 fun v57 =>
 some (v57, H46))
 (zab 5 true c33 0 fun v58 =>
 zac 5 [.int .i64 0, .int .u64 0, .int .u64 0, .int .u64 0, .int .u64 0] 0 v58 fun c59 =>
 zab 5 true c59 0 fun v60 =>
 some (v60, H46)))
 (zab 5 true c33 0 fun v61 =>
 zac 5 [.int .i64 0, .int .u64 0, .int .u64 0, .int .u64 0, .int .u64 0] 0 v61 fun c62 =>
 zab 5 true c62 0 fun v63 =>
 some (v63, H39)))
 (pBin PP .eql T.int v28 (.int .i64 26) fun v64 =>
 zad v64 fun b65 => br b65
 (zab 1 false c18 2 fun v66 =>
 pBin PP .or T.uint64 v66 v27 fun v67 =>
 zac 1 c18 2 v67 fun c68 =>
 zab 1 false (zaa x1) 3 fun v69 =>
 zaB 1 false H26 p3 fun v70 =>
 zal .u64 v70 fun v71 =>
 pBin PP .shr T.uint64 v69 v71 fun v72 =>
 zab 1 false (zaa x1) 4 fun v73 =>
 zaB 1 false H26 p3 fun v74 =>
 zal .u64 v74 fun v75 =>
 pBin PP .shr T.uint64 v73 v75 fun v76 =>
 zac 1 c68 3 v72 fun c77 =>
 zac 1 c77 4 v76 fun c78 =>
 zab 5 true c78 0 fun v79 =>
 zac 5 [.int .i64 0, .int .u64 0, .int .u64 0, .int .u64 0, .int .u64 0] 0 v79 fun c80 =>
 zab 5 true c80 0 fun v81 =>
 some (v81, H26))
 (zab 5 true c18 0 fun v82 =>
 zac 5 [.int .i64 0, .int .u64 0, .int .u64 0, .int .u64 0, .int .u64 0] 0 v82 fun c83 =>
 zab 5 true c83 0 fun v84 =>
 some (v84, H26))))))
noncomputable def zd7 (R : zaj) (x0 x1 : Value) (H0 : Hp) : Option (Value × Hp) :=
 zal .u64 x1 fun v1 =>
 pBin PP .shr T.uint64 x0 v1 fun v2 =>
 pBin PP .and T.uint64 v2 (.int .u64 1) fun v3 =>
 pBin PP .eql T.uint64 v3 (.int .u64 1) fun v4 =>
 some (v4, H0)
noncomputable def zhz (R : zaj) (x0 : Value) (H0 : Hp) : Option (Value × Hp) :=
 pBin PP .geq T.int x0 (.int .i64 64) fun v1 =>
 zad v1 fun b2 => br b2
 (some ((.int .u64 18446744073709551615), H0))
 (zal .u64 x0 fun v3 =>
 pBin PP .shl T.uint64 (.int .u64 1) v3 fun v4 =>
 pBin PP .sub T.uint64 v4 (.int .u64 1) fun v5 =>
 some (v5, H0))
noncomputable def zgI (R : zaj) (x0 x1 : Value) (H0 : Hp) : Option (Value × Hp) :=
 zab 1 false (zaa x0) 1 fun v1 =>
 pBin PP .and T.uint64 x1 v1 fun v2 =>
 zab 1 false (zaa x0) 1 fun v3 =>
 pBin PP .eql T.uint64 v2 v3 fun v4 =>
 zad v4 fun b5 => br b5
 (zab 1 false (zaa x0) 2 fun v6 =>
 pBin PP .and T.uint64 x1 v6 fun v7 =>
 pBin PP .eql T.uint64 v7 (.int .u64 0) fun v8 =>
 some (v8, H0))
 (some ((.bool false), H0))
noncomputable def zdn (R : zaj) (x0 : Value) (H0 : Hp) : Option (Value × Hp) :=
 pBin PP .geq T.int x0 (.int .i64 1) fun v1 =>
 zad v1 fun b2 => br b2
 (pBin PP .leq T.int x0 (.int .i64 64) fun v3 =>
 some (v3, H0))
 (some ((.bool false), H0))
noncomputable def zdN (R : zaj) (x0 x1 : Value) (H0 : Hp) : Option (Value × Hp) :=
 pBin PP .lss T.int x0 (.int .i64 1) fun v1 =>
 zad v1 fun b2 => br b2
 (some ((.int .u64 0), H0))
 (pBin PP .geq T.int x0 (.int .i64 64) fun v3 =>
 zad v3 fun b4 => br b4
 (some (x1, H0))
 (zal .u64 x0 fun v5 =>
 pBin PP .shl T.uint64 (.int .u64 1) v5 fun v6 =>
 pBin PP .rem T.uint64 x1 v6 fun v7 =>
 some (v7, H0)))
noncomputable def zcV (R : zaj) (x0 x1 : Value) (H0 : Hp) : Option (Value × Hp) :=
 zaf R F.a9 [x0] H0 fun r1 H2 =>
 pUn .not r1 fun v3 =>
 zad v3 fun b4 => br b4
 (some ((.int .i64 0), H2))
 (zaf R F.a1 [x0, x1] H2 fun r5 H6 =>
 pBin PP .sub T.int x0 (.int .i64 1) fun v7 =>
 zaf R F.a32 [r5, v7] H6 fun r8 H9 =>
 pBin PP .eql T.uint64 r8 (.int .u64 1) fun v10 =>
 zad v10 fun b11 => br b11
 (pBin PP .lss T.int x0 (.int .i64 64) fun v12 =>
 zad v12 fun b13 => br b13
 (zal .i64 r5 fun v14 =>
 zal .u64 x0 fun v15 =>
 pBin PP .shl T.int64 (.int .i64 1) v15 fun v16 =>
 pBin PP .sub T.int64 v14 v16 fun v17 =>
 some (v17, H9))
 (zal .i64 r5 fun v18 =>
 some (v18, H9)))
 (zal .i64 r5 fun v19 =>
 some (v19, H9)))
noncomputable def zdl (R : zaj) (x0 x1 x2 x3 : Value) (H0 : Hp) : Option (Value × Hp) := zdW PP orc R F.a44 Go.Proofs.Tryz.f96 [x0, x1, x2, x3] H0
noncomputable def zdJ (R : zaj) (x0 : Value) (H0 : Hp) : Option (Value × Hp) :=
 zab 1 false (zaa x0) 0 fun v1 =>
 zaf R F.a26 [v1] H0 fun r2 H3 =>
 pBin PP .sub T.int r2 (.int .i64 1) fun v4 =>
 zal .u64 v4 fun v5 =>
 pBin PP .shl T.uint64 (.int .u64 1) v5 fun v6 =>
 zab 5 true (zaa x0) 0 fun v7 =>
 zac 5 [.int .i64 0, .int .u64 0, .int .u64 0, .int .u64 0, .int .u64 0] 0 v7 fun c8 =>
 zab 1 false (zaa x0) 1 fun v9 =>
 pBin PP .or T.uint64 v9 v6 fun v10 =>
 zac 1 c8 1 v10 fun c11 =>
 zab 5 true c11 0 fun v12 =>
 zaf R F.a2 [v12] H3 fun r13 H14 =>
 zah r13 0 fun v15 =>
 zah r13 1 fun v16 =>
 zac 5 [.int .i64 0, .int .u64 0, .int .u64 0, .int .u64 0, .int .u64 0] 0 v15 fun c17 =>
 zab 5 true (zaa x0) 0 fun v18 =>
 zac 5 c11 0 v18 fun c19 =>
 zab 1 false (zaa x0) 2 fun v20 =>
 pBin PP .or T.uint64 v20 v6 fun v21 =>
 zac 1 c19 2 v21 fun c22 =>
 zab 5 true c22 0 fun v23 =>
 zaf R F.a2 [v23] H14 fun r24 H25 =>
 zah r24 0 fun v26 =>
 zah r24 1 fun v27 =>
 zac 5 [.int .i64 0, .int .u64 0, .int .u64 0, .int .u64 0, .int .u64 0] 0 v26 fun c28 =>
 zab 1 false c28 3 fun v29 =>
 pBin PP .xor T.uint64 v29 v6 fun v30 =>
 pBin PP .eql T.int v16 (.int .i64 0) fun v31 =>
 zad v31 fun b32 => br b32
 (zab 1 false c17 3 fun v33 =>
 pBin PP .xor T.uint64 v33 v6 fun v34 =>
 zab 1 false c17 4 fun v35 =>
 pBin PP .xor T.uint64 v35 v6 fun v36 =>
 pBin PP .eql T.int v27 (.int .i64 0) fun v37 =>
 zad v37 fun b38 => br b38
 (zab 1 false c28 4 fun v39 =>
 pBin PP .xor T.uint64 v39 v6 fun v40 =>
 some ((.tuple #[v34, v40]), H25))
 (some ((.tuple #[v34, v36]), H25)))
 (zab 1 false c17 4 fun v41 =>
 pBin PP .xor T.uint64 v41 v6 fun v42 =>
 pBin PP .eql T.int v27 (.int .i64 0) fun v43 =>
 zad v43 fun b44 => br b44
 (zab 1 false c28 4 fun v45 =>
 pBin PP .xor T.uint64 v45 v6 fun v46 =>
 some ((.tuple #[v30, v46]), H25))
 (some ((.tuple #[v30, v42]), H25)))
noncomputable def zdM (R : zaj) (x0 x1 : Value) (H0 : Hp) : Option (Value × Hp) :=
 zab 5 true (zaa x0) 0 fun v1 =>
 zab 5 true (zaa x1) 0 fun v2 =>
 zaf R F.a101 [v1, v2] H0 fun r3 H4 =>
 zah r3 0 fun v5 =>
 zah r3 1 fun v6 =>
 zah r3 2 fun v7 =>
 zac 5 [.int .i64 0, .int .u64 0, .int .u64 0, .int .u64 0, .int .u64 0] 0 v5 fun c8 =>
 zac 5 [.int .i64 0, .int .u64 0, .int .u64 0, .int .u64 0, .int .u64 0] 0 v6 fun c9 =>
 pBin PP .neq T.int v7 (.int .i64 0) fun v10 =>
 zad v10 fun b11 => br b11
 (zar PP T.api_Fact [] fun v12 =>
 zac 5 [.int .i64 0, .int .u64 0, .int .u64 0, .int .u64 0, .int .u64 0] 0 v12 fun c13 =>
 zab 5 true c13 0 fun v14 =>
 some ((.tuple #[v14, v7]), H4))
 (zab 1 false c8 0 fun v15 =>
 zab 1 false c8 1 fun v16 =>
 zab 1 false c9 1 fun v17 =>
 pBin PP .or T.uint64 v16 v17 fun v18 =>
 zab 1 false c8 2 fun v19 =>
 zab 1 false c9 2 fun v20 =>
 pBin PP .or T.uint64 v19 v20 fun v21 =>
 zab 1 false c8 3 fun v22 =>
 zab 1 false c8 4 fun v23 =>
 zar PP T.api_Fact [(0, v15), (1, v18), (2, v21), (3, v22), (4, v23)] fun v24 =>
 zac 5 [.int .i64 0, .int .u64 0, .int .u64 0, .int .u64 0, .int .u64 0] 0 v24 fun c25 =>
 zab 1 false c9 3 fun v26 =>
 zab 1 false c25 3 fun v27 =>
 pBin PP .gtr T.uint64 v26 v27 fun v28 =>
 zad v28 fun b29 => br b29
 (zab 1 false c9 3 fun v30 =>
 zac 1 c25 3 v30 fun c31 =>
 zab 1 false c9 4 fun v32 =>
 zab 1 false c31 4 fun v33 =>
 pBin PP .lss T.uint64 v32 v33 fun v34 =>
 zad v34 fun b35 => br b35
 (zab 1 false c9 4 fun v36 =>
 zac 1 c31 4 v36 fun c37 =>
 zab 5 true c37 0 fun v38 =>
 zaf R F.a2 [v38] H4 fun r39 H40 =>
 zah r39 0 fun v41 =>
 zah r39 1 fun v42 =>
 zac 5 [.int .i64 0, .int .u64 0, .int .u64 0, .int .u64 0, .int .u64 0] 0 v41 fun c43 =>
 zab 5 true c43 0 fun v44 =>
 some ((.tuple #[v44, v42]), H40))
 (zab 5 true c31 0 fun v45 =>
 zaf R F.a2 [v45] H4 fun r46 H47 =>
 zah r46 0 fun v48 =>
 zah r46 1 fun v49 =>
 zac 5 [.int .i64 0, .int .u64 0, .int .u64 0, .int .u64 0, .int .u64 0] 0 v48 fun c50 =>
 zab 5 true c50 0 fun v51 =>
 some ((.tuple #[v51, v49]), H47)))
 (zab 1 false c9 4 fun v52 =>
 zab 1 false c25 4 fun v53 =>
 pBin PP .lss T.uint64 v52 v53 fun v54 =>
 zad v54 fun b55 => br b55
 (zab 1 false c9 4 fun v56 =>
 zac 1 c25 4 v56 fun c57 =>
 zab 5 true c57 0 fun v58 =>
 zaf R F.a2 [v58] H4 fun r59 H60 =>
 zah r59 0 fun v61 =>
 zah r59 1 fun v62 =>
 zac 5 [.int .i64 0, .int .u64 0, .int .u64 0, .int .u64 0, .int .u64 0] 0 v61 fun c63 =>
 zab 5 true c63 0 fun v64 =>
 some ((.tuple #[v64, v62]), H60))
 (zab 5 true c25 0 fun v65 =>
 zaf R F.a2 [v65] H4 fun r66 H67 =>
 zah r66 0 fun v68 =>
 zah r66 1 fun v69 =>
 zac 5 [.int .i64 0, .int .u64 0, .int .u64 0, .int .u64 0, .int .u64 0] 0 v68 fun c70 =>
 zab 5 true c70 0 fun v71 =>
 some ((.tuple #[v71, v69]), H67))))
noncomputable def zcR (R : zaj) (x0 x1 x2 : Value) (H0 : Hp) : Option (Value × Hp) := zdW PP orc R F.a29 Go.Proofs.Tryz.f99 [x0, x1, x2] H0
noncomputable def zdG (R : zaj) (x0 x1 x2 : Value) (H0 : Hp) : Option (Value × Hp) :=
 zaf R F.a4 [x0] H0 fun r1 H2 =>
 pBin PP .sub T.uint64 r1 x1 fun v3 =>
 pBin PP .gtr T.uint64 x2 v3 fun v4 =>
 some (v4, H2)
noncomputable def zdg (R : zaj) (x0 : Value) (H0 : Hp) : Option (Value × Hp) := zdW PP orc R F.a28 Go.Proofs.Tryz.f101 [x0] H0
noncomputable def zdb (R : zaj) (x0 : Value) (H0 : Hp) : Option (Value × Hp) := zdW PP orc R F.a50 Go.Proofs.Tryz.f102 [x0] H0
noncomputable def zde (R : zaj) (x0 x1 x2 : Value) (H0 : Hp) : Option (Value × Hp) := zdW PP orc R F.a49 Go.Proofs.Tryz.f103 [x0, x1, x2] H0
noncomputable def zci (R : zaj) (x0 x1 x2 : Value) (H0 : Hp) : Option (Value × Hp) :=
 zab 1 false (zaa x0) 0 fun v1 =>
 zaf R F.a4 [v1] H0 fun r2 H3 =>
 pBin PP .andNot T.uint64 x1 r2 fun v4 =>
 zab 1 false (zaa x0) 1 fun v5 =>
 zab 1 false (zaa x0) 2 fun v6 =>
 zar PP T.api_Fact [(0, x2), (1, v5), (2, v6), (4, x1)] fun v7 =>
 zac 5 [.int .i64 0, .int .u64 0, .int .u64 0, .int .u64 0, .int .u64 0] 0 v7 fun c8 =>
 zab 5 true (zaa x0) 0 fun v9 =>
 zab 1 false (zaa x0) 0 fun v10 =>
 pBin PP .sub T.int v10 (.int .i64 1) fun v11 =>
 zaf R F.a10 [v9, v11] H3 fun r12 H13 =>
 pBin PP .eql T.int r12 (.int .i64 0) fun v14 =>
 zad v14 fun b15 => br b15
 (zab 1 false c8 2 fun v16 =>
 pBin PP .or T.uint64 v16 v4 fun v17 =>
 zac 1 c8 2 v17 fun c18 =>
 zab 1 false (zaa x0) 3 fun v19 =>
 zac 1 c18 3 v19 fun c20 =>
 zab 1 false (zaa x0) 4 fun v21 =>
 zac 1 c20 4 v21 fun c22 =>
 zab 5 true c22 0 fun v23 =>
 zac 5 [.int .i64 0, .int .u64 0, .int .u64 0, .int .u64 0, .int .u64 0] 0 v23 fun c24 =>
 zab 5 true c24 0 fun v25 =>
 some (v25, H13))
 (pBin PP .eql T.int r12 (.int .i64 1) fun v26 =>
 zad v26 fun b27 => br b27
 (zab 1 false c8 1 fun v28 =>
 pBin PP .or T.uint64 v28 v4 fun v29 =>
 zac 1 c8 1 v29 fun c30 =>
 zab 1 false (zaa x0) 3 fun v31 =>
 pBin PP .or T.uint64 v31 v4 fun v32 =>
 zac 1 c30 3 v32 fun c33 =>
 zab 1 false (zaa x0) 4 fun v34 =>
 pBin PP .or T.uint64 v34 v4 fun v35 =>
 zac 1 c33 4 v35 fun c36 =>
 zab 5 true c36 0 fun v37 =>
 zac 5 [.int .i64 0, .int .u64 0, .int .u64 0, .int .u64 0, .int .u64 0] 0 v37 fun c38 =>
 zab 5 true c38 0 fun v39 =>
 some (v39, H13))
 (zab 5 true c8 0 fun v40 =>
 zac 5 [.int .i64 0, .int .u64 0, .int .u64 0, .int .u64 0, .int .u64 0] 0 v40 fun c41 =>
 zab 5 true c41 0 fun v42 =>
 some (v42, H13)))
noncomputable def ziz (R : zaj) (x0 : Value) (H0 : Hp) : Option (Value × Hp) :=
 zaC (
 pBin PP .geq T.uint64 x0 (.int .u64 4294967296) fun v1 =>
 zad v1 fun b2 => br b2
 (pBin PP .shr T.uint64 x0 (.int .u64 32) fun v3 =>
 some (.next, [v3, (.int .i64 32)], H0))
 (some (.next, [x0, (.int .i64 0)], H0))) fun q4 l5 H6 => zaJ q4
 (pBin PP .geq T.uint64 (l5.getD 0 undef) (.int .u64 65536) fun v8 =>
 zad v8 fun b9 => br b9
 (pBin PP .shr T.uint64 (l5.getD 0 undef) (.int .u64 16) fun v10 =>
 pBin PP .add T.int (l5.getD 1 undef) (.int .i64 16) fun v11 =>
 pBin PP .geq T.uint64 v10 (.int .u64 256) fun v12 =>
 zad v12 fun b13 => br b13
 (pBin PP .shr T.uint64 v10 (.int .u64 8) fun v14 =>
 pBin PP .add T.int v11 (.int .i64 8) fun v15 =>
 zal .u8 v14 fun v16 =>
 zcf (.string ⟨#[0, 1, 2, 2, 3, 3, 3, 3, 4, 4, 4, 4, 4, 4, 4, 4, 5, 5, 5, 5, 5, 5, 5, 5, 5, 5, 5, 5, 5, 5, 5, 5, 6, 6, 6, 6, 6, 6, 6, 6, 6, 6, 6, 6, 6, 6, 6, 6, 6, 6, 6, 6, 6, 6, 6, 6, 6, 6, 6, 6, 6, 6, 6, 6, 7, 7, 7, 7, 7, 7, 7, 7, 7, 7, 7, 7, 7, 7, 7, 7, 7, 7, 7, 7, 7, 7, 7, 7, 7, 7, 7, 7, 7, 7, 7, 7, 7, 7, 7, 7, 7, 7, 7, 7, 7, 7, 7, 7, 7, 7, 7, 7, 7, 7, 7, 7, 7, 7, 7, 7, 7, 7, 7, 7, 7, 7, 7, 7, 8, 8, 8, 8, 8, 8, 8, 8, 8, 8, 8, 8, 8, 8, 8, 8, 8, 8, 8, 8, 8, 8, 8, 8, 8, 8, 8, 8, 8, 8, 8, 8, 8, 8, 8, 8, 8, 8, 8, 8, 8, 8, 8, 8, 8, 8, 8, 8, 8, 8, 8, 8, 8, 8, 8, 8, 8, 8, 8, 8, 8, 8, 8, 8, 8, 8, 8, 8, 8, 8, 8, 8, 8, 8, 8, 8, 8, 8, 8, 8, 8, 8, 8, 8, 8, 8, 8, 8, 8, 8, 8, 8, 8, 8, 8, 8, 8, 8, 8, 8, 8, 8, 8, 8, 8, 8, 8, 8, 8, 8, 8, 8, 8, 8, 8, 8, 8, 8, 8, 8, 8, 8, 8, 8, 8, 8, 8, 8]⟩) v16 fun v17 =>
 zal .i64 v17 fun v18 =>
 pBin PP .add T.int v15 v18 fun v19 =>
 some (v19, H6))
 (zal .u8 v10 fun v20 =>
 zcf (.string ⟨#[0, 1, 2, 2, 3, 3, 3, 3, 4, 4, 4, 4, 4, 4, 4, 4, 5, 5, 5, 5, 5, 5, 5, 5, 5, 5, 5, 5, 5, 5, 5, 5, 6, 6, 6, 6, 6, 6, 6, 6, 6, 6, 6, 6, 6, 6, 6, 6, 6, 6, 6, 6, 6, 6, 6, 6, 6, 6, 6, 6, 6, 6, 6, 6, 7, 7, 7, 7, 7, 7, 7, 7, 7, 7, 7, 7, 7, 7, 7, 7, 7, 7, 7, 7, 7, 7, 7, 7, 7, 7, 7, 7, 7, 7, 7, 7, 7, 7, 7, 7, 7, 7, 7, 7, 7, 7, 7, 7, 7, 7, 7, 7, 7, 7, 7, 7, 7, 7, 7, 7, 7, 7, 7, 7, 7, 7, 7, 7, 8, 8, 8, 8, 8, 8, 8, 8, 8, 8, 8, 8, 8, 8, 8, 8, 8, 8, 8, 8, 8, 8, 8, 8, 8, 8, 8, 8, 8, 8, 8, 8, 8, 8, 8, 8, 8, 8, 8, 8, 8, 8, 8, 8, 8, 8, 8, 8, 8, 8, 8, 8, 8, 8, 8, 8, 8, 8, 8, 8, 8, 8, 8, 8, 8, 8, 8, 8, 8, 8, 8, 8, 8, 8, 8, 8, 8, 8, 8, 8, 8, 8, 8, 8, 8, 8, 8, 8, 8, 8, 8, 8, 8, 8, 8, 8, 8, 8, 8, 8, 8, 8, 8, 8, 8, 8, 8, 8, 8, 8, 8, 8, 8, 8, 8, 8, 8, 8, 8, 8, 8, 8, 8, 8, 8, 8, 8, 8]⟩) v20 fun v21 =>
 zal .i64 v21 fun v22 =>
 pBin PP .add T.int v11 v22 fun v23 =>
 some (v23, H6)))
 (pBin PP .geq T.uint64 (l5.getD 0 undef) (.int .u64 256) fun v24 =>
 zad v24 fun b25 => br b25
 (pBin PP .shr T.uint64 (l5.getD 0 undef) (.int .u64 8) fun v26 =>
 pBin PP .add T.int (l5.getD 1 undef) (.int .i64 8) fun v27 =>
 zal .u8 v26 fun v28 =>
 zcf (.string ⟨#[0, 1, 2, 2, 3, 3, 3, 3, 4, 4, 4, 4, 4, 4, 4, 4, 5, 5, 5, 5, 5, 5, 5, 5, 5, 5, 5, 5, 5, 5, 5, 5, 6, 6, 6, 6, 6, 6, 6, 6, 6, 6, 6, 6, 6, 6, 6, 6, 6, 6, 6, 6, 6, 6, 6, 6, 6, 6, 6, 6, 6, 6, 6, 6, 7, 7, 7, 7, 7, 7, 7, 7, 7, 7, 7, 7, 7, 7, 7, 7, 7, 7, 7, 7, 7, 7, 7, 7, 7, 7, 7, 7, 7, 7, 7, 7, 7, 7, 7, 7, 7, 7, 7, 7, 7, 7, 7, 7, 7, 7, 7, 7, 7, 7, 7, 7, 7, 7, 7, 7, 7, 7, 7, 7, 7, 7, 7, 7, 8, 8, 8, 8, 8, 8, 8, 8, 8, 8, 8, 8, 8, 8, 8, 8, 8, 8, 8, 8, 8, 8, 8, 8, 8, 8, 8, 8, 8, 8, 8, 8, 8, 8, 8, 8, 8, 8, 8, 8, 8, 8, 8, 8, 8, 8, 8, 8, 8, 8, 8, 8, 8, 8, 8, 8, 8, 8, 8, 8, 8, 8, 8, 8, 8, 8, 8, 8, 8, 8, 8, 8, 8, 8, 8, 8, 8, 8, 8, 8, 8, 8, 8, 8, 8, 8, 8, 8, 8, 8, 8, 8, 8, 8, 8, 8, 8, 8, 8, 8, 8, 8, 8, 8, 8, 8, 8, 8, 8, 8, 8, 8, 8, 8, 8, 8, 8, 8, 8, 8, 8, 8, 8, 8, 8, 8, 8, 8]⟩) v28 fun v29 =>
 zal .i64 v29 fun v30 =>
 pBin PP .add T.int v27 v30 fun v31 =>
 some (v31, H6))
 (zal .u8 (l5.getD 0 undef) fun v32 =>
 zcf (.string ⟨#[0, 1, 2, 2, 3, 3, 3, 3, 4, 4, 4, 4, 4, 4, 4, 4, 5, 5, 5, 5, 5, 5, 5, 5, 5, 5, 5, 5, 5, 5, 5, 5, 6, 6, 6, 6, 6, 6, 6, 6, 6, 6, 6, 6, 6, 6, 6, 6, 6, 6, 6, 6, 6, 6, 6, 6, 6, 6, 6, 6, 6, 6, 6, 6, 7, 7, 7, 7, 7, 7, 7, 7, 7, 7, 7, 7, 7, 7, 7, 7, 7, 7, 7, 7, 7, 7, 7, 7, 7, 7, 7, 7, 7, 7, 7, 7, 7, 7, 7, 7, 7, 7, 7, 7, 7, 7, 7, 7, 7, 7, 7, 7, 7, 7, 7, 7, 7, 7, 7, 7, 7, 7, 7, 7, 7, 7, 7, 7, 8, 8, 8, 8, 8, 8, 8, 8, 8, 8, 8, 8, 8, 8, 8, 8, 8, 8, 8, 8, 8, 8, 8, 8, 8, 8, 8, 8, 8, 8, 8, 8, 8, 8, 8, 8, 8, 8, 8, 8, 8, 8, 8, 8, 8, 8, 8, 8, 8, 8, 8, 8, 8, 8, 8, 8, 8, 8, 8, 8, 8, 8, 8, 8, 8, 8, 8, 8, 8, 8, 8, 8, 8, 8, 8, 8, 8, 8, 8, 8, 8, 8, 8, 8, 8, 8, 8, 8, 8, 8, 8, 8, 8, 8, 8, 8, 8, 8, 8, 8, 8, 8, 8, 8, 8, 8, 8, 8, 8, 8, 8, 8, 8, 8, 8, 8, 8, 8, 8, 8, 8, 8, 8, 8, 8, 8, 8, 8]⟩) v32 fun v33 =>
 zal .i64 v33 fun v34 =>
 pBin PP .add T.int (l5.getD 1 undef) v34 fun v35 =>
 some (v35, H6))))
 (fun i7 => none)
 (some ((l5.headD undef), H6))
noncomputable def zgh (R : zaj) (x0 x1 : Value) (H0 : Hp) : Option (Value × Hp) :=
 zaf R F.a31 [x0, x1] H0 fun r1 H2 =>
 pUn .not r1 fun v3 =>
 zad v3 fun b4 => br b4
 (some ((.int .i64 (-1)), H2))
 (pNil x0 (
 za7 1 x0 fun p5 =>
 zaB 1 false H2 p5 fun v6 =>
 pBin PP .sub T.int x1 (.int .i64 1) fun v7 =>
 pIdx 7 v6 v7 fun p8 =>
 za7 1 p8 fun p9 =>
 zaB 1 false H2 p9 fun v10 =>
 some (v10, H2)))
noncomputable def ze6 (R : zaj) (x0 : Value) (H0 : Hp) : Option (Value × Hp) :=
 zaf R F.a89 [x0] H0 fun r1 H2 =>
 some (r1, H2)
noncomputable def zd3 (R : zaj) (x0 x1 : Value) (H0 : Hp) : Option (Value × Hp) := zdW PP orc R F.a82 Go.Proofs.Tryz.f108 [x0, x1] H0
noncomputable def zjJ (R : zaj) (x0 : Value) (H0 : Hp) : Option (Value × Hp) := zdW PP orc R F.a73 Go.Proofs.Tryz.f109 [x0] H0
noncomputable def zeC (R : zaj) (x0 x1 : Value) (H0 : Hp) : Option (Value × Hp) :=
 zaf R F.a31 [x0, x1] H0 fun r1 H2 =>
 pUn .not r1 fun v3 =>
 zad v3 fun b4 => br b4
 (zar PP T.api_Node [] fun v5 =>
 zac 7 [.int .i64 0, .int .i64 0, .int .i64 0, .int .i64 0, .int .i64 0, .int .u64 0, .string ⟨#[]⟩] 0 v5 fun c6 =>
 zab 7 true c6 0 fun v7 =>
 some ((.tuple #[v7, (.int .i64 70)]), H2))
 (pNil x0 (
 za7 1 x0 fun p8 =>
 zaB 1 false H2 p8 fun v9 =>
 pBin PP .sub T.int x1 (.int .i64 1) fun v10 =>
 pIdx 7 v9 v10 fun p11 =>
 zaB 7 true H2 p11 fun v12 =>
 zac 7 [.int .i64 0, .int .i64 0, .int .i64 0, .int .i64 0, .int .i64 0, .int .u64 0, .string ⟨#[]⟩] 0 v12 fun c13 =>
 zab 7 true c13 0 fun v14 =>
 some ((.tuple #[v14, (.int .i64 0)]), H2)))
noncomputable def zjK (R : zaj) (x0 x1 x2 x3 x4 x5 : Value) (H0 : Hp) : Option (Value × Hp) :=
 zab 1 false (zaa x0) 0 fun v1 =>
 pBin PP .eql T.int v1 (.int .i64 1) fun v2 =>
 zad v2 fun b3 => br b3
 (some ((.int .u64 1), H0))
 (pBin PP .eql T.int v1 (.int .i64 2) fun v4 =>
 zad v4 fun b5 => br b5
 (some ((.int .u64 0), H0))
 (pBin PP .eql T.int v1 (.int .i64 3) fun v6 =>
 zad v6 fun b7 => br b7
 (zab 1 false (zaa x0) 5 fun v8 =>
 some (v8, H0))
 (pBin PP .eql T.int v1 (.int .i64 5) fun v9 =>
 zad v9 fun b10 => br b10
 (pBin PP .sub T.uint64 (.int .u64 1) x1 fun v11 =>
 some (v11, H0))
 (pBin PP .eql T.int v1 (.int .i64 6) fun v12 =>
 zad v12 fun b13 => br b13
 (pBin PP .and T.uint64 x1 x2 fun v14 =>
 some (v14, H0))
 (pBin PP .eql T.int v1 (.int .i64 7) fun v15 =>
 zad v15 fun b16 => br b16
 (pBin PP .or T.uint64 x1 x2 fun v17 =>
 some (v17, H0))
 (pBin PP .eql T.int v1 (.int .i64 8) fun v18 =>
 zad v18 fun b19 => br b19
 (pBin PP .xor T.uint64 x1 x2 fun v20 =>
 some (v20, H0))
 (pBin PP .eql T.int v1 (.int .i64 9) fun v21 =>
 zad v21 fun b22 => br b22
 (pBin PP .eql T.uint64 x1 x2 fun v23 =>
 zaf R F.a72 [v23] H0 fun r24 H25 =>
 some (r24, H25))
 (pBin PP .leq T.int v1 (.int .i64 13) fun v26 =>
 zad v26 fun b27 => br b27
 (zaf R F.a85 [v1, x4, x1, x2] H0 fun r28 H29 =>
 zah r28 0 fun v30 =>
 zah r28 1 fun v31 =>
 zaf R F.a72 [v30] H29 fun r32 H33 =>
 some (r32, H33))
 (pBin PP .eql T.int v1 (.int .i64 14) fun v34 =>
 zad v34 fun b35 => br b35
 (pBin PP .eql T.uint64 x1 (.int .u64 1) fun v36 =>
 zad v36 fun b37 => br b37
 (some (x2, H0))
 (some (x3, H0)))
 (pBin PP .leq T.int v1 (.int .i64 16) fun v38 =>
 zad v38 fun b39 => br b39
 (zab 1 false (zaa x0) 1 fun v40 =>
 zaf R F.a92 [v1, v40, x1] H0 fun r41 H42 =>
 zah r41 0 fun v43 =>
 zah r41 1 fun v44 =>
 some (v43, H42))
 (pBin PP .leq T.int v1 (.int .i64 29) fun v45 =>
 zad v45 fun b46 => br b46
 (zab 1 false (zaa x0) 1 fun v47 =>
 zaf R F.a57 [v1, v47, x1, x2] H0 fun r48 H49 =>
 zah r48 0 fun v50 =>
 zah r48 1 fun v51 =>
 some (v50, H49))
 (pBin PP .eql T.int v1 (.int .i64 30) fun v52 =>
 zad v52 fun b53 => br b53
 (zaf R F.a84 [x4, x1, x5, x2] H0 fun r54 H55 =>
 zah r54 0 fun v56 =>
 zah r54 1 fun v57 =>
 some (v56, H55))
 (pBin PP .eql T.int v1 (.int .i64 31) fun v58 =>
 zad v58 fun b59 => br b59
 (zab 1 false (zaa x0) 5 fun v60 =>
 zal .i64 v60 fun v61 =>
 zab 1 false (zaa x0) 1 fun v62 =>
 zaf R F.a90 [x4, x1, v61, v62] H0 fun r63 H64 =>
 zah r63 0 fun v65 =>
 zah r63 1 fun v66 =>
 some (v65, H64))
 (zab 1 false (zaa x0) 0 fun v67 =>
 zab 1 false (zaa x0) 1 fun v68 =>
 zaf R F.a86 [v67, x4, x1, v68] H0 fun r69 H70 =>
 zah r69 0 fun v71 =>
 zah r69 1 fun v72 =>
 some (v71, H70)))))))))))))))
noncomputable def zjE (R : zaj) (x0 x1 : Value) (H0 : Hp) : Option (Value × Hp) :=
 zaC (
 zab 5 true (zaa x0) 0 fun v1 =>
 zaf R F.a37 [v1] H0 fun r2 H3 =>
 pUn .not r2 fun v4 =>
 zad v4 fun b5 => br b5
 (zab 5 true (zaa x0) 0 fun v6 =>
 zab 5 true (zaa x1) 0 fun v7 =>
 zac 5 [.int .i64 0, .int .u64 0, .int .u64 0, .int .u64 0, .int .u64 0] 0 v6 fun c8 =>
 zac 5 [.int .i64 0, .int .u64 0, .int .u64 0, .int .u64 0, .int .u64 0] 0 v7 fun c9 =>
 zab 5 true c8 0 fun v10 =>
 zab 5 true c9 0 fun v11 =>
 some (.ret, [(.tuple #[v10, v11, (.int .i64 5)])], H3))
 (zab 5 true (zaa x1) 0 fun v12 =>
 zaf R F.a37 [v12] H3 fun r13 H14 =>
 pUn .not r13 fun v15 =>
 zad v15 fun b16 => br b16
 (zab 5 true (zaa x0) 0 fun v17 =>
 zab 5 true (zaa x1) 0 fun v18 =>
 zac 5 [.int .i64 0, .int .u64 0, .int .u64 0, .int .u64 0, .int .u64 0] 0 v17 fun c19 =>
 zac 5 [.int .i64 0, .int .u64 0, .int .u64 0, .int .u64 0, .int .u64 0] 0 v18 fun c20 =>
 zab 5 true c19 0 fun v21 =>
 zab 5 true c20 0 fun v22 =>
 some (.ret, [(.tuple #[v21, v22, (.int .i64 5)])], H14))
 (zab 1 false (zaa x0) 0 fun v23 =>
 zab 1 false (zaa x1) 0 fun v24 =>
 pBin PP .neq T.int v23 v24 fun v25 =>
 zad v25 fun b26 => br b26
 (zab 5 true (zaa x0) 0 fun v27 =>
 zab 5 true (zaa x1) 0 fun v28 =>
 zac 5 [.int .i64 0, .int .u64 0, .int .u64 0, .int .u64 0, .int .u64 0] 0 v27 fun c29 =>
 zac 5 [.int .i64 0, .int .u64 0, .int .u64 0, .int .u64 0, .int .u64 0] 0 v28 fun c30 =>
 zab 5 true c29 0 fun v31 =>
 zab 5 true c30 0 fun v32 =>
 some (.ret, [(.tuple #[v31, v32, (.int .i64 5)])], H14))
 (some (.next, [(.agg [.int .i64 0, .int .u64 0, .int .u64 0, .int .u64 0, .int .u64 0].toArray), (.agg [.int .i64 0, .int .u64 0, .int .u64 0, .int .u64 0, .int .u64 0].toArray)], H14))))) fun q33 l34 H35 => zaJ q33
 (zab 5 true (zaa x0) 0 fun v37 =>
 zaf R F.a5 [v37] H35 fun r38 H39 =>
 zah r38 0 fun v40 =>
 zah r38 1 fun v41 =>
 zac 5 [.int .i64 0, .int .u64 0, .int .u64 0, .int .u64 0, .int .u64 0] 0 v40 fun c42 =>
 zab 5 true (zaa x1) 0 fun v43 =>
 zaf R F.a5 [v43] H39 fun r44 H45 =>
 zah r44 0 fun v46 =>
 zah r44 1 fun v47 =>
 zac 5 [.int .i64 0, .int .u64 0, .int .u64 0, .int .u64 0, .int .u64 0] 0 v46 fun c48 =>
 pUn .not v41 fun v49 =>
 zad v49 fun b50 => br b50
 (zab 5 true (zaa x0) 0 fun v51 =>
 zab 5 true (zaa x1) 0 fun v52 =>
 zac 5 (zaa ((l34.drop 0).getD 0 undef)) 0 v51 fun c53 =>
 zac 5 (zaa ((l34.drop 0).getD 1 undef)) 0 v52 fun c54 =>
 zab 5 true c53 0 fun v55 =>
 zab 5 true c54 0 fun v56 =>
 some ((.tuple #[v55, v56, (.int .i64 1)]), H45))
 (pUn .not v47 fun v57 =>
 zad v57 fun b58 => br b58
 (zab 5 true (zaa x0) 0 fun v59 =>
 zab 5 true (zaa x1) 0 fun v60 =>
 zac 5 (zaa ((l34.drop 0).getD 0 undef)) 0 v59 fun c61 =>
 zac 5 (zaa ((l34.drop 0).getD 1 undef)) 0 v60 fun c62 =>
 zab 5 true c61 0 fun v63 =>
 zab 5 true c62 0 fun v64 =>
 some ((.tuple #[v63, v64, (.int .i64 1)]), H45))
 (zab 5 true c42 0 fun v65 =>
 zab 5 true c48 0 fun v66 =>
 zac 5 (zaa ((l34.drop 0).getD 0 undef)) 0 v65 fun c67 =>
 zac 5 (zaa ((l34.drop 0).getD 1 undef)) 0 v66 fun c68 =>
 zab 5 true c67 0 fun v69 =>
 zab 5 true c68 0 fun v70 =>
 some ((.tuple #[v69, v70, (.int .i64 0)]), H45))))
 (fun i36 => none)
 (some ((l34.headD undef), H35))
noncomputable def ze5 (R : zaj) (x0 x1 x2 : Value) (H0 : Hp) : Option (Value × Hp) :=
 za7 0 x2 fun p1 =>
 zaB 1 false H0 p1 fun v2 =>
 za7 1 x2 fun p3 =>
 zaB 1 false H0 p3 fun v4 =>
 pBin PP .or T.uint64 v4 x0 fun v5 =>
 za7 2 x2 fun p6 =>
 zaB 1 false H0 p6 fun v7 =>
 pBin PP .or T.uint64 v7 x1 fun v8 =>
 za7 3 x2 fun p9 =>
 zaB 1 false H0 p9 fun v10 =>
 za7 4 x2 fun p11 =>
 zaB 1 false H0 p11 fun v12 =>
 zar PP T.api_Fact [(0, v2), (1, v5), (2, v8), (3, v10), (4, v12)] fun v13 =>
 zaf R F.a5 [v13] H0 fun r14 H15 =>
 zah r14 0 fun v16 =>
 zah r14 1 fun v17 =>
 zac 5 [.int .i64 0, .int .u64 0, .int .u64 0, .int .u64 0, .int .u64 0] 0 v16 fun c18 =>
 zab 5 true c18 0 fun v19 =>
 zac 5 [.int .i64 0, .int .u64 0, .int .u64 0, .int .u64 0, .int .u64 0] 0 v19 fun c20 =>
 zab 5 true c20 0 fun v21 =>
 some (v21, H15)
noncomputable def zhB (R : zaj) (x0 x1 : Value) (H0 : Hp) : Option (Value × Hp) :=
 zaf R F.a8 [x0] H0 fun r1 H2 =>
 pUn .not r1 fun v3 =>
 zad v3 fun b4 => br b4
 (some ((.int .i64 0), H2))
 (pBin PP .sub T.int (.int .i64 64) x0 fun v5 =>
 zal .u64 v5 fun v6 =>
 pBin PP .shl T.uint64 x1 v6 fun v7 =>
 zal .i64 v7 fun v8 =>
 pBin PP .shr T.int64 v8 v6 fun v9 =>
 some (v9, H2))
noncomputable def zcs (R : zaj) (x0 : Value) (H0 : Hp) : Option (Value × Hp) :=
 pBin PP .eql T.uint64 x0 (.int .u64 0) fun v1 =>
 zad v1 fun b2 => br b2
 (some ((.int .i64 64), H0))
 (pUn .neg x0 fun v3 =>
 pBin PP .and T.uint64 x0 v3 fun v4 =>
 pBin PP .mul T.uint64 v4 (.int .u64 285870213051353865) fun v5 =>
 pBin PP .shr T.uint64 v5 (.int .u64 58) fun v6 =>
 zfr 64 1 (.pointer (some ⟨G.bits_deBruijn64tab, 0, none⟩)) v6 fun p7 =>
 zaB 1 false H0 p7 fun v8 =>
 zal .i64 v8 fun v9 =>
 some (v9, H0))
noncomputable def zeE (R : zaj) (x0 x1 x2 x3 : Value) (H0 : Hp) : Option (Value × Hp) :=
 zaB 1 false H0 x1 fun v1 =>
 zaB 1 false H0 x2 fun v2 =>
 zaB 1 false H0 x3 fun v3 =>
 zal .u64 v3 fun v4 =>
 zaf R F.a57 [v1, v2, x0, v4] H0 fun r5 H6 =>
 zah r5 0 fun v7 =>
 zah r5 1 fun v8 =>
 some (v7, H6)
noncomputable def zkX (R : zaj) (x0 x1 x2 x3 : Value) (H0 : Hp) : Option (Value × Hp) :=
 zaC (
 pBin PP .lss T.int x0 (.int .i64 17) fun v1 =>
 zad v1 fun b2 => br b2
 (some (.ret, [(.tuple #[(.int .u64 0), (.int .i64 73)])], H0))
 (pBin PP .gtr T.int x0 (.int .i64 29) fun v3 =>
 zad v3 fun b4 => br b4
 (some (.ret, [(.tuple #[(.int .u64 0), (.int .i64 73)])], H0))
 (some (.next, [], H0)))) fun q5 l6 H7 => zaJ q5
 (zaC (
 zaf R F.a8 [x1] H7 fun r9 H10 =>
 pUn .not r9 fun v11 =>
 zad v11 fun b12 => br b12
 (some (.ret, [(.tuple #[(.int .u64 0), (.int .i64 5)])], H10))
 (zaf R F.a61 [x0] H10 fun r13 H14 =>
 zad r13 fun b15 => br b15
 (zal .u64 x1 fun v16 =>
 zaf R F.a42 [v16] H14 fun r17 H18 =>
 pBin PP .neq T.int r17 (.int .i64 1) fun v19 =>
 zad v19 fun b20 => br b20
 (some (.ret, [(.tuple #[(.int .u64 0), (.int .i64 5)])], H18))
 (some (.next, [], H18)))
 (some (.next, [], H14)))) fun q21 l22 H23 => zaJ q21
 (zaf R F.a0 [x1, x2] H23 fun r25 H26 =>
 zaf R F.a0 [x1, x3] H26 fun r27 H28 =>
 zaf R F.a61 [x0] H28 fun r29 H30 =>
 zad r29 fun b31 => br b31
 (zal .u64 x1 fun v32 =>
 pBin PP .rem T.uint64 r27 v32 fun v33 =>
 zal .i64 v33 fun v34 =>
 zaf R F.a60 [x0, x1, r25, v34] H30 fun r35 H36 =>
 some ((.tuple #[r35, (.int .i64 0)]), H36))
 (pBin PP .eql T.int x0 (.int .i64 17) fun v37 =>
 zad v37 fun b38 => br b38
 (pBin PP .and T.uint64 r25 r27 fun v39 =>
 zaf R F.a0 [x1, v39] H30 fun r40 H41 =>
 some ((.tuple #[r40, (.int .i64 0)]), H41))
 (pBin PP .eql T.int x0 (.int .i64 18) fun v42 =>
 zad v42 fun b43 => br b43
 (pBin PP .or T.uint64 r25 r27 fun v44 =>
 zaf R F.a0 [x1, v44] H30 fun r45 H46 =>
 some ((.tuple #[r45, (.int .i64 0)]), H46))
 (pBin PP .eql T.int x0 (.int .i64 19) fun v47 =>
 zad v47 fun b48 => br b48
 (pBin PP .xor T.uint64 r25 r27 fun v49 =>
 zaf R F.a0 [x1, v49] H30 fun r50 H51 =>
 some ((.tuple #[r50, (.int .i64 0)]), H51))
 (pBin PP .eql T.int x0 (.int .i64 20) fun v52 =>
 zad v52 fun b53 => br b53
 (pBin PP .add T.uint64 r25 r27 fun v54 =>
 zaf R F.a0 [x1, v54] H30 fun r55 H56 =>
 some ((.tuple #[r55, (.int .i64 0)]), H56))
 (pBin PP .eql T.int x0 (.int .i64 21) fun v57 =>
 zad v57 fun b58 => br b58
 (pBin PP .sub T.uint64 r25 r27 fun v59 =>
 zaf R F.a0 [x1, v59] H30 fun r60 H61 =>
 some ((.tuple #[r60, (.int .i64 0)]), H61))
 (pBin PP .eql T.int x0 (.int .i64 22) fun v62 =>
 zad v62 fun b63 => br b63
 (pBin PP .mul T.uint64 r25 r27 fun v64 =>
 zaf R F.a0 [x1, v64] H30 fun r65 H66 =>
 some ((.tuple #[r65, (.int .i64 0)]), H66))
 (pBin PP .eql T.int x0 (.int .i64 23) fun v67 =>
 zad v67 fun b68 => br b68
 (pBin PP .neq T.uint64 r27 (.int .u64 0) fun v69 =>
 zad v69 fun b70 => br b70
 (pBin PP .quo T.uint64 r25 r27 fun v71 =>
 zaf R F.a0 [x1, v71] H30 fun r72 H73 =>
 some ((.tuple #[r72, (.int .i64 0)]), H73))
 (zaf R F.a0 [x1, (.int .u64 18446744073709551615)] H30 fun r74 H75 =>
 some ((.tuple #[r74, (.int .i64 0)]), H75)))
 (pBin PP .eql T.int x0 (.int .i64 24) fun v76 =>
 zad v76 fun b77 => br b77
 (pBin PP .neq T.uint64 r27 (.int .u64 0) fun v78 =>
 zad v78 fun b79 => br b79
 (pBin PP .rem T.uint64 r25 r27 fun v80 =>
 zaf R F.a0 [x1, v80] H30 fun r81 H82 =>
 some ((.tuple #[r81, (.int .i64 0)]), H82))
 (zaf R F.a0 [x1, r25] H30 fun r83 H84 =>
 some ((.tuple #[r83, (.int .i64 0)]), H84)))
 (zaf R F.a0 [x1, (.int .u64 0)] H30 fun r85 H86 =>
 some ((.tuple #[r85, (.int .i64 0)]), H86)))))))))))
 (fun i24 => none)
 (some ((l22.headD undef), H23)))
 (fun i8 => none)
 (some ((l6.headD undef), H7))
noncomputable def zec (R : zaj) (x0 x1 : Value) (H0 : Hp) : Option (Value × Hp) :=
 zal .u64 x1 fun v1 =>
 pBin PP .shr T.uint64 x0 v1 fun v2 =>
 pBin PP .rem T.uint64 v2 (.int .u64 2) fun v3 =>
 some (v3, H0)
noncomputable def zdK (R : zaj) (x0 x1 : Value) (H0 : Hp) : Option (Value × Hp) :=
 zaC (
 zab 5 true (zaa x0) 0 fun v1 =>
 zaf R F.a33 [v1] H0 fun r2 H3 =>
 pUn .not r2 fun v4 =>
 zad v4 fun b5 => br b5
 (zab 5 true (zaa x0) 0 fun v6 =>
 zab 5 true (zaa x1) 0 fun v7 =>
 zac 5 [.int .i64 0, .int .u64 0, .int .u64 0, .int .u64 0, .int .u64 0] 0 v6 fun c8 =>
 zac 5 [.int .i64 0, .int .u64 0, .int .u64 0, .int .u64 0, .int .u64 0] 0 v7 fun c9 =>
 zab 5 true c8 0 fun v10 =>
 zab 5 true c9 0 fun v11 =>
 some (.ret, [(.tuple #[v10, v11, (.int .i64 5)])], H3))
 (zab 5 true (zaa x1) 0 fun v12 =>
 zaf R F.a33 [v12] H3 fun r13 H14 =>
 pUn .not r13 fun v15 =>
 zad v15 fun b16 => br b16
 (zab 5 true (zaa x0) 0 fun v17 =>
 zab 5 true (zaa x1) 0 fun v18 =>
 zac 5 [.int .i64 0, .int .u64 0, .int .u64 0, .int .u64 0, .int .u64 0] 0 v17 fun c19 =>
 zac 5 [.int .i64 0, .int .u64 0, .int .u64 0, .int .u64 0, .int .u64 0] 0 v18 fun c20 =>
 zab 5 true c19 0 fun v21 =>
 zab 5 true c20 0 fun v22 =>
 some (.ret, [(.tuple #[v21, v22, (.int .i64 5)])], H14))
 (zab 1 false (zaa x0) 0 fun v23 =>
 zab 1 false (zaa x1) 0 fun v24 =>
 pBin PP .neq T.int v23 v24 fun v25 =>
 zad v25 fun b26 => br b26
 (zab 5 true (zaa x0) 0 fun v27 =>
 zab 5 true (zaa x1) 0 fun v28 =>
 zac 5 [.int .i64 0, .int .u64 0, .int .u64 0, .int .u64 0, .int .u64 0] 0 v27 fun c29 =>
 zac 5 [.int .i64 0, .int .u64 0, .int .u64 0, .int .u64 0, .int .u64 0] 0 v28 fun c30 =>
 zab 5 true c29 0 fun v31 =>
 zab 5 true c30 0 fun v32 =>
 some (.ret, [(.tuple #[v31, v32, (.int .i64 5)])], H14))
 (some (.next, [(.agg [.int .i64 0, .int .u64 0, .int .u64 0, .int .u64 0, .int .u64 0].toArray), (.agg [.int .i64 0, .int .u64 0, .int .u64 0, .int .u64 0, .int .u64 0].toArray)], H14))))) fun q33 l34 H35 => zaJ q33
 (zab 5 true (zaa x0) 0 fun v37 =>
 zaf R F.a2 [v37] H35 fun r38 H39 =>
 zah r38 0 fun v40 =>
 zah r38 1 fun v41 =>
 zac 5 [.int .i64 0, .int .u64 0, .int .u64 0, .int .u64 0, .int .u64 0] 0 v40 fun c42 =>
 pBin PP .neq T.int v41 (.int .i64 0) fun v43 =>
 zad v43 fun b44 => br b44
 (zab 5 true (zaa x0) 0 fun v45 =>
 zab 5 true (zaa x1) 0 fun v46 =>
 zac 5 (zaa ((l34.drop 0).getD 0 undef)) 0 v45 fun c47 =>
 zac 5 (zaa ((l34.drop 0).getD 1 undef)) 0 v46 fun c48 =>
 zab 5 true c47 0 fun v49 =>
 zab 5 true c48 0 fun v50 =>
 some ((.tuple #[v49, v50, v41]), H39))
 (zab 5 true (zaa x1) 0 fun v51 =>
 zaf R F.a2 [v51] H39 fun r52 H53 =>
 zah r52 0 fun v54 =>
 zah r52 1 fun v55 =>
 zac 5 [.int .i64 0, .int .u64 0, .int .u64 0, .int .u64 0, .int .u64 0] 0 v54 fun c56 =>
 zab 5 true c42 0 fun v57 =>
 zab 5 true c56 0 fun v58 =>
 zac 5 (zaa ((l34.drop 0).getD 0 undef)) 0 v57 fun c59 =>
 zac 5 (zaa ((l34.drop 0).getD 1 undef)) 0 v58 fun c60 =>
 zab 5 true c59 0 fun v61 =>
 zab 5 true c60 0 fun v62 =>
 some ((.tuple #[v61, v62, v55]), H53)))
 (fun i36 => none)
 (some ((l34.headD undef), H35))
noncomputable def zdc (R : zaj) (x0 x1 : Value) (H0 : Hp) : Option (Value × Hp) :=
 zab 1 false (zaa x0) 1 fun v1 =>
 zaf R F.a35 [v1, x1] H0 fun r2 H3 =>
 zad r2 fun b4 => br b4
 (some ((.int .i64 1), H3))
 (zab 1 false (zaa x0) 2 fun v5 =>
 zaf R F.a35 [v5, x1] H3 fun r6 H7 =>
 zad r6 fun b8 => br b8
 (some ((.int .i64 0), H7))
 (some ((.int .i64 2), H7)))
noncomputable def zeh (R : zaj) (x0 : Value) (H0 : Hp) : Option (Value × Hp) :=
 pBin PP .shr T.uint64 x0 (.int .u64 1) fun v1 =>
 pBin PP .and T.uint64 v1 (.int .u64 6148914691236517205) fun v2 =>
 pBin PP .and T.uint64 x0 (.int .u64 6148914691236517205) fun v3 =>
 pBin PP .add T.uint64 v2 v3 fun v4 =>
 pBin PP .shr T.uint64 v4 (.int .u64 2) fun v5 =>
 pBin PP .and T.uint64 v5 (.int .u64 3689348814741910323) fun v6 =>
 pBin PP .and T.uint64 v4 (.int .u64 3689348814741910323) fun v7 =>
 pBin PP .add T.uint64 v6 v7 fun v8 =>
 pBin PP .shr T.uint64 v8 (.int .u64 4) fun v9 =>
 pBin PP .add T.uint64 v9 v8 fun v10 =>
 pBin PP .and T.uint64 v10 (.int .u64 1085102592571150095) fun v11 =>
 pBin PP .shr T.uint64 v11 (.int .u64 8) fun v12 =>
 pBin PP .add T.uint64 v11 v12 fun v13 =>
 pBin PP .shr T.uint64 v13 (.int .u64 16) fun v14 =>
 pBin PP .add T.uint64 v13 v14 fun v15 =>
 pBin PP .shr T.uint64 v15 (.int .u64 32) fun v16 =>
 pBin PP .add T.uint64 v15 v16 fun v17 =>
 zal .i64 v17 fun v18 =>
 pBin PP .and T.int v18 (.int .i64 127) fun v19 =>
 some (v19, H0)
noncomputable def zkT (R : zaj) (x0 : Value) (H0 : Hp) : Option (Value × Hp) :=
 zad x0 fun b1 => br b1
 (some ((.int .u64 1), H0))
 (some ((.int .u64 0), H0))
noncomputable def zkV (R : zaj) (x0 x1 x2 x3 : Value) (H0 : Hp) : Option (Value × Hp) :=
 zaC (
 pBin PP .lss T.int x0 (.int .i64 9) fun v1 =>
 zad v1 fun b2 => br b2
 (some (.ret, [(.tuple #[(.bool false), (.int .i64 73)])], H0))
 (pBin PP .gtr T.int x0 (.int .i64 13) fun v3 =>
 zad v3 fun b4 => br b4
 (some (.ret, [(.tuple #[(.bool false), (.int .i64 73)])], H0))
 (some (.next, [], H0)))) fun q5 l6 H7 => zaJ q5
 (zaf R F.a8 [x1] H7 fun r9 H10 =>
 pUn .not r9 fun v11 =>
 zad v11 fun b12 => br b12
 (some ((.tuple #[(.bool false), (.int .i64 5)]), H10))
 (zaf R F.a0 [x1, x2] H10 fun r13 H14 =>
 zaf R F.a0 [x1, x3] H14 fun r15 H16 =>
 zaf R F.a6 [x1, r13] H16 fun r17 H18 =>
 zaf R F.a6 [x1, r15] H18 fun r19 H20 =>
 pBin PP .eql T.int x0 (.int .i64 9) fun v21 =>
 zad v21 fun b22 => br b22
 (pBin PP .eql T.uint64 r13 r15 fun v23 =>
 some ((.tuple #[v23, (.int .i64 0)]), H20))
 (pBin PP .eql T.int x0 (.int .i64 10) fun v24 =>
 zad v24 fun b25 => br b25
 (pBin PP .lss T.uint64 r13 r15 fun v26 =>
 some ((.tuple #[v26, (.int .i64 0)]), H20))
 (pBin PP .eql T.int x0 (.int .i64 11) fun v27 =>
 zad v27 fun b28 => br b28
 (pBin PP .leq T.uint64 r13 r15 fun v29 =>
 some ((.tuple #[v29, (.int .i64 0)]), H20))
 (pBin PP .eql T.int x0 (.int .i64 12) fun v30 =>
 zad v30 fun b31 => br b31
 (pBin PP .lss T.int64 r17 r19 fun v32 =>
 some ((.tuple #[v32, (.int .i64 0)]), H20))
 (pBin PP .leq T.int64 r17 r19 fun v33 =>
 some ((.tuple #[v33, (.int .i64 0)]), H20)))))))
 (fun i8 => none)
 (some ((l6.headD undef), H7))
noncomputable def zmU (R : zaj) (x0 x1 x2 : Value) (H0 : Hp) : Option (Value × Hp) :=
 pBin PP .neq T.int x0 (.int .i64 15) fun v1 =>
 zad v1 fun b2 => br b2
 (pBin PP .neq T.int x0 (.int .i64 16) fun v3 =>
 zad v3 fun b4 => br b4
 (some ((.tuple #[(.int .u64 0), (.int .i64 73)]), H0))
 (zaf R F.a8 [x1] H0 fun r5 H6 =>
 pUn .not r5 fun v7 =>
 zad v7 fun b8 => br b8
 (some ((.tuple #[(.int .u64 0), (.int .i64 5)]), H6))
 (pBin PP .eql T.int x0 (.int .i64 15) fun v9 =>
 zad v9 fun b10 => br b10
 (pUn .xor x2 fun v11 =>
 zaf R F.a0 [x1, v11] H6 fun r12 H13 =>
 some ((.tuple #[r12, (.int .i64 0)]), H13))
 (pUn .neg x2 fun v14 =>
 zaf R F.a0 [x1, v14] H6 fun r15 H16 =>
 some ((.tuple #[r15, (.int .i64 0)]), H16)))))
 (zaf R F.a8 [x1] H0 fun r17 H18 =>
 pUn .not r17 fun v19 =>
 zad v19 fun b20 => br b20
 (some ((.tuple #[(.int .u64 0), (.int .i64 5)]), H18))
 (pBin PP .eql T.int x0 (.int .i64 15) fun v21 =>
 zad v21 fun b22 => br b22
 (pUn .xor x2 fun v23 =>
 zaf R F.a0 [x1, v23] H18 fun r24 H25 =>
 some ((.tuple #[r24, (.int .i64 0)]), H25))
 (pUn .neg x2 fun v26 =>
 zaf R F.a0 [x1, v26] H18 fun r27 H28 =>
 some ((.tuple #[r27, (.int .i64 0)]), H28))))
noncomputable def zkW (R : zaj) (x0 x1 x2 x3 : Value) (H0 : Hp) : Option (Value × Hp) :=
 zaf R F.a8 [x0] H0 fun r1 H2 =>
 pUn .not r1 fun v3 =>
 zad v3 fun b4 => br b4
 (some ((.tuple #[(.int .u64 0), (.int .i64 5)]), H2))
 (zaf R F.a8 [x2] H2 fun r5 H6 =>
 pUn .not r5 fun v7 =>
 zad v7 fun b8 => br b8
 (some ((.tuple #[(.int .u64 0), (.int .i64 5)]), H6))
 (pBin PP .add T.int x0 x2 fun v9 =>
 pBin PP .gtr T.int v9 (.int .i64 64) fun v10 =>
 zad v10 fun b11 => br b11
 (some ((.tuple #[(.int .u64 0), (.int .i64 5)]), H6))
 (zaf R F.a0 [x0, x1] H6 fun r12 H13 =>
 zal .u64 x2 fun v14 =>
 pBin PP .shl T.uint64 r12 v14 fun v15 =>
 zaf R F.a0 [x2, x3] H13 fun r16 H17 =>
 pBin PP .or T.uint64 v15 r16 fun v18 =>
 some ((.tuple #[v18, (.int .i64 0)]), H17))))
noncomputable def ziw (R : zaj) (x0 x1 x2 x3 : Value) (H0 : Hp) : Option (Value × Hp) :=
 zaC (
 zaf R F.a8 [x0] H0 fun r1 H2 =>
 pUn .not r1 fun v3 =>
 zad v3 fun b4 => br b4
 (some (.ret, [(.tuple #[(.int .u64 0), (.int .i64 5)])], H2))
 (pBin PP .lss T.int x3 (.int .i64 1) fun v5 =>
 zad v5 fun b6 => br b6
 (some (.ret, [(.tuple #[(.int .u64 0), (.int .i64 5)])], H2))
 (pBin PP .lss T.int x2 (.int .i64 0) fun v7 =>
 zad v7 fun b8 => br b8
 (some (.ret, [(.tuple #[(.int .u64 0), (.int .i64 5)])], H2))
 (pBin PP .gtr T.int x2 x0 fun v9 =>
 zad v9 fun b10 => br b10
 (some (.ret, [(.tuple #[(.int .u64 0), (.int .i64 5)])], H2))
 (pBin PP .sub T.int x0 x2 fun v11 =>
 pBin PP .gtr T.int x3 v11 fun v12 =>
 zad v12 fun b13 => br b13
 (some (.ret, [(.tuple #[(.int .u64 0), (.int .i64 5)])], H2))
 (some (.next, [], H2))))))) fun q14 l15 H16 => zaJ q14
 (zaf R F.a0 [x0, x1] H16 fun r18 H19 =>
 zal .u64 x2 fun v20 =>
 pBin PP .shr T.uint64 r18 v20 fun v21 =>
 zaf R F.a0 [x3, v21] H19 fun r22 H23 =>
 some ((.tuple #[r22, (.int .i64 0)]), H23))
 (fun i17 => none)
 (some ((l15.headD undef), H16))
noncomputable def zkU (R : zaj) (x0 x1 x2 x3 : Value) (H0 : Hp) : Option (Value × Hp) :=
 zaC (
 pBin PP .neq T.int x0 (.int .i64 32) fun v1 =>
 zad v1 fun b2 => br b2
 (pBin PP .neq T.int x0 (.int .i64 33) fun v3 =>
 zad v3 fun b4 => br b4
 (some (.ret, [(.tuple #[(.int .u64 0), (.int .i64 73)])], H0))
 (some (.next, [], H0)))
 (some (.next, [], H0))) fun q5 l6 H7 => zaJ q5
 (zaC (
 zaf R F.a8 [x1] H7 fun r9 H10 =>
 pUn .not r9 fun v11 =>
 zad v11 fun b12 => br b12
 (some (.ret, [(.tuple #[(.int .u64 0), (.int .i64 5)])], H10))
 (zaf R F.a8 [x3] H10 fun r13 H14 =>
 pUn .not r13 fun v15 =>
 zad v15 fun b16 => br b16
 (some (.ret, [(.tuple #[(.int .u64 0), (.int .i64 5)])], H14))
 (pBin PP .lss T.int x3 x1 fun v17 =>
 zad v17 fun b18 => br b18
 (some (.ret, [(.tuple #[(.int .u64 0), (.int .i64 5)])], H14))
 (some (.next, [], H14))))) fun q19 l20 H21 => zaJ q19
 (pBin PP .eql T.int x0 (.int .i64 32) fun v23 =>
 zad v23 fun b24 => br b24
 (zaf R F.a0 [x1, x2] H21 fun r25 H26 =>
 some ((.tuple #[r25, (.int .i64 0)]), H26))
 (zaf R F.a6 [x1, x2] H21 fun r27 H28 =>
 zal .u64 r27 fun v29 =>
 zaf R F.a0 [x3, v29] H28 fun r30 H31 =>
 some ((.tuple #[r30, (.int .i64 0)]), H31)))
 (fun i22 => none)
 (some ((l20.headD undef), H21)))
 (fun i8 => none)
 (some ((l6.headD undef), H7))
noncomputable def zix (R : zaj) (x0 : Value) (H0 : Hp) : Option (Value × Hp) :=
 pBin PP .geq T.int x0 (.int .i64 1) fun v1 =>
 zad v1 fun b2 => br b2
 (pBin PP .leq T.int x0 (.int .i64 64) fun v3 =>
 some (v3, H0))
 (some ((.bool false), H0))
noncomputable def zhA (R : zaj) (x0 : Value) (H0 : Hp) : Option (Value × Hp) :=
 pBin PP .geq T.int x0 (.int .i64 25) fun v1 =>
 zad v1 fun b2 => br b2
 (pBin PP .leq T.int x0 (.int .i64 29) fun v3 =>
 some (v3, H0))
 (some ((.bool false), H0))
noncomputable def ziv (R : zaj) (x0 x1 x2 x3 : Value) (H0 : Hp) : Option (Value × Hp) :=
 pBin PP .eql T.int x0 (.int .i64 25) fun v1 =>
 zad v1 fun b2 => br b2
 (zal .u64 x3 fun v3 =>
 pBin PP .shl T.uint64 x2 v3 fun v4 =>
 zaf R F.a0 [x1, v4] H0 fun r5 H6 =>
 some (r5, H6))
 (pBin PP .eql T.int x0 (.int .i64 26) fun v7 =>
 zad v7 fun b8 => br b8
 (zal .u64 x3 fun v9 =>
 pBin PP .shr T.uint64 x2 v9 fun v10 =>
 some (v10, H0))
 (pBin PP .eql T.int x0 (.int .i64 27) fun v11 =>
 zad v11 fun b12 => br b12
 (zaf R F.a6 [x1, x2] H0 fun r13 H14 =>
 zal .u64 x3 fun v15 =>
 pBin PP .shr T.int64 r13 v15 fun v16 =>
 zal .u64 v16 fun v17 =>
 zaf R F.a0 [x1, v17] H14 fun r18 H19 =>
 some (r18, H19))
 (pBin PP .eql T.int x0 (.int .i64 29) fun v20 =>
 zad v20 fun b21 => br b21
 (pBin PP .sub T.int x1 x3 fun v22 =>
 pBin PP .rem T.int v22 x1 fun v23 =>
 zal .u64 v23 fun v24 =>
 pBin PP .shl T.uint64 x2 v24 fun v25 =>
 pBin PP .sub T.int x1 v23 fun v26 =>
 zal .u64 v26 fun v27 =>
 pBin PP .shr T.uint64 x2 v27 fun v28 =>
 pBin PP .or T.uint64 v25 v28 fun v29 =>
 zaf R F.a0 [x1, v29] H0 fun r30 H31 =>
 some (r30, H31))
 (zal .u64 x3 fun v32 =>
 pBin PP .shl T.uint64 x2 v32 fun v33 =>
 pBin PP .sub T.int x1 x3 fun v34 =>
 zal .u64 v34 fun v35 =>
 pBin PP .shr T.uint64 x2 v35 fun v36 =>
 pBin PP .or T.uint64 v33 v36 fun v37 =>
 zaf R F.a0 [x1, v37] H0 fun r38 H39 =>
 some (r38, H39)))))
theorem zdB (E : ET) (h : E F.a128 = none) (x0 x1 x2 x3 : Value) (H0 : Hp) : run PP orc E F.a128 [x0, x1, x2, x3] H0 = zbV (run PP orc E) x0 x1 x2 x3 H0 := (zau Go.Proofs.Tryz.func3 (by kernel_rfl) (by kernel_rfl) h _ _).trans (by kernel_rfl)
theorem zls (E : ET) (h : E F.a15 = none) (x0 x1 x2 x3 : Value) (H0 : Hp) : run PP orc E F.a15 [x0, x1, x2, x3] H0 = zhw (run PP orc E) x0 x1 x2 x3 H0 := (zau Go.Proofs.Tryz.func4 (by kernel_rfl) (by kernel_rfl) h _ _).trans (rfl)
theorem zfY (E : ET) (h : E F.a13 = none) (x0 x1 x2 x3 : Value) (H0 : Hp) : run PP orc E F.a13 [x0, x1, x2, x3] H0 = zdi (run PP orc E) x0 x1 x2 x3 H0 := (zau Go.Proofs.Tryz.func5 (by kernel_rfl) (by kernel_rfl) h _ _).trans (rfl)
theorem zey (E : ET) (h : E F.a19 = none) (x0 : Value) (H0 : Hp) : run PP orc E F.a19 [x0] H0 = zh1 (run PP orc E) x0 H0 := (zau Go.Proofs.Tryz.func6 (by kernel_rfl) (by kernel_rfl) h _ _).trans (by kernel_rfl)
theorem zgF (E : ET) (h : E F.a93 = none) (H0 : Hp) : run PP orc E F.a93 [] H0 = zdO (run PP orc E)  H0 := (zau Go.Proofs.Tryz.func7 (by kernel_rfl) (by kernel_rfl) h _ _).trans (by kernel_rfl)
theorem zlq (E : ET) (h : E F.a52 = none) (x0 : Value) (H0 : Hp) : run PP orc E F.a52 [x0] H0 = zhu (run PP orc E) x0 H0 := (zau Go.Proofs.Tryz.func8 (by kernel_rfl) (by kernel_rfl) h _ _).trans (by kernel_rfl)
theorem znC (E : ET) (h : E F.a37 = none) (x0 : Value) (H0 : Hp) : run PP orc E F.a37 [x0] H0 = zjI (run PP orc E) x0 H0 := (zau Go.Proofs.Tryz.func9 (by kernel_rfl) (by kernel_rfl) h _ _).trans (by kernel_rfl)
theorem zkg (E : ET) (h : E F.a5 = none) (x0 : Value) (H0 : Hp) : run PP orc E F.a5 [x0] H0 = zgk (run PP orc E) x0 H0 := (zau Go.Proofs.Tryz.func10 (by kernel_rfl) (by kernel_rfl) h _ _).trans (rfl)
theorem zlp (E : ET) (h : E F.a53 = none) (x0 x1 : Value) (H0 : Hp) : run PP orc E F.a53 [x0, x1] H0 = zht (run PP orc E) x0 x1 H0 := (zau Go.Proofs.Tryz.func11 (by kernel_rfl) (by kernel_rfl) h _ _).trans (rfl)
theorem znB (E : ET) (h : E F.a38 = none) (x0 : Value) (H0 : Hp) : run PP orc E F.a38 [x0] H0 = zjH (run PP orc E) x0 H0 := (zau Go.Proofs.Tryz.func12 (by kernel_rfl) (by kernel_rfl) h _ _).trans (by kernel_rfl)
theorem zlr (E : ET) (h : E F.a16 = none) (x0 x1 : Value) (H0 : Hp) : run PP orc E F.a16 [x0, x1] H0 = zhv (run PP orc E) x0 x1 H0 := (zau Go.Proofs.Tryz.func13 (by kernel_rfl) (by kernel_rfl) h _ _).trans (by kernel_rfl)
theorem zln (E : ET) (h : E F.a56 = none) (x0 x1 : Value) (H0 : Hp) : run PP orc E F.a56 [x0, x1] H0 = zhr (run PP orc E) x0 x1 H0 := (zau Go.Proofs.Tryz.func14 (by kernel_rfl) (by kernel_rfl) h _ _).trans (rfl)
theorem zaI (E : ET) (h : E F.a113 = none) (x0 x1 x2 x3 : Value) (H0 : Hp) : run PP orc E F.a113 [x0, x1, x2, x3] H0 = zaF (run PP orc E) x0 x1 x2 x3 H0 := (zau Go.Proofs.Tryz.func15 (by kernel_rfl) (by kernel_rfl) h _ _).trans (by kernel_rfl)
theorem zf0 (E : ET) (h : E F.a99 = none) (x0 : Value) (H0 : Hp) : run PP orc E F.a99 [x0] H0 = zdk (run PP orc E) x0 H0 := (zau Go.Proofs.Tryz.func16 (by kernel_rfl) (by kernel_rfl) h _ _).trans (by kernel_rfl)
theorem zhc (E : ET) (h : E F.a33 = none) (x0 : Value) (H0 : Hp) : run PP orc E F.a33 [x0] H0 = zd9 (run PP orc E) x0 H0 := (zau Go.Proofs.Tryz.func17 (by kernel_rfl) (by kernel_rfl) h _ _).trans (by kernel_rfl)
theorem zfl (E : ET) (h : E F.a2 = none) (x0 : Value) (H0 : Hp) : run PP orc E F.a2 [x0] H0 = zcU (run PP orc E) x0 H0 := (zau Go.Proofs.Tryz.func18 (by kernel_rfl) (by kernel_rfl) h _ _).trans (rfl)
theorem zhb (E : ET) (h : E F.a34 = none) (x0 : Value) (H0 : Hp) : run PP orc E F.a34 [x0] H0 = zd8 (run PP orc E) x0 H0 := (zau Go.Proofs.Tryz.func19 (by kernel_rfl) (by kernel_rfl) h _ _).trans (by kernel_rfl)
theorem zfT (E : ET) (h : E F.a107 = none) (x0 x1 x2 x3 : Value) (H0 : Hp) : run PP orc E F.a107 [x0, x1, x2, x3] H0 = zdd (run PP orc E) x0 x1 x2 x3 H0 := (zau Go.Proofs.Tryz.func20 (by kernel_rfl) (by kernel_rfl) h _ _).trans (by kernel_rfl)
theorem zhd (E : ET) (h : E F.a100 = none) (x0 : Value) (H0 : Hp) : run PP orc E F.a100 [x0] H0 = zea (run PP orc E) x0 H0 := (zau Go.Proofs.Tryz.func21 (by kernel_rfl) (by kernel_rfl) h _ _).trans (by kernel_rfl)
theorem zfZ (E : ET) (h : E F.a46 = none) (x0 x1 : Value) (H0 : Hp) : run PP orc E F.a46 [x0, x1] H0 = zdj (run PP orc E) x0 x1 H0 := (zau Go.Proofs.Tryz.func22 (by kernel_rfl) (by kernel_rfl) h _ _).trans (by kernel_rfl)
theorem zhV (E : ET) (h : E F.a63 = none) (x0 x1 x2 x3 x4 x5 : Value) (H0 : Hp) : run PP orc E F.a63 [x0, x1, x2, x3, x4, x5] H0 = zeG (run PP orc E) x0 x1 x2 x3 x4 x5 H0 := (zau Go.Proofs.Tryz.func23 (by kernel_rfl) (by kernel_rfl) h _ _).trans (by kernel_rfl)
theorem zav (E : ET) (h : E F.a109 = none) (x0 x1 x2 x3 : Value) (H0 : Hp) : run PP orc E F.a109 [x0, x1, x2, x3] H0 = zat (run PP orc E) x0 x1 x2 x3 H0 := (zau Go.Proofs.Tryz.func24 (by kernel_rfl) (by kernel_rfl) h _ _).trans (by kernel_rfl)
theorem zkl (E : ET) (h : E F.a7 = none) (x0 : Value) (H0 : Hp) : run PP orc E F.a7 [x0] H0 = zgp (run PP orc E) x0 H0 := (zau Go.Proofs.Tryz.func25 (by kernel_rfl) (by kernel_rfl) h _ _).trans (by kernel_rfl)
theorem zlt (E : ET) (h : E F.a20 = none) (x0 x1 : Value) (H0 : Hp) : run PP orc E F.a20 [x0, x1] H0 = zhx (run PP orc E) x0 x1 H0 := (zau Go.Proofs.Tryz.func26 (by kernel_rfl) (by kernel_rfl) h _ _).trans (by kernel_rfl)
theorem zmp (E : ET) (h : E F.a3 = none) (x0 : Value) (H0 : Hp) : run PP orc E F.a3 [x0] H0 = zio (run PP orc E) x0 H0 := (zau Go.Proofs.Tryz.func27 (by kernel_rfl) (by kernel_rfl) h _ _).trans (by kernel_rfl)
theorem zpt (E : ET) (h : E F.a40 = none) (x0 x1 : Value) (H0 : Hp) : run PP orc E F.a40 [x0, x1] H0 = zkS (run PP orc E) x0 x1 H0 := (zau Go.Proofs.Tryz.func28 (by kernel_rfl) (by kernel_rfl) h _ _).trans (rfl)
theorem zmr (E : ET) (h : E F.a115 = none) (x0 x1 : Value) (H0 : Hp) : run PP orc E F.a115 [x0, x1] H0 = zis (run PP orc E) x0 x1 H0 := (zau Go.Proofs.Tryz.func29 (by kernel_rfl) (by kernel_rfl) h _ _).trans (by kernel_rfl)
theorem zmm (E : ET) (h : E F.a41 = none) (x0 : Value) (H0 : Hp) : run PP orc E F.a41 [x0] H0 = zmT (run PP orc E) x0 H0 := (zau Go.Proofs.Tryz.func30 (by kernel_rfl) (by kernel_rfl) h _ _).trans (by kernel_rfl)
theorem zmo (E : ET) (h : E F.a78 = none) (x0 x1 x2 : Value) (H0 : Hp) : run PP orc E F.a78 [x0, x1, x2] H0 = zin (run PP orc E) x0 x1 x2 H0 := (zau Go.Proofs.Tryz.func31 (by kernel_rfl) (by kernel_rfl) h _ _).trans (by kernel_rfl)
theorem zps (E : ET) (h : E F.a80 = none) (x0 : Value) (H0 : Hp) : run PP orc E F.a80 [x0] H0 = zkR (run PP orc E) x0 H0 := (zau Go.Proofs.Tryz.func32 (by kernel_rfl) (by kernel_rfl) h _ _).trans (by kernel_rfl)
theorem ziC (E : ET) (h : E F.a124 = none) (x0 x1 x2 : Value) (H0 : Hp) : run PP orc E F.a124 [x0, x1, x2] H0 = ze4 (run PP orc E) x0 x1 x2 H0 := (zau Go.Proofs.Tryz.func33 (by kernel_rfl) (by kernel_rfl) h _ _).trans (by kernel_rfl)
theorem zhS (E : ET) (h : E F.a12 = none) (x0 x1 : Value) (H0 : Hp) : run PP orc E F.a12 [x0, x1] H0 = zeD (run PP orc E) x0 x1 H0 := (zau Go.Proofs.Tryz.func34 (by kernel_rfl) (by kernel_rfl) h _ _).trans (by kernel_rfl)
theorem zg4 (E : ET) (h : E F.a123 = none) (x0 x1 : Value) (H0 : Hp) : run PP orc E F.a123 [x0, x1] H0 = zd2 (run PP orc E) x0 x1 H0 := (zau Go.Proofs.Tryz.func35 (by kernel_rfl) (by kernel_rfl) h _ _).trans (by kernel_rfl)
theorem zg6 (E : ET) (h : E F.a81 = none) (x0 x1 x2 : Value) (H0 : Hp) : run PP orc E F.a81 [x0, x1, x2] H0 = zd4 (run PP orc E) x0 x1 x2 H0 := (zau Go.Proofs.Tryz.func36 (by kernel_rfl) (by kernel_rfl) h _ _).trans (by kernel_rfl)
theorem zmt (E : ET) (h : E F.a110 = none) (x0 x1 x2 : Value) (H0 : Hp) : run PP orc E F.a110 [x0, x1, x2] H0 = ziu (run PP orc E) x0 x1 x2 H0 := (zau Go.Proofs.Tryz.func37 (by kernel_rfl) (by kernel_rfl) h _ _).trans (by kernel_rfl)
theorem znA (E : ET) (h : E F.a11 = none) (x0 x1 x2 : Value) (H0 : Hp) : run PP orc E F.a11 [x0, x1, x2] H0 = zjG (run PP orc E) x0 x1 x2 H0 := (zau Go.Proofs.Tryz.func38 (by kernel_rfl) (by kernel_rfl) h _ _).trans (by kernel_rfl)
theorem zje (E : ET) (h : E F.a114 = none) (x0 x1 x2 : Value) (H0 : Hp) : run PP orc E F.a114 [x0, x1, x2] H0 = zfx (run PP orc E) x0 x1 x2 H0 := (zau Go.Proofs.Tryz.func39 (by kernel_rfl) (by kernel_rfl) h _ _).trans (by kernel_rfl)
theorem zmq (E : ET) (h : E F.a51 = none) (x0 x1 : Value) (H0 : Hp) : run PP orc E F.a51 [x0, x1] H0 = ziq (run PP orc E) x0 x1 H0 := (zau Go.Proofs.Tryz.func40 (by kernel_rfl) (by kernel_rfl) h _ _).trans (by kernel_rfl)
theorem znz (E : ET) (h : E F.a120 = none) (x0 x1 : Value) (H0 : Hp) : run PP orc E F.a120 [x0, x1] H0 = zjF (run PP orc E) x0 x1 H0 := (zau Go.Proofs.Tryz.func41 (by kernel_rfl) (by kernel_rfl) h _ _).trans (by kernel_rfl)
theorem zg7 (E : ET) (h : E F.a76 = none) (x0 x1 : Value) (H0 : Hp) : run PP orc E F.a76 [x0, x1] H0 = zd5 (run PP orc E) x0 x1 H0 := (zau Go.Proofs.Tryz.func42 (by kernel_rfl) (by kernel_rfl) h _ _).trans (by kernel_rfl)
theorem zjd (E : ET) (h : E F.a117 = none) (x0 x1 : Value) (H0 : Hp) : run PP orc E F.a117 [x0, x1] H0 = zfw (run PP orc E) x0 x1 H0 := (zau Go.Proofs.Tryz.func43 (by kernel_rfl) (by kernel_rfl) h _ _).trans (by kernel_rfl)
theorem zhU (E : ET) (h : E F.a118 = none) (x0 x1 : Value) (H0 : Hp) : run PP orc E F.a118 [x0, x1] H0 = zeF (run PP orc E) x0 x1 H0 := (zau Go.Proofs.Tryz.func44 (by kernel_rfl) (by kernel_rfl) h _ _).trans (by kernel_rfl)
theorem zkf (E : ET) (h : E F.a77 = none) (x0 x1 x2 : Value) (H0 : Hp) : run PP orc E F.a77 [x0, x1, x2] H0 = zgj (run PP orc E) x0 x1 x2 H0 := (zau Go.Proofs.Tryz.func45 (by kernel_rfl) (by kernel_rfl) h _ _).trans (rfl)
theorem zkh (E : ET) (h : E F.a18 = none) (x0 x1 x2 : Value) (H0 : Hp) : run PP orc E F.a18 [x0, x1, x2] H0 = zgl (run PP orc E) x0 x1 x2 H0 := (zau Go.Proofs.Tryz.func46 (by kernel_rfl) (by kernel_rfl) h _ _).trans (by kernel_rfl)
theorem zgC (E : ET) (h : E F.a4 = none) (x0 : Value) (H0 : Hp) : run PP orc E F.a4 [x0] H0 = zdL (run PP orc E) x0 H0 := (zau Go.Proofs.Tryz.func47 (by kernel_rfl) (by kernel_rfl) h _ _).trans (by kernel_rfl)
theorem zfV (E : ET) (h : E F.a14 = none) (x0 : Value) (H0 : Hp) : run PP orc E F.a14 [x0] H0 = zdf (run PP orc E) x0 H0 := (zau Go.Proofs.Tryz.func48 (by kernel_rfl) (by kernel_rfl) h _ _).trans (rfl)
theorem zeN (E : ET) (h : E F.a47 = none) (x0 : Value) (H0 : Hp) : run PP orc E F.a47 [x0] H0 = zch (run PP orc E) x0 H0 := (zau Go.Proofs.Tryz.func49 (by kernel_rfl) (by kernel_rfl) h _ _).trans (rfl)
theorem zfX (E : ET) (h : E F.a26 = none) (x0 : Value) (H0 : Hp) : run PP orc E F.a26 [x0] H0 = zdh (run PP orc E) x0 H0 := (zau Go.Proofs.Tryz.func50 (by kernel_rfl) (by kernel_rfl) h _ _).trans (by kernel_rfl)
theorem zfn (E : ET) (h : E F.a43 = none) (x0 : Value) (H0 : Hp) : run PP orc E F.a43 [x0] H0 = zcW (run PP orc E) x0 H0 := (zau Go.Proofs.Tryz.func51 (by kernel_rfl) (by kernel_rfl) h _ _).trans (by kernel_rfl)
theorem zhe (E : ET) (h : E F.a45 = none) (x0 : Value) (H0 : Hp) : run PP orc E F.a45 [x0] H0 = zeb (run PP orc E) x0 H0 := (zau Go.Proofs.Tryz.func52 (by kernel_rfl) (by kernel_rfl) h _ _).trans (by kernel_rfl)
theorem zhh (E : ET) (h : E F.a96 = none) (x0 x1 x2 x3 : Value) (H0 : Hp) : run PP orc E F.a96 [x0, x1, x2, x3] H0 = zee (run PP orc E) x0 x1 x2 x3 H0 := (zau Go.Proofs.Tryz.func53 (by kernel_rfl) (by kernel_rfl) h _ _).trans (by kernel_rfl)
theorem zhW (E : ET) (h : E F.a98 = none) (x0 x1 x2 : Value) (H0 : Hp) : run PP orc E F.a98 [x0, x1, x2] H0 = zeH (run PP orc E) x0 x1 x2 H0 := (zau Go.Proofs.Tryz.func54 (by kernel_rfl) (by kernel_rfl) h _ _).trans (by kernel_rfl)
theorem zhj (E : ET) (h : E F.a94 = none) (x0 x1 x2 x3 : Value) (H0 : Hp) : run PP orc E F.a94 [x0, x1, x2, x3] H0 = zeg (run PP orc E) x0 x1 x2 x3 H0 := (zau Go.Proofs.Tryz.func55 (by kernel_rfl) (by kernel_rfl) h _ _).trans (by kernel_rfl)
theorem zhi (E : ET) (h : E F.a95 = none) (x0 x1 x2 x3 : Value) (H0 : Hp) : run PP orc E F.a95 [x0, x1, x2, x3] H0 = zef (run PP orc E) x0 x1 x2 x3 H0 := (zau Go.Proofs.Tryz.func56 (by kernel_rfl) (by kernel_rfl) h _ _).trans (by kernel_rfl)
theorem zf2 (E : ET) (h : E F.a97 = none) (x0 x1 x2 x3 : Value) (H0 : Hp) : run PP orc E F.a97 [x0, x1, x2, x3] H0 = zdm (run PP orc E) x0 x1 x2 x3 H0 := (zau Go.Proofs.Tryz.func57 (by kernel_rfl) (by kernel_rfl) h _ _).trans (by kernel_rfl)
theorem zhg (E : ET) (h : E F.a62 = none) (x0 x1 x2 x3 : Value) (H0 : Hp) : run PP orc E F.a62 [x0, x1, x2, x3] H0 = zed (run PP orc E) x0 x1 x2 x3 H0 := (zau Go.Proofs.Tryz.func58 (by kernel_rfl) (by kernel_rfl) h _ _).trans (by kernel_rfl)
theorem zfh (E : ET) (h : E F.a70 = none) (x0 : Value) (H0 : Hp) : run PP orc E F.a70 [x0] H0 = zcQ (run PP orc E) x0 H0 := (zau Go.Proofs.Tryz.func59 (by kernel_rfl) (by kernel_rfl) h _ _).trans (by kernel_rfl)
theorem zfk (E : ET) (h : E F.a66 = none) (x0 x1 : Value) (H0 : Hp) : run PP orc E F.a66 [x0, x1] H0 = zcT (run PP orc E) x0 x1 H0 := (zau Go.Proofs.Tryz.func60 (by kernel_rfl) (by kernel_rfl) h _ _).trans (by kernel_rfl)
theorem zfa (E : ET) (h : E F.a105 = none) (x0 x1 : Value) (H0 : Hp) : run PP orc E F.a105 [x0, x1] H0 = zcq (run PP orc E) x0 x1 H0 := (zau Go.Proofs.Tryz.func61 (by kernel_rfl) (by kernel_rfl) h _ _).trans (by kernel_rfl)
theorem zeP (E : ET) (h : E F.a102 = none) (x0 x1 x2 : Value) (H0 : Hp) : run PP orc E F.a102 [x0, x1, x2] H0 = zcj (run PP orc E) x0 x1 x2 H0 := (zau Go.Proofs.Tryz.func62 (by kernel_rfl) (by kernel_rfl) h _ _).trans (by kernel_rfl)
theorem zgy (E : ET) (h : E F.a48 = none) (x0 x1 : Value) (H0 : Hp) : run PP orc E F.a48 [x0, x1] H0 = zdI (run PP orc E) x0 x1 H0 := (zau Go.Proofs.Tryz.func63 (by kernel_rfl) (by kernel_rfl) h _ _).trans (by kernel_rfl)
theorem zgx (E : ET) (h : E F.a65 = none) (x0 x1 : Value) (H0 : Hp) : run PP orc E F.a65 [x0, x1] H0 = zdH (run PP orc E) x0 x1 H0 := (zau Go.Proofs.Tryz.func64 (by kernel_rfl) (by kernel_rfl) h _ _).trans (by kernel_rfl)
theorem zg8 (E : ET) (h : E F.a108 = none) (x0 x1 : Value) (H0 : Hp) : run PP orc E F.a108 [x0, x1] H0 = zd6 (run PP orc E) x0 x1 H0 := (zau Go.Proofs.Tryz.func65 (by kernel_rfl) (by kernel_rfl) h _ _).trans (by kernel_rfl)
theorem ze9 (E : ET) (h : E F.a106 = none) (x0 x1 : Value) (H0 : Hp) : run PP orc E F.a106 [x0, x1] H0 = zcp (run PP orc E) x0 x1 H0 := (zau Go.Proofs.Tryz.func66 (by kernel_rfl) (by kernel_rfl) h _ _).trans (by kernel_rfl)
theorem zfb (E : ET) (h : E F.a103 = none) (x0 x1 x2 : Value) (H0 : Hp) : run PP orc E F.a103 [x0, x1, x2] H0 = zcr (run PP orc E) x0 x1 x2 H0 := (zau Go.Proofs.Tryz.func67 (by kernel_rfl) (by kernel_rfl) h _ _).trans (by kernel_rfl)
theorem ze8 (E : ET) (h : E F.a69 = none) (x0 x1 x2 : Value) (H0 : Hp) : run PP orc E F.a69 [x0, x1, x2] H0 = zco (run PP orc E) x0 x1 x2 H0 := (zau Go.Proofs.Tryz.func68 (by kernel_rfl) (by kernel_rfl) h _ _).trans (rfl)
theorem zfj (E : ET) (h : E F.a68 = none) (x0 x1 x2 : Value) (H0 : Hp) : run PP orc E F.a68 [x0, x1, x2] H0 = zcS (run PP orc E) x0 x1 x2 H0 := (zau Go.Proofs.Tryz.func69 (by kernel_rfl) (by kernel_rfl) h _ _).trans (by kernel_rfl)
theorem zjg (E : ET) (h : E F.a0 = none) (x0 x1 : Value) (H0 : Hp) : run PP orc E F.a0 [x0, x1] H0 = zgJ (run PP orc E) x0 x1 H0 := (zau Go.Proofs.Tryz.func70 (by kernel_rfl) (by kernel_rfl) h _ _).trans (by kernel_rfl)
theorem zie (E : ET) (h : E F.a116 = none) (x0 x1 : Value) (H0 : Hp) : run PP orc E F.a116 [x0, x1] H0 = zir (run PP orc E) x0 x1 H0 := (zau Go.Proofs.Tryz.func71 (by kernel_rfl) (by kernel_rfl) h _ _).trans (by kernel_rfl)
theorem zfo (E : ET) (h : E F.a87 = none) (x0 : Value) (H0 : Hp) : run PP orc E F.a87 [x0] H0 = zcX (run PP orc E) x0 H0 := (zau Go.Proofs.Tryz.func72 (by kernel_rfl) (by kernel_rfl) h _ _).trans (by kernel_rfl)
theorem zml (E : ET) (h : E F.a24 = none) (x0 : Value) (H0 : Hp) : run PP orc E F.a24 [x0] H0 = zil (run PP orc E) x0 H0 := (zau Go.Proofs.Tryz.func73 (by kernel_rfl) (by kernel_rfl) h _ _).trans (by kernel_rfl)
theorem zjb (E : ET) (h : E F.a31 = none) (x0 x1 : Value) (H0 : Hp) : run PP orc E F.a31 [x0, x1] H0 = zfu (run PP orc E) x0 x1 H0 := (zau Go.Proofs.Tryz.func74 (by kernel_rfl) (by kernel_rfl) h _ _).trans (by kernel_rfl)
theorem zmk (E : ET) (h : E F.a127 = none) (x0 : Value) (H0 : Hp) : run PP orc E F.a127 [x0] H0 = zik (run PP orc E) x0 H0 := (zau Go.Proofs.Tryz.func75 (by kernel_rfl) (by kernel_rfl) h _ _).trans (by kernel_rfl)
theorem zgv (E : ET) (h : E F.a125 = none) (x0 x1 : Value) (H0 : Hp) : run PP orc E F.a125 [x0, x1] H0 = zdF (run PP orc E) x0 x1 H0 := (zau Go.Proofs.Tryz.func76 (by kernel_rfl) (by kernel_rfl) h _ _).trans (by kernel_rfl)
theorem zhQ (E : ET) (h : E F.a126 = none) (x0 x1 : Value) (H0 : Hp) : run PP orc E F.a126 [x0, x1] H0 = zeB (run PP orc E) x0 x1 H0 := (zau Go.Proofs.Tryz.func77 (by kernel_rfl) (by kernel_rfl) h _ _).trans (by kernel_rfl)
theorem znF (E : ET) (h : E F.a59 = none) (x0 : Value) (H0 : Hp) : run PP orc E F.a59 [x0] H0 = zjL (run PP orc E) x0 H0 := (zau Go.Proofs.Tryz.func78 (by kernel_rfl) (by kernel_rfl) h _ _).trans (by kernel_rfl)
theorem zlu (E : ET) (h : E F.a71 = none) (x0 x1 x2 : Value) (H0 : Hp) : run PP orc E F.a71 [x0, x1, x2] H0 = zhy (run PP orc E) x0 x1 x2 H0 := (zau Go.Proofs.Tryz.func79 (by kernel_rfl) (by kernel_rfl) h _ _).trans (rfl)
theorem zms (E : ET) (h : E F.a74 = none) (x0 x1 : Value) (H0 : Hp) : run PP orc E F.a74 [x0, x1] H0 = zit (run PP orc E) x0 x1 H0 := (zau Go.Proofs.Tryz.func80 (by kernel_rfl) (by kernel_rfl) h _ _).trans (by kernel_rfl)
theorem zlo (E : ET) (h : E F.a22 = none) (x0 x1 : Value) (H0 : Hp) : run PP orc E F.a22 [x0, x1] H0 = zhs (run PP orc E) x0 x1 H0 := (zau Go.Proofs.Tryz.func81 (by kernel_rfl) (by kernel_rfl) h _ _).trans (by kernel_rfl)
theorem zke (E : ET) (h : E F.a55 = none) (x0 : Value) (H0 : Hp) : run PP orc E F.a55 [x0] H0 = zgi (run PP orc E) x0 H0 := (zau Go.Proofs.Tryz.func82 (by kernel_rfl) (by kernel_rfl) h _ _).trans (by kernel_rfl)
theorem zjf (E : ET) (h : E F.a39 = none) (x0 x1 x2 x3 : Value) (H0 : Hp) : run PP orc E F.a39 [x0, x1, x2, x3] H0 = zfy (run PP orc E) x0 x1 x2 x3 H0 := (zau Go.Proofs.Tryz.func83 (by kernel_rfl) (by kernel_rfl) h _ _).trans (rfl)
theorem zkj (E : ET) (h : E F.a75 = none) (x0 x1 x2 : Value) (H0 : Hp) : run PP orc E F.a75 [x0, x1, x2] H0 = zgn (run PP orc E) x0 x1 x2 H0 := (zau Go.Proofs.Tryz.func84 (by kernel_rfl) (by kernel_rfl) h _ _).trans (by kernel_rfl)
theorem zki (E : ET) (h : E F.a30 = none) (x0 x1 : Value) (H0 : Hp) : run PP orc E F.a30 [x0, x1] H0 = zgm (run PP orc E) x0 x1 H0 := (zau Go.Proofs.Tryz.func85 (by kernel_rfl) (by kernel_rfl) h _ _).trans (by kernel_rfl)
theorem zmn (E : ET) (h : E F.a79 = none) (x0 : Value) (H0 : Hp) : run PP orc E F.a79 [x0] H0 = zim (run PP orc E) x0 H0 := (zau Go.Proofs.Tryz.func86 (by kernel_rfl) (by kernel_rfl) h _ _).trans (by kernel_rfl)
theorem zmx (E : ET) (h : E F.a58 = none) (x0 x1 : Value) (H0 : Hp) : run PP orc E F.a58 [x0, x1] H0 = ziy (run PP orc E) x0 x1 H0 := (zau Go.Proofs.Tryz.func87 (by kernel_rfl) (by kernel_rfl) h _ _).trans (by kernel_rfl)
theorem zkk (E : ET) (h : E F.a112 = none) (x0 x1 : Value) (H0 : Hp) : run PP orc E F.a112 [x0, x1] H0 = zgo (run PP orc E) x0 x1 H0 := (zau Go.Proofs.Tryz.func88 (by kernel_rfl) (by kernel_rfl) h _ _).trans (by kernel_rfl)
theorem zjc (E : ET) (h : E F.a119 = none) (x0 x1 x2 : Value) (H0 : Hp) : run PP orc E F.a119 [x0, x1, x2] H0 = zfv (run PP orc E) x0 x1 x2 H0 := (zau Go.Proofs.Tryz.func89 (by kernel_rfl) (by kernel_rfl) h _ _).trans (by kernel_rfl)
theorem zha (E : ET) (h : E F.a35 = none) (x0 x1 : Value) (H0 : Hp) : run PP orc E F.a35 [x0, x1] H0 = zd7 (run PP orc E) x0 x1 H0 := (zau Go.Proofs.Tryz.func90 (by kernel_rfl) (by kernel_rfl) h _ _).trans (by kernel_rfl)
theorem zg9 (E : ET) (h : E F.a17 = none) (x0 : Value) (H0 : Hp) : run PP orc E F.a17 [x0] H0 = zhz (run PP orc E) x0 H0 := (zau Go.Proofs.Tryz.func91 (by kernel_rfl) (by kernel_rfl) h _ _).trans (by kernel_rfl)
theorem zgz (E : ET) (h : E F.a36 = none) (x0 x1 : Value) (H0 : Hp) : run PP orc E F.a36 [x0, x1] H0 = zgI (run PP orc E) x0 x1 H0 := (zau Go.Proofs.Tryz.func92 (by kernel_rfl) (by kernel_rfl) h _ _).trans (by kernel_rfl)
theorem zf3 (E : ET) (h : E F.a9 = none) (x0 : Value) (H0 : Hp) : run PP orc E F.a9 [x0] H0 = zdn (run PP orc E) x0 H0 := (zau Go.Proofs.Tryz.func93 (by kernel_rfl) (by kernel_rfl) h _ _).trans (by kernel_rfl)
theorem zgE (E : ET) (h : E F.a1 = none) (x0 x1 : Value) (H0 : Hp) : run PP orc E F.a1 [x0, x1] H0 = zdN (run PP orc E) x0 x1 H0 := (zau Go.Proofs.Tryz.func94 (by kernel_rfl) (by kernel_rfl) h _ _).trans (by kernel_rfl)
theorem zfm (E : ET) (h : E F.a25 = none) (x0 x1 : Value) (H0 : Hp) : run PP orc E F.a25 [x0, x1] H0 = zcV (run PP orc E) x0 x1 H0 := (zau Go.Proofs.Tryz.func95 (by kernel_rfl) (by kernel_rfl) h _ _).trans (by kernel_rfl)
theorem zf1 (E : ET) (h : E F.a44 = none) (x0 x1 x2 x3 : Value) (H0 : Hp) : run PP orc E F.a44 [x0, x1, x2, x3] H0 = zdl (run PP orc E) x0 x1 x2 x3 H0 := (zau Go.Proofs.Tryz.func96 (by kernel_rfl) (by kernel_rfl) h _ _).trans (rfl)
theorem zgA (E : ET) (h : E F.a27 = none) (x0 : Value) (H0 : Hp) : run PP orc E F.a27 [x0] H0 = zdJ (run PP orc E) x0 H0 := (zau Go.Proofs.Tryz.func97 (by kernel_rfl) (by kernel_rfl) h _ _).trans (by kernel_rfl)
theorem zgD (E : ET) (h : E F.a64 = none) (x0 x1 : Value) (H0 : Hp) : run PP orc E F.a64 [x0, x1] H0 = zdM (run PP orc E) x0 x1 H0 := (zau Go.Proofs.Tryz.func98 (by kernel_rfl) (by kernel_rfl) h _ _).trans (by kernel_rfl)
theorem zfi (E : ET) (h : E F.a29 = none) (x0 x1 x2 : Value) (H0 : Hp) : run PP orc E F.a29 [x0, x1, x2] H0 = zcR (run PP orc E) x0 x1 x2 H0 := (zau Go.Proofs.Tryz.func99 (by kernel_rfl) (by kernel_rfl) h _ _).trans (rfl)
theorem zgw (E : ET) (h : E F.a67 = none) (x0 x1 x2 : Value) (H0 : Hp) : run PP orc E F.a67 [x0, x1, x2] H0 = zdG (run PP orc E) x0 x1 x2 H0 := (zau Go.Proofs.Tryz.func100 (by kernel_rfl) (by kernel_rfl) h _ _).trans (by kernel_rfl)
theorem zfW (E : ET) (h : E F.a28 = none) (x0 : Value) (H0 : Hp) : run PP orc E F.a28 [x0] H0 = zdg (run PP orc E) x0 H0 := (zau Go.Proofs.Tryz.func101 (by kernel_rfl) (by kernel_rfl) h _ _).trans (rfl)
theorem zfR (E : ET) (h : E F.a50 = none) (x0 : Value) (H0 : Hp) : run PP orc E F.a50 [x0] H0 = zdb (run PP orc E) x0 H0 := (zau Go.Proofs.Tryz.func102 (by kernel_rfl) (by kernel_rfl) h _ _).trans (rfl)
theorem zfU (E : ET) (h : E F.a49 = none) (x0 x1 x2 : Value) (H0 : Hp) : run PP orc E F.a49 [x0, x1, x2] H0 = zde (run PP orc E) x0 x1 x2 H0 := (zau Go.Proofs.Tryz.func103 (by kernel_rfl) (by kernel_rfl) h _ _).trans (rfl)
theorem zeO (E : ET) (h : E F.a104 = none) (x0 x1 x2 : Value) (H0 : Hp) : run PP orc E F.a104 [x0, x1, x2] H0 = zci (run PP orc E) x0 x1 x2 H0 := (zau Go.Proofs.Tryz.func104 (by kernel_rfl) (by kernel_rfl) h _ _).trans (by kernel_rfl)
theorem zmy (E : ET) (h : E F.a88 = none) (x0 : Value) (H0 : Hp) : run PP orc E F.a88 [x0] H0 = ziz (run PP orc E) x0 H0 := (zau Go.Proofs.Tryz.func105 (by kernel_rfl) (by kernel_rfl) h _ _).trans (by kernel_rfl)
theorem zkd (E : ET) (h : E F.a23 = none) (x0 x1 : Value) (H0 : Hp) : run PP orc E F.a23 [x0, x1] H0 = zgh (run PP orc E) x0 x1 H0 := (zau Go.Proofs.Tryz.func106 (by kernel_rfl) (by kernel_rfl) h _ _).trans (by kernel_rfl)
theorem ziE (E : ET) (h : E F.a42 = none) (x0 : Value) (H0 : Hp) : run PP orc E F.a42 [x0] H0 = ze6 (run PP orc E) x0 H0 := (zau Go.Proofs.Tryz.func107 (by kernel_rfl) (by kernel_rfl) h _ _).trans (by kernel_rfl)
theorem zg5 (E : ET) (h : E F.a82 = none) (x0 x1 : Value) (H0 : Hp) : run PP orc E F.a82 [x0, x1] H0 = zd3 (run PP orc E) x0 x1 H0 := (zau Go.Proofs.Tryz.func108 (by kernel_rfl) (by kernel_rfl) h _ _).trans (rfl)
theorem znD (E : ET) (h : E F.a73 = none) (x0 : Value) (H0 : Hp) : run PP orc E F.a73 [x0] H0 = zjJ (run PP orc E) x0 H0 := (zau Go.Proofs.Tryz.func109 (by kernel_rfl) (by kernel_rfl) h _ _).trans (rfl)
theorem zhR (E : ET) (h : E F.a122 = none) (x0 x1 : Value) (H0 : Hp) : run PP orc E F.a122 [x0, x1] H0 = zeC (run PP orc E) x0 x1 H0 := (zau Go.Proofs.Tryz.func110 (by kernel_rfl) (by kernel_rfl) h _ _).trans (by kernel_rfl)
theorem znE (E : ET) (h : E F.a111 = none) (x0 x1 x2 x3 x4 x5 : Value) (H0 : Hp) : run PP orc E F.a111 [x0, x1, x2, x3, x4, x5] H0 = zjK (run PP orc E) x0 x1 x2 x3 x4 x5 H0 := (zau Go.Proofs.Tryz.func111 (by kernel_rfl) (by kernel_rfl) h _ _).trans (by kernel_rfl)
theorem zny (E : ET) (h : E F.a121 = none) (x0 x1 : Value) (H0 : Hp) : run PP orc E F.a121 [x0, x1] H0 = zjE (run PP orc E) x0 x1 H0 := (zau Go.Proofs.Tryz.func112 (by kernel_rfl) (by kernel_rfl) h _ _).trans (by kernel_rfl)
theorem ziD (E : ET) (h : E F.a21 = none) (x0 x1 x2 : Value) (H0 : Hp) : run PP orc E F.a21 [x0, x1, x2] H0 = ze5 (run PP orc E) x0 x1 x2 H0 := (zau Go.Proofs.Tryz.func113 (by kernel_rfl) (by kernel_rfl) h _ _).trans (by kernel_rfl)
theorem zlw (E : ET) (h : E F.a6 = none) (x0 x1 : Value) (H0 : Hp) : run PP orc E F.a6 [x0, x1] H0 = zhB (run PP orc E) x0 x1 H0 := (zau Go.Proofs.Tryz.func114 (by kernel_rfl) (by kernel_rfl) h _ _).trans (by kernel_rfl)
theorem zfc (E : ET) (h : E F.a91 = none) (x0 : Value) (H0 : Hp) : run PP orc E F.a91 [x0] H0 = zcs (run PP orc E) x0 H0 := (zau Go.Proofs.Tryz.func116 (by kernel_rfl) (by kernel_rfl) h _ _).trans (by kernel_rfl)
theorem zhT (E : ET) (h : E F.a54 = none) (x0 x1 x2 x3 : Value) (H0 : Hp) : run PP orc E F.a54 [x0, x1, x2, x3] H0 = zeE (run PP orc E) x0 x1 x2 x3 H0 := (zau Go.Proofs.Tryz.func117 (by kernel_rfl) (by kernel_rfl) h _ _).trans (by kernel_rfl)
theorem zpy (E : ET) (h : E F.a57 = none) (x0 x1 x2 x3 : Value) (H0 : Hp) : run PP orc E F.a57 [x0, x1, x2, x3] H0 = zkX (run PP orc E) x0 x1 x2 x3 H0 := (zau Go.Proofs.Tryz.func118 (by kernel_rfl) (by kernel_rfl) h _ _).trans (by kernel_rfl)
theorem zhf (E : ET) (h : E F.a32 = none) (x0 x1 : Value) (H0 : Hp) : run PP orc E F.a32 [x0, x1] H0 = zec (run PP orc E) x0 x1 H0 := (zau Go.Proofs.Tryz.func119 (by kernel_rfl) (by kernel_rfl) h _ _).trans (by kernel_rfl)
theorem zgB (E : ET) (h : E F.a101 = none) (x0 x1 : Value) (H0 : Hp) : run PP orc E F.a101 [x0, x1] H0 = zdK (run PP orc E) x0 x1 H0 := (zau Go.Proofs.Tryz.func120 (by kernel_rfl) (by kernel_rfl) h _ _).trans (by kernel_rfl)
theorem zfS (E : ET) (h : E F.a10 = none) (x0 x1 : Value) (H0 : Hp) : run PP orc E F.a10 [x0, x1] H0 = zdc (run PP orc E) x0 x1 H0 := (zau Go.Proofs.Tryz.func121 (by kernel_rfl) (by kernel_rfl) h _ _).trans (by kernel_rfl)
theorem zhk (E : ET) (h : E F.a89 = none) (x0 : Value) (H0 : Hp) : run PP orc E F.a89 [x0] H0 = zeh (run PP orc E) x0 H0 := (zau Go.Proofs.Tryz.func123 (by kernel_rfl) (by kernel_rfl) h _ _).trans (by kernel_rfl)
theorem zpu (E : ET) (h : E F.a72 = none) (x0 : Value) (H0 : Hp) : run PP orc E F.a72 [x0] H0 = zkT (run PP orc E) x0 H0 := (zau Go.Proofs.Tryz.func124 (by kernel_rfl) (by kernel_rfl) h _ _).trans (by kernel_rfl)
theorem zpw (E : ET) (h : E F.a85 = none) (x0 x1 x2 x3 : Value) (H0 : Hp) : run PP orc E F.a85 [x0, x1, x2, x3] H0 = zkV (run PP orc E) x0 x1 x2 x3 H0 := (zau Go.Proofs.Tryz.func125 (by kernel_rfl) (by kernel_rfl) h _ _).trans (by kernel_rfl)
theorem r_bits_Un (E : ET) (h : E F.a92 = none) (x0 x1 x2 : Value) (H0 : Hp) : run PP orc E F.a92 [x0, x1, x2] H0 = zmU (run PP orc E) x0 x1 x2 H0 := (zau Go.Proofs.Tryz.func126 (by kernel_rfl) (by kernel_rfl) h _ _).trans (by kernel_rfl)
theorem zpx (E : ET) (h : E F.a84 = none) (x0 x1 x2 x3 : Value) (H0 : Hp) : run PP orc E F.a84 [x0, x1, x2, x3] H0 = zkW (run PP orc E) x0 x1 x2 x3 H0 := (zau Go.Proofs.Tryz.func127 (by kernel_rfl) (by kernel_rfl) h _ _).trans (by kernel_rfl)
theorem zmv (E : ET) (h : E F.a90 = none) (x0 x1 x2 x3 : Value) (H0 : Hp) : run PP orc E F.a90 [x0, x1, x2, x3] H0 = ziw (run PP orc E) x0 x1 x2 x3 H0 := (zau Go.Proofs.Tryz.func128 (by kernel_rfl) (by kernel_rfl) h _ _).trans (by kernel_rfl)
theorem zpv (E : ET) (h : E F.a86 = none) (x0 x1 x2 x3 : Value) (H0 : Hp) : run PP orc E F.a86 [x0, x1, x2, x3] H0 = zkU (run PP orc E) x0 x1 x2 x3 H0 := (zau Go.Proofs.Tryz.func129 (by kernel_rfl) (by kernel_rfl) h _ _).trans (by kernel_rfl)
theorem zmw (E : ET) (h : E F.a8 = none) (x0 : Value) (H0 : Hp) : run PP orc E F.a8 [x0] H0 = zix (run PP orc E) x0 H0 := (zau Go.Proofs.Tryz.func130 (by kernel_rfl) (by kernel_rfl) h _ _).trans (by kernel_rfl)
theorem zlv (E : ET) (h : E F.a61 = none) (x0 : Value) (H0 : Hp) : run PP orc E F.a61 [x0] H0 = zhA (run PP orc E) x0 H0 := (zau Go.Proofs.Tryz.func131 (by kernel_rfl) (by kernel_rfl) h _ _).trans (by kernel_rfl)
theorem zmu (E : ET) (h : E F.a60 = none) (x0 x1 x2 x3 : Value) (H0 : Hp) : run PP orc E F.a60 [x0, x1, x2, x3] H0 = ziv (run PP orc E) x0 x1 x2 x3 H0 := (zau Go.Proofs.Tryz.func132 (by kernel_rfl) (by kernel_rfl) h _ _).trans (by kernel_rfl)
end Go.AM
