/- Part of the proof of EvalHangsUptoCardSaid: see the last file.  -/
import Derived.Shelf.Strings.Builder1
import Derived.Shelf.Small.Wraps
import Derived.Shelf.Strings.BuilderF
import Derived.Shelf.Strings.BuilderK
import Derived.Shelf.Utf8.RuneCount
import Derived.Shelf.Strconv.Itoa0
import Derived.Shelf.Strconv.Itoa1
import Derived.Shelf.LaysM
import Derived.Shelf.Strconv.Itoa2
import Derived.Shelf.Strconv.Itoa3
import Derived.Shelf.Strconv.Clone
import Derived.Shelf.Strconv.SyntaxError
import Derived.Shelf.LaysC
import Derived.Shelf.Strconv.ToError
import Derived.Shelf.Strconv.Lower
import Derived.Shelf.Strconv.ParseUint10
import Derived.Shelf.Strconv.ParseUint10Empty
import Derived.Shelf.Strconv.ParseUint10Any
import Derived.Shelf.Strconv.RangeError
import Derived.Shelf.Strconv.ToErrorRange
import Derived.Shelf.Strconv.ParseUintEmpty
import Derived.Shelf.Strconv.ParseUint10b64
import Derived.Shelf.Strconv.ParseUint10b32
import Derived.Shelf.Strconv.ParseUint10b16
import Derived.Shelf.Strconv.ParseUint10b8
import Derived.Shelf.Strconv.ParseUint10At
import Derived.Shelf.Strings.Search1
import Derived.Shelf.Strings.Search2
import Derived.Shelf.Strings.Search3
import Derived.Shelf.Strings.Count
import Derived.Shelf.Strings.Shaped
import Derived.Shelf.Strings.Prefix
import Derived.Shelf.Strings.Split
import Derived.Shelf.Strings.Fields
import Derived.Shelf.Strings.SplitShaped
import Derived.Shelf.Unicode.Latin
import Derived.Shelf.Unicode.Decode
import Derived.Shelf.Strings.RuneCount
import Derived.Shelf.Strings.Explode
import Derived.Shelf.Unicode.DecodeSlow
import Derived.Shelf.Unicode.DecodeAny
import Derived.Shelf.Unicode.Is16White
import Derived.Shelf.Unicode.IsSpaceAny
import Derived.Shelf.Unicode.Is16WhiteD
import Derived.Shelf.Unicode.IsSpaceAnyD
import Derived.Shelf.Unicode.Is16Any
import Derived.Shelf.Unicode.Is32Any
import Derived.Shelf.Unicode.ExclAny
import Derived.Shelf.Strings.BuilderCap
import Derived.Test.YtcbmccpkhagckaaGreatDoorProg
import Derived.Laws.Bits64
import Derived.KernelRfl
import Derived.Laws.RangeString
import Derived.Laws.RangeAny
import Derived.Lib.DecodeN
import Derived.Laws.MathBits
import Derived.Test.YtcbmccpkhagckaaGreatDoorT2
set_option linter.unusedSimpArgs false
set_option linter.unusedVariables false
set_option linter.unusedSectionVars false
set_option maxRecDepth 100000
namespace Go.AM
open Go Go.AM
noncomputable def zaw (R : zad) (v47 : Value) (r20 : Value) (l55 : List Value) (l59 : List Value) (H60 : Hp) : Option Outc :=
 pLen .sl r20 H60 fun v61 =>
 pBin PP .lss T.int (l59.getD 1 undef) v61 fun v62 =>
 zaa v62 fun b63 => br b63
 (pIdx 3 r20 (l59.getD 1 undef) fun p64 =>
 zas 0 p64 fun p65 =>
 zal 1 false H60 p65 fun v66 =>
 pIdx 3 v47 (l55.getD 1 undef) fun p67 =>
 zas 0 p67 fun p68 =>
 zal 1 false H60 p68 fun v69 =>
 pBin PP .eql T.string v66 v69 fun v70 =>
 zaa v70 fun b71 => br b71
 (pIdx 3 r20 (l59.getD 1 undef) fun p72 =>
 zas 2 p72 fun p73 =>
 zal 1 false H60 p73 fun v74 =>
 pBin PP .neq T.uint64 v74 (.int .u64 0) fun v75 =>
 zaa v75 fun b76 => br b76
 (pIdx 3 r20 (l59.getD 1 undef) fun p77 =>
 zal 3 true H60 p77 fun v78 =>
 zaj 3 [.string ⟨#[]⟩, .int .i64 0, .int .u64 0] 1 [(0, v78)] H60 fun v79 H80 =>
 zaF 3 32 (l59.getD 0 undef) v79 H80 fun v81 H82 =>
 pBin PP .add T.int (l59.getD 1 undef) (.int .i64 1) fun v83 =>
 some (.next, [v81, v83], H82))
 (pBin PP .add T.int (l59.getD 1 undef) (.int .i64 1) fun v84 =>
 some (.next, [(l59.getD 0 undef), v84], H60)))
 (pBin PP .add T.int (l59.getD 1 undef) (.int .i64 1) fun v85 =>
 some (.next, [(l59.getD 0 undef), v85], H60)))
 (some (.exit 4, [(l59.getD 0 undef), (l59.getD 1 undef)], H60))
noncomputable def zaM (R : zad) (v47 : Value) (r20 : Value) (l55 : List Value) (H56 : Hp) : Option Outc :=
 pBin PP .geq T.int (l55.getD 1 undef) (.int .i64 0) fun v57 =>
 zaa v57 fun b58 => br b58
 (zav (zat (zaw R v47 r20 l55) [(l55.getD 0 undef), (.int .i64 0)] H56) fun q86 l87 H88 => zaL q86 none
 (fun i89 => zay i89 4 (
 pBin PP .sub T.int (l55.getD 1 undef) (.int .i64 1) fun v90 =>
 some (.next, [(l87.getD 0 undef), v90], H88)) (
 zay i89 3 (
 pBin PP .sub T.int (l55.getD 1 undef) (.int .i64 1) fun v91 =>
 some (.next, [(l87.getD 0 undef), v91], H88)) (
 some (.exit i89, [(l87.getD 0 undef), (l55.getD 1 undef)], H88))))
 (some (.ret, [(l87.headD undef)], H88)))
 (some (.exit 2, [(l55.getD 0 undef), (l55.getD 1 undef)], H56))
noncomputable def zaD (R : zad) (x2 : Value) (v7 : Value) (v8 : Value) (v14 : Value) (v24 : Value) (r20 : Value) (l38 : List Value) (H39 : Hp) : Option Outc :=
 pLen .sl v8 H39 fun v40 =>
 pBin PP .lss T.int (l38.getD 0 undef) v40 fun v41 =>
 zaa v41 fun b42 => br b42
 (pBin PP .add T.int (l38.getD 0 undef) (.int .i64 1) fun v43 =>
 zch 1 v8 (some (l38.getD 0 undef)) (some v43) fun v44 =>
 zaf R F.a23 [v7, v44] H39 fun r45 H46 =>
 zae r45 0 fun v47 =>
 zae r45 1 fun v48 =>
 zaf R F.a5 [v48] H46 fun r49 H50 =>
 pBin PP .neq T.int r49 (.int .i64 0) fun v51 =>
 zaa v51 fun b52 => br b52
 (some (.ret, [(.bool false)], H50))
 (pLen .sl v47 H50 fun v53 =>
 pBin PP .sub T.int v53 (.int .i64 1) fun v54 =>
 zav (zat (zaM R v47 r20) [(.slice none 0 0), v54] H50) fun q92 l93 H94 => zaL q92 none
 (fun i95 => zay i95 2 (
 zaf R F.a35 [v14] H94 fun r96 H97 =>
 zaG PP T.api_Value [(0, r96), (1, (.int .i64 64)), (2, x2)] fun v98 =>
 zaj 3 [.string ⟨#[]⟩, .int .i64 0, .int .u64 0] 1 [(0, v98)] H97 fun v99 H100 =>
 zaF 3 32 (l93.getD 0 undef) v99 H100 fun v101 H102 =>
 pIdx 1 v8 (l38.getD 0 undef) fun p103 =>
 zal 1 false H102 p103 fun v104 =>
 zaf R F.a22 [v7, v104, v101] H102 fun r105 H106 =>
 zae r105 0 fun v107 =>
 zae r105 1 fun v108 =>
 zaf R F.a5 [v108] H106 fun r109 H110 =>
 pBin PP .neq T.int r109 (.int .i64 0) fun v111 =>
 zaa v111 fun b112 => br b112
 (some (.ret, [(.bool false)], H110))
 (pIdx 1 v24 (l38.getD 0 undef) fun p113 =>
 zal 1 false H110 p113 fun v114 =>
 pBin PP .neq T.uint64 v107 v114 fun v115 =>
 zaa v115 fun b116 => br b116
 (some (.ret, [(.bool false)], H110))
 (pBin PP .add T.int (l38.getD 0 undef) (.int .i64 1) fun v117 =>
 some (.next, [v117], H110)))) (
 zay i95 1 (
 pBin PP .add T.int (l38.getD 0 undef) (.int .i64 1) fun v118 =>
 some (.next, [v118], H94)) (
 some (.exit i95, [(l38.getD 0 undef)], H94))))
 (some (.ret, [(l93.headD undef)], H94))))
 (some (.exit 0, [(l38.getD 0 undef)], H39))
theorem zd7 (R : zad) (x0 x1 x2 : Value) (H0 : Hp) : zce R x0 x1 x2 H0 =
zaf R F.a57 [] H0 fun r1 H2 =>
 pUn .not r1 fun v3 =>
 zaa v3 fun b4 => br b4
 (some ((.bool false), H2))
 (zaf R F.a34 [x0] H2 fun r5 H6 =>
 zae r5 0 fun v7 =>
 zae r5 1 fun v8 =>
 zae r5 2 fun v9 =>
 pUn .not v9 fun v10 =>
 zaa v10 fun b11 => br b11
 (some ((.bool true), H6))
 (zaf R F.a23 [v7, v8] H6 fun r12 H13 =>
 zae r12 0 fun v14 =>
 zae r12 1 fun v15 =>
 zaf R F.a5 [v15] H13 fun r16 H17 =>
 pBin PP .neq T.int r16 (.int .i64 0) fun v18 =>
 zaa v18 fun b19 => br b19
 (some ((.bool false), H17))
 (zaf R F.a33 [v14, x1] H17 fun r20 H21 =>
 zaf R F.a10 [v7, v8, r20] H21 fun r22 H23 =>
 zae r22 0 fun v24 =>
 zae r22 1 fun v25 =>
 zav (
 zaf R F.a5 [v25] H23 fun r26 H27 =>
 pBin PP .neq T.int r26 (.int .i64 0) fun v28 =>
 zaa v28 fun b29 => br b29
 (some (.ret, [(.bool false)], H27))
 (pLen .sl v24 H27 fun v30 =>
 pLen .sl v8 H27 fun v31 =>
 pBin PP .neq T.int v30 v31 fun v32 =>
 zaa v32 fun b33 => br b33
 (some (.ret, [(.bool false)], H27))
 (some (.next, [], H27)))) fun q34 l35 H36 => zaL q34
 (zav (zat (zaD R x2 v7 v8 v14 v24 r20) [(.int .i64 0)] H36) fun q119 l120 H121 => zaL q119 none
 (fun i122 => zay i122 0 (
 some ((.bool true), H121)) (
 none))
 (some ((l120.headD undef), H121)))
 (fun i37 => none)
 (some ((l35.headD undef), H36))))) := by kernel_rfl
noncomputable def zax (R : zad) (x0 : Value) (v5 : Value) (v11 : Value) (v16 : Value) (v19 : Value) (v21 : Value) (l22 : List Value) (H23 : Hp) : Option Outc :=
 pBin PP .lss T.int (l22.getD 0 undef) v21 fun v24 =>
 zaa v24 fun b25 => br b25
 (pIdx 1 v5 (l22.getD 0 undef) fun p26 =>
 zal 1 false H23 p26 fun v27 =>
 zaf R F.a29 [x0, v27] H23 fun r28 H29 =>
 zae r28 0 fun v30 =>
 zae r28 1 fun v31 =>
 zaV 7 [.int .i64 0, .int .i64 0, .int .i64 0, .int .i64 0, .int .i64 0, .int .u64 0, .string ⟨#[]⟩] 0 v30 fun c32 =>
 zai 1 false c32 1 fun v33 =>
 pUpd PP T.int v19 v27 v33 H29 fun H34 =>
 zai 1 false c32 0 fun v35 =>
 pBin PP .neq T.int v35 (.int .i64 4) fun v36 =>
 zaa v36 fun b37 => br b37
 (zai 7 true c32 0 fun v38 =>
 zai 1 false c32 2 fun v39 =>
 zbs PP T.int (.int .u64 0) v16 v39 false H34 fun v40 =>
 zai 1 false c32 3 fun v41 =>
 zbs PP T.int (.int .u64 0) v16 v41 false H34 fun v42 =>
 zai 1 false c32 4 fun v43 =>
 zbs PP T.int (.int .u64 0) v16 v43 false H34 fun v44 =>
 zai 1 false c32 2 fun v45 =>
 zbs PP T.int (.int .i64 0) v19 v45 false H34 fun v46 =>
 zai 1 false c32 3 fun v47 =>
 zbs PP T.int (.int .i64 0) v19 v47 false H34 fun v48 =>
 zaf R F.a58 [v38, v40, v42, v44, v46, v48] H34 fun r49 H50 =>
 pUpd PP T.int v16 v27 r49 H50 fun H51 =>
 pBin PP .add T.int (l22.getD 0 undef) (.int .i64 1) fun v52 =>
 some (.next, [v52], H51))
 (zai 1 false c32 6 fun v53 =>
 zbs PP T.string (.agg #[.string ⟨#[]⟩, .int .i64 0, .int .u64 0]) v11 v53 true H34 fun v54 =>
 zae v54 0 fun v55 =>
 zae v54 1 fun v56 =>
 zaV 3 [.string ⟨#[]⟩, .int .i64 0, .int .u64 0] 0 v55 fun c57 =>
 zaa v56 fun b58 => br b58
 (zai 1 false c57 1 fun v59 =>
 zai 1 false c32 1 fun v60 =>
 pBin PP .neq T.int v59 v60 fun v61 =>
 zaa v61 fun b62 => br b62
 (some (.ret, [(.tuple #[(.slice none 0 0), (.int .i64 71)])], H34))
 (zai 1 false c57 2 fun v63 =>
 pUpd PP T.int v16 v27 v63 H34 fun H64 =>
 pBin PP .add T.int (l22.getD 0 undef) (.int .i64 1) fun v65 =>
 some (.next, [v65], H64)))
 (pBin PP .add T.int (l22.getD 0 undef) (.int .i64 1) fun v66 =>
 some (.next, [v66], H34))))
 (some (.exit 0, [(l22.getD 0 undef)], H23))
noncomputable def zbk (R : zad) (x1 : Value) (v16 : Value) (v74 : Value) (l75 : List Value) (H76 : Hp) : Option Outc :=
 pBin PP .lss T.int (l75.getD 1 undef) v74 fun v77 =>
 zaa v77 fun b78 => br b78
 (pIdx 1 x1 (l75.getD 1 undef) fun p79 =>
 zal 1 false H76 p79 fun v80 =>
 zbs PP T.int (.int .u64 0) v16 v80 false H76 fun v81 =>
 zaj 1 [.int .u64 0] 1 [(0, v81)] H76 fun v82 H83 =>
 zaF 1 8 (l75.getD 0 undef) v82 H83 fun v84 H85 =>
 pBin PP .add T.int (l75.getD 1 undef) (.int .i64 1) fun v86 =>
 some (.next, [v84, v86], H85))
 (some (.exit 2, [(l75.getD 0 undef), (l75.getD 1 undef)], H76))
theorem zku (R : zad) (x0 x1 x2 : Value) (H0 : Hp) : zf4 R x0 x1 x2 H0 =
pBin PP .eql T.p_term_Store x0 (.pointer none) fun v1 =>
 zaa v1 fun b2 => br b2
 (some ((.tuple #[(.slice none 0 0), (.int .i64 2)]), H0))
 (zaf R F.a9 [x0, x1] H0 fun r3 H4 =>
 zae r3 0 fun v5 =>
 zae r3 1 fun v6 =>
 pBin PP .neq T.api_Errno v6 (.int .i64 0) fun v7 =>
 zaa v7 fun b8 => br b8
 (some ((.tuple #[(.slice none 0 0), v6]), H4))
 (zaf R F.a37 [x2] H4 fun r9 H10 =>
 zae r9 0 fun v11 =>
 zae r9 1 fun v12 =>
 pBin PP .neq T.api_Errno v12 (.int .i64 0) fun v13 =>
 zaa v13 fun b14 => br b14
 (some ((.tuple #[(.slice none 0 0), v12]), H10))
 (pLen .sl v5 H10 fun v15 =>
 zgA v15 (
 zb7 H10 fun v16 H17 =>
 pLen .sl v5 H17 fun v18 =>
 zgA v18 (
 zb7 H17 fun v19 H20 =>
 pLen .sl v5 H20 fun v21 =>
 zav (zat (zax R x0 v5 v11 v16 v19 v21) [(.int .i64 0)] H20) fun q67 l68 H69 => zaL q67 none
 (fun i70 => zay i70 0 (
 pLen .sl x1 H69 fun v71 =>
 zaZ 1 8 [.int .u64 0] (.int .i64 0) v71 H69 fun v72 H73 =>
 pLen .sl x1 H73 fun v74 =>
 zav (zat (zbk R x1 v16 v74) [v72, (.int .i64 0)] H73) fun q87 l88 H89 => zaL q87 none
 (fun i90 => zay i90 2 (
 some ((.tuple #[(l88.getD 0 undef), (.int .i64 0)]), H89)) (
 none))
 (some ((l88.headD undef), H89))) (
 none))
 (some ((l68.headD undef), H69))))))) := by kernel_rfl
noncomputable def zba (R : zad) (x0 : Value) (x1 : Value) (l5 : List Value) (H6 : Hp) : Option Outc :=
 pLen .sl x0 H6 fun v7 =>
 pBin PP .lss T.int (l5.getD 0 undef) v7 fun v8 =>
 zaa v8 fun b9 => br b9
 (pIdx 1 x0 (l5.getD 0 undef) fun p10 =>
 zal 1 false H6 p10 fun v11 =>
 pIdx 1 x1 (l5.getD 0 undef) fun p12 =>
 zal 1 false H6 p12 fun v13 =>
 pBin PP .neq T.uint64 v11 v13 fun v14 =>
 zaa v14 fun b15 => br b15
 (some (.ret, [(.bool false)], H6))
 (pBin PP .add T.int (l5.getD 0 undef) (.int .i64 1) fun v16 =>
 some (.next, [v16], H6)))
 (some (.exit 0, [(l5.getD 0 undef)], H6))
theorem zd6 (R : zad) (x0 x1 : Value) (H0 : Hp) : zcd R x0 x1 H0 =
pLen .sl x0 H0 fun v1 =>
 pLen .sl x1 H0 fun v2 =>
 pBin PP .neq T.int v1 v2 fun v3 =>
 zaa v3 fun b4 => br b4
 (some ((.bool false), H0))
 (zav (zat (zba R x0 x1) [(.int .i64 0)] H0) fun q17 l18 H19 => zaL q17 none
 (fun i20 => zay i20 0 (
 some ((.bool true), H19)) (
 none))
 (some ((l18.headD undef), H19))) := by kernel_rfl
noncomputable def zcg (R : zad) (x0 : Value) (v5 : Value) (v9 : Value) (l10 : List Value) (H11 : Hp) : Option Outc :=
 pBin PP .lss T.int (l10.getD 1 undef) v9 fun v12 =>
 zaa v12 fun b13 => br b13
 (pIdx 1 v5 (l10.getD 1 undef) fun p14 =>
 zal 1 false H11 p14 fun v15 =>
 zaf R F.a29 [x0, v15] H11 fun r16 H17 =>
 zae r16 0 fun v18 =>
 zae r16 1 fun v19 =>
 zaV 7 [.int .i64 0, .int .i64 0, .int .i64 0, .int .i64 0, .int .i64 0, .int .u64 0, .string ⟨#[]⟩] 0 v18 fun c20 =>
 zai 1 false c20 0 fun v21 =>
 pBin PP .eql T.int v21 (.int .i64 4) fun v22 =>
 zaa v22 fun b23 => br b23
 (zai 1 false c20 6 fun v24 =>
 zai 1 false c20 1 fun v25 =>
 zaG PP T.api_Value [(0, v24), (1, v25)] fun v26 =>
 zaj 3 [.string ⟨#[]⟩, .int .i64 0, .int .u64 0] 1 [(0, v26)] H17 fun v27 H28 =>
 zaF 3 32 (l10.getD 0 undef) v27 H28 fun v29 H30 =>
 pBin PP .add T.int (l10.getD 1 undef) (.int .i64 1) fun v31 =>
 some (.next, [v29, v31], H30))
 (pBin PP .add T.int (l10.getD 1 undef) (.int .i64 1) fun v32 =>
 some (.next, [(l10.getD 0 undef), v32], H17)))
 (some (.exit 0, [(l10.getD 0 undef), (l10.getD 1 undef)], H11))
theorem zmQ (R : zad) (x0 x1 : Value) (H0 : Hp) : zii R x0 x1 H0 =
pBin PP .eql T.p_term_Store x0 (.pointer none) fun v1 =>
 zaa v1 fun b2 => br b2
 (some ((.tuple #[(.slice none 0 0), (.int .i64 2)]), H0))
 (zaf R F.a9 [x0, x1] H0 fun r3 H4 =>
 zae r3 0 fun v5 =>
 zae r3 1 fun v6 =>
 pBin PP .neq T.api_Errno v6 (.int .i64 0) fun v7 =>
 zaa v7 fun b8 => br b8
 (some ((.tuple #[(.slice none 0 0), v6]), H4))
 (pLen .sl v5 H4 fun v9 =>
 zav (zat (zcg R x0 v5 v9) [(.slice none 0 0), (.int .i64 0)] H4) fun q33 l34 H35 => zaL q33 none
 (fun i36 => zay i36 0 (
 some ((.tuple #[(l34.getD 0 undef), (.int .i64 0)]), H35)) (
 none))
 (some ((l34.headD undef), H35)))) := by kernel_rfl
noncomputable def zaR (R : zad) (x0 : Value) (x1 : Value) (l1 : List Value) (H2 : Hp) : Option Outc :=
 pLen .sl x0 H2 fun v3 =>
 pBin PP .lss T.int (l1.getD 1 undef) v3 fun v4 =>
 zaa v4 fun b5 => br b5
 (pIdx 3 x0 (l1.getD 1 undef) fun p6 =>
 zal 3 true H2 p6 fun v7 =>
 zaV 3 [.string ⟨#[]⟩, .int .i64 0, .int .u64 0] 0 v7 fun c8 =>
 zaV 1 c8 2 (.int .u64 0) fun c9 =>
 zav (
 pLen .sl x1 H2 fun v10 =>
 pBin PP .gtr T.int v10 (.int .i64 0) fun v11 =>
 zaa v11 fun b12 => br b12
 (pLen .sl x1 H2 fun v13 =>
 pBin PP .rem T.int (l1.getD 1 undef) v13 fun v14 =>
 pIdx 1 x1 v14 fun p15 =>
 zal 1 false H2 p15 fun v16 =>
 zaV 1 c9 2 v16 fun c17 =>
 some (.next, [(.agg c17.toArray)], H2))
 (some (.next, [(.agg c9.toArray)], H2))) fun q18 l19 H20 => zaL q18
 (zai 1 false (zab ((l19.drop 0).getD 0 undef)) 1 fun v22 =>
 pBin PP .eql T.int v22 (.int .i64 0) fun v23 =>
 zaa v23 fun b24 => br b24
 (pBin PP .lss T.int (.int .i64 1) (.int .i64 64) fun v25 =>
 zaa v25 fun b26 => br b26
 (zai 1 false (zab ((l19.drop 0).getD 0 undef)) 2 fun v27 =>
 zan .u64 (.int .i64 1) fun v28 =>
 pBin PP .shl T.uint64 (.int .u64 1) v28 fun v29 =>
 pBin PP .sub T.uint64 v29 (.int .u64 1) fun v30 =>
 pBin PP .and T.uint64 v27 v30 fun v31 =>
 zaV 1 (zab ((l19.drop 0).getD 0 undef)) 2 v31 fun c32 =>
 zai 3 true c32 0 fun v33 =>
 zaj 3 [.string ⟨#[]⟩, .int .i64 0, .int .u64 0] 1 [(0, v33)] H20 fun v34 H35 =>
 zaF 3 32 (l1.getD 0 undef) v34 H35 fun v36 H37 =>
 pBin PP .add T.int (l1.getD 1 undef) (.int .i64 1) fun v38 =>
 some (.next, [v36, v38], H37))
 (zai 3 true (zab ((l19.drop 0).getD 0 undef)) 0 fun v39 =>
 zaj 3 [.string ⟨#[]⟩, .int .i64 0, .int .u64 0] 1 [(0, v39)] H20 fun v40 H41 =>
 zaF 3 32 (l1.getD 0 undef) v40 H41 fun v42 H43 =>
 pBin PP .add T.int (l1.getD 1 undef) (.int .i64 1) fun v44 =>
 some (.next, [v42, v44], H43)))
 (pBin PP .lss T.int v22 (.int .i64 64) fun v45 =>
 zaa v45 fun b46 => br b46
 (zai 1 false (zab ((l19.drop 0).getD 0 undef)) 2 fun v47 =>
 zan .u64 v22 fun v48 =>
 pBin PP .shl T.uint64 (.int .u64 1) v48 fun v49 =>
 pBin PP .sub T.uint64 v49 (.int .u64 1) fun v50 =>
 pBin PP .and T.uint64 v47 v50 fun v51 =>
 zaV 1 (zab ((l19.drop 0).getD 0 undef)) 2 v51 fun c52 =>
 zai 3 true c52 0 fun v53 =>
 zaj 3 [.string ⟨#[]⟩, .int .i64 0, .int .u64 0] 1 [(0, v53)] H20 fun v54 H55 =>
 zaF 3 32 (l1.getD 0 undef) v54 H55 fun v56 H57 =>
 pBin PP .add T.int (l1.getD 1 undef) (.int .i64 1) fun v58 =>
 some (.next, [v56, v58], H57))
 (zai 3 true (zab ((l19.drop 0).getD 0 undef)) 0 fun v59 =>
 zaj 3 [.string ⟨#[]⟩, .int .i64 0, .int .u64 0] 1 [(0, v59)] H20 fun v60 H61 =>
 zaF 3 32 (l1.getD 0 undef) v60 H61 fun v62 H63 =>
 pBin PP .add T.int (l1.getD 1 undef) (.int .i64 1) fun v64 =>
 some (.next, [v62, v64], H63))))
 (fun i21 => zay i21 1 (
 pBin PP .add T.int (l1.getD 1 undef) (.int .i64 1) fun v65 =>
 some (.next, [(l1.getD 0 undef), v65], H20)) (
 some (.exit i21, [(l1.getD 0 undef), (l1.getD 1 undef)], H20)))
 (some (.ret, [(l19.headD undef)], H20)))
 (some (.exit 0, [(l1.getD 0 undef), (l1.getD 1 undef)], H2))
theorem ze6 (R : zad) (x0 x1 : Value) (H0 : Hp) : zcY R x0 x1 H0 =
zav (zat (zaR R x0 x1) [(.slice none 0 0), (.int .i64 0)] H0) fun q66 l67 H68 => zaL q66 none
 (fun i69 => zay i69 0 (
 some ((l67.getD 0 undef), H68)) (
 none))
 (some ((l67.headD undef), H68)) := by kernel_rfl
noncomputable def zaq (R : zad) (x0 : Value) (v5 : Value) (l6 : List Value) (H7 : Hp) : Option Outc :=
 pLen .sl x0 H7 fun v8 =>
 pBin PP .lss T.int (l6.getD 1 undef) v8 fun v9 =>
 zaa v9 fun b10 => br b10
 (zaa (l6.getD 0 undef) fun b11 => br b11
 (pBin PP .add T.int (l6.getD 1 undef) (.int .i64 1) fun v12 =>
 some (.next, [(.bool true), v12], H7))
 (pIdx 3 x0 (l6.getD 1 undef) fun p13 =>
 zas 0 p13 fun p14 =>
 zal 1 false H7 p14 fun v15 =>
 pBin PP .eql T.string v15 v5 fun v16 =>
 pBin PP .add T.int (l6.getD 1 undef) (.int .i64 1) fun v17 =>
 some (.next, [v16, v17], H7)))
 (some (.exit 2, [(l6.getD 0 undef), (l6.getD 1 undef)], H7))
noncomputable def zaA (R : zad) (x0 : Value) (l1 : List Value) (H2 : Hp) : Option Outc :=
 zaf R F.a19 [(l1.getD 0 undef)] H2 fun r3 H4 =>
 pBin PP .add T.string (.string ⟨#[122]⟩) r3 fun v5 =>
 zav (zat (zaq R x0 v5) [(.bool false), (.int .i64 0)] H4) fun q18 l19 H20 => zaL q18 none
 (fun i21 => zay i21 2 (
 pUn .not (l19.getD 0 undef) fun v22 =>
 zaa v22 fun b23 => br b23
 (some (.ret, [v5], H20))
 (pBin PP .add T.int (l1.getD 0 undef) (.int .i64 1) fun v24 =>
 some (.next, [v24], H20))) (
 zay i21 1 (
 pBin PP .add T.int (l1.getD 0 undef) (.int .i64 1) fun v25 =>
 some (.next, [v25], H20)) (
 some (.exit i21, [(l1.getD 0 undef)], H20))))
 (some (.ret, [(l19.headD undef)], H20))
theorem ze5 (R : zad) (x0 : Value) (H0 : Hp) : zcX R x0 H0 =
zav (zat (zaA R x0) [(.int .i64 0)] H0) fun q26 l27 H28 => zaL q26 none
 (fun i29 => zay i29 0 (
 none) (
 none))
 (some ((l27.headD undef), H28)) := by kernel_rfl
noncomputable def zbp (R : zad) (v12 : Value) (v15 : Value) (v23 : Value) (v33 : Value) (l34 : List Value) (H35 : Hp) : Option Outc :=
 pBin PP .lss T.int (l34.getD 0 undef) (.int .i64 3) fun v36 =>
 zaa v36 fun b37 => br b37
 (zdi 3 false 1 v33 (l34.getD 0 undef) fun v38 =>
 pBin PP .neq T.int v38 (.int .i64 0) fun v39 =>
 zaa v39 fun b40 => br b40
 (zbs PP T.int (.int .u64 0) v12 v23 false H35 fun v41 =>
 zbs PP T.int (.int .u64 0) v12 v38 false H35 fun v42 =>
 zaf R F.a59 [v41, v42] H35 fun r43 H44 =>
 pUpd PP T.int v12 v23 r43 H44 fun H45 =>
 zbs PP T.int (.int .i64 0) v15 v23 false H45 fun v46 =>
 zbs PP T.int (.int .i64 0) v15 v38 false H45 fun v47 =>
 pMM true [v46, v47] fun v48 =>
 pUpd PP T.int v15 v23 v48 H45 fun H49 =>
 pBin PP .add T.int (l34.getD 0 undef) (.int .i64 1) fun v50 =>
 some (.next, [v50], H49))
 (pBin PP .add T.int (l34.getD 0 undef) (.int .i64 1) fun v51 =>
 some (.next, [v51], H35)))
 (some (.exit 2, [(l34.getD 0 undef)], H35))
noncomputable def zbI (R : zad) (x0 : Value) (v7 : Value) (v12 : Value) (v15 : Value) (v17 : Value) (l18 : List Value) (H19 : Hp) : Option Outc :=
 pBin PP .lss T.int (l18.getD 0 undef) v17 fun v20 =>
 zaa v20 fun b21 => br b21
 (pIdx 1 v7 (l18.getD 0 undef) fun p22 =>
 zal 1 false H19 p22 fun v23 =>
 zaf R F.a29 [x0, v23] H19 fun r24 H25 =>
 zae r24 0 fun v26 =>
 zae r24 1 fun v27 =>
 zaV 7 [.int .i64 0, .int .i64 0, .int .i64 0, .int .i64 0, .int .i64 0, .int .u64 0, .string ⟨#[]⟩] 0 v26 fun c28 =>
 pUpd PP T.int v12 v23 (.int .u64 1) H25 fun H29 =>
 zai 1 false c28 2 fun v30 =>
 zai 1 false c28 3 fun v31 =>
 zai 1 false c28 4 fun v32 =>
 zaG PP T.a3_int [(0, v30), (1, v31), (2, v32)] fun v33 =>
 zav (zat (zbp R v12 v15 v23 v33) [(.int .i64 0)] H29) fun q52 l53 H54 => zaL q52 none
 (fun i55 => zay i55 2 (
 zbs PP T.int (.int .i64 0) v15 v23 false H54 fun v56 =>
 pBin PP .add T.int v56 (.int .i64 1) fun v57 =>
 pUpd PP T.int v15 v23 v57 H54 fun H58 =>
 pBin PP .add T.int (l18.getD 0 undef) (.int .i64 1) fun v59 =>
 some (.next, [v59], H58)) (
 zay i55 1 (
 pBin PP .add T.int (l18.getD 0 undef) (.int .i64 1) fun v60 =>
 some (.next, [v60], H54)) (
 some (.exit i55, [(l18.getD 0 undef)], H54))))
 (some (.ret, [(l53.headD undef)], H54)))
 (some (.exit 0, [(l18.getD 0 undef)], H19))
theorem zmR (R : zad) (x0 x1 : Value) (H0 : Hp) : zij R x0 x1 H0 =
pBin PP .eql T.p_term_Store x0 (.pointer none) fun v1 =>
 zaa v1 fun b2 => br b2
 (some ((.tuple #[(.int .i64 0), (.int .u64 0), (.int .i64 0), (.int .i64 2)]), H0))
 (zaj 1 [.int .i64 0] 1 [(0, x1)] H0 fun v3 H4 =>
 zaf R F.a9 [x0, v3] H4 fun r5 H6 =>
 zae r5 0 fun v7 =>
 zae r5 1 fun v8 =>
 pBin PP .neq T.api_Errno v8 (.int .i64 0) fun v9 =>
 zaa v9 fun b10 => br b10
 (some ((.tuple #[(.int .i64 0), (.int .u64 0), (.int .i64 0), v8]), H6))
 (pLen .sl v7 H6 fun v11 =>
 zgA v11 (
 zb7 H6 fun v12 H13 =>
 pLen .sl v7 H13 fun v14 =>
 zgA v14 (
 zb7 H13 fun v15 H16 =>
 pLen .sl v7 H16 fun v17 =>
 zav (zat (zbI R x0 v7 v12 v15 v17) [(.int .i64 0)] H16) fun q61 l62 H63 => zaL q61 none
 (fun i64 => zay i64 0 (
 pLen .sl v7 H63 fun v65 =>
 zbs PP T.int (.int .u64 0) v12 x1 false H63 fun v66 =>
 zbs PP T.int (.int .i64 0) v15 x1 false H63 fun v67 =>
 some ((.tuple #[v65, v66, v67, (.int .i64 0)]), H63)) (
 none))
 (some ((l62.headD undef), H63)))))) := by kernel_rfl
noncomputable def zbh (R : zad) (v49 : Value) (p3 : Value) (p40 : Value) (l76 : List Value) (H77 : Hp) : Option Outc :=
 pNil p40 (
 zas 1 p40 fun p78 =>
 zal 1 false H77 p78 fun v79 =>
 pLen .sl v79 H77 fun v80 =>
 pBin PP .gtr T.int v80 (.int .i64 0) fun v81 =>
 zaa v81 fun b82 => br b82
 (zal 1 false H77 p3 fun v83 =>
 zbd R F.a48 [p40] H77 (fun e84 H85 =>
 some (.ret, [(W0 (.tuple #[e84, v49]))], H85)) fun r86 H87 =>
 chk (Hp.rdP H87 p3 1 false = some v83) (
 zaj 1 [.int .i64 0] 1 [(0, r86)] H87 fun v88 H89 =>
 chk (Hp.rdP H89 p3 1 false = some v83) (
 zaF 1 8 v83 v88 H89 fun v90 H91 =>
 zar 1 H91 p3 v90 fun H92 =>
 some (.next, [], H92))))
 (some (.exit 2, [], H77)))
noncomputable def zaS (R : zad) (v42 : Value) (p3 : Value) (p40 : Value) (l35 : List Value) (l43 : List Value) (H44 : Hp) : Option Outc :=
 pBin PP .lss T.int (l43.getD 2 undef) v42 fun v45 =>
 zaa v45 fun b46 => br b46
 (pIdx 1 (l35.getD 0 undef) (l43.getD 2 undef) fun p47 =>
 zal 1 false H44 p47 fun v48 =>
 pBin PP .add T.int (l43.getD 2 undef) (.int .i64 1) fun v49 =>
 zaf R F.a11 [v48, (.func (.func F.a8) #[] #[])] H44 fun r50 H51 =>
 pNil p40 (
 zas 1 p40 fun p52 =>
 zar 1 H51 p52 r50 fun H53 =>
 zav (
 zaa (l43.getD 1 undef) fun b54 => br b54
 (zaG PP T.term_fault [(0, (.int .i64 3))] fun v55 =>
 some (.ret, [(W0 (.tuple #[(.iface T.term_fault v55), v49]))], H53))
 (pNil p40 (
 zas 1 p40 fun p56 =>
 zal 1 false H53 p56 fun v57 =>
 pLen .sl v57 H53 fun v58 =>
 pBin PP .eql T.int v58 (.int .i64 0) fun v59 =>
 zaa v59 fun b60 => br b60
 (zaG PP T.term_fault [(0, (.int .i64 3))] fun v61 =>
 some (.ret, [(W0 (.tuple #[(.iface T.term_fault v61), v49]))], H53))
 (some (.next, [], H53))))) fun q62 l63 H64 => zaL q62
 (pNil p40 (
 zas 1 p40 fun p66 =>
 zal 1 false H64 p66 fun v67 =>
 pIdx 1 v67 (.int .i64 0) fun p68 =>
 zal 1 false H64 p68 fun v69 =>
 pBin PP .eql T.string v69 (.string ⟨#[114, 111, 111, 116, 115]⟩) fun v70 =>
 zaa v70 fun b71 => br b71
 (zbd R F.a3 [p40] H64 (fun e72 H73 =>
 some (.ret, [(W0 (.tuple #[e72, v49]))], H73)) fun r74 H75 =>
 zav (zat (zbh R v49 p3 p40) [] H75) fun q93 l94 H95 => zaL q93 none
 (fun i96 => zay i96 2 (
 pBin PP .add T.int (l43.getD 2 undef) (.int .i64 1) fun v97 =>
 some (.next, [v49, (.bool true), v97], H95)) (
 zay i96 1 (
 pBin PP .add T.int (l43.getD 2 undef) (.int .i64 1) fun v98 =>
 some (.next, [v49, (l43.getD 1 undef), v98], H95)) (
 some (.exit i96, [v49, (l43.getD 1 undef), (l43.getD 2 undef)], H95))))
 (some (.ret, [(l94.headD undef)], H95)))
 (zbd R F.a2 [p40] H64 (fun e99 H100 =>
 some (.ret, [(W0 (.tuple #[e99, v49]))], H100)) fun r101 H102 =>
 pBin PP .add T.int (l43.getD 2 undef) (.int .i64 1) fun v103 =>
 pBin PP .neq T.int r101 v103 fun v104 =>
 zaa v104 fun b105 => br b105
 (zaG PP T.term_fault [(0, (.int .i64 3))] fun v106 =>
 some (.ret, [(W0 (.tuple #[(.iface T.term_fault v106), v49]))], H102))
 (zbd R F.a14 [p40] H102 (fun e107 H108 =>
 some (.ret, [(W0 (.tuple #[e107, v49]))], H108)) fun r109 H110 =>
 pNil p40 (
 zas 2 p40 fun p111 =>
 zal 1 false H110 p111 fun v112 =>
 zaj 1 [.int .i64 0] 1 [(0, r109)] H110 fun v113 H114 =>
 zaF 1 8 v112 v113 H114 fun v115 H116 =>
 pNil p40 (
 zas 2 p40 fun p117 =>
 zar 1 H116 p117 v115 fun H118 =>
 pBin PP .add T.int (l43.getD 2 undef) (.int .i64 1) fun v119 =>
 some (.next, [v49, (l43.getD 1 undef), v119], H118)))))))
 (fun i65 => zay i65 1 (
 pBin PP .add T.int (l43.getD 2 undef) (.int .i64 1) fun v120 =>
 some (.next, [v49, (l43.getD 1 undef), v120], H64)) (
 some (.exit i65, [v49, (l43.getD 1 undef), (l43.getD 2 undef)], H64)))
 (some (.ret, [(l63.headD undef)], H64))))
 (some (.exit 0, [(l43.getD 0 undef), (l43.getD 1 undef), (l43.getD 2 undef)], H44))
theorem zmO (R : zad) (x0 x1 : Value) (H0 : Hp) : zie R x0 x1 H0 =
zeE [.pointer none] H0 fun p1 H2 =>
 zeE [.slice none 0 0] H2 fun p3 H4 =>
 zeE [.int .i64 0] H4 fun p5 H6 =>
 zaf R F.a46 [x1] H6 fun r7 H8 =>
 zae r7 0 fun v9 =>
 zae r7 1 fun v10 =>
 zar 1 H8 p1 v9 fun H11 =>
 zar 1 H11 p5 v10 fun H12 =>
 zal 1 false H12 p5 fun v13 =>
 pBin PP .neq T.api_Errno v13 (.int .i64 0) fun v14 =>
 zaa v14 fun b15 => br b15
 (zal 1 false H12 p5 fun v16 =>
 zar 1 H12 p1 (.pointer none) fun H17 =>
 chk (Hp.rdP H17 p5 1 false = some v16) (
 zar 1 H17 p3 (.slice none 0 0) fun H18 =>
 chk (Hp.rdP H18 p5 1 false = some v16) (
 zar 1 H18 p5 v16 fun H19 =>
 zal 1 false H19 p1 fun v20 =>
 zal 1 false H19 p3 fun v21 =>
 zal 1 false H19 p5 fun v22 =>
 some ((W1 (.tuple #[v20, v21, (.int .i64 0), v22])), H19))))
 (zaf R F.a43 [x0, (.string ⟨#[10]⟩)] H12 fun r23 H24 =>
 zav (
 pLen .sl r23 H24 fun v25 =>
 pBin PP .sub T.int v25 (.int .i64 1) fun v26 =>
 pIdx 1 r23 v26 fun p27 =>
 zal 1 false H24 p27 fun v28 =>
 pBin PP .eql T.string v28 (.string ⟨#[]⟩) fun v29 =>
 zaa v29 fun b30 => br b30
 (pLen .sl r23 H24 fun v31 =>
 pBin PP .sub T.int v31 (.int .i64 1) fun v32 =>
 zch 1 r23 none (some v32) fun v33 =>
 some (.next, [v33], H24))
 (some (.next, [r23], H24))) fun q34 l35 H36 => zaL q34
 (zgj (
 zal 1 false H36 p1 fun v38 =>
 zaG PP T.term_reader [(0, v38)] fun v39 =>
 zeE (zab v39) H36 fun p40 H41 =>
 pLen .sl (l35.getD 0 undef) H41 fun v42 =>
 zav (zat (zaS R v42 p3 p40 l35) [(.int .i64 0), (.bool false), (.int .i64 0)] H41) fun q121 l122 H123 => zaL q121 none
 (fun i124 => zay i124 0 (
 pLen .sl (l35.getD 0 undef) H123 fun v125 =>
 pBin PP .add T.int v125 (.int .i64 1) fun v126 =>
 pUn .not (l122.getD 1 undef) fun v127 =>
 zaa v127 fun b128 => br b128
 (zaG PP T.term_fault [(0, (.int .i64 3))] fun v129 =>
 some ((W0 (.tuple #[(.iface T.term_fault v129), v126])), H123))
 (zal 1 false H123 p1 fun v130 =>
 zal 1 false H123 p3 fun v131 =>
 zar 1 H123 p1 v130 fun H132 =>
 chk (Hp.rdP H132 p3 1 false = some v131) (
 zar 1 H132 p3 v131 fun H133 =>
 zar 1 H133 p5 (.int .i64 0) fun H134 =>
 zal 1 false H134 p1 fun v135 =>
 zal 1 false H134 p3 fun v136 =>
 zal 1 false H134 p5 fun v137 =>
 some ((W1 (.tuple #[v135, v136, (.int .i64 0), v137])), H134)))) (
 none))
 (some ((l122.headD undef), H123))) fun v138 H139 => zeB v138
 (fun u140 => zjW [.cell 4 24, .cell 5 22, .tmp 6, .cell 7 30] u140 fun l141 => zlg [.cell 4 24, .cell 5 22, .tmp 6, .cell 7 30] l141 fun l142 => zgf PP orc R F.a45 [p1, p3, p5] .nilIface H139 fun H143 => endL PP [.val x0, .val x1, .unk, .unk, .val p1, .val p3, .val (.int .i64 0), .val p5, .val (l35.getD 0 undef), .unk, .unk, .unk, .unk, .unk, .val r7, .val x1, .val r7, .val v9, .val v10, .val v13, .val v14, .unk, .val x0, .val r23, .unk, .unk, .unk, .unk, .unk, .unk, .unk, .unk, .unk, .unk, .unk, .unk, .val (.func (.func F.a45) #[] #[p1, p3, p5]), .unk, .unk, .unk, .unk, .unk, .unk, .unk, .unk, .unk, .unk, .unk, .unk, .unk, .unk, .unk, .unk, .unk, .unk, .unk, .unk, .unk, .unk, .unk, .unk, .unk, .unk, .unk, .unk, .unk, .unk, .unk, .unk, .unk, .unk, .unk, .unk, .unk, .unk, .unk, .unk, .unk, .unk, .unk, .unk, .unk, .unk, .unk, .unk, .unk, .unk, .unk, .unk, .unk, .unk, .unk, .unk, .unk, .unk, .unk, .unk, .unk, .unk, .unk, .unk, .unk, .unk, .unk, .unk, .unk, .unk, .unk, .unk, .unk, .unk, .unk, .unk, .unk] H143 [.cell 4 24, .cell 5 22, .tmp 6, .cell 7 30] l142 fun l144 => some (W1 (resV l144), H143))
 (fun x145 => pTail x145 fun x146 l147 => zgf PP orc R F.a45 [p1, p3, p5] x146 H139 fun H148 => endL PP [.val x0, .val x1, .unk, .unk, .val p1, .val p3, .val (.int .i64 0), .val p5, .val (l35.getD 0 undef), .unk, .unk, .unk, .unk, .unk, .val r7, .val x1, .val r7, .val v9, .val v10, .val v13, .val v14, .unk, .val x0, .val r23, .unk, .unk, .unk, .unk, .unk, .unk, .unk, .unk, .unk, .unk, .unk, .unk, .val (.func (.func F.a45) #[] #[p1, p3, p5]), .unk, .unk, .unk, .unk, .unk, .unk, .unk, .unk, .unk, .unk, .unk, .unk, .unk, .unk, .unk, .unk, .unk, .unk, .unk, .unk, .unk, .unk, .unk, .unk, .unk, .unk, .unk, .unk, .unk, .unk, .unk, .unk, .unk, .unk, .unk, .unk, .unk, .unk, .unk, .unk, .unk, .unk, .unk, .unk, .unk, .unk, .unk, .unk, .unk, .unk, .unk, .unk, .unk, .unk, .unk, .unk, .unk, .unk, .unk, .unk, .unk, .unk, .unk, .unk, .unk, .unk, .unk, .unk, .unk, .unk, .unk, .unk, .unk, .unk, .unk, .unk, .unk] H148 [.cell 4 24, .cell 5 22, .tmp 6, .cell 7 30] l147 fun l149 => some (W1 (resV l149), H148)))
 (fun i37 => none)
 (retT (l35.headD undef) H36)) := by kernel_rfl
noncomputable def zaP (R : zad) (x0 : Value) (x1 : Value) (v1 : Value) (l2 : List Value) (H3 : Hp) : Option Outc :=
 pBin PP .lss T.int (l2.getD 0 undef) v1 fun v4 =>
 zaa v4 fun b5 => br b5
 (pIdx 1 x1 (l2.getD 0 undef) fun p6 =>
 zal 1 false H3 p6 fun v7 =>
 zaf R F.a13 [x0, v7] H3 fun r8 H9 =>
 pUn .not r8 fun v10 =>
 zaa v10 fun b11 => br b11
 (some (.ret, [(.tuple #[(.slice none 0 0), (.int .i64 70)])], H9))
 (pBin PP .add T.int (l2.getD 0 undef) (.int .i64 1) fun v12 =>
 some (.next, [v12], H9)))
 (some (.exit 0, [(l2.getD 0 undef)], H3))
noncomputable def zau (R : zad) (x0 : Value) (v21 : Value) (l41 : List Value) (H42 : Hp) : Option Outc :=
 pLen .sl (l41.getD 1 undef) H42 fun v43 =>
 pBin PP .gtr T.int v43 (.int .i64 0) fun v44 =>
 zaa v44 fun b45 => br b45
 (pLen .sl (l41.getD 1 undef) H42 fun v46 =>
 pBin PP .sub T.int v46 (.int .i64 1) fun v47 =>
 pIdx 2 (l41.getD 1 undef) v47 fun p48 =>
 pNil x0 (
 zas 1 x0 fun p49 =>
 zal 1 false H42 p49 fun v50 =>
 pNil p48 (
 zas 0 p48 fun p51 =>
 zal 1 false H42 p51 fun v52 =>
 pBin PP .sub T.int v52 (.int .i64 1) fun v53 =>
 pIdx 7 v50 v53 fun p54 =>
 zal 7 true H42 p54 fun v55 =>
 zaV 7 [.int .i64 0, .int .i64 0, .int .i64 0, .int .i64 0, .int .i64 0, .int .u64 0, .string ⟨#[]⟩] 0 v55 fun c56 =>
 pNil p48 (
 zas 1 p48 fun p57 =>
 zal 1 false H42 p57 fun v58 =>
 zai 1 false c56 0 fun v59 =>
 zaf R F.a7 [v59] H42 fun r60 H61 =>
 chk (Hp.rdP H61 p57 1 false = some v58) (
 pBin PP .eql T.int v58 r60 fun v62 =>
 zaa v62 fun b63 => br b63
 (pNil p48 (
 zas 0 p48 fun p64 =>
 zal 1 false H61 p64 fun v65 =>
 zaj 1 [.int .i64 0] 1 [(0, v65)] H61 fun v66 H67 =>
 zaF 1 8 (l41.getD 0 undef) v66 H67 fun v68 H69 =>
 pLen .sl (l41.getD 1 undef) H69 fun v70 =>
 pBin PP .sub T.int v70 (.int .i64 1) fun v71 =>
 zch 2 (l41.getD 1 undef) none (some v71) fun v72 =>
 some (.next, [v68, v72], H69)))
 (zai 1 false c56 2 fun v73 =>
 zai 1 false c56 3 fun v74 =>
 zai 1 false c56 4 fun v75 =>
 zaG PP T.a3_int [(0, v73), (1, v74), (2, v75)] fun v76 =>
 pNil p48 (
 zas 1 p48 fun p77 =>
 zal 1 false H61 p77 fun v78 =>
 zdi 3 false 1 v76 v78 fun v79 =>
 pNil p48 (
 zas 1 p48 fun p80 =>
 zal 1 false H61 p80 fun v81 =>
 pBin PP .add T.int v81 (.int .i64 1) fun v82 =>
 pNil p48 (
 zas 1 p48 fun p83 =>
 zar 1 H61 p83 v82 fun H84 =>
 pIdx 1 v21 v79 fun p85 =>
 zal 1 false H84 p85 fun v86 =>
 pUn .not v86 fun v87 =>
 zaa v87 fun b88 => br b88
 (pIdx 1 v21 v79 fun p89 =>
 zar 1 H84 p89 (.bool true) fun H90 =>
 zaG PP T.term_place [(0, v79), (1, (.int .i64 0))] fun v91 =>
 zaj 2 [.int .i64 0, .int .i64 0] 1 [(0, v91)] H90 fun v92 H93 =>
 zaF 2 16 (l41.getD 1 undef) v92 H93 fun v94 H95 =>
 some (.next, [(l41.getD 0 undef), v94], H95))
 (some (.next, [(l41.getD 0 undef), (l41.getD 1 undef)], H84)))))))))))
 (some (.exit 4, [(l41.getD 0 undef), (l41.getD 1 undef)], H42))
noncomputable def zaO (R : zad) (x0 : Value) (x1 : Value) (v21 : Value) (v23 : Value) (l24 : List Value) (H25 : Hp) : Option Outc :=
 pBin PP .lss T.int (l24.getD 2 undef) v23 fun v26 =>
 zaa v26 fun b27 => br b27
 (pIdx 1 x1 (l24.getD 2 undef) fun p28 =>
 zal 1 false H25 p28 fun v29 =>
 pIdx 1 v21 v29 fun p30 =>
 zal 1 false H25 p30 fun v31 =>
 zaa v31 fun b32 => br b32
 (pBin PP .add T.int (l24.getD 2 undef) (.int .i64 1) fun v33 =>
 some (.next, [(l24.getD 0 undef), (l24.getD 1 undef), v33], H25))
 (pIdx 1 v21 v29 fun p34 =>
 zar 1 H25 p34 (.bool true) fun H35 =>
 zaG PP T.term_place [(0, v29), (1, (.int .i64 0))] fun v36 =>
 zaj 2 [.int .i64 0, .int .i64 0] 1 [(0, v36)] H35 fun v37 H38 =>
 zaF 2 16 (l24.getD 1 undef) v37 H38 fun v39 H40 =>
 zav (zat (zau R x0 v21) [(l24.getD 0 undef), v39] H40) fun q96 l97 H98 => zaL q96 none
 (fun i99 => zay i99 4 (
 pBin PP .add T.int (l24.getD 2 undef) (.int .i64 1) fun v100 =>
 some (.next, [(l97.getD 0 undef), (l97.getD 1 undef), v100], H98)) (
 zay i99 3 (
 pBin PP .add T.int (l24.getD 2 undef) (.int .i64 1) fun v101 =>
 some (.next, [(l97.getD 0 undef), (l97.getD 1 undef), v101], H98)) (
 some (.exit i99, [(l97.getD 0 undef), (l97.getD 1 undef), (l24.getD 2 undef)], H98))))
 (some (.ret, [(l97.headD undef)], H98))))
 (some (.exit 2, [(l24.getD 0 undef), (l24.getD 1 undef), (l24.getD 2 undef)], H25))
theorem zdG (R : zad) (x0 x1 : Value) (H0 : Hp) : zdD R x0 x1 H0 =
pLen .sl x1 H0 fun v1 =>
 zav (zat (zaP R x0 x1 v1) [(.int .i64 0)] H0) fun q13 l14 H15 => zaL q13 none
 (fun i16 => zay i16 0 (
 pNil x0 (
 zas 1 x0 fun p17 =>
 zal 1 false H15 p17 fun v18 =>
 pLen .sl v18 H15 fun v19 =>
 pBin PP .add T.int v19 (.int .i64 1) fun v20 =>
 zaZ 1 1 [.bool false] v20 v20 H15 fun v21 H22 =>
 pLen .sl x1 H22 fun v23 =>
 zav (zat (zaO R x0 x1 v21 v23) [(.slice none 0 0), (.slice none 0 0), (.int .i64 0)] H22) fun q102 l103 H104 => zaL q102 none
 (fun i105 => zay i105 2 (
 some ((.tuple #[(l103.getD 0 undef), (.int .i64 0)]), H104)) (
 none))
 (some ((l103.headD undef), H104)))) (
 none))
 (some ((l14.headD undef), H15)) := by kernel_rfl
noncomputable def zbH (R : zad) (x0 : Value) (v2 : Value) (v4 : Value) (l5 : List Value) (H6 : Hp) : Option Outc :=
 pBin PP .lss T.int (l5.getD 0 undef) v4 fun v7 =>
 zaa v7 fun b8 => br b8
 (pIdx 3 x0 (l5.getD 0 undef) fun p9 =>
 zal 3 true H6 p9 fun v10 =>
 zaV 3 [.string ⟨#[]⟩, .int .i64 0, .int .u64 0] 0 v10 fun c11 =>
 zai 1 false c11 0 fun v12 =>
 zbs PP T.string (.agg #[.string ⟨#[]⟩, .int .i64 0, .int .u64 0]) v2 v12 true H6 fun v13 =>
 zae v13 0 fun v14 =>
 zae v13 1 fun v15 =>
 zaV 3 [.string ⟨#[]⟩, .int .i64 0, .int .u64 0] 0 v14 fun c16 =>
 zaa v15 fun b17 => br b17
 (some (.ret, [(.tuple #[(.map none), (.int .i64 72)])], H6))
 (zai 1 false c11 0 fun v18 =>
 zaf R F.a30 [v18] H6 fun r19 H20 =>
 pUn .not r19 fun v21 =>
 zaa v21 fun b22 => br b22
 (some (.ret, [(.tuple #[(.map none), (.int .i64 72)])], H20))
 (zai 1 false c11 0 fun v23 =>
 zai 3 true c11 0 fun v24 =>
 pUpd PP T.string v2 v23 v24 H20 fun H25 =>
 pBin PP .add T.int (l5.getD 0 undef) (.int .i64 1) fun v26 =>
 some (.next, [v26], H25))))
 (some (.exit 0, [(l5.getD 0 undef)], H6))
noncomputable def zbG (R : zad) (x0 : Value) (v31 : Value) (l32 : List Value) (H33 : Hp) : Option Outc :=
 pBin PP .lss T.int (l32.getD 0 undef) v31 fun v34 =>
 zaa v34 fun b35 => br b35
 (pIdx 3 x0 (l32.getD 0 undef) fun p36 =>
 zal 3 true H33 p36 fun v37 =>
 zaV 3 [.string ⟨#[]⟩, .int .i64 0, .int .u64 0] 0 v37 fun c38 =>
 zai 1 false c38 1 fun v39 =>
 pBin PP .lss T.int v39 (.int .i64 0) fun v40 =>
 zaa v40 fun b41 => br b41
 (some (.ret, [(.tuple #[(.map none), (.int .i64 5)])], H33))
 (zai 1 false c38 1 fun v42 =>
 pBin PP .gtr T.int v42 (.int .i64 64) fun v43 =>
 zaa v43 fun b44 => br b44
 (some (.ret, [(.tuple #[(.map none), (.int .i64 5)])], H33))
 (zai 1 false c38 1 fun v45 =>
 pMM true [v45, (.int .i64 1)] fun v46 =>
 zai 1 false c38 2 fun v47 =>
 zaf R F.a0 [v46, v47] H33 fun r48 H49 =>
 zai 1 false c38 2 fun v50 =>
 pBin PP .neq T.uint64 r48 v50 fun v51 =>
 zaa v51 fun b52 => br b52
 (some (.ret, [(.tuple #[(.map none), (.int .i64 5)])], H49))
 (pBin PP .add T.int (l32.getD 0 undef) (.int .i64 1) fun v53 =>
 some (.next, [v53], H49)))))
 (some (.exit 2, [(l32.getD 0 undef)], H33))
theorem zmP (R : zad) (x0 : Value) (H0 : Hp) : zif R x0 H0 =
pLen .sl x0 H0 fun v1 =>
 zgA v1 (
 zb7 H0 fun v2 H3 =>
 pLen .sl x0 H3 fun v4 =>
 zav (zat (zbH R x0 v2 v4) [(.int .i64 0)] H3) fun q27 l28 H29 => zaL q27 none
 (fun i30 => zay i30 0 (
 pLen .sl x0 H29 fun v31 =>
 zav (zat (zbG R x0 v31) [(.int .i64 0)] H29) fun q54 l55 H56 => zaL q54 none
 (fun i57 => zay i57 2 (
 some ((.tuple #[v2, (.int .i64 0)]), H56)) (
 none))
 (some ((l55.headD undef), H56))) (
 none))
 (some ((l28.headD undef), H29))) := by kernel_rfl
noncomputable def zaH (R : zad) (x1 : Value) (l4 : List Value) (H5 : Hp) : Option Outc :=
 br (Nat.blt (zaU ((l4.drop 2).getD 0 undef)) (za2 ((l4.drop 2).getD 0 undef)).size)
 (zed orc R x1 [(.int .i32 (Utf8.decode (za2 ((l4.drop 2).getD 0 undef)) (zaU ((l4.drop 2).getD 0 undef))).1)] H5 fun r6 H7 =>
 zaa r6 fun b8 => br b8
 (pBin PP .geq T.int (l4.getD 1 undef) (.int .i64 0) fun v9 =>
 zaa v9 fun b10 => br b10
 (zaG PP T.strings_span [(0, (l4.getD 1 undef)), (1, (.int .i64 ((zaU ((l4.drop 2).getD 0 undef)) : Nat)))] fun v11 =>
 zaj 2 [.int .i64 0, .int .i64 0] 1 [(0, v11)] H7 fun v12 H13 =>
 zaF 2 16 (l4.getD 0 undef) v12 H13 fun v14 H15 =>
 pUn .xor (l4.getD 1 undef) fun v16 =>
 some (.next, [v14, v16, (.tuple #[.string (za2 ((l4.drop 2).getD 0 undef)), .int .i64 (((zaU ((l4.drop 2).getD 0 undef)) + (Utf8.decode (za2 ((l4.drop 2).getD 0 undef)) (zaU ((l4.drop 2).getD 0 undef))).2) : Nat)])], H15))
 (some (.next, [(l4.getD 0 undef), (l4.getD 1 undef), (.tuple #[.string (za2 ((l4.drop 2).getD 0 undef)), .int .i64 (((zaU ((l4.drop 2).getD 0 undef)) + (Utf8.decode (za2 ((l4.drop 2).getD 0 undef)) (zaU ((l4.drop 2).getD 0 undef))).2) : Nat)])], H7)))
 (pBin PP .lss T.int (l4.getD 1 undef) (.int .i64 0) fun v17 =>
 zaa v17 fun b18 => br b18
 (some (.next, [(l4.getD 0 undef), (.int .i64 ((zaU ((l4.drop 2).getD 0 undef)) : Nat)), (.tuple #[.string (za2 ((l4.drop 2).getD 0 undef)), .int .i64 (((zaU ((l4.drop 2).getD 0 undef)) + (Utf8.decode (za2 ((l4.drop 2).getD 0 undef)) (zaU ((l4.drop 2).getD 0 undef))).2) : Nat)])], H7))
 (some (.next, [(l4.getD 0 undef), (l4.getD 1 undef), (.tuple #[.string (za2 ((l4.drop 2).getD 0 undef)), .int .i64 (((zaU ((l4.drop 2).getD 0 undef)) + (Utf8.decode (za2 ((l4.drop 2).getD 0 undef)) (zaU ((l4.drop 2).getD 0 undef))).2) : Nat)])], H7))))
 (some (.exit 0, [(l4.getD 0 undef), (l4.getD 1 undef), (.tuple #[.string (za2 ((l4.drop 2).getD 0 undef)), .int .i64 ((zaU ((l4.drop 2).getD 0 undef)) : Nat)])], H5))
noncomputable def zaQ (R : zad) (x0 : Value) (v36 : Value) (v38 : Value) (l32 : List Value) (l39 : List Value) (H40 : Hp) : Option Outc :=
 pBin PP .lss T.int (l39.getD 0 undef) v38 fun v41 =>
 zaa v41 fun b42 => br b42
 (pIdx 2 (l32.getD 0 undef) (l39.getD 0 undef) fun p43 =>
 zal 2 true H40 p43 fun v44 =>
 zaV 2 [.int .i64 0, .int .i64 0] 0 v44 fun c45 =>
 zai 1 false c45 0 fun v46 =>
 zai 1 false c45 1 fun v47 =>
 za9 x0 (some v46) (some v47) fun v48 =>
 pIdx 1 v36 (l39.getD 0 undef) fun p49 =>
 zar 1 H40 p49 v48 fun H50 =>
 pBin PP .add T.int (l39.getD 0 undef) (.int .i64 1) fun v51 =>
 some (.next, [v51], H50))
 (some (.exit 2, [(l39.getD 0 undef)], H40))
theorem ze4 (R : zad) (x0 x1 : Value) (H0 : Hp) : zcW R x0 x1 H0 =
zaZ 2 16 [.int .i64 0, .int .i64 0] (.int .i64 0) (.int .i64 32) H0 fun v1 H2 =>
 ziV x0 fun s3 =>
 zav (zat (zaH R x1) [v1, (.int .i64 (-1)), (.tuple #[.string s3, .int .i64 (0 : Nat)])] H2) fun q19 l20 H21 => zaL q19 none
 (fun i22 => zay i22 0 (
 zav (
 pBin PP .geq T.int (l20.getD 1 undef) (.int .i64 0) fun v23 =>
 zaa v23 fun b24 => br b24
 (pLen .str x0 H21 fun v25 =>
 zaG PP T.strings_span [(0, (l20.getD 1 undef)), (1, v25)] fun v26 =>
 zaj 2 [.int .i64 0, .int .i64 0] 1 [(0, v26)] H21 fun v27 H28 =>
 zaF 2 16 (l20.getD 0 undef) v27 H28 fun v29 H30 =>
 some (.next, [v29], H30))
 (some (.next, [(l20.getD 0 undef)], H21))) fun q31 l32 H33 => zaL q31
 (pLen .sl (l32.getD 0 undef) H33 fun v35 =>
 zaZ 1 16 [.string ⟨#[]⟩] v35 v35 H33 fun v36 H37 =>
 pLen .sl (l32.getD 0 undef) H37 fun v38 =>
 zav (zat (zaQ R x0 v36 v38 l32) [(.int .i64 0)] H37) fun q52 l53 H54 => zaL q52 none
 (fun i55 => zay i55 2 (
 some (v36, H54)) (
 none))
 (some ((l53.headD undef), H54)))
 (fun i34 => none)
 (some ((l32.headD undef), H33))) (
 none))
 (some ((l20.headD undef), H21)) := by kernel_rfl
noncomputable def zaI (R : zad) (x0 : Value) (r56 : Value) (p10 : Value) (l58 : List Value) (H59 : Hp) : Option Outc :=
 pBin PP .lss T.int (l58.getD 0 undef) r56 fun v60 =>
 zaa v60 fun b61 => br b61
 (zas 2 p10 fun p62 =>
 zas 3 p10 fun p63 =>
 zas 4 p10 fun p64 =>
 zaG PP T.a3_p_int [(0, p62), (1, p63), (2, p64)] fun v65 =>
 zdi 3 false 1 v65 (l58.getD 0 undef) fun v66 =>
 zbd R F.a48 [x0] H59 (fun e67 H68 =>
 some (.ret, [(W0 e67)], H68)) fun r69 H70 =>
 pNil v66 (
 zar 1 H70 v66 r69 fun H71 =>
 pBin PP .add T.int (l58.getD 0 undef) (.int .i64 1) fun v72 =>
 some (.next, [v72], H71)))
 (some (.exit 1, [(l58.getD 0 undef)], H59))
theorem zf9 (R : zad) (x0 : Value) (H0 : Hp) : zdC R x0 H0 =
zbd R F.a3 [x0] H0 (fun e1 H2 =>
 some ((W0 e1), H2)) fun r3 H4 =>
 zbd R F.a47 [r3] H4 (fun e5 H6 =>
 some ((W0 e5), H6)) fun r7 H8 =>
 zaG PP T.api_Node [(0, r7)] fun v9 =>
 zeE [.int .i64 0, .int .i64 0, .int .i64 0, .int .i64 0, .int .i64 0, .int .u64 0, .string ⟨#[]⟩] H8 fun p10 H11 =>
 zar 7 H11 p10 v9 fun H12 =>
 zav (
 zas 0 p10 fun p13 =>
 zal 1 false H12 p13 fun v14 =>
 pBin PP .eql T.int v14 (.int .i64 3) fun v15 =>
 zaa v15 fun b16 => br b16
 (zbd R F.a2 [x0] H12 (fun e17 H18 =>
 some (.ret, [(W0 e17)], H18)) fun r19 H20 =>
 zas 1 p10 fun p21 =>
 zar 1 H20 p21 r19 fun H22 =>
 zbd R F.a3 [x0] H22 (fun e23 H24 =>
 some (.ret, [(W0 e23)], H24)) fun r25 H26 =>
 zaf R F.a15 [r25] H26 fun r27 H28 =>
 zae r27 0 fun v29 =>
 zae r27 1 fun v30 =>
 pBin PP .neq T.api_Errno v30 (.int .i64 0) fun v31 =>
 zaa v31 fun b32 => br b32
 (zaG PP T.term_fault [(0, (.int .i64 3))] fun v33 =>
 some (.ret, [(W0 (.iface T.term_fault v33))], H28))
 (zas 5 p10 fun p34 =>
 zar 1 H28 p34 v29 fun H35 =>
 some (.next, [], H35)))
 (pBin PP .eql T.int v14 (.int .i64 4) fun v36 =>
 zaa v36 fun b37 => br b37
 (zbd R F.a3 [x0] H12 (fun e38 H39 =>
 some (.ret, [(W0 e38)], H39)) fun r40 H41 =>
 zas 6 p10 fun p42 =>
 zar 1 H41 p42 r40 fun H43 =>
 zbd R F.a2 [x0] H43 (fun e44 H45 =>
 some (.ret, [(W0 e44)], H45)) fun r46 H47 =>
 zas 1 p10 fun p48 =>
 zar 1 H47 p48 r46 fun H49 =>
 some (.next, [], H49))
 (some (.next, [], H12)))) fun q50 l51 H52 => zaL q50
 (zas 0 p10 fun p54 =>
 zal 1 false H52 p54 fun v55 =>
 zaf R F.a7 [v55] H52 fun r56 H57 =>
 zav (zat (zaI R x0 r56 p10) [(.int .i64 0)] H57) fun q73 l74 H75 => zaL q73 none
 (fun i76 => zay i76 1 (
 zav (
 zas 0 p10 fun p77 =>
 zal 1 false H75 p77 fun v78 =>
 pBin PP .eql T.int v78 (.int .i64 31) fun v79 =>
 zaa v79 fun b80 => br b80
 (zbd R F.a2 [x0] H75 (fun e81 H82 =>
 some (.ret, [(W0 e81)], H82)) fun r83 H84 =>
 zan .u64 r83 fun v85 =>
 zas 5 p10 fun p86 =>
 zar 1 H84 p86 v85 fun H87 =>
 zbd R F.a2 [x0] H87 (fun e88 H89 =>
 some (.ret, [(W0 e88)], H89)) fun r90 H91 =>
 zas 1 p10 fun p92 =>
 zar 1 H91 p92 r90 fun H93 =>
 some (.next, [], H93))
 (zav (
 pBin PP .eql T.int v78 (.int .i64 32) fun v94 =>
 zaa v94 fun b95 => br b95
 (some (.next, [(.bool true)], H75))
 (pBin PP .eql T.int v78 (.int .i64 33) fun v96 =>
 some (.next, [v96], H75))) fun q97 l98 H99 => zaL q97
 (zaa (l98.getD 0 undef) fun b101 => br b101
 (zbd R F.a2 [x0] H99 (fun e102 H103 =>
 some (.ret, [(W0 e102)], H103)) fun r104 H105 =>
 zas 1 p10 fun p106 =>
 zar 1 H105 p106 r104 fun H107 =>
 some (.next, [], H107))
 (pBin PP .eql T.int v78 (.int .i64 14) fun v108 =>
 zaa v108 fun b109 => br b109
 (pNil x0 (
 zas 0 x0 fun p110 =>
 zal 1 false H99 p110 fun v111 =>
 zas 3 p10 fun p112 =>
 zal 1 false H99 p112 fun v113 =>
 zaf R F.a1 [v111, v113] H99 fun r114 H115 =>
 zas 1 p10 fun p116 =>
 zar 1 H115 p116 r114 fun H117 =>
 some (.next, [], H117)))
 (pBin PP .eql T.int v78 (.int .i64 30) fun v118 =>
 zaa v118 fun b119 => br b119
 (pNil x0 (
 zas 0 x0 fun p120 =>
 zal 1 false H99 p120 fun v121 =>
 zas 2 p10 fun p122 =>
 zal 1 false H99 p122 fun v123 =>
 zaf R F.a1 [v121, v123] H99 fun r124 H125 =>
 pNil x0 (
 zas 0 x0 fun p126 =>
 zal 1 false H125 p126 fun v127 =>
 chk (Hp.rdP H99 p126 1 false = some v127) (
 zas 3 p10 fun p128 =>
 zal 1 false H125 p128 fun v129 =>
 chk (Hp.rdP H99 p128 1 false = some v129) (
 zaf R F.a1 [v127, v129] H125 fun r130 H131 =>
 pBin PP .add T.int r124 r130 fun v132 =>
 pMM false [v132, (.int .i64 65)] fun v133 =>
 zas 1 p10 fun p134 =>
 zar 1 H131 p134 v133 fun H135 =>
 zas 1 p10 fun p136 =>
 zal 1 false H135 p136 fun v137 =>
 pBin PP .gtr T.int v137 (.int .i64 64) fun v138 =>
 zaa v138 fun b139 => br b139
 (zas 1 p10 fun p140 =>
 zar 1 H135 p140 (.int .i64 0) fun H141 =>
 some (.next, [], H141))
 (some (.next, [], H135)))))))
 (pBin PP .geq T.int v78 (.int .i64 15) fun v142 =>
 zaa v142 fun b143 => br b143
 (pBin PP .leq T.int v78 (.int .i64 29) fun v144 =>
 zaa v144 fun b145 => br b145
 (pNil x0 (
 zas 0 x0 fun p146 =>
 zal 1 false H99 p146 fun v147 =>
 zas 2 p10 fun p148 =>
 zal 1 false H99 p148 fun v149 =>
 zaf R F.a1 [v147, v149] H99 fun r150 H151 =>
 zas 1 p10 fun p152 =>
 zar 1 H151 p152 r150 fun H153 =>
 some (.next, [], H153)))
 (some (.next, [], H99)))
 (some (.next, [], H99))))))
 (fun i100 => zay i100 3 (
 some (.next, [], H99)) (
 some (.exit i100, [], H99)))
 (some (.ret, [(l98.headD undef)], H99)))) fun q154 l155 H156 => zaL q154
 (pNil x0 (
 zas 1 x0 fun p158 =>
 zal 1 false H156 p158 fun v159 =>
 pLen .sl v159 H156 fun v160 =>
 pBin PP .gtr T.int v160 (.int .i64 0) fun v161 =>
 zaa v161 fun b162 => br b162
 (zaG PP T.term_fault [(0, (.int .i64 3))] fun v163 =>
 some ((W0 (.iface T.term_fault v163)), H156))
 (pNil x0 (
 zas 0 x0 fun p164 =>
 zal 1 false H156 p164 fun v165 =>
 zal 7 true H156 p10 fun v166 =>
 zaf R F.a12 [v165, v166] H156 fun r167 H168 =>
 zae r167 0 fun v169 =>
 zae r167 1 fun v170 =>
 pBin PP .neq T.api_Errno v170 (.int .i64 0) fun v171 =>
 zaa v171 fun b172 => br b172
 (zaG PP T.term_fault [(0, v170)] fun v173 =>
 some ((W0 (.iface T.term_fault v173)), H168))
 (some ((W1 v169), H168))))))
 (fun i157 => none)
 (some ((l155.headD undef), H156))) (
 none))
 (some ((l74.headD undef), H75)))
 (fun i53 => none)
 (some ((l51.headD undef), H52)) := by kernel_rfl
noncomputable def za7 (R : zad) (x1 : Value) (x2 : Value) (v19 : Value) (v21 : Value) (l22 : List Value) (H23 : Hp) : Option Outc :=
 pBin PP .lss T.int (l22.getD 1 undef) v21 fun v24 =>
 zaa v24 fun b25 => br b25
 (zaf R F.a28 [(l22.getD 0 undef), x1] H23 fun r26 H27 =>
 pBin PP .lss T.int r26 (.int .i64 0) fun v28 =>
 zaa v28 fun b29 => br b29
 (some (.exit 0, [(l22.getD 0 undef), (l22.getD 1 undef)], H27))
 (pBin PP .add T.int r26 x2 fun v30 =>
 za9 (l22.getD 0 undef) none (some v30) fun v31 =>
 pIdx 1 v19 (l22.getD 1 undef) fun p32 =>
 zar 1 H27 p32 v31 fun H33 =>
 pLen .str x1 H33 fun v34 =>
 pBin PP .add T.int r26 v34 fun v35 =>
 za9 (l22.getD 0 undef) (some v35) none fun v36 =>
 pBin PP .add T.int (l22.getD 1 undef) (.int .i64 1) fun v37 =>
 some (.next, [v36, v37], H33)))
 (some (.exit 0, [(l22.getD 0 undef), (l22.getD 1 undef)], H23))
theorem zga (R : zad) (x0 x1 x2 x3 : Value) (H0 : Hp) : zdE R x0 x1 x2 x3 H0 =
pBin PP .eql T.int x3 (.int .i64 0) fun v1 =>
 zaa v1 fun b2 => br b2
 (some ((.slice none 0 0), H0))
 (pBin PP .eql T.string x1 (.string ⟨#[]⟩) fun v3 =>
 zaa v3 fun b4 => br b4
 (zaf R F.a74 [x0, x3] H0 fun r5 H6 =>
 some (r5, H6))
 (zav (
 pBin PP .lss T.int x3 (.int .i64 0) fun v7 =>
 zaa v7 fun b8 => br b8
 (zaf R F.a41 [x0, x1] H0 fun r9 H10 =>
 pBin PP .add T.int r9 (.int .i64 1) fun v11 =>
 some (.next, [v11], H10))
 (some (.next, [x3], H0))) fun q12 l13 H14 => zaL q12
 (pLen .str x0 H14 fun v16 =>
 pBin PP .add T.int v16 (.int .i64 1) fun v17 =>
 pMM false [(l13.getD 0 undef), v17] fun v18 =>
 zaZ 1 16 [.string ⟨#[]⟩] v18 v18 H14 fun v19 H20 =>
 pBin PP .sub T.int v18 (.int .i64 1) fun v21 =>
 zav (zat (za7 R x1 x2 v19 v21) [x0, (.int .i64 0)] H20) fun q38 l39 H40 => zaL q38 none
 (fun i41 => zay i41 0 (
 pIdx 1 v19 (l39.getD 1 undef) fun p42 =>
 zar 1 H40 p42 (l39.getD 0 undef) fun H43 =>
 pBin PP .add T.int (l39.getD 1 undef) (.int .i64 1) fun v44 =>
 zch 1 v19 none (some v44) fun v45 =>
 some (v45, H43)) (
 none))
 (some ((l39.headD undef), H40)))
 (fun i15 => none)
 (some ((l13.headD undef), H14)))) := by kernel_rfl
noncomputable def zbb (R : zad) (l11 : List Value) (H12 : Hp) : Option Outc :=
 br (Nat.blt (zaU ((l11.drop 0).getD 0 undef)) (za2 ((l11.drop 0).getD 0 undef)).size)
 (pBin PP .eql T.int32 (.int .i32 (Utf8.decode (za2 ((l11.drop 0).getD 0 undef)) (zaU ((l11.drop 0).getD 0 undef))).1) (.int .i32 95) fun v13 =>
 zaa v13 fun b14 => br b14
 (some (.ret, [(.tuple #[(.int .u64 0), (.int .i64 10)])], H12))
 (pBin PP .eql T.int32 (.int .i32 (Utf8.decode (za2 ((l11.drop 0).getD 0 undef)) (zaU ((l11.drop 0).getD 0 undef))).1) (.int .i32 43) fun v15 =>
 zaa v15 fun b16 => br b16
 (some (.ret, [(.tuple #[(.int .u64 0), (.int .i64 10)])], H12))
 (pBin PP .eql T.int32 (.int .i32 (Utf8.decode (za2 ((l11.drop 0).getD 0 undef)) (zaU ((l11.drop 0).getD 0 undef))).1) (.int .i32 45) fun v17 =>
 zaa v17 fun b18 => br b18
 (some (.ret, [(.tuple #[(.int .u64 0), (.int .i64 10)])], H12))
 (some (.next, [(.tuple #[.string (za2 ((l11.drop 0).getD 0 undef)), .int .i64 (((zaU ((l11.drop 0).getD 0 undef)) + (Utf8.decode (za2 ((l11.drop 0).getD 0 undef)) (zaU ((l11.drop 0).getD 0 undef))).2) : Nat)])], H12)))))
 (some (.exit 0, [(.tuple #[.string (za2 ((l11.drop 0).getD 0 undef)), .int .i64 ((zaU ((l11.drop 0).getD 0 undef)) : Nat)])], H12))
theorem zkv (R : zad) (x0 : Value) (H0 : Hp) : zf7 R x0 H0 =
zaf R F.a62 [x0, (.string ⟨#[48, 120]⟩)] H0 fun r1 H2 =>
 zae r1 0 fun v3 =>
 zae r1 1 fun v4 =>
 zav (
 zaa v4 fun b5 => br b5
 (some (.next, [(.int .i64 16)], H2))
 (some (.next, [(.int .i64 10)], H2))) fun q6 l7 H8 => zaL q6
 (ziV v3 fun s10 =>
 zav (zat (zbb R) [(.tuple #[.string s10, .int .i64 (0 : Nat)])] H8) fun q19 l20 H21 => zaL q19 none
 (fun i22 => zay i22 0 (
 zaf R F.a40 [v3, (l7.getD 0 undef), (.int .i64 64)] H21 fun r23 H24 =>
 zae r23 0 fun v25 =>
 zae r23 1 fun v26 =>
 zep PP .neq T.error v26 fun v27 =>
 zaa v27 fun b28 => br b28
 (some ((.tuple #[(.int .u64 0), (.int .i64 10)]), H24))
 (some ((.tuple #[v25, (.int .i64 0)]), H24))) (
 none))
 (some ((l20.headD undef), H21)))
 (fun i9 => none)
 (some ((l7.headD undef), H8)) := by kernel_rfl
noncomputable def zaE (R : zad) (x0 : Value) (v3 : Value) (r1 : Value) (l4 : List Value) (H5 : Hp) : Option Outc :=
 pBin PP .lss T.int (l4.getD 1 undef) v3 fun v6 =>
 zaa v6 fun b7 => br b7
 (pIdx 1 r1 (l4.getD 1 undef) fun p8 =>
 zal 1 false H5 p8 fun v9 =>
 pBin PP .gtr T.int (l4.getD 1 undef) (.int .i64 0) fun v10 =>
 zaa v10 fun b11 => br b11
 (pBin PP .eql T.string v9 x0 fun v12 =>
 zaa v12 fun b13 => br b13
 (some (.ret, [(W1 (l4.getD 1 undef))], H5))
 (pBin PP .add T.int (l4.getD 1 undef) (.int .i64 1) fun v14 =>
 some (.next, [(l4.getD 0 undef), v14], H5)))
 (pBin PP .add T.int (l4.getD 1 undef) (.int .i64 1) fun v15 =>
 some (.next, [(l4.getD 0 undef), v15], H5)))
 (some (.exit 0, [(l4.getD 0 undef), (l4.getD 1 undef)], H5))
theorem zhc (R : zad) (x0 : Value) (H0 : Hp) : zeq R x0 H0 =
zaf R F.a65 [] H0 fun r1 H2 =>
 pLen .sl r1 H2 fun v3 =>
 zav (zat (zaE R x0 v3 r1) [(.int .i64 0), (.int .i64 0)] H2) fun q16 l17 H18 => zaL q16 none
 (fun i19 => zay i19 0 (
 zaG PP T.term_fault [(0, (.int .i64 3))] fun v20 =>
 some ((W0 (.iface T.term_fault v20)), H18)) (
 none))
 (some ((l17.headD undef), H18)) := by kernel_rfl
noncomputable def zaB (R : zad) (v3 : Value) (v81 : Value) (v82 : Value) (v84 : Value) (l55 : List Value) (l76 : List Value) (l85 : List Value) (H86 : Hp) : Option Outc :=
 pBin PP .lss T.int (l85.getD 2 undef) v84 fun v87 =>
 zaa v87 fun b88 => br b88
 (pIdx 1 v82 (l85.getD 2 undef) fun p89 =>
 zal 1 false H86 p89 fun v90 =>
 zav (
 zav (
 pBin PP .eql T.uint8 v90 (.int .u8 95) fun v91 =>
 zaa v91 fun b92 => br b92
 (some (.next, [v3], H86))
 (some (.next, [(.bool false)], H86))) fun q93 l94 H95 => zaL q93
 (zaa (l94.getD 0 undef) fun b97 => br b97
 (some (.exit 4, [(.bool true), (.int .u8 0)], H95))
 (pBin PP .leq T.uint8 (.int .u8 48) v90 fun v98 =>
 zaa v98 fun b99 => br b99
 (pBin PP .leq T.uint8 v90 (.int .u8 57) fun v100 =>
 zaa v100 fun b101 => br b101
 (pBin PP .sub T.uint8 v90 (.int .u8 48) fun v102 =>
 some (.next, [(l85.getD 0 undef), v102], H95))
 (zaf R F.a6 [v90] H95 fun r103 H104 =>
 pBin PP .leq T.uint8 (.int .u8 97) r103 fun v105 =>
 zaa v105 fun b106 => br b106
 (zaf R F.a6 [v90] H104 fun r107 H108 =>
 pBin PP .leq T.uint8 r107 (.int .u8 122) fun v109 =>
 zaa v109 fun b110 => br b110
 (zaf R F.a6 [v90] H108 fun r111 H112 =>
 pBin PP .sub T.uint8 r111 (.int .u8 97) fun v113 =>
 pBin PP .add T.uint8 v113 (.int .u8 10) fun v114 =>
 some (.next, [(l85.getD 0 undef), v114], H112))
 (some (.ret, [(.tuple #[(.int .u64 0), (.iface T.strconv_Error (.int .i64 2))])], H108)))
 (some (.ret, [(.tuple #[(.int .u64 0), (.iface T.strconv_Error (.int .i64 2))])], H104))))
 (zaf R F.a6 [v90] H95 fun r115 H116 =>
 pBin PP .leq T.uint8 (.int .u8 97) r115 fun v117 =>
 zaa v117 fun b118 => br b118
 (zaf R F.a6 [v90] H116 fun r119 H120 =>
 pBin PP .leq T.uint8 r119 (.int .u8 122) fun v121 =>
 zaa v121 fun b122 => br b122
 (zaf R F.a6 [v90] H120 fun r123 H124 =>
 pBin PP .sub T.uint8 r123 (.int .u8 97) fun v125 =>
 pBin PP .add T.uint8 v125 (.int .u8 10) fun v126 =>
 some (.next, [(l85.getD 0 undef), v126], H124))
 (some (.ret, [(.tuple #[(.int .u64 0), (.iface T.strconv_Error (.int .i64 2))])], H120)))
 (some (.ret, [(.tuple #[(.int .u64 0), (.iface T.strconv_Error (.int .i64 2))])], H116)))))
 (fun i96 => zay i96 5 (
 some (.next, [(l85.getD 0 undef), (.int .u8 0)], H95)) (
 some (.exit i96, [(l85.getD 0 undef), (.int .u8 0)], H95)))
 (some (.ret, [(l94.headD undef)], H95))) fun q127 l128 H129 => zaL q127
 (zan .u8 (l55.getD 1 undef) fun v131 =>
 pBin PP .geq T.uint8 (l128.getD 1 undef) v131 fun v132 =>
 zaa v132 fun b133 => br b133
 (some (.ret, [(.tuple #[(.int .u64 0), (.iface T.strconv_Error (.int .i64 2))])], H129))
 (pBin PP .geq T.uint64 (l85.getD 1 undef) (l76.getD 0 undef) fun v134 =>
 zaa v134 fun b135 => br b135
 (some (.ret, [(.tuple #[v81, (.iface T.strconv_Error (.int .i64 1))])], H129))
 (zan .u64 (l55.getD 1 undef) fun v136 =>
 pBin PP .mul T.uint64 (l85.getD 1 undef) v136 fun v137 =>
 zan .u64 (l128.getD 1 undef) fun v138 =>
 pBin PP .add T.uint64 v137 v138 fun v139 =>
 pBin PP .lss T.uint64 v139 v137 fun v140 =>
 zaa v140 fun b141 => br b141
 (some (.ret, [(.tuple #[v81, (.iface T.strconv_Error (.int .i64 1))])], H129))
 (pBin PP .gtr T.uint64 v139 v81 fun v142 =>
 zaa v142 fun b143 => br b143
 (some (.ret, [(.tuple #[v81, (.iface T.strconv_Error (.int .i64 1))])], H129))
 (pBin PP .add T.int (l85.getD 2 undef) (.int .i64 1) fun v144 =>
 some (.next, [(l128.getD 0 undef), v139, v144], H129))))))
 (fun i130 => zay i130 4 (
 pBin PP .add T.int (l85.getD 2 undef) (.int .i64 1) fun v145 =>
 some (.next, [(l128.getD 0 undef), (l85.getD 1 undef), v145], H129)) (
 some (.exit i130, [(l128.getD 0 undef), (l85.getD 1 undef), (l85.getD 2 undef)], H129)))
 (some (.ret, [(l128.headD undef)], H129)))
 (some (.exit 3, [(l85.getD 0 undef), (l85.getD 1 undef), (l85.getD 2 undef)], H86))
theorem zbS (R : zad) (x0 x1 x2 : Value) (H0 : Hp) : zbR R x0 x1 x2 H0 =
pBin PP .eql T.string x0 (.string ⟨#[]⟩) fun v1 =>
 zaa v1 fun b2 => br b2
 (some ((.tuple #[(.int .u64 0), (.iface T.strconv_Error (.int .i64 2))]), H0))
 (pBin PP .eql T.int x1 (.int .i64 0) fun v3 =>
 zav (
 zav (
 pBin PP .leq T.int (.int .i64 2) x1 fun v4 =>
 zaa v4 fun b5 => br b5
 (pBin PP .leq T.int x1 (.int .i64 36) fun v6 =>
 some (.next, [v6], H0))
 (some (.next, [(.bool false)], H0))) fun q7 l8 H9 => zaL q7
 (zaa (l8.getD 0 undef) fun b11 => br b11
 (some (.next, [x0, x1], H9))
 (pBin PP .eql T.int x1 (.int .i64 0) fun v12 =>
 zaa v12 fun b13 => br b13
 (zci x0 (.int .i64 0) fun v14 =>
 pBin PP .eql T.uint8 v14 (.int .u8 48) fun v15 =>
 zaa v15 fun b16 => br b16
 (zav (
 pLen .str x0 H9 fun v17 =>
 pBin PP .geq T.int v17 (.int .i64 3) fun v18 =>
 zaa v18 fun b19 => br b19
 (zci x0 (.int .i64 1) fun v20 =>
 zaf R F.a6 [v20] H9 fun r21 H22 =>
 pBin PP .eql T.uint8 r21 (.int .u8 98) fun v23 =>
 some (.next, [v23], H22))
 (some (.next, [(.bool false)], H9))) fun q24 l25 H26 => zaL q24
 (zaa (l25.getD 0 undef) fun b28 => br b28
 (za9 x0 (some (.int .i64 2)) none fun v29 =>
 some (.next, [v29, (.int .i64 2)], H26))
 (zav (
 pLen .str x0 H26 fun v30 =>
 pBin PP .geq T.int v30 (.int .i64 3) fun v31 =>
 zaa v31 fun b32 => br b32
 (zci x0 (.int .i64 1) fun v33 =>
 zaf R F.a6 [v33] H26 fun r34 H35 =>
 pBin PP .eql T.uint8 r34 (.int .u8 111) fun v36 =>
 some (.next, [v36], H35))
 (some (.next, [(.bool false)], H26))) fun q37 l38 H39 => zaL q37
 (zaa (l38.getD 0 undef) fun b41 => br b41
 (za9 x0 (some (.int .i64 2)) none fun v42 =>
 some (.next, [v42, (.int .i64 8)], H39))
 (pLen .str x0 H39 fun v43 =>
 pBin PP .geq T.int v43 (.int .i64 3) fun v44 =>
 zaa v44 fun b45 => br b45
 (zci x0 (.int .i64 1) fun v46 =>
 zaf R F.a6 [v46] H39 fun r47 H48 =>
 pBin PP .eql T.uint8 r47 (.int .u8 120) fun v49 =>
 zaa v49 fun b50 => br b50
 (za9 x0 (some (.int .i64 2)) none fun v51 =>
 some (.next, [v51, (.int .i64 16)], H48))
 (za9 x0 (some (.int .i64 1)) none fun v52 =>
 some (.next, [v52, (.int .i64 8)], H48)))
 (za9 x0 (some (.int .i64 1)) none fun v53 =>
 some (.next, [v53, (.int .i64 8)], H39))))
 (fun i40 => zay i40 1 (
 some (.next, [x0, (.int .i64 10)], H39)) (
 zay i40 0 (
 some (.next, [x0, (.int .i64 10)], H39)) (
 some (.exit i40, [x0, (.int .i64 10)], H39))))
 (some (.ret, [(l38.headD undef)], H39))))
 (fun i27 => zay i27 1 (
 some (.next, [x0, (.int .i64 10)], H26)) (
 zay i27 0 (
 some (.next, [x0, (.int .i64 10)], H26)) (
 some (.exit i27, [x0, (.int .i64 10)], H26))))
 (some (.ret, [(l25.headD undef)], H26)))
 (some (.next, [x0, (.int .i64 10)], H9)))
 (some (.ret, [(.tuple #[(.int .u64 0), (.iface T.strconv_Error (.int .i64 3))])], H9))))
 (fun i10 => zay i10 0 (
 some (.next, [x0, x1], H9)) (
 some (.exit i10, [x0, x1], H9)))
 (some (.ret, [(l8.headD undef)], H9))) fun q54 l55 H56 => zaL q54
 (zav (
 pBin PP .eql T.int x2 (.int .i64 0) fun v58 =>
 zaa v58 fun b59 => br b59
 (some (.next, [(.int .i64 64)], H56))
 (pBin PP .lss T.int x2 (.int .i64 0) fun v60 =>
 zaa v60 fun b61 => br b61
 (some (.ret, [(.tuple #[(.int .u64 0), (.iface T.strconv_Error (.int .i64 4))])], H56))
 (pBin PP .gtr T.int x2 (.int .i64 64) fun v62 =>
 zaa v62 fun b63 => br b63
 (some (.ret, [(.tuple #[(.int .u64 0), (.iface T.strconv_Error (.int .i64 4))])], H56))
 (some (.next, [x2], H56))))) fun q64 l65 H66 => zaL q64
 (zav (
 pBin PP .eql T.int (l55.getD 1 undef) (.int .i64 10) fun v68 =>
 zaa v68 fun b69 => br b69
 (some (.next, [(.int .u64 1844674407370955162)], H66))
 (pBin PP .eql T.int (l55.getD 1 undef) (.int .i64 16) fun v70 =>
 zaa v70 fun b71 => br b71
 (some (.next, [(.int .u64 1152921504606846976)], H66))
 (zan .u64 (l55.getD 1 undef) fun v72 =>
 pBin PP .quo T.uint64 (.int .u64 18446744073709551615) v72 fun v73 =>
 pBin PP .add T.uint64 v73 (.int .u64 1) fun v74 =>
 some (.next, [v74], H66)))) fun q75 l76 H77 => zaL q75
 (zan .u64 (l65.getD 0 undef) fun v79 =>
 pBin PP .shl T.uint64 (.int .u64 1) v79 fun v80 =>
 pBin PP .sub T.uint64 v80 (.int .u64 1) fun v81 =>
 zc3 (l55.getD 0 undef) H77 fun v82 H83 =>
 pLen .sl v82 H83 fun v84 =>
 zav (zat (zaB R v3 v81 v82 v84 l55 l76) [(.bool false), (.int .u64 0), (.int .i64 0)] H83) fun q146 l147 H148 => zaL q146 none
 (fun i149 => zay i149 3 (
 zaa (l147.getD 0 undef) fun b150 => br b150
 (zaf R F.a68 [x0] H148 fun r151 H152 =>
 pUn .not r151 fun v153 =>
 zaa v153 fun b154 => br b154
 (some ((.tuple #[(.int .u64 0), (.iface T.strconv_Error (.int .i64 2))]), H152))
 (some ((.tuple #[(l147.getD 1 undef), .nilIface]), H152)))
 (some ((.tuple #[(l147.getD 1 undef), .nilIface]), H148))) (
 none))
 (some ((l147.headD undef), H148)))
 (fun i78 => none)
 (some ((l76.headD undef), H77)))
 (fun i67 => none)
 (some ((l65.headD undef), H66)))
 (fun i57 => none)
 (some ((l55.headD undef), H56))) := by kernel_rfl
end Go.AM
namespace Go.AM
open Go
def HS (P : Program) (F : Nat → Option AObj) : Hp := ⟨P.globals.size, fun i => if i < P.globals.size then F i else none, fun _ => none⟩
def isInt : Value → Bool
  | .int _ _ => true
  | _ => false
theorem isInt_rel {β : Bt} {v : Value} (h : isInt v = true) : VRel β v v := by
  unfold isInt at h
  split at h
  · exact .int _ _
  · cases h
theorem relStart {P : Program} {W : World} (h : P.globals.size ≤ W.heap.size) {F : Nat → Option AObj}
    (hF : ∀ i o, F i = some o → (∃ q, o = .fix q ∧ W.heap[i]? = some q) ∨ (∃ cs, o = .cells cs false ∧ ∀ (j : Nat) v, cs[j]? = some v → isInt v = true ∧ W.cell? ⟨i, j, none⟩ = some v)) :
    Rel P W (HS P F) (B00 P) ∧ (∀ i o, (HS P F).get i = some o → o.own = false) := by
  have key : ∀ i o, (HS P F).get i = some o → i < P.globals.size ∧ F i = some o := fun i o hi => by
    have hi : (if i < P.globals.size then F i else none) = some o := hi
    split at hi
    · exact ⟨by assumption, hi⟩
    · cases hi
  have hno : ∀ i o, (HS P F).get i = some o → o.own = false := fun i o hi => by
    rcases hF i o (key i o hi).2 with ⟨q, rfl, _⟩ | ⟨cs, rfl, _⟩ <;> rfl
  refine ⟨⟨fun i cs own hi => ?_, fun i kv hi => ?_, fun i j o o' x y _ hi _ ho => ?_, fun i hi => ⟨?_, by unfold B00; rw [if_neg (by have : P.globals.size ≤ i := hi; omega)]⟩,
    fun i x hx => (by unfold B00 at hx; split at hx <;> cases hx; show i < _; omega), fun g hg => ⟨0, by unfold B00; rw [if_pos hg]⟩, fun i o hi => ?_, fun i T hi => (by cases hi)⟩, hno⟩
  · obtain ⟨h1, h2⟩ := key i _ hi
    rcases hF i _ h2 with ⟨q, e, _⟩ | ⟨cs', e, hc⟩
    · cases e
    · cases e
      refine ⟨⟨i, 0, 0⟩, by unfold B00; rw [if_pos h1], fun j v hv => ?_, fun q => by cases q⟩
      obtain ⟨c1, c2⟩ := hc j v hv
      exact ⟨v, by rw [Nat.zero_add]; exact c2, isInt_rel c1⟩
  · obtain ⟨h1, h2⟩ := key i _ hi
    rcases hF i _ h2 with ⟨q, e, _⟩ | ⟨cs', e, hc⟩ <;> cases e
  · rw [hno i o hi] at ho; cases ho
  · show (if i < P.globals.size then F i else none) = none
    have : P.globals.size ≤ i := hi
    rw [if_neg (by omega)]
  · obtain ⟨h1, h2⟩ := key i _ hi
    rcases hF i _ h2 with ⟨q, e, hq⟩ | ⟨cs', e, hc⟩
    · cases e
      exact ⟨⟨i, 0, 0⟩, by unfold B00; rw [if_pos h1], rfl, hq⟩
    · cases e
end Go.AM
namespace Go.Proofs
open Go.Shelf
def Tryz.laysM246_ren : Go.Shelf.Ren := ⟨fun | 246 => 131 | 283 => 150 | 284 => 151 | 285 => 152 | 286 => 153 | 129 => 164 | 317 => 163 | 318 => 165 | 319 => 166 | 320 => 167 | 337 => 182 | 338 => 183 | n => n, fun | 2 => 2 | 3 => 3 | 9 => 9 | 4 => 4 | 171 => 223 | 0 => 0 | 53 => 38 | 37 => 119 | 5 => 5 | 173 => 225 | 212 => 235 | 51 => 207 | 20 => 20 | 213 => 236 | 46 => 63 | 232 => 265 | 233 => 266 | n => n, fun | 17 => 3 | 18 => 9 | 19 => 10 | n => n⟩
theorem Tryz.laysM246 : Go.Proofs.LaysM.n246 Tryz.prog Tryz.laysM246_ren := {
  mixed := by kernel_rfl
  f129 := Tryz.func164.trans (congrArg some (by kernel_rfl))
  f246 := Tryz.func131.trans (congrArg some (by kernel_rfl))
  f283 := Tryz.func150.trans (congrArg some (by kernel_rfl))
  f284 := Tryz.func151.trans (congrArg some (by kernel_rfl))
  f285 := Tryz.func152.trans (congrArg some (by kernel_rfl))
  f286 := Tryz.func153.trans (congrArg some (by kernel_rfl))
  f317 := Tryz.func163.trans (congrArg some (by kernel_rfl))
  f318 := Tryz.func165.trans (congrArg some (by kernel_rfl))
  f319 := Tryz.func166.trans (congrArg some (by kernel_rfl))
  f320 := Tryz.func167.trans (congrArg some (by kernel_rfl))
  f337 := Tryz.func182.trans (congrArg some (by kernel_rfl))
  f338 := Tryz.func183.trans (congrArg some (by kernel_rfl))
  t0 := Tryz.underlying0
  a0 := Tryz.isAgg0
  z0 := Tryz.sizeOf0
  v0 := Tryz.zeroValue0
  t2 := Tryz.underlying2
  a2 := Tryz.isAgg2
  z2 := Tryz.sizeOf2
  v2 := Tryz.zeroValue2
  t3 := Tryz.underlying3
  a3 := Tryz.isAgg3
  z3 := Tryz.sizeOf3
  v3 := Tryz.zeroValue3
  t4 := Tryz.underlying4
  a4 := Tryz.isAgg4
  z4 := Tryz.sizeOf4
  v4 := Tryz.zeroValue4
  t5 := Tryz.underlying5
  a5 := Tryz.isAgg5
  z5 := Tryz.sizeOf5
  v5 := Tryz.zeroValue5
  t9 := Tryz.underlying9
  a9 := Tryz.isAgg9
  z9 := Tryz.sizeOf9
  v9 := Tryz.zeroValue9
  t20 := Tryz.underlying20
  a20 := Tryz.isAgg20
  z20 := Tryz.sizeOf20
  v20 := Tryz.zeroValue20
  t37 := Tryz.underlying119
  a37 := Tryz.isAgg119
  z37 := Tryz.sizeOf119
  v37 := Tryz.zeroValue119
  t46 := Tryz.underlying63
  a46 := Tryz.isAgg63
  z46 := Tryz.sizeOf63
  v46 := Tryz.zeroValue63
  t51 := Tryz.underlying207
  a51 := Tryz.isAgg207
  z51 := Tryz.sizeOf207
  v51 := Tryz.zeroValue207
  t53 := Tryz.underlying38
  a53 := Tryz.isAgg38
  z53 := Tryz.sizeOf38
  v53 := Tryz.zeroValue38
  t171 := Tryz.underlying223
  a171 := Tryz.isAgg223
  z171 := Tryz.sizeOf223
  v171 := Tryz.zeroValue223
  t173 := Tryz.underlying225
  a173 := Tryz.isAgg225
  z173 := Tryz.sizeOf225
  v173 := Tryz.zeroValue225
  t212 := Tryz.underlying235
  a212 := Tryz.isAgg235
  z212 := Tryz.sizeOf235
  v212 := Tryz.zeroValue235
  t213 := Tryz.underlying236
  a213 := Tryz.isAgg236
  z213 := Tryz.sizeOf236
  t232 := Tryz.underlying265
  a232 := Tryz.isAgg265
  z232 := Tryz.sizeOf265
  v232 := Tryz.zeroValue265
  t233 := Tryz.underlying266
  a233 := Tryz.isAgg266
  z233 := Tryz.sizeOf266
  v233 := Tryz.zeroValue266
  g17 := by kernel_rfl
  g18 := by kernel_rfl
  g19 := by kernel_rfl
  i0 := by kernel_rfl
  i2 := by kernel_rfl
  i3 := by kernel_rfl
  i4 := by kernel_rfl
  i5 := by kernel_rfl
  i9 := by kernel_rfl
  i20 := by kernel_rfl
  i37 := by kernel_rfl
  i46 := by kernel_rfl
  i51 := by kernel_rfl
  i53 := by kernel_rfl
  i171 := by kernel_rfl
  i173 := by kernel_rfl
  i212 := by kernel_rfl
  i232 := by kernel_rfl
  i233 := by kernel_rfl
  m17 := by kernel_rfl
  m18 := by kernel_rfl
  m19 := by kernel_rfl }
open Go.RowKit Go.Sort Go.Lib in
theorem Tryz.internal_strconv_FormatInt_10 (n : Int) (h0 : -9223372036854775808 ≤ n) (h1 : n ≤ 9223372036854775807) (w : World) (htab : Lib.TabIs Tryz.prog w "internal/strconv.uint64pow10" .u64 Lib.pow10Tab) :
    Calls Tryz.prog 131 #[.int .i64 n, .int .i64 10] w fun e w' => e = .returned (.string ⟨(Lib.itoa n).toArray⟩) ∧ ∃ k os, w' = grow (w.drewN k) os := Any.internal_strconv_FormatInt_10 Tryz.laysM246 n h0 h1 w htab
def Tryz.laysC245_ren : Go.Shelf.Ren := ⟨fun | 245 => 161 | 279 => 178 | 280 => 179 | 281 => 180 | 282 => 181 | 316 => 186 | 171 => 59 | 205 => 187 | 243 => 98 | 246 => 131 | 283 => 150 | 284 => 151 | 285 => 152 | 286 => 153 | 129 => 164 | 317 => 163 | 318 => 165 | 319 => 166 | 320 => 167 | 337 => 182 | 338 => 183 | n => n, fun | 9 => 9 | 3 => 3 | 75 => 114 | 167 => 249 | 4 => 4 | 168 => 251 | 210 => 263 | 37 => 119 | 0 => 0 | 127 => 171 | 145 => 269 | 143 => 267 | 2 => 2 | 171 => 223 | 53 => 38 | 5 => 5 | 173 => 225 | 212 => 235 | 51 => 207 | 20 => 20 | 213 => 236 | 46 => 63 | 232 => 265 | 233 => 266 | 80 => 128 | n => n, fun | 15 => 7 | 16 => 8 | 17 => 3 | 18 => 9 | 19 => 10 | n => n⟩
theorem Tryz.laysC245 : Go.Proofs.LaysC.n245 Tryz.prog Tryz.laysC245_ren := {
  mixed := by kernel_rfl
  f129 := Tryz.func164.trans (congrArg some (by kernel_rfl))
  f171 := Tryz.func59.trans (congrArg some (by kernel_rfl))
  f205 := Tryz.func187.trans (congrArg some (by kernel_rfl))
  f243 := Tryz.func98.trans (congrArg some (by kernel_rfl))
  f245 := Tryz.func161.trans (congrArg some (by kernel_rfl))
  f246 := Tryz.func131.trans (congrArg some (by kernel_rfl))
  f279 := Tryz.func178.trans (congrArg some (by kernel_rfl))
  f280 := Tryz.func179.trans (congrArg some (by kernel_rfl))
  f281 := Tryz.func180.trans (congrArg some (by kernel_rfl))
  f282 := Tryz.func181.trans (congrArg some (by kernel_rfl))
  f283 := Tryz.func150.trans (congrArg some (by kernel_rfl))
  f284 := Tryz.func151.trans (congrArg some (by kernel_rfl))
  f285 := Tryz.func152.trans (congrArg some (by kernel_rfl))
  f286 := Tryz.func153.trans (congrArg some (by kernel_rfl))
  f316 := Tryz.func186.trans (congrArg some (by kernel_rfl))
  f317 := Tryz.func163.trans (congrArg some (by kernel_rfl))
  f318 := Tryz.func165.trans (congrArg some (by kernel_rfl))
  f319 := Tryz.func166.trans (congrArg some (by kernel_rfl))
  f320 := Tryz.func167.trans (congrArg some (by kernel_rfl))
  f337 := Tryz.func182.trans (congrArg some (by kernel_rfl))
  f338 := Tryz.func183.trans (congrArg some (by kernel_rfl))
  t0 := Tryz.underlying0
  a0 := Tryz.isAgg0
  z0 := Tryz.sizeOf0
  v0 := Tryz.zeroValue0
  t2 := Tryz.underlying2
  a2 := Tryz.isAgg2
  z2 := Tryz.sizeOf2
  v2 := Tryz.zeroValue2
  t3 := Tryz.underlying3
  a3 := Tryz.isAgg3
  z3 := Tryz.sizeOf3
  v3 := Tryz.zeroValue3
  t4 := Tryz.underlying4
  a4 := Tryz.isAgg4
  z4 := Tryz.sizeOf4
  v4 := Tryz.zeroValue4
  t5 := Tryz.underlying5
  a5 := Tryz.isAgg5
  z5 := Tryz.sizeOf5
  v5 := Tryz.zeroValue5
  t9 := Tryz.underlying9
  a9 := Tryz.isAgg9
  z9 := Tryz.sizeOf9
  v9 := Tryz.zeroValue9
  t20 := Tryz.underlying20
  a20 := Tryz.isAgg20
  z20 := Tryz.sizeOf20
  v20 := Tryz.zeroValue20
  t37 := Tryz.underlying119
  a37 := Tryz.isAgg119
  z37 := Tryz.sizeOf119
  v37 := Tryz.zeroValue119
  t46 := Tryz.underlying63
  a46 := Tryz.isAgg63
  z46 := Tryz.sizeOf63
  v46 := Tryz.zeroValue63
  t51 := Tryz.underlying207
  a51 := Tryz.isAgg207
  z51 := Tryz.sizeOf207
  v51 := Tryz.zeroValue207
  t53 := Tryz.underlying38
  a53 := Tryz.isAgg38
  z53 := Tryz.sizeOf38
  v53 := Tryz.zeroValue38
  t75 := Tryz.underlying114
  a75 := Tryz.isAgg114
  z75 := Tryz.sizeOf114
  v75 := Tryz.zeroValue114
  t127 := Tryz.underlying171
  a127 := Tryz.isAgg171
  z127 := Tryz.sizeOf171
  v127 := Tryz.zeroValue171
  t143 := Tryz.underlying267
  a143 := Tryz.isAgg267
  z143 := Tryz.sizeOf267
  v143 := Tryz.zeroValue267
  t145 := Tryz.underlying269
  a145 := Tryz.isAgg269
  z145 := Tryz.sizeOf269
  v145 := Tryz.zeroValue269
  t167 := Tryz.underlying249
  a167 := Tryz.isAgg249
  z167 := Tryz.sizeOf249
  v167 := Tryz.zeroValue249
  t168 := Tryz.underlying251
  a168 := Tryz.isAgg251
  z168 := Tryz.sizeOf251
  v168 := Tryz.zeroValue251
  t171 := Tryz.underlying223
  a171 := Tryz.isAgg223
  z171 := Tryz.sizeOf223
  v171 := Tryz.zeroValue223
  t173 := Tryz.underlying225
  a173 := Tryz.isAgg225
  z173 := Tryz.sizeOf225
  v173 := Tryz.zeroValue225
  t210 := Tryz.underlying263
  a210 := Tryz.isAgg263
  z210 := Tryz.sizeOf263
  v210 := Tryz.zeroValue263
  t212 := Tryz.underlying235
  a212 := Tryz.isAgg235
  z212 := Tryz.sizeOf235
  v212 := Tryz.zeroValue235
  t213 := Tryz.underlying236
  a213 := Tryz.isAgg236
  z213 := Tryz.sizeOf236
  t232 := Tryz.underlying265
  a232 := Tryz.isAgg265
  z232 := Tryz.sizeOf265
  v232 := Tryz.zeroValue265
  t233 := Tryz.underlying266
  a233 := Tryz.isAgg266
  z233 := Tryz.sizeOf266
  v233 := Tryz.zeroValue266
  g15 := by kernel_rfl
  g16 := by kernel_rfl
  g17 := by kernel_rfl
  g18 := by kernel_rfl
  g19 := by kernel_rfl
  t80 := Tryz.underlying128
  a80 := Tryz.isAgg128
  z80 := Tryz.sizeOf128
  v80 := Tryz.zeroValue128
  i0 := by kernel_rfl
  i2 := by kernel_rfl
  i3 := by kernel_rfl
  i4 := by kernel_rfl
  i5 := by kernel_rfl
  i9 := by kernel_rfl
  i20 := by kernel_rfl
  i37 := by kernel_rfl
  i46 := by kernel_rfl
  i51 := by kernel_rfl
  i53 := by kernel_rfl
  i75 := by kernel_rfl
  i80 := by kernel_rfl
  i127 := by kernel_rfl
  i143 := by kernel_rfl
  i145 := by kernel_rfl
  i167 := by kernel_rfl
  i168 := by kernel_rfl
  i171 := by kernel_rfl
  i173 := by kernel_rfl
  i210 := by kernel_rfl
  i212 := by kernel_rfl
  i232 := by kernel_rfl
  i233 := by kernel_rfl
  m15 := by kernel_rfl
  m16 := by kernel_rfl
  m17 := by kernel_rfl
  m18 := by kernel_rfl
  m19 := by kernel_rfl
  c0 := by kernel_rfl
  c2 := by kernel_rfl
  c3 := by kernel_rfl
  c4 := by kernel_rfl
  c5 := by kernel_rfl
  c9 := by kernel_rfl
  c20 := by kernel_rfl
  c37 := by kernel_rfl
  c46 := by kernel_rfl
  c51 := by kernel_rfl
  c53 := by kernel_rfl
  c75 := by kernel_rfl
  c80 := by kernel_rfl
  c127 := by kernel_rfl
  c143 := by kernel_rfl
  c145 := by kernel_rfl
  c167 := by kernel_rfl
  c168 := by kernel_rfl
  c171 := by kernel_rfl
  c173 := by kernel_rfl
  c210 := by kernel_rfl
  c212 := by kernel_rfl
  c213 := by kernel_rfl
  c232 := by kernel_rfl
  c233 := by kernel_rfl }
open Go.RowKit in
theorem Tryz.strconv_toError_syntax (fn s : ByteArray) (base bits : Int) (ev : Value) (w : World) (hlim : s.size ≤ 281474976710656) (hv : w.cell? ⟨7, 0, none⟩ = some ev) (hev : ev = .nilIface ∨ ∃ te pe, ev = .iface te pe) :
    Calls Tryz.prog 161 #[.string fn, .string s, .int .i64 base, .int .i64 bits, .iface 249 (.int .i64 2)] w fun e w' => ∃ N, e = .returned (.iface 251 (.pointer (some ⟨N, 0, none⟩))) ∧ w.heap.size ≤ N ∧ w'.heap[N]? = some (.cells #[.string fn, .string s, ev] 263 (0, 0)) ∧ Below w.heap.size w w' := Any.strconv_toError_syntax Tryz.laysC245 fn s base bits ev w hlim hv hev
open Go.RowKit in
theorem Tryz.strconv_toError_range (fn s : ByteArray) (base bits : Int) (ev : Value) (w : World) (hlim : s.size ≤ 281474976710656) (hv : w.cell? ⟨8, 0, none⟩ = some ev) (hev : ev = .nilIface ∨ ∃ te pe, ev = .iface te pe) :
    Calls Tryz.prog 161 #[.string fn, .string s, .int .i64 base, .int .i64 bits, .iface 249 (.int .i64 1)] w fun e w' => ∃ N, e = .returned (.iface 251 (.pointer (some ⟨N, 0, none⟩))) ∧ w.heap.size ≤ N ∧ w'.heap[N]? = some (.cells #[.string fn, .string s, ev] 263 (0, 0)) ∧ Below w.heap.size w w' := Any.strconv_toError_range Tryz.laysC245 fn s base bits ev w hlim hv hev
def Tryz.laysM157_ren : Go.Shelf.Ren := ⟨fun | 157 => 99 | 229 => 67 | 199 => 132 | 261 => 154 | 311 => 168 | 312 => 169 | n => n, fun | 9 => 9 | 31 => 69 | 3 => 3 | 5 => 5 | 4 => 4 | 119 => 196 | 0 => 0 | 40 => 136 | 152 => 173 | 21 => 21 | 154 => 175 | 51 => 207 | 141 => 228 | 196 => 240 | 193 => 237 | 198 => 243 | 49 => 241 | 194 => 238 | 201 => 246 | 226 => 254 | 46 => 63 | 227 => 255 | n => n, fun | 0 => 1 | 6 => 2 | n => n⟩
theorem Tryz.laysM157 : Go.Proofs.LaysM.n157 Tryz.prog Tryz.laysM157_ren := {
  mixed := by kernel_rfl
  f157 := Tryz.func99.trans (congrArg some (by kernel_rfl))
  f199 := Tryz.func132.trans (congrArg some (by kernel_rfl))
  f229 := Tryz.func67.trans (congrArg some (by kernel_rfl))
  f261 := Tryz.func154.trans (congrArg some (by kernel_rfl))
  f311 := Tryz.func168.trans (congrArg some (by kernel_rfl))
  f312 := Tryz.func169.trans (congrArg some (by kernel_rfl))
  t0 := Tryz.underlying0
  a0 := Tryz.isAgg0
  z0 := Tryz.sizeOf0
  v0 := Tryz.zeroValue0
  t3 := Tryz.underlying3
  a3 := Tryz.isAgg3
  z3 := Tryz.sizeOf3
  v3 := Tryz.zeroValue3
  t4 := Tryz.underlying4
  a4 := Tryz.isAgg4
  z4 := Tryz.sizeOf4
  v4 := Tryz.zeroValue4
  t5 := Tryz.underlying5
  a5 := Tryz.isAgg5
  z5 := Tryz.sizeOf5
  v5 := Tryz.zeroValue5
  t9 := Tryz.underlying9
  a9 := Tryz.isAgg9
  z9 := Tryz.sizeOf9
  v9 := Tryz.zeroValue9
  t21 := Tryz.underlying21
  a21 := Tryz.isAgg21
  z21 := Tryz.sizeOf21
  v21 := Tryz.zeroValue21
  t31 := Tryz.underlying69
  a31 := Tryz.isAgg69
  z31 := Tryz.sizeOf69
  v31 := Tryz.zeroValue69
  t40 := Tryz.underlying136
  a40 := Tryz.isAgg136
  z40 := Tryz.sizeOf136
  v40 := Tryz.zeroValue136
  t46 := Tryz.underlying63
  a46 := Tryz.isAgg63
  z46 := Tryz.sizeOf63
  v46 := Tryz.zeroValue63
  t49 := Tryz.underlying241
  a49 := Tryz.isAgg241
  z49 := Tryz.sizeOf241
  v49 := Tryz.zeroValue241
  t51 := Tryz.underlying207
  a51 := Tryz.isAgg207
  z51 := Tryz.sizeOf207
  v51 := Tryz.zeroValue207
  t119 := Tryz.underlying196
  a119 := Tryz.isAgg196
  z119 := Tryz.sizeOf196
  t141 := Tryz.underlying228
  a141 := Tryz.isAgg228
  z141 := Tryz.sizeOf228
  v141 := Tryz.zeroValue228
  t152 := Tryz.underlying173
  a152 := Tryz.isAgg173
  z152 := Tryz.sizeOf173
  v152 := Tryz.zeroValue173
  t154 := Tryz.underlying175
  a154 := Tryz.isAgg175
  z154 := Tryz.sizeOf175
  v154 := Tryz.zeroValue175
  t193 := Tryz.underlying237
  a193 := Tryz.isAgg237
  z193 := Tryz.sizeOf237
  v193 := Tryz.zeroValue237
  t194 := Tryz.underlying238
  a194 := Tryz.isAgg238
  z194 := Tryz.sizeOf238
  v194 := Tryz.zeroValue238
  t196 := Tryz.underlying240
  a196 := Tryz.isAgg240
  z196 := Tryz.sizeOf240
  v196 := Tryz.zeroValue240
  t198 := Tryz.underlying243
  a198 := Tryz.isAgg243
  z198 := Tryz.sizeOf243
  v198 := Tryz.zeroValue243
  t201 := Tryz.underlying246
  a201 := Tryz.isAgg246
  z201 := Tryz.sizeOf246
  v201 := Tryz.zeroValue246
  t226 := Tryz.underlying254
  a226 := Tryz.isAgg254
  z226 := Tryz.sizeOf254
  v226 := Tryz.zeroValue254
  t227 := Tryz.underlying255
  a227 := Tryz.isAgg255
  z227 := Tryz.sizeOf255
  v227 := Tryz.zeroValue255
  g0 := by kernel_rfl
  g6 := by kernel_rfl
  i0 := by kernel_rfl
  i3 := by kernel_rfl
  i4 := by kernel_rfl
  i5 := by kernel_rfl
  i9 := by kernel_rfl
  i21 := by kernel_rfl
  i31 := by kernel_rfl
  i40 := by kernel_rfl
  i46 := by kernel_rfl
  i49 := by kernel_rfl
  i51 := by kernel_rfl
  i141 := by kernel_rfl
  i152 := by kernel_rfl
  i154 := by kernel_rfl
  i193 := by kernel_rfl
  i194 := by kernel_rfl
  i196 := by kernel_rfl
  i198 := by kernel_rfl
  i201 := by kernel_rfl
  i226 := by kernel_rfl
  i227 := by kernel_rfl
  m0 := by kernel_rfl
  m6 := by kernel_rfl }
open Go.RowKit Go.Lib in
theorem Tryz.strings_Fields_laid (s : ByteArray) (w : World) (hs : s.size < 4294967281) (hascii : ∀ (j : Nat) b, s.data.toList[j]? = some b → b.toNat < 128) (htab : Lib.TabIs Tryz.prog w "strings.asciiSpace" .u8 Lib.asciiSpaceTab) :
    Calls Tryz.prog 99 #[.string s] w fun e w' =>
      e = .returned (.slice (some ⟨w.heap.size, 0, none⟩) (Lib.fields s.data.toList).length (Lib.fields s.data.toList).length) ∧ w' = w.alloc (.cells ((Lib.fields s.data.toList).map fun l => Value.string ⟨l.toArray⟩).toArray 9) := Any.strings_Fields_laid Tryz.laysM157 s w hs hascii htab
end Go.Proofs
namespace Go.AM
open Go
def zjY (k : IntKind) : List Value → List Int → Bool
  | [], [] => true
  | .int k' a :: r, b :: s => decide (k' = k) && decide (a = b) && zjY k r s
  | _, _ => false
theorem zne {k : IntKind} : ∀ (l : List Value) (s : List Int), zjY k l s = true → l = s.map fun z => Value.int k z
  | [], [], _ => rfl
  | [], _ :: _, h => by cases h
  | _ :: _, [], h => by unfold zjY at h; split at h <;> simp_all
  | v :: r, b :: s, h => by
    unfold zjY at h
    split at h
    · rename_i e1 e2; cases e1
    · rename_i k' a r' b' s' e1 e2
      cases e1; cases e2
      rw [Bool.and_eq_true, Bool.and_eq_true, decide_eq_true_eq, decide_eq_true_eq] at h
      rw [zne r s h.2, h.1.1, h.1.2]; rfl
    · cases h
def zox : List Int := Go.Lib.pow10Tab
def zi7 : List Int := Go.Lib.asciiSpaceTab
def extFmt (args : List Value) (H : Hp) : Option (Value × Hp) :=
  match args with
  | [.int .i64 n, .int .i64 10] => if -9223372036854775808 ≤ n ∧ n ≤ 9223372036854775807 then
      match H.get G.internal_strconv_uint64pow10 with
      | some (.fix (.cells cs _ _)) => match zjY .u64 cs.toList zox with
        | true => some (.string ⟨(Go.Lib.itoa n).toArray⟩, H)
        | false => none
      | _ => none
    else none
  | _ => none
def ziw (args : List Value) (H : Hp) : Option (Value × Hp) :=
  match args with
  | [.string s] => if s.size < 4294967281 ∧ s.data.toList.all (fun b => decide (b.toNat < 128)) = true then
      match H.get G.strings_asciiSpace with
      | some (.fix (.cells cs _ _)) => match zjY .u8 cs.toList zi7 with
        | true => some (.slice (some ⟨H.next, 0, some 1⟩) (Go.Lib.fields s.data.toList).length (Go.Lib.fields s.data.toList).length, H.new (.cells ((Go.Lib.fields s.data.toList).map fun l => Value.string ⟨l.toArray⟩) true))
        | false => none
      | _ => none
    else none
  | _ => none
def Hp.skip (H : Hp) : Hp := ⟨H.next + 1, H.get, H.ty⟩
def isErr : List Value → Bool
  | .iface _ _ :: _ => true
  | _ => false
def zlK (args : List Value) (H : Hp) : Option (Value × Hp) :=
  match args with
  | [.string fn, .string s, .int .i64 _, .int .i64 _, .iface t (.int .i64 c)] => if t = T.strconv_Error ∧ s.size ≤ 281474976710656 ∧ (c = 1 ∨ c = 2) then
      match H.get (if c = 2 then G.strconv_ErrSyntax else G.strconv_ErrRange) with
      | some (.fix (.cells cs _ _)) => match isErr cs.toList with
        | true => some (.iface T.p_strconv_NumError (.pointer (some ⟨H.next, 0, none⟩)), H.skip)
        | false => none
      | _ => none
    else none
  | _ => none
def E0 : FuncId → Option (List Value → Hp → Option (Value × Hp)) := fun f =>
  if f = F.a73 then some extFmt else if f = F.a42 then some ziw else if f = F.a70 then some extCC else if f = F.a69 then some extStr
  else if f = F.a27 then some zlK else none
noncomputable abbrev RR : zad := run PP orc E0
theorem zk2 {P : Program} {w w' : World} {H : Hp} {β : Bt} (h : Rel P w H β) (ho : w'.os = w.os) (ht : w'.tape = w.tape) (hu : w'.output = w.output) (hs : w.heap.size ≤ w'.heap.size) (hp : ∀ b, b < w.heap.size → w'.heap[b]? = w.heap[b]?) :
    Rel P w' H β ∧ Ext w.heap.size w H β w' H β :=
  ⟨h.frame hs fun i x hx => hp _ (h.lt i x hx), ho, ht, hu, hs, Bt.le_refl _, Nat.le_refl _, fun b hb _ => hp b hb, fun b q => .inr q, fun i x hx e => by rw [hx] at e; cases e⟩
theorem Rel.skip {P : Program} {w : World} {H : Hp} {β : Bt} (h : Rel P w H β) {b : Nat} (hb : b < w.heap.size) (t : Nat) : Rel P w H.skip (β.set H.next ⟨b, 0, t⟩) ∧ β.le (β.set H.next ⟨b, 0, t⟩) := by
  have hf := (h.fresh H.next (Nat.le_refl _)).2
  have hle : β.le (β.set H.next ⟨b, 0, t⟩) := Bt.le_set hf
  have old : ∀ {i o y}, H.get i = some o → (β.set H.next ⟨b, 0, t⟩) i = some y → β i = some y := fun {i o y} hi hy => by
    obtain ⟨z, hz⟩ := h.has i o hi
    rw [hle i z hz] at hy; cases hy; exact hz
  refine ⟨⟨fun i ds own hi => ?_, fun i kv hi => ?_, fun i j o o' x y hij hi hj ho hx hy => h.apart i j o o' x y hij hi hj ho (old hi hx) (old hj hy), fun i hi => ?_, fun i x hx => ?_, fun g hg => ?_, fun i o hi => ?_, fun i T hi => (h.tys i T hi).le hle⟩, hle⟩
  · obtain ⟨x, hx, h1, h2⟩ := h.cells i ds own hi
    exact ⟨x, hle i x hx, fun j v hv => by obtain ⟨v', h3, h4⟩ := h1 j v hv; exact ⟨v', h3, h4.mono hle⟩, h2⟩
  · obtain ⟨x, hx, es, clock, h1, h2, h3⟩ := h.maps i kv hi
    exact ⟨x, hle i x hx, es, clock, h1, h2.mono hle, h3⟩
  · have hi : H.next + 1 ≤ i := hi
    have := h.fresh i (by omega)
    exact ⟨this.1, by unfold Bt.set; rw [if_neg (by omega)]; exact this.2⟩
  · unfold Bt.set at hx
    split at hx
    · cases hx; exact hb
    · exact h.lt i x hx
  · obtain ⟨t', ht⟩ := h.glob g hg
    exact ⟨t', hle g _ ht⟩
  · obtain ⟨x, hx, h1, h2⟩ := h.fix i o hi
    exact ⟨x, hle i x hx, h1, h2⟩
theorem LRel.two {β : Bt} {a b : Value} {l : List Value} (h : LRel β [a, b] l) : ∃ a' b', l = [a', b'] ∧ VRel β a a' ∧ VRel β b b' := by
  obtain ⟨hl, hv⟩ := h
  match l, hl with
  | [x, y], _ => exact ⟨x, y, rfl, hv 0 _ _ rfl rfl, hv 1 _ _ rfl rfl⟩
theorem LRel.five {β : Bt} {a b c d e : Value} {l : List Value} (h : LRel β [a, b, c, d, e] l) : ∃ a' b' c' d' e', l = [a', b', c', d', e'] ∧ VRel β a a' ∧ VRel β b b' ∧ VRel β c c' ∧ VRel β d d' ∧ VRel β e e' := by
  obtain ⟨hl, hv⟩ := h
  match l, hl with
  | [x, y, z, u, v], _ => exact ⟨x, y, z, u, v, rfl, hv 0 _ _ rfl rfl, hv 1 _ _ rfl rfl, hv 2 _ _ rfl rfl, hv 3 _ _ rfl rfl, hv 4 _ _ rfl rfl⟩
theorem tabIs {w : World} {H : Hp} {β : Bt} (hR : Rel PP w H β) {name : String} {g : Nat} (hg : PP.globalNamed name = some g) (hlt : g < PP.globals.size) {cs : Array Value} {e : TypeId} {fz : Nat × Nat} (h : H.get g = some (.fix (.cells cs e fz))) {k : IntKind} {zs : List Int}
    (ht : zjY k cs.toList zs = true) : Go.Lib.TabIs PP w name k zs := by
  obtain ⟨x, hx, _, hx2⟩ := hR.fix g _ h
  obtain ⟨t, ht2⟩ := hR.glob g hlt
  rw [hx] at ht2
  cases ht2
  unfold Go.Lib.TabIs World.var?
  rw [hg]
  have hx2 : w.heap[g]? = some (.cells cs e fz) := hx2
  show (match w.heap[g]? with | some (.cells cs _ _) => some cs | _ => none) = _
  rw [hx2]
  dsimp only
  congr 1
  apply Array.ext'
  rw [zne _ _ ht]
theorem ziW : PP.globals.size = 12 := by kernel_rfl
theorem named_pow : PP.globalNamed "internal/strconv.uint64pow10" = some G.internal_strconv_uint64pow10 := by kernel_rfl
theorem named_spc : PP.globalNamed "strings.asciiSpace" = some G.strings_asciiSpace := by kernel_rfl
theorem errIs {w : World} {H : Hp} {β : Bt} (hR : Rel PP w H β) {g : Nat} (hlt : g < PP.globals.size) {cs : Array Value} {e : TypeId} {fz : Nat × Nat} (h : H.get g = some (.fix (.cells cs e fz))) (ht : isErr cs.toList = true) :
    ∃ te pe, w.cell? ⟨g, 0, none⟩ = some (.iface te pe) := by
  obtain ⟨x, hx, _, hx2⟩ := hR.fix g _ h
  obtain ⟨t, ht2⟩ := hR.glob g hlt
  rw [hx] at ht2
  cases ht2
  obtain ⟨l⟩ := cs
  cases l with
  | nil => cases ht
  | cons v r =>
    cases v with
    | iface te pe => exact ⟨te, pe, zbY.2 ⟨_, e, fz, hx2, rfl⟩⟩
    | _ => cases ht
theorem extErr_ok {args : List Value} {H : Hp} {v : Value} {H' : Hp} (he : zlK args H = some (v, H')) {args' : List Value} {w : World} {β : Bt} (hl : LRel β args args') (hR : Rel PP w H β) :
    Calls PP F.a27 args'.toArray w fun x w' => ∃ v' β', x = .returned v' ∧ Rel PP w' H' β' ∧ Ext w.heap.size w H β w' H' β' ∧ VRel β' v v' := by
  unfold zlK at he
  split at he
  · rename_i fn s i1 i2 t c
    split at he
    · rename_i hc
      obtain ⟨rfl, hs, hc⟩ := hc
      split at he
      · rename_i cs ty fz hg
        split at he
        · rename_i hok
          cases he
          obtain ⟨a', b', c', d', e', rfl, ha, hb, hc', hd, he'⟩ := hl.five
          cases ha; cases hb; cases hc'; cases hd
          cases he' with
          | iface _ _ v' hv =>
          cases hv
          have fin : ∀ e w', (∃ N, e = Ending.returned (.iface T.p_strconv_NumError (.pointer (some ⟨N, 0, none⟩))) ∧ w.heap.size ≤ N ∧ N < w'.heap.size ∧ RowKit.Below w.heap.size w w') →
              ∃ v' β', e = .returned v' ∧ Rel PP w' H.skip β' ∧ Ext w.heap.size w H β w' H.skip β' ∧ VRel β' (.iface T.p_strconv_NumError (.pointer (some ⟨H.next, 0, none⟩))) v' := by
            rintro e w' ⟨N, rfl, h1, h2, h3⟩
            obtain ⟨r1, r2⟩ := zk2 hR h3.os h3.tape h3.output h3.size h3.block
            obtain ⟨q1, q2⟩ := r1.skip h2 0
            refine ⟨_, _, rfl, q1, ⟨h3.os, h3.tape, h3.output, h3.size, q2, Nat.le_succ _, fun b hb _ => h3.block b hb, fun b q => ?_, fun i x hx hn => ?_⟩, .iface _ _ _ (.ptr _ 0 ⟨N, 0, 0⟩ (Bt.set_same _ _ _))⟩
            · obtain ⟨i, o, x, hi, ho, hx, rfl⟩ := q
              have hi : H.get i = some o := hi
              obtain ⟨z, hz⟩ := hR.has i o hi
              rw [q2 i z hz] at hx; cases hx
              exact .inr ⟨i, o, _, hi, ho, hz, rfl⟩
            · unfold Bt.set at hx
              split at hx
              · cases hx; exact .inl h1
              · rw [hn] at hx; cases hx
          rcases hc with rfl | rfl
          · obtain ⟨te, pe, hv⟩ := errIs hR (by rw [ziW]; decide) hg hok
            refine (Go.Proofs.Tryz.strconv_toError_range fn s i1 i2 _ w hs hv (.inr ⟨te, pe, rfl⟩)).mono fun e w' ⟨N, g1, g2, g3, g4⟩ => fin e w' ⟨N, g1, g2, ?_, g4⟩
            exact (Array.getElem?_eq_some_iff.1 g3).1
          · obtain ⟨te, pe, hv⟩ := errIs hR (by rw [ziW]; decide) hg hok
            refine (Go.Proofs.Tryz.strconv_toError_syntax fn s i1 i2 _ w hs hv (.inr ⟨te, pe, rfl⟩)).mono fun e w' ⟨N, g1, g2, g3, g4⟩ => fin e w' ⟨N, g1, g2, ?_, g4⟩
            exact (Array.getElem?_eq_some_iff.1 g3).1
        · cases he
      · cases he
    · cases he
  · cases he
theorem extE0 : ExtC PP E0 := by
  intro f e hf args H v H' he args' w β hl hR
  unfold E0 at hf
  split at hf
  · rename_i hf1
    subst hf1
    cases hf
    unfold extFmt at he
    split at he
    · rename_i n
      split at he
      · rename_i hn
        split at he
        · rename_i cs ty fz hg
          split at he
          · rename_i hok
            cases he
            obtain ⟨a', b', rfl, ha, hb⟩ := hl.two
            cases ha
            cases hb
            have hT := tabIs hR named_pow (by rw [ziW]; decide) hg hok
            refine (Go.Proofs.Tryz.internal_strconv_FormatInt_10 n hn.1 hn.2 w hT).mono fun x w' ⟨h1, k, os, h2⟩ => ?_
            subst h2
            obtain ⟨r1, r2⟩ := zk2 hR (w' := Go.Sort.grow (w.drewN k) os) rfl rfl rfl (by show w.heap.size ≤ (w.heap ++ os).size; rw [Array.size_append]; omega) (fun b hb => by
              show (w.heap ++ os)[b]? = _
              rw [Array.getElem?_append_left hb])
            exact ⟨_, β, h1, r1, r2, .string _⟩
          · cases he
        · cases he
      · cases he
    · cases he
  · split at hf
    · rename_i hf2
      subst hf2
      cases hf
      unfold ziw at he
      split at he
      · rename_i s
        split at he
        · rename_i hs
          split at he
          · rename_i cs ty fz hg
            split at he
            · rename_i hok
              cases he
              obtain ⟨a', rfl, ha⟩ := hl.single
              cases ha
              have hT := tabIs hR named_spc (by rw [ziW]; decide) hg hok
              refine (Go.Proofs.Tryz.strings_Fields_laid s w hs.1 (fun j b hb => of_decide_eq_true (List.all_eq_true.1 hs.2 b (List.mem_of_getElem? hb))) hT).mono fun x w' ⟨h1, h2⟩ => ?_
              subst h2
              subst h1
              have hlr : LRel β ((Go.Lib.fields s.data.toList).map fun l => Value.string ⟨l.toArray⟩) ((((Go.Lib.fields s.data.toList).map fun l => Value.string ⟨l.toArray⟩).toArray).toList.take ((Go.Lib.fields s.data.toList).length)) := by
                have e : (((Go.Lib.fields s.data.toList).map fun l => Value.string ⟨l.toArray⟩).toArray).toList.take ((Go.Lib.fields s.data.toList).length) = (Go.Lib.fields s.data.toList).map fun l => Value.string ⟨l.toArray⟩ := by
                  rw [List.take_of_length_le (by simp)]
                rw [e]
                refine ⟨rfl, fun k v v' h1 h2 => ?_⟩
                rw [h1] at h2; cases h2
                rw [List.getElem?_map] at h1
                cases q : (Go.Lib.fields s.data.toList)[k]? with
                | none => rw [q] at h1; cases h1
                | some l => rw [q] at h1; cases h1; exact .string _
              obtain ⟨g1, g2⟩ := hR.new_cells _ (((Go.Lib.fields s.data.toList).map fun l => Value.string ⟨l.toArray⟩).toArray) 9 (0, 0) _ hlr (by intro j hj; simp)
              refine ⟨_, _, rfl, g1, g2, ?_⟩
              have := VRel.slice (β := β.set H.next ⟨w.heap.size, 0, (((Go.Lib.fields s.data.toList).map fun l => Value.string ⟨l.toArray⟩).toArray).size⟩) H.next 0 1 (Go.Lib.fields s.data.toList).length (Go.Lib.fields s.data.toList).length _ 0 (Go.Lib.fields s.data.toList).length (Bt.set_same _ _ _) (Nat.le_refl _) (Nat.le_refl _) (by simp) (by intro; rfl)
              exact this
            · cases he
          · cases he
        · cases he
      · cases he
    · split at hf
      · rename_i hf3
        subst hf3
        cases hf
        exact extCC_ok he hl hR
      · split at hf
        · rename_i hf4
          subst hf4
          cases hf
          exact extStr_ok he hl hR
        · split at hf
          · rename_i hf5
            subst hf5
            cases hf
            exact extErr_ok he hl hR
          · cases hf
end Go.AM
namespace Go.AM
open Go
def zah (op : Int) : Int := if op = 1 ∨ op = 2 ∨ op = 3 ∨ op = 4 then 0 else if op = 5 ∨ op = 15 ∨ op = 16 ∨ op = 31 ∨ op = 32 ∨ op = 33 then 1 else if op = 14 then 3 else 2
theorem c29 (op : Int) (H : Hp) : RR F.a7 [.int .i64 op] H = some (.int .i64 (zah op), H) := by
  refine (zk5 E0 rfl _ _).trans ?_
  unfold zgV
  simp only [zac, s_br, za0, zap, zdU, za3, zbg, zez, zaJ, decide_eq_true_eq, qg0]
  unfold zah
  by_cases h1 : op = 1
  · simp [h1]
  by_cases h2 : op = 2
  · simp [h2]
  by_cases h3 : op = 3
  · simp [h3]
  by_cases h4 : op = 4
  · simp [h4]
  simp only [h1, h2, h3, h4, if_false, zap, za3, zac, qg0, decide_false, Bool.false_eq_true, or_self, false_or]
  by_cases h5 : op = 5
  · simp [h5]
  by_cases h6 : op = 15
  · simp [h6]
  by_cases h7 : op = 16
  · simp [h7]
  by_cases h8 : op = 31
  · simp [h8]
  by_cases h9 : op = 32
  · simp [h9]
  by_cases h10 : op = 33
  · simp [h10]
  by_cases h11 : op = 14
  · simp [h11]
  simp [h5, h6, h7, h8, h9, h10, h11]
end Go.AM
namespace Go.AM
open Go
structure Nd where
  op : Int
  w : Int
  a : Int
  b : Int
  c : Int
  num : Int
  name : ByteArray
def Nd.cells (n : Nd) : List Value := [.int .i64 n.op, .int .i64 n.w, .int .i64 n.a, .int .i64 n.b, .int .i64 n.c, .int .u64 n.num, .string n.name]
def Nd.val (n : Nd) : Value := .agg n.cells.toArray
def SlR (H : Hp) (sl : Value) (L : List Nd) : Prop :=
  (L = [] ∧ sl = .slice none 0 0) ∨ ∃ i, sl = .slice (some ⟨i, 0, some 7⟩) L.length L.length ∧ H.get i = some (.cells (L.flatMap Nd.cells) true)
structure StR (H : Hp) (p : Nat) (lim : Int) (L : List Nd) (sl : Value) (f g : Nat) : Prop where
  obj : H.get p = some (.cells [.int .i64 lim, sl, .map (some f), .map (some g)] true)
  all : SlR H sl L
section
variable {H : Hp} {p f g : Nat} {lim : Int} {L : List Nd} {sl : Value} (hs : StR H p lim L sl f g) {α : Type} (k : Value → Option α)
include hs
theorem StR.l0 : zal 1 false H (.pointer (some ⟨p, 0, none⟩)) k = k (.int .i64 lim) := zbl hs.obj 0 _ rfl k
theorem StR.l1 : zal 1 false H (.pointer (some ⟨p, 1, none⟩)) k = k sl := zbl hs.obj 1 _ rfl k
theorem StR.l2 : zal 1 false H (.pointer (some ⟨p, 2, none⟩)) k = k (.map (some f)) := zbl hs.obj 2 _ rfl k
theorem StR.l3 : zal 1 false H (.pointer (some ⟨p, 3, none⟩)) k = k (.map (some g)) := zbl hs.obj 3 _ rfl k
end
theorem SlR.len {H : Hp} {sl : Value} {L : List Nd} (h : SlR H sl L) {α : Type} (k : Value → Option α) : pLen .sl sl H k = k (.int .i64 L.length) := by
  rcases h with ⟨rfl, rfl⟩ | ⟨i, rfl, _⟩ <;> rfl
theorem zoP (L : List Nd) (i j : Nat) (hj : j < 7) : (L.flatMap Nd.cells)[i * 7 + j]? = L[i]?.bind fun n => n.cells[j]? := by
  induction L generalizing i with
  | nil => simp
  | cons n L ih =>
    rw [List.flatMap_cons]
    cases i with
    | zero => rw [Nat.zero_mul, Nat.zero_add, List.getElem?_append_left (by simp [Nd.cells]; omega)]; rfl
    | succ i =>
      have h7 : n.cells.length = 7 := rfl
      rw [List.getElem?_append_right (by omega), h7, show (i + 1) * 7 + j - 7 = i * 7 + j by omega]
      exact ih i
theorem flat_len (L : List Nd) : (L.flatMap Nd.cells).length = L.length * 7 := by
  induction L with
  | nil => rfl
  | cons n L ih =>
    have h7 : n.cells.length = 7 := rfl
    rw [List.flatMap_cons, List.length_append, ih, List.length_cons, h7]; omega
def isT (L : List Nd) (t : Int) : Bool := decide (t ≥ 1) && decide (t ≤ L.length)
theorem c19 {H : Hp} {p f g : Nat} {lim t : Int} {L : List Nd} {sl : Value} (hs : StR H p lim L sl f g) : RR F.a13 [.pointer (some ⟨p, 0, none⟩), .int .i64 t] H = some (.bool (isT L t), H) := by
  refine (zhQ E0 rfl _ _ _).trans ?_
  unfold zeF
  simp only [zac, s_br, zde, zbV, zaT, zfp, Nat.zero_add, hs.l1, hs.all.len, decide_eq_true_eq]
  unfold isT
  by_cases h : t ≥ 1 <;> simp [h]
theorem zb5 {k : IntKind} {n : Int} (h1 : k.min ≤ n) (h2 : n ≤ k.max) : k.wrap n = n := by
  cases k <;> simp [IntKind.wrap, IntKind.min, IntKind.max, IntKind.signed, IntKind.bits] at * <;> omega
def wT (L : List Nd) (d t : Int) : Int := if isT L t then (L[(t - 1).toNat]?.map Nd.w).getD d else d
theorem zbf {L : List Nd} {t : Int} : isT L t = true ↔ 1 ≤ t ∧ t ≤ L.length := by unfold isT; simp
theorem s_idx {H : Hp} {L : List Nd} {sl : Value} (h : SlR H sl L) {t : Int} (ht : isT L t = true) (hL : (L.length : Int) ≤ 4611686018427387904) {α : Type} (k : Value → Option α) :
    ∃ i n, L[(t - 1).toNat]? = some n ∧ H.get i = some (.cells (L.flatMap Nd.cells) true) ∧ pIdx 7 sl (.int .i64 (IntKind.i64.wrap (t - 1))) k = k (.pointer (some ⟨i, (t - 1).toNat * 7, none⟩)) := by
  obtain ⟨h1, h2⟩ := zbf.1 ht
  have hw : IntKind.i64.wrap (t - 1) = t - 1 := zb5 (by simp [IntKind.min, IntKind.signed, IntKind.bits]; omega) (by simp [IntKind.max, IntKind.signed, IntKind.bits]; omega)
  rcases h with ⟨rfl, rfl⟩ | ⟨i, rfl, hi⟩
  · simp at h2; omega
  · have hlt : (t - 1).toNat < L.length := by omega
    refine ⟨i, L[(t - 1).toNat], by simp [hlt], hi, ?_⟩
    rw [hw]
    unfold pIdx idxV
    have : (7 : Nat) = 7 ∧ 0 ≤ t - 1 ∧ t - 1 < (L.length : Int) := ⟨rfl, by omega, by omega⟩
    simp only [this, and_self, if_true, Nat.zero_add]
theorem c40 {H : Hp} {p f g : Nat} {lim t : Int} {L : List Nd} {sl : Value} (hs : StR H p lim L sl f g) (hL : (L.length : Int) ≤ 4611686018427387904) : RR F.a1 [.pointer (some ⟨p, 0, none⟩), .int .i64 t] H = some (.int .i64 (wT L (-1) t), H) := by
  refine (ziU E0 rfl _ _ _).trans ?_
  unfold zfh
  simp only [zag (c19 hs), zac, s_br, zbE, zbV, zaT, zdr, Nat.zero_add, hs.l1]
  unfold wT
  cases ht : isT L t with
  | false => simp
  | true =>
    obtain ⟨i, n, hn, hi, hx⟩ := s_idx hs.all ht hL (fun p8 => zas 1 p8 fun p9 => zal 1 false H p9 fun v10 => some (v10, H))
    simp only [Bool.not_true, Bool.false_eq_true, if_false, if_true]
    rw [hx, zaT, zbl hi _ (.int .i64 n.w) (by rw [zoP _ _ _ (by omega), hn]; rfl), hn]
    rfl
end Go.AM
namespace Go.AM
open Go
section
variable {α : Type} {P : Program} (n : Nd) (k : Value → Option α)
theorem n0 : zai 1 false (zab n.val) 0 k = k (.int .i64 n.op) := zdT _ 0 _ rfl k
theorem n1 : zai 1 false (zab n.val) 1 k = k (.int .i64 n.w) := zdT _ 1 _ rfl k
theorem n2 : zai 1 false (zab n.val) 2 k = k (.int .i64 n.a) := zdT _ 2 _ rfl k
theorem n3 : zai 1 false (zab n.val) 3 k = k (.int .i64 n.b) := zdT _ 3 _ rfl k
theorem n4 : zai 1 false (zab n.val) 4 k = k (.int .i64 n.c) := zdT _ 4 _ rfl k
theorem n5 : zai 1 false (zab n.val) 5 k = k (.int .u64 n.num) := zdT _ 5 _ rfl k
theorem n6 : zai 1 false (zab n.val) 6 k = k (.string n.name) := zdT _ 6 _ rfl k
theorem n07 : zai 7 true (zab n.val) 0 k = k n.val := rfl
theorem s_sneq (T : TypeId) (a b : ByteArray) (k : Value → Option α) : pBin P .neq T (.string a) (.string b) k = k (.bool !(a.toList == b.toList)) := rfl
end
theorem s_ite (p : Prop) [Decidable p] (x y : Bool) (H : Hp) : (if p then some (Value.bool x, H) else some (Value.bool y, H)) = some (Value.bool (bif decide p then x else y), H) := by
  by_cases h : p <;> simp [h]
def zlw (n : Nd) : Bool := !(n.name.toList == (⟨#[]⟩ : ByteArray).toList)
def zey (k : Int) (n : Nd) : Bool :=
  (decide (k < 1) && decide (n.a ≠ 0)) || (decide (k < 2) && decide (n.b ≠ 0)) || (decide (k < 3) && decide (n.c ≠ 0)) ||
  (decide (n.num ≠ 0) && decide (n.op ≠ 3) && decide (n.op ≠ 31)) || (zlw n && decide (n.op ≠ 4))
theorem c41 (n : Nd) (H : Hp) : RR F.a66 [n.val] H = some (.bool (zey (zah n.op) n), H) := by
  refine (zk4 E0 rfl _ _).trans ?_
  unfold zgU
  simp only [n0, n2, n3, n4, n5, n6, zag (c29 _ _), zbc, zbo, s_sneq, zac, s_br, s_ite]
  unfold zey zlw
  generalize zah n.op = k
  congr 2
  congr 1
  generalize decide (k < 1) = b1
  generalize decide (n.a ≠ 0) = b2
  generalize decide (k < 2) = b3
  generalize decide (n.b ≠ 0) = b4
  generalize decide (k < 3) = b5
  generalize decide (n.c ≠ 0) = b6
  generalize decide (n.num ≠ 0) = b7
  generalize decide (n.op ≠ 3) = b8
  generalize decide (n.op ≠ 31) = b9
  generalize (!(n.name.toList == (⟨#[]⟩ : ByteArray).toList)) = b10
  generalize decide (n.op ≠ 4) = b11
  simp only [Bool.decide_eq_true]
  cases b1 <;> cases b2 <;> cases b3 <;> cases b4 <;> cases b5 <;> cases b6 <;> simp <;> cases b7 <;> cases b8 <;> cases b9 <;> simp <;> cases b10 <;> simp
end Go.AM
namespace Go.AM
open Go
theorem zfb (v : Value) (l : List Value) : (v :: l).headD undef = v := rfl
end Go.AM
namespace Go.AM
open Go
def zbC (op a b c : Int) : Bool :=
  if zah op = 0 then true
  else if op = 5 then decide (a = 0)
  else if op = 6 ∨ op = 7 ∨ op = 8 then decide (a = 0) && decide (b = 0)
  else if op = 9 then decide (a = b)
  else if op = 14 then decide (a = 0) && decide (b = c)
  else if op = 30 then decide (a > 0) && decide (b > 0)
  else if zah op = 1 then decide (a > 0)
  else decide (a > 0) && decide (a = b)
section
variable {H : Hp} {p f g : Nat} {lim : Int} {L : List Nd} {sl : Value}
theorem c42 (hs : StR H p lim L sl f g) (hL : (L.length : Int) ≤ 4611686018427387904) (n : Nd) :
    RR F.a63 [.pointer (some ⟨p, 0, none⟩), n.val] H = some (.bool (zbC n.op (wT L (-1) n.a) (wT L (-1) n.b) (wT L (-1) n.c)), H) := by
  refine (zfr E0 rfl _ _ _).trans ?_
  unfold zdj
  simp only [n0, n2, n3, n4, zag (c40 hs hL), zag (c29 _ _), za0, zb1, zac, s_br, zap, zdU, za3, zbg, zez, zaJ, zfb, qg0, decide_eq_true_eq, if_true]
  unfold zbC
  generalize wT L (-1) n.a = a
  generalize wT L (-1) n.b = b
  generalize wT L (-1) n.c = c
  generalize n.op = op
  by_cases h0 : zah op = 0
  · simp only [h0, if_true]
  simp only [h0, if_false]
  by_cases h5 : op = 5
  · simp only [h5, if_true]
  simp only [h5, if_false]
  by_cases h6 : op = 6
  · simp [h6, s_ite]
  by_cases h7 : op = 7
  · simp [h7, s_ite]
  by_cases h8 : op = 8
  · simp [h8, s_ite]
  simp only [h6, h7, h8, if_false, or_self]
  by_cases h9 : op = 9
  · simp [h9]
  simp only [h9, if_false]
  by_cases h14 : op = 14
  · simp [h14]; by_cases q : a = 0 <;> simp [q]
  simp only [h14, if_false]
  by_cases h30 : op = 30
  · simp [h30]; by_cases q : a > 0 <;> simp [q]
  simp only [h30, if_false]
  by_cases h1 : zah op = 1
  · simp [h1]
  simp only [h1, if_false]
  by_cases q : a > 0 <;> simp [q]
end
end Go.AM
namespace Go.AM
open Go
theorem s_rem {α : Type} {P : Program} (T : TypeId) (kd : IntKind) (a b : Int) (hb : b ≠ 0) (k : Value → Option α) : pBin P .rem T (.int kd a) (.int kd b) k = k (.int kd (a.tmod b)) := by simp [pBin, binV, zdM, hb]
theorem zgP {α : Type} (kd k2 : IntKind) (a : Int) (k : Value → Option α) : zan kd (.int k2 a) k = k (.int kd (kd.wrap a)) := rfl
theorem s_and {α : Type} {P : Program} (T : TypeId) (kd : IntKind) (a b : Int) (k : Value → Option α) : pBin P .and T (.int kd a) (.int kd b) k = k (.int kd (kd.wrap (BitVec.ofInt kd.bits a &&& BitVec.ofInt kd.bits b).toNat)) := by simp [pBin, binV, zdM, bvOp]
theorem s_shl {α : Type} {P : Program} (T : TypeId) (kd k2 : IntKind) (a b : Int) (hb : 0 ≤ b) (k : Value → Option α) : pBin P .shl T (.int kd a) (.int k2 b) k = k (.int kd (kd.wrap (a * 2 ^ (min b.toNat kd.bits)))) := by
  have : ¬ b < 0 := by omega
  simp [pBin, binV, shOp, this]
def zdc (w x : Int) : Int := if w < 1 then 0 else if w ≥ 64 then x else x % 2 ^ w.toNat
theorem zkg {w : Int} (h1 : 1 ≤ w) (h2 : w < 64) : (2 : Int) ^ w.toNat < 18446744073709551616 ∧ (2 : Int) ≤ 2 ^ w.toNat := by
  have hw : w.toNat < 64 := by omega
  have hw1 : 1 ≤ w.toNat := by omega
  have h3 : (2 : Nat) ^ w.toNat < 2 ^ 64 := Nat.pow_lt_pow_right (by omega) hw
  have h4 : (2 : Nat) ^ 1 ≤ 2 ^ w.toNat := Nat.pow_le_pow_right (by omega) hw1
  constructor
  · have : ((2 ^ w.toNat : Nat) : Int) < ((2 ^ 64 : Nat) : Int) := Int.ofNat_lt.2 h3
    simpa using this
  · have : ((2 ^ 1 : Nat) : Int) ≤ ((2 ^ w.toNat : Nat) : Int) := Int.ofNat_le.2 h4
    simpa using this
theorem zm7 {w : Int} (h1 : 1 ≤ w) (h2 : w < 64) : IntKind.u64.wrap (1 * 2 ^ (min (IntKind.u64.wrap w).toNat IntKind.u64.bits)) = 2 ^ w.toNat := by
  have hw : IntKind.u64.wrap w = w := zb5 (by simp [IntKind.min, IntKind.signed, IntKind.bits]; omega) (by simp [IntKind.max, IntKind.signed, IntKind.bits]; omega)
  rw [hw]
  have hb : IntKind.u64.bits = 64 := rfl
  rw [hb, Nat.min_eq_left (by omega), Int.one_mul]
  obtain ⟨p1, p2⟩ := zkg h1 h2
  exact zb5 (by simp [IntKind.min, IntKind.signed, IntKind.bits]; omega) (by simp [IntKind.max, IntKind.signed, IntKind.bits]; omega)
theorem c45 (w x : Int) (hx : 0 ≤ x) (hx2 : x < 18446744073709551616) (H : Hp) : RR F.a0 [.int .i64 w, .int .u64 x] H = some (.int .u64 (zdc w x), H) := by
  refine (zmm E0 rfl _ _ _).trans ?_
  unfold zik zdc
  simp only [zbc, zde, zac, s_br, decide_eq_true_eq, zgP]
  by_cases h1 : w < 1
  · simp [h1]
  by_cases h2 : w ≥ 64
  · simp [h1, h2]
  simp only [h1, h2, if_false]
  have hw : IntKind.u64.wrap w = w := zb5 (by simp [IntKind.min, IntKind.signed, IntKind.bits]; omega) (by simp [IntKind.max, IntKind.signed, IntKind.bits]; omega)
  obtain ⟨p1, p2⟩ := zkg (w := w) (by omega) (by omega)
  rw [s_shl _ _ _ _ _ (by rw [hw]; omega), zm7 (by omega) (by omega), zdr, s_and]
  have hm : IntKind.u64.wrap (2 ^ w.toNat - 1) = 2 ^ w.toNat - 1 := zb5 (by simp [IntKind.min, IntKind.signed, IntKind.bits]; omega) (by simp [IntKind.max, IntKind.signed, IntKind.bits]; omega)
  rw [hm]
  congr 3
  have hb : IntKind.u64.bits = 64 := rfl
  rw [hb]
  obtain ⟨X, rfl⟩ := Int.eq_ofNat_of_zero_le hx
  have e2 : (2 : Int) ^ w.toNat - 1 = ((2 ^ w.toNat - 1 : Nat) : Int) := by
    have : 1 ≤ (2 : Nat) ^ w.toNat := Nat.one_le_two_pow
    rw [Int.ofNat_sub this]; simp
  rw [e2]
  have e3 : BitVec.ofInt 64 ((X : Nat) : Int) = BitVec.ofNat 64 X := by simp
  have e4 : BitVec.ofInt 64 (((2 ^ w.toNat - 1 : Nat)) : Int) = BitVec.ofNat 64 (2 ^ w.toNat - 1) := by simp
  rw [e3, e4, BitVec.toNat_and, BitVec.toNat_ofNat, BitVec.toNat_ofNat]
  have hX : X < 2 ^ 64 := by have : (X : Int) < 18446744073709551616 := hx2; omega
  have h3 : (2 : Nat) ^ w.toNat < 2 ^ 64 := Nat.pow_lt_pow_right (by omega) (by omega)
  rw [Nat.mod_eq_of_lt hX, Nat.mod_eq_of_lt (by omega), Nat.and_two_pow_sub_one_eq_mod]
  have h4 : X % 2 ^ w.toNat ≤ X := Nat.mod_le _ _
  have h5 : ((X : Nat) : Int) % 2 ^ w.toNat = ((X % 2 ^ w.toNat : Nat) : Int) := by simp
  rw [h5]
  generalize X % 2 ^ w.toNat = Y at h4
  have m1 : IntKind.u64.min = 0 := rfl
  have m2 : IntKind.u64.max = 18446744073709551615 := rfl
  rw [zb5 (by rw [m1]; omega) (by rw [m2]; omega)]
end Go.AM
namespace Go.AM
open Go
def isPow (w : Int) : Bool := decide (w = 1 ∨ w = 2 ∨ w = 4 ∨ w = 8 ∨ w = 16 ∨ w = 32 ∨ w = 64)
def pops : List Int := [0, 1, 1, 2, 1, 2, 2, 3, 1, 2, 2, 3, 2, 3, 3, 4, 1, 2, 2, 3, 2, 3, 3, 4, 2, 3, 3, 4, 3, 4, 4, 5, 1, 2, 2, 3, 2, 3, 3, 4, 2, 3, 3, 4, 3, 4, 4, 5, 2, 3, 3, 4, 3, 4, 4, 5, 3, 4, 4, 5, 4, 5, 5, 6, 1]
theorem all58 (H : Hp) : (i : Nat) → i < 65 → zdF RR (.int .u64 (i : Int)) H = some (.int .i64 (pops.getD i 0), H)
  | 0, _ => by kernel_rfl
  | 1, _ => by kernel_rfl
  | 2, _ => by kernel_rfl
  | 3, _ => by kernel_rfl
  | 4, _ => by kernel_rfl
  | 5, _ => by kernel_rfl
  | 6, _ => by kernel_rfl
  | 7, _ => by kernel_rfl
  | 8, _ => by kernel_rfl
  | 9, _ => by kernel_rfl
  | 10, _ => by kernel_rfl
  | 11, _ => by kernel_rfl
  | 12, _ => by kernel_rfl
  | 13, _ => by kernel_rfl
  | 14, _ => by kernel_rfl
  | 15, _ => by kernel_rfl
  | 16, _ => by kernel_rfl
  | 17, _ => by kernel_rfl
  | 18, _ => by kernel_rfl
  | 19, _ => by kernel_rfl
  | 20, _ => by kernel_rfl
  | 21, _ => by kernel_rfl
  | 22, _ => by kernel_rfl
  | 23, _ => by kernel_rfl
  | 24, _ => by kernel_rfl
  | 25, _ => by kernel_rfl
  | 26, _ => by kernel_rfl
  | 27, _ => by kernel_rfl
  | 28, _ => by kernel_rfl
  | 29, _ => by kernel_rfl
  | 30, _ => by kernel_rfl
  | 31, _ => by kernel_rfl
  | 32, _ => by kernel_rfl
  | 33, _ => by kernel_rfl
  | 34, _ => by kernel_rfl
  | 35, _ => by kernel_rfl
  | 36, _ => by kernel_rfl
  | 37, _ => by kernel_rfl
  | 38, _ => by kernel_rfl
  | 39, _ => by kernel_rfl
  | 40, _ => by kernel_rfl
  | 41, _ => by kernel_rfl
  | 42, _ => by kernel_rfl
  | 43, _ => by kernel_rfl
  | 44, _ => by kernel_rfl
  | 45, _ => by kernel_rfl
  | 46, _ => by kernel_rfl
  | 47, _ => by kernel_rfl
  | 48, _ => by kernel_rfl
  | 49, _ => by kernel_rfl
  | 50, _ => by kernel_rfl
  | 51, _ => by kernel_rfl
  | 52, _ => by kernel_rfl
  | 53, _ => by kernel_rfl
  | 54, _ => by kernel_rfl
  | 55, _ => by kernel_rfl
  | 56, _ => by kernel_rfl
  | 57, _ => by kernel_rfl
  | 58, _ => by kernel_rfl
  | 59, _ => by kernel_rfl
  | 60, _ => by kernel_rfl
  | 61, _ => by kernel_rfl
  | 62, _ => by kernel_rfl
  | 63, _ => by kernel_rfl
  | 64, _ => by kernel_rfl
  | n + 65, h => by omega
theorem c53 (w : Int) (h0 : 0 ≤ w) (h1 : w < 65) (H : Hp) : RR F.a18 [.int .u64 w] H = some (.int .i64 (pops.getD w.toNat 0), H) := by
  refine (zhb E0 rfl _ _).trans ?_
  unfold zer
  have : RR F.a53 [.int .u64 w] H = some (.int .i64 (pops.getD w.toNat 0), H) := by
    refine (zfX E0 rfl _ _).trans ?_
    obtain ⟨n, rfl⟩ := Int.eq_ofNat_of_zero_le h0
    exact all58 H n (by omega)
  rw [zag this]
theorem znw : (i : Nat) → i < 65 → decide (pops.getD i 0 = 1) = isPow (i : Int)
  | 0, _ => by kernel_rfl
  | 1, _ => by kernel_rfl
  | 2, _ => by kernel_rfl
  | 3, _ => by kernel_rfl
  | 4, _ => by kernel_rfl
  | 5, _ => by kernel_rfl
  | 6, _ => by kernel_rfl
  | 7, _ => by kernel_rfl
  | 8, _ => by kernel_rfl
  | 9, _ => by kernel_rfl
  | 10, _ => by kernel_rfl
  | 11, _ => by kernel_rfl
  | 12, _ => by kernel_rfl
  | 13, _ => by kernel_rfl
  | 14, _ => by kernel_rfl
  | 15, _ => by kernel_rfl
  | 16, _ => by kernel_rfl
  | 17, _ => by kernel_rfl
  | 18, _ => by kernel_rfl
  | 19, _ => by kernel_rfl
  | 20, _ => by kernel_rfl
  | 21, _ => by kernel_rfl
  | 22, _ => by kernel_rfl
  | 23, _ => by kernel_rfl
  | 24, _ => by kernel_rfl
  | 25, _ => by kernel_rfl
  | 26, _ => by kernel_rfl
  | 27, _ => by kernel_rfl
  | 28, _ => by kernel_rfl
  | 29, _ => by kernel_rfl
  | 30, _ => by kernel_rfl
  | 31, _ => by kernel_rfl
  | 32, _ => by kernel_rfl
  | 33, _ => by kernel_rfl
  | 34, _ => by kernel_rfl
  | 35, _ => by kernel_rfl
  | 36, _ => by kernel_rfl
  | 37, _ => by kernel_rfl
  | 38, _ => by kernel_rfl
  | 39, _ => by kernel_rfl
  | 40, _ => by kernel_rfl
  | 41, _ => by kernel_rfl
  | 42, _ => by kernel_rfl
  | 43, _ => by kernel_rfl
  | 44, _ => by kernel_rfl
  | 45, _ => by kernel_rfl
  | 46, _ => by kernel_rfl
  | 47, _ => by kernel_rfl
  | 48, _ => by kernel_rfl
  | 49, _ => by kernel_rfl
  | 50, _ => by kernel_rfl
  | 51, _ => by kernel_rfl
  | 52, _ => by kernel_rfl
  | 53, _ => by kernel_rfl
  | 54, _ => by kernel_rfl
  | 55, _ => by kernel_rfl
  | 56, _ => by kernel_rfl
  | 57, _ => by kernel_rfl
  | 58, _ => by kernel_rfl
  | 59, _ => by kernel_rfl
  | 60, _ => by kernel_rfl
  | 61, _ => by kernel_rfl
  | 62, _ => by kernel_rfl
  | 63, _ => by kernel_rfl
  | 64, _ => by kernel_rfl
  | n + 65, h => by omega
end Go.AM
namespace Go.AM
open Go
def zbF (n : Nd) (a b : Int) : Bool :=
  if n.op = 1 ∨ n.op = 2 ∨ (5 ≤ n.op ∧ n.op ≤ 13) then decide (n.w = 0)
  else if n.op = 3 then decide (n.w > 0) && decide (zdc n.w n.num = n.num)
  else if n.op = 4 then true
  else if n.op = 14 then decide (n.w = b)
  else if 25 ≤ n.op ∧ n.op ≤ 29 then decide (n.w = a) && isPow a
  else if n.op = 30 then decide (n.w = a + b)
  else if n.op = 31 then decide (n.w ≥ 1) && decide (n.w ≤ a) && decide (n.num ≤ a - n.w)
  else if n.op = 32 ∨ n.op = 33 then decide (n.w ≥ a)
  else decide (n.w = a)
structure Nd.Ok (n : Nd) : Prop where
  w0 : 0 ≤ n.w
  w1 : n.w ≤ 64
  o1 : 1 ≤ n.op
  o2 : n.op ≤ 33
  n0 : 0 ≤ n.num
  n1 : n.num < 18446744073709551616
theorem zaz {x : Int} (h1 : -9223372036854775808 ≤ x) (h2 : x ≤ 9223372036854775807) : IntKind.i64.wrap x = x := zb5 (by have : IntKind.i64.min = -9223372036854775808 := rfl; omega) (by have : IntKind.i64.max = 9223372036854775807 := rfl; omega)
theorem zhh {x : Int} (h1 : 0 ≤ x) (h2 : x ≤ 18446744073709551615) : IntKind.u64.wrap x = x := zb5 (by have : IntKind.u64.min = 0 := rfl; omega) (by have : IntKind.u64.max = 18446744073709551615 := rfl; omega)
section
variable {H : Hp} {p f g : Nat} {lim : Int} {L : List Nd} {sl : Value}
theorem c43 (hs : StR H p lim L sl f g) (hL : (L.length : Int) ≤ 4611686018427387904) (n : Nd) (hn : n.Ok)
    (ha : -1 ≤ wT L (-1) n.a ∧ wT L (-1) n.a ≤ 64) (hb : -1 ≤ wT L (-1) n.b ∧ wT L (-1) n.b ≤ 64) (hsort : n.op ≥ 15 → wT L (-1) n.a > 0) :
    RR F.a64 [.pointer (some ⟨p, 0, none⟩), n.val] H = some (.bool (zbF n (wT L (-1) n.a) (wT L (-1) n.b)), H) := by
  refine (zgt E0 rfl _ _ _).trans ?_
  unfold zd2
  have ht := c45 n.w n.num hn.n0 hn.n1 H
  simp only [n0, n1, n2, n3, n5, zag (c40 hs hL), za0, zb1, zde, zfp, zac, s_br, zap, zdU, za3, zbg, zez, zaJ, zfb, qg0, decide_eq_true_eq, if_true, zgP, zdr, za5, zag ht]
  unfold zbF
  generalize wT L (-1) n.a = a at *
  generalize wT L (-1) n.b = b at *
  have o1 := hn.o1
  have o2 := hn.o2
  by_cases h1 : n.op = 1
  · simp [h1]
  by_cases h2 : n.op = 2
  · simp [h2]
  by_cases h5 : 5 ≤ n.op ∧ n.op ≤ 13
  · have q : n.op ≥ 5 := h5.1
    simp only [h1, h2, h5, q, if_true, if_false, and_self, or_true, decide_true]
  have hc : ¬ (n.op = 1 ∨ n.op = 2 ∨ 5 ≤ n.op ∧ n.op ≤ 13) := by omega
  simp only [hc, h1, h2, if_false]
  by_cases h3 : n.op = 3
  · have q : ¬ n.op ≥ 5 := by omega
    have q2 : ¬ (3 : Int) ≥ 5 := by decide
    simp only [h3, q2, if_true, if_false, Bool.false_eq_true]
    by_cases q : n.w > 0 <;> simp [q]
  by_cases h4 : n.op = 4
  · have q2 : ¬ (4 : Int) ≥ 5 := by decide
    have q3 : ¬ (4 : Int) = 3 := by decide
    simp only [h4, q2, q3, if_true, if_false, Bool.false_eq_true]
    simp
  have g5 : n.op ≥ 5 := by omega
  have g13 : ¬ n.op ≤ 13 := by omega
  simp only [g5, g13, h3, h4, if_true, if_false, decide_false, Bool.false_eq_true]
  by_cases h14 : n.op = 14
  · simp only [h14, if_true]
    simp
  simp only [h14, if_false]
  have hap := hsort (by omega)
  by_cases h25 : 25 ≤ n.op ∧ n.op ≤ 29
  · have q : n.op ≥ 25 := h25.1
    have e : RR F.a18 [.int .u64 (IntKind.u64.wrap a)] H = some (.int .i64 (pops.getD a.toNat 0), H) := by
      rw [zhh (by omega) (by omega)]
      exact c53 a (by omega) (by omega) H
    have e2 := znw a.toNat (by omega)
    have e3 : ((a.toNat : Nat) : Int) = a := Int.toNat_of_nonneg (by omega)
    rw [e3] at e2
    simp only [q, h25.2, if_true, decide_true, zag e, za0, e2, and_self]
    by_cases q : n.w = a <;> simp [q, h25.1]
  simp only [h25, if_false]
  have hA : (if n.op ≥ 25 then some (Ctl.next, [Value.bool (decide (n.op ≤ 29))], H) else some (Ctl.next, [Value.bool false], H)) = some (Ctl.next, [Value.bool false], H) := by
    by_cases q : n.op ≥ 25
    · have : ¬ n.op ≤ 29 := by omega
      simp [q, this]
    · simp [q]
  have w1 : IntKind.i64.wrap (a + b) = a + b := zaz (by omega) (by omega)
  have w0 := hn.w0
  have w64 := hn.w1
  have w2 : IntKind.i64.wrap (a - n.w) = a - n.w := zaz (by omega) (by omega)
  by_cases q25 : n.op ≥ 25
  · have q29 : ¬ n.op ≤ 29 := by omega
    simp only [q25, q29, if_true, if_false, decide_false, Bool.false_eq_true, w1, w2]
    by_cases h30 : n.op = 30
    · simp only [h30, if_true]
      try simp
    simp only [h30, if_false]
    by_cases h31 : n.op = 31
    · simp only [h31, if_true]
      by_cases k1 : n.w ≥ 1
      · by_cases k2 : n.w ≤ a
        · have k3 : IntKind.u64.wrap (a - n.w) = a - n.w := zhh (by omega) (by omega)
          simp [k1, k2, k3]
        · simp [k1, k2]
      · simp [k1]
    simp only [h31, if_false]
    by_cases h32 : n.op = 32
    · simp [h32]
    by_cases h33 : n.op = 33
    · simp [h33]
    omega
  · have h30 : ¬ n.op = 30 := by omega
    have h31 : ¬ n.op = 31 := by omega
    have h32 : ¬ n.op = 32 := by omega
    have h33 : ¬ n.op = 33 := by omega
    simp only [q25, h30, h31, h32, h33, if_false, or_self, Bool.false_eq_true]
    simp
end
end Go.AM
namespace Go.AM
open Go
section
end
end Go.AM
namespace Go.AM
open Go
def zeJ (x : Int) : Bool := (decide (x ≥ 97) && decide (x ≤ 122)) || (decide (x ≥ 65) && decide (x ≤ 90)) || decide (x = 95)
def zmW (x : Int) : Bool := !(decide (x < 48)) && !(decide (x > 57))
def zff (b : UInt8) : Bool := zeJ (b.toNat : Int) || zmW (b.toNat : Int)
def zcb (s : ByteArray) : Bool := decide (s.size ≥ 1) && decide (s.size ≤ 24) && (s.data.toList.head?.any fun b => zeJ (b.toNat : Int)) && (s.data.toList.drop 1).all zff
theorem s_slen {α : Type} (s : ByteArray) (H : Hp) (k : Value → Option α) : pLen .str (.string s) H k = k (.int .i64 s.size) := rfl
end Go.AM
namespace Go.AM
open Go
theorem zmN {x : Int} (h : 128 ≤ x) : zeJ x = false := by
  unfold zeJ
  have h1 : ¬ x ≤ 122 := by omega
  have h2 : ¬ x ≤ 90 := by omega
  have h3 : ¬ x = 95 := by omega
  simp [h1, h2, h3]
theorem zoL {x : Int} (h : 128 ≤ x) : zmW x = false := by
  unfold zmW
  have h1 : x > 57 := by omega
  simp [h1]
theorem c44 (s : ByteArray) (H : Hp) : RR F.a30 [.string s] H = some (.bool (zcb s), H) := by
  refine (zmn E0 rfl _ _).trans ?_
  unfold zil
  generalize hS : (fun (l12 : List Value) (H13 : Hp) =>
 br (Nat.blt (zaU ((l12.drop 0).getD 0 undef)) (za2 ((l12.drop 0).getD 0 undef)).size)
 (zav (
 pBin PP .geq T.int32 (.int .i32 (Utf8.decode (za2 ((l12.drop 0).getD 0 undef)) (zaU ((l12.drop 0).getD 0 undef))).1) (.int .i32 97) fun v14 =>
 zaa v14 fun b15 => br b15
 (pBin PP .leq T.int32 (.int .i32 (Utf8.decode (za2 ((l12.drop 0).getD 0 undef)) (zaU ((l12.drop 0).getD 0 undef))).1) (.int .i32 122) fun v16 =>
 zaa v16 fun b17 => br b17
 (some (Ctl.next, [(.bool true)], H13))
 (pBin PP .geq T.int32 (.int .i32 (Utf8.decode (za2 ((l12.drop 0).getD 0 undef)) (zaU ((l12.drop 0).getD 0 undef))).1) (.int .i32 65) fun v18 =>
 zaa v18 fun b19 => br b19
 (pBin PP .leq T.int32 (.int .i32 (Utf8.decode (za2 ((l12.drop 0).getD 0 undef)) (zaU ((l12.drop 0).getD 0 undef))).1) (.int .i32 90) fun v20 =>
 zaa v20 fun b21 => br b21
 (some (Ctl.next, [(.bool true)], H13))
 (pBin PP .eql T.int32 (.int .i32 (Utf8.decode (za2 ((l12.drop 0).getD 0 undef)) (zaU ((l12.drop 0).getD 0 undef))).1) (.int .i32 95) fun v22 =>
 some (Ctl.next, [v22], H13)))
 (pBin PP .eql T.int32 (.int .i32 (Utf8.decode (za2 ((l12.drop 0).getD 0 undef)) (zaU ((l12.drop 0).getD 0 undef))).1) (.int .i32 95) fun v23 =>
 some (Ctl.next, [v23], H13))))
 (pBin PP .geq T.int32 (.int .i32 (Utf8.decode (za2 ((l12.drop 0).getD 0 undef)) (zaU ((l12.drop 0).getD 0 undef))).1) (.int .i32 65) fun v24 =>
 zaa v24 fun b25 => br b25
 (pBin PP .leq T.int32 (.int .i32 (Utf8.decode (za2 ((l12.drop 0).getD 0 undef)) (zaU ((l12.drop 0).getD 0 undef))).1) (.int .i32 90) fun v26 =>
 zaa v26 fun b27 => br b27
 (some (Ctl.next, [(.bool true)], H13))
 (pBin PP .eql T.int32 (.int .i32 (Utf8.decode (za2 ((l12.drop 0).getD 0 undef)) (zaU ((l12.drop 0).getD 0 undef))).1) (.int .i32 95) fun v28 =>
 some (Ctl.next, [v28], H13)))
 (pBin PP .eql T.int32 (.int .i32 (Utf8.decode (za2 ((l12.drop 0).getD 0 undef)) (zaU ((l12.drop 0).getD 0 undef))).1) (.int .i32 95) fun v29 =>
 some (Ctl.next, [v29], H13)))) fun q30 l31 H32 => zaL q30
 (pUn .not (l31.getD 0 undef) fun v34 =>
 zaa v34 fun b35 => br b35
 (pBin PP .eql T.int (.int .i64 ((zaU ((l12.drop 0).getD 0 undef)) : Nat)) (.int .i64 0) fun v36 =>
 zaa v36 fun b37 => br b37
 (some (Ctl.ret, [(.bool false)], H32))
 (pBin PP .lss T.int32 (.int .i32 (Utf8.decode (za2 ((l12.drop 0).getD 0 undef)) (zaU ((l12.drop 0).getD 0 undef))).1) (.int .i32 48) fun v38 =>
 zaa v38 fun b39 => br b39
 (some (Ctl.ret, [(.bool false)], H32))
 (pBin PP .gtr T.int32 (.int .i32 (Utf8.decode (za2 ((l12.drop 0).getD 0 undef)) (zaU ((l12.drop 0).getD 0 undef))).1) (.int .i32 57) fun v40 =>
 zaa v40 fun b41 => br b41
 (some (Ctl.ret, [(.bool false)], H32))
 (some (Ctl.next, [(.tuple #[.string (za2 ((l12.drop 0).getD 0 undef)), .int .i64 (((zaU ((l12.drop 0).getD 0 undef)) + (Utf8.decode (za2 ((l12.drop 0).getD 0 undef)) (zaU ((l12.drop 0).getD 0 undef))).2) : Nat)])], H32)))))
 (some (Ctl.next, [(.tuple #[.string (za2 ((l12.drop 0).getD 0 undef)), .int .i64 (((zaU ((l12.drop 0).getD 0 undef)) + (Utf8.decode (za2 ((l12.drop 0).getD 0 undef)) (zaU ((l12.drop 0).getD 0 undef))).2) : Nat)])], H32)))
 (fun i33 => zay i33 1 (
 some (Ctl.next, [(.tuple #[.string (za2 ((l12.drop 0).getD 0 undef)), .int .i64 (((zaU ((l12.drop 0).getD 0 undef)) + (Utf8.decode (za2 ((l12.drop 0).getD 0 undef)) (zaU ((l12.drop 0).getD 0 undef))).2) : Nat)])], H32)) (
 some (Ctl.exit i33, [(.tuple #[.string (za2 ((l12.drop 0).getD 0 undef)), .int .i64 (((zaU ((l12.drop 0).getD 0 undef)) + (Utf8.decode (za2 ((l12.drop 0).getD 0 undef)) (zaU ((l12.drop 0).getD 0 undef))).2) : Nat)])], H32)))
 (some (Ctl.ret, [(l31.headD undef)], H32)))
 (some (Ctl.exit 0, [(.tuple #[.string (za2 ((l12.drop 0).getD 0 undef)), .int .i64 ((zaU ((l12.drop 0).getD 0 undef)) : Nat)])], H13))) = S
  have hlen : s.data.toList.length = s.size := by simp
  have hstep : ∀ (i : Nat) (b : UInt8), s.data.toList[i]? = some b → S [.tuple #[.string s, .int .i64 (i : Nat)]] H =
      if (zeJ (b.toNat : Int) || (decide (i ≠ 0) && zmW (b.toNat : Int))) = true then some (.next, [.tuple #[.string s, .int .i64 ((i + 1 : Nat))]], H) else some (.ret, [.bool false], H) := by
    intro i b hb
    have hl : i < s.data.toList.length := (List.getElem?_eq_some_iff.1 hb).1
    have hi : i < s.size := by omega
    have hsb : s[i]'hi = b := by
      have : s[i] = s.data[i]'(by simpa using hl) := rfl
      rw [this]
      rw [List.getElem?_eq_getElem hl] at hb
      simpa using hb
    have e1 : za2 (.tuple #[.string s, .int .i64 (i : Nat)]) = s := rfl
    have e2 : zaU (.tuple #[.string s, .int .i64 (i : Nat)]) = i := by simp [zaU]
    have e3 : Nat.blt i s.size = true := Nat.ble_eq_true_of_le hi
    have e4 : ((i : Nat) : Int) = 0 ↔ i = 0 := by omega
    rw [← hS]
    simp only [qd0, qg0, e1, e2, e3]
    simp only [zde, zfp, za0, zbc, zb1, zac, s_br, zap, zdU, za3, zbE, qg0, if_true, decide_eq_true_eq, e4]
    by_cases hasc : b.toNat < 128
    · have hd := decode_ascii s i hi (by rw [hsb]; exact hasc)
      rw [hsb] at hd
      simp only [hd]
      unfold zeJ zmW
      generalize ((b.toNat : Nat) : Int) = x
      by_cases a1 : x ≥ 97 <;> by_cases a2 : x ≤ 122 <;> by_cases a3 : x ≥ 65 <;> by_cases a4 : x ≤ 90 <;> by_cases a5 : x = 95 <;> by_cases a6 : i = 0 <;> simp [a1, a2, a3, a4, a5, a6] <;>
        (by_cases a7 : x < 48 <;> by_cases a8 : x > 57 <;> simp [a7, a8])
    · have hd := decode_high s i hi (by rw [hsb]; omega)
      generalize Utf8.decode s i = q at hd ⊢
      obtain ⟨r, wd⟩ := q
      have k1 : ¬ ((r : Nat) : Int) ≤ 122 := by have := hd.1; dsimp only at this; omega
      have k2 : ¬ ((r : Nat) : Int) ≤ 90 := by omega
      have k3 : ¬ ((r : Nat) : Int) = 95 := by omega
      have k4 : ¬ ((r : Nat) : Int) < 48 := by omega
      have k5 : ((r : Nat) : Int) > 57 := by omega
      rw [zmN (by omega), zoL (by omega)]
      simp [k1, k2, k3, k4, k5]
  have hend : S [.tuple #[.string s, .int .i64 (s.size : Nat)]] H = some (.exit 0, [.tuple #[.string s, .int .i64 (s.size : Nat)]], H) := by
    have e1 : za2 (.tuple #[.string s, .int .i64 (s.size : Nat)]) = s := rfl
    have e2 : zaU (.tuple #[.string s, .int .i64 (s.size : Nat)]) = s.size := by simp [zaU]
    have e3 : Nat.blt s.size s.size = false := by
      cases hq : Nat.blt s.size s.size with
      | false => rfl
      | true => have := Nat.le_of_ble_eq_true hq; omega
    rw [← hS]
    simp only [qd0, qg0, e1, e2, e3]
    rfl
  have hloop : ∀ (r : List UInt8) (i : Nat), s.data.toList.drop i = r → i ≤ s.size → 1 ≤ i → zat S [.tuple #[.string s, .int .i64 (i : Nat)]] H = if r.all zff = true then some (.exit 0, [.tuple #[.string s, .int .i64 (s.size : Nat)]], H) else some (.ret, [.bool false], H) := by
    intro r
    induction r with
    | nil =>
      intro i hd hi h1
      have : s.data.toList.length ≤ i := by simpa using hd
      have : i = s.size := by omega
      subst this
      rw [zak, hend]
      simp [ziX]
    | cons b r ih =>
      intro i hd hi h1
      have hb : s.data.toList[i]? = some b := by
        have : (s.data.toList.drop i)[0]? = some b := by rw [hd]; rfl
        rw [List.getElem?_drop] at this; simpa using this
      have hl : i < s.data.toList.length := (List.getElem?_eq_some_iff.1 hb).1
      have hd' : s.data.toList.drop (i + 1) = r := by rw [← List.drop_drop, hd]; rfl
      have hne : decide (i ≠ 0) = true := decide_eq_true (by omega)
      have hok : (zeJ (b.toNat : Int) || (decide (i ≠ 0) && zmW (b.toNat : Int))) = zff b := by rw [hne]; rfl
      rw [zak, hstep i b hb, hok]
      cases hk : zff b with
      | true =>
        simp only [if_true, Option.bind_some, ziX]
        rw [ih (i + 1) hd' (by omega) (by omega)]
        simp [hk]
      | false => simp [hk, ziX]
  simp only [s_slen, zbc, zb1, zac, s_br, decide_eq_true_eq]
  unfold zcb
  by_cases h1 : (s.size : Int) < 1
  · have : ¬ s.size ≥ 1 := by omega
    simp [h1, this, zap, zez]
  by_cases h2 : (s.size : Int) > 24
  · have : ¬ s.size ≤ 24 := by omega
    simp [h1, h2, this, zap, zez]
  have g1 : s.size ≥ 1 := by omega
  have g2 : s.size ≤ 24 := by omega
  obtain ⟨c, r, hcr⟩ : ∃ c r, s.data.toList = c :: r := by
    cases hq : s.data.toList with
    | nil => rw [hq] at hlen; simp at hlen; omega
    | cons c r => exact ⟨c, r, rfl⟩
  simp only [h1, h2, if_false, zap, za3]
  have h0 : s.data.toList[0]? = some c := by rw [hcr]; rfl
  have hd1 : s.data.toList.drop 1 = r := by rw [hcr]; rfl
  have hlp := hloop r 1 hd1 g1 (Nat.le_refl _)
  have hst := hstep 0 c h0
  have hfirst : zat S [.tuple #[.string s, .int .i64 ((0 : Nat) : Int)]] H = if zeJ (c.toNat : Int) = true then (if r.all zff = true then some (.exit 0, [.tuple #[.string s, .int .i64 (s.size : Nat)]], H) else some (.ret, [.bool false], H)) else some (.ret, [.bool false], H) := by
    rw [zak, hst]
    cases hc : zeJ (c.toNat : Int) with
    | false => simp [ziX]
    | true =>
      simp only [Bool.true_or, if_true, Option.bind_some, ziX]
      exact hlp
  show (zav (zat S [.tuple #[.string s, .int .i64 ((0 : Nat) : Int)]] H) _) = _
  rw [hfirst, hd1, hcr]
  cases hc : zeJ (c.toNat : Int) with
  | false => simp [g1, g2, hc, zap, zez]
  | true =>
    cases r.all zff with
    | true => simp [g1, g2, hc, zap, zbg, zaJ]
    | false => simp [g1, g2, hc, zap, zez]
end Go.AM
namespace Go.AM
open Go
def zl3 (b : Bool) (k : Option Bool) : Option Bool := match some b with | some true => k | r => r
theorem eq36c (n m : Nd) : eqT PP 10000 T.api_Node n.val m.val =
    zl3 (n.op == m.op) (zl3 (n.w == m.w) (zl3 (n.a == m.a) (zl3 (n.b == m.b) (zl3 (n.c == m.c) (zl3 (n.num == m.num) (zl3 (n.name == m.name) (some true))))))) := by
  kernel_rfl
def zjl (n m : Nd) : Bool := n.op == m.op && (n.w == m.w && (n.a == m.a && (n.b == m.b && (n.c == m.c && (n.num == m.num && n.name == m.name)))))
theorem eq36 (n m : Nd) : eqT PP 10000 T.api_Node n.val m.val = some (zjl n m) := by
  rw [eq36c]
  unfold zjl
  cases n.op == m.op <;> cases n.w == m.w <;> cases n.a == m.a <;> cases n.b == m.b <;> cases n.c == m.c <;> cases n.num == m.num <;> cases n.name == m.name <;> rfl
theorem eq9 (s t : ByteArray) : eqT PP 10000 T.string (.string s) (.string t) = some (s == t) := by kernel_rfl
theorem shape36 (n : Nd) : zdK PP 20 T.api_Node n.val = true := by kernel_rfl
theorem zkU (s : ByteArray) : zdK PP 20 T.string (.string s) = true := by kernel_rfl
def zdI : Nat → List Nd → List (Value × Value)
  | _, [] => []
  | i, n :: r => (n.val, .int .i64 ((i + 1 : Nat) : Int)) :: zdI (i + 1) r
def zbr (n : Nd) : Nat → List Nd → Option Nat
  | _, [] => none
  | i, m :: r => if zjl n m = true then some i else zbr n (i + 1) r
theorem find36 (n : Nd) : ∀ (L : List Nd) (i j : Nat), zei PP T.api_Node n.val (zdI i L) j = some ((zbr n i L).map fun q => (q - i + j, .int .i64 ((q + 1 : Nat) : Int)))
  | [], i, j => rfl
  | m :: r, i, j => by
    unfold zdI zei zbr
    rw [eq36]
    cases h : zjl n m with
    | true => simp
    | false =>
      simp only [Bool.false_eq_true, if_false]
      rw [find36 n r (i + 1) (j + 1)]
      cases hp : zbr n (i + 1) r with
      | none => rfl
      | some q =>
        have : i + 1 ≤ q := by
          have aux : ∀ (L : List Nd) (i q : Nat), zbr n i L = some q → i ≤ q := by
            intro L
            induction L with
            | nil => intro i q h; cases h
            | cons m L ih =>
              intro i q h
              unfold zbr at h
              split at h
              · cases h; exact Nat.le_refl _
              · have := ih (i + 1) q h; omega
          exact aux r (i + 1) q hp
        simp
        omega
theorem look36 {H : Hp} {f : Nat} {L : List Nd} (h : H.get f = some (.map (zdI 0 L))) (n : Nd) : lookV PP T.api_Node (.int .i64 0) (.map (some f)) n.val H =
    some (match zbr n 0 L with | some q => (.int .i64 ((q + 1 : Nat) : Int), true) | none => (.int .i64 0, false)) := by
  unfold lookV
  rw [shape36]
  simp only [if_true, zmG, h, find36]
  cases zbr n 0 L <;> rfl
end Go.AM
namespace Go.AM
open Go
theorem ze8 (s t : ByteArray) : (s == t) = true ↔ s = t := by
  obtain ⟨a⟩ := s
  obtain ⟨b⟩ := t
  show (a == b) = true ↔ _
  simp
theorem zjI (n : Nd) : ∀ (L : List Nd) (i : Nat), zdI i (L ++ [n]) = zdI i L ++ [(n.val, .int .i64 ((i + L.length + 1 : Nat) : Int))]
  | [], i => rfl
  | m :: r, i => by
    show (m.val, _) :: zdI (i + 1) (r ++ [n]) = _
    rw [zjI n r (i + 1)]
    simp only [zdI, List.cons_append, List.length_cons]
    rw [show i + 1 + r.length + 1 = i + (r.length + 1) + 1 by omega]
theorem upd36 {H : Hp} {f : Nat} {L : List Nd} (h : H.get f = some (.map (zdI 0 L))) (n : Nd) (hn : zbr n 0 L = none) :
    updV PP T.api_Node (.map (some f)) n.val (.int .i64 ((L.length + 1 : Nat) : Int)) H = some (H.set f (some (.map (zdI 0 (L ++ [n]))))) := by
  unfold updV
  rw [shape36]
  simp only [if_true, h, find36, hn, Option.map_none]
  rw [zjI, Nat.zero_add]
def zdz (K : List (ByteArray × Int)) : List (Value × Value) := K.map fun x => (.string x.1, .int .i64 x.2)
def za4 (s : ByteArray) : Nat → List (ByteArray × Int) → Option (Nat × Int)
  | _, [] => none
  | i, (t, w) :: r => if (s == t) = true then some (i, w) else za4 s (i + 1) r
theorem find9 (s : ByteArray) : ∀ (K : List (ByteArray × Int)) (i : Nat), zei PP T.string (.string s) (zdz K) i = some ((za4 s i K).map fun q => (q.1, .int .i64 q.2))
  | [], i => rfl
  | (t, w) :: r, i => by
    show (match eqT PP 10000 T.string (.string s) (.string t) with | some true => some (some (i, Value.int .i64 w)) | some false => zei PP T.string (.string s) (zdz r) (i + 1) | none => none) = _
    rw [eq9]
    unfold za4
    cases h : s == t with
    | true => simp
    | false =>
      simp only [Bool.false_eq_true, if_false]
      exact find9 s r (i + 1)
theorem look9 {H : Hp} {g : Nat} {K : List (ByteArray × Int)} (h : H.get g = some (.map (zdz K))) (s : ByteArray) : lookV PP T.string (.int .i64 0) (.map (some g)) (.string s) H =
    some (match za4 s 0 K with | some q => (.int .i64 q.2, true) | none => (.int .i64 0, false)) := by
  unfold lookV
  rw [zkU]
  simp only [if_true, zmG, h, find9]
  cases za4 s 0 K <;> rfl
theorem zjr (s : ByteArray) : ∀ (K : List (ByteArray × Int)) (i j : Nat) (w : Int), za4 s i K = some (j, w) → i ≤ j ∧ K[j - i]? = some (s, w)
  | [], i, j, w, h => by cases h
  | (t, u) :: r, i, j, w, h => by
    unfold za4 at h
    split at h
    · rename_i e
      cases h
      have : s = t := (ze8 s t).1 e
      subst this
      exact ⟨Nat.le_refl _, by simp⟩
    · obtain ⟨h1, h2⟩ := zjr s r (i + 1) j w h
      refine ⟨by omega, ?_⟩
      rw [show j - i = (j - (i + 1)) + 1 by omega]
      simpa using h2
def zb8 (s : ByteArray) (w : Int) (K : List (ByteArray × Int)) : List (ByteArray × Int) := match za4 s 0 K with | some _ => K | none => K ++ [(s, w)]
theorem upd9 {H : Hp} {g : Nat} {K : List (ByteArray × Int)} (h : H.get g = some (.map (zdz K))) (s : ByteArray) (w : Int) (hw : ∀ j u, za4 s 0 K = some (j, u) → u = w) :
    updV PP T.string (.map (some g)) (.string s) (.int .i64 w) H = some (H.set g (some (.map (zdz (zb8 s w K))))) := by
  unfold updV zb8
  rw [zkU]
  simp only [if_true, h, find9]
  cases hq : za4 s 0 K with
  | none => simp [zdz]
  | some q =>
    obtain ⟨j, u⟩ := q
    have hu := hw j u hq
    subst hu
    obtain ⟨_, h2⟩ := zjr s K 0 j u hq
    rw [Nat.sub_zero] at h2
    have hk : (zdz K)[j]? = some (.string s, .int .i64 u) := by unfold zdz; rw [List.getElem?_map, h2]; rfl
    have hset : zg9 (zdz K) j (.string s) (.int .i64 u) = zdz K := by
      unfold zg9
      apply List.ext_getElem?
      intro i
      rw [List.getElem?_set]
      split
      · rename_i e; subst e
        rw [if_pos (List.getElem?_eq_some_iff.1 hk).1, hk]
      · rfl
    have hsb : Instr.sameBits 10000 (.string s) (.string s) = true := by
      simp only [Instr.sameBits]
      exact (ze8 s s).2 rfl
    simp only [Option.map_some, hk, hsb, if_true, hset]
end Go.AM
namespace Go.AM
open Go
def slId : Value → Option Nat
  | .slice (some a) _ _ => some a.block
  | _ => none
theorem zgc (H : Hp) (o : AObj) (i : Nat) : (H.new o).get i = if i = H.next then some o else H.get i := rfl
theorem zmS (H : Hp) (j : Nat) (o : Option AObj) (i : Nat) : (H.set j o).get i = if i = j then o else H.get i := rfl
theorem zlF (H : Hp) (j : Nat) (o : Option AObj) : (H.set j o).next = H.next := rfl
theorem ziD (n : Nd) : n.cells.all one = true := rfl
theorem zm4 {H : Hp} {sl : Value} {L : List Nd} (hsl : SlR H sl L) {y : Nat} {own : Bool} {n : Nd} (hy : H.get y = some (.cells n.cells own)) (hlt : ∀ i, slId sl = some i → i < H.next) (hb : (L.length + 1) * 64 ≤ 2 ^ 47) :
    ∃ sl' H', zcC 7 64 sl (.slice (some ⟨y, 0, some 7⟩) 1 1) H = some (sl', H') ∧ SlR H' sl' (L ++ [n]) ∧ slId sl' = some H.next ∧ H'.next = H.next + 1 ∧
      ∀ j, j < H.next → slId sl ≠ some j → H'.get j = H.get j := by
  have hsrc : zb4 7 (.slice (some ⟨y, 0, some 7⟩) 1 1) H = some (1, n.cells) := by
    simp [zb4, hy, Nd.cells]
  rcases hsl with ⟨rfl, rfl⟩ | ⟨i, rfl, hi⟩
  · refine ⟨.slice (some ⟨H.next, 0, some 7⟩) 1 1, H.new (.cells n.cells true), ?_, .inr ⟨H.next, rfl, ?_⟩, rfl, rfl, fun j hj _ => ?_⟩
    · unfold zcC
      rw [hsrc]
      simp [ziD]
    · rw [zgc, if_pos rfl]; simp
    · rw [zgc, if_neg (by omega)]
  · refine ⟨.slice (some ⟨H.next, 0, some 7⟩) (L.length + 1) (L.length + 1), (H.set i none).new (.cells (L.flatMap Nd.cells ++ n.cells) true), ?_, .inr ⟨H.next, by simp, ?_⟩, rfl, rfl, fun j hj hne => ?_⟩
    · unfold zcC
      rw [hsrc]
      have h1 : ¬ L.length + 1 ≤ L.length := by omega
      have h2 : (L.flatMap Nd.cells).take (L.length * 7) = L.flatMap Nd.cells := List.take_of_length_le (by rw [flat_len]; omega)
      have h3 : 0 + L.length * 7 ≤ (L.flatMap Nd.cells).length := by rw [flat_len]; omega
      simp only [ne_eq, not_true_eq_false, if_false, hi, h1, Nat.one_ne_zero, false_and, h3, hb, ziD, and_self, if_true, qd0, h2]
    · rw [zgc, if_pos (zlF _ _ _).symm]; simp [List.flatMap_append]
    · have : j ≠ i := fun e => hne (by rw [e]; rfl)
      rw [zgc, zlF, if_neg (by omega), zmS, if_neg this]
end Go.AM
namespace Go.AM
open Go
noncomputable def tailM (p : Nat) (n : Nd) (H : Hp) : Option (Value × Hp) :=
 (pNil (.pointer (some ⟨p, 0, none⟩)) (
  zas 1 (.pointer (some ⟨p, 0, none⟩)) fun p124 =>
  zal 1 false H p124 fun v125 =>
  zai 7 true (zab n.val) 0 fun v126 =>
  zaj 7 [.int .i64 0, .int .i64 0, .int .i64 0, .int .i64 0, .int .i64 0, .int .u64 0, .string ⟨#[]⟩] 1 [(0, v126)] H fun v127 H128 =>
  chk (Hp.rdP H128 p124 1 false = some v125) (
  zaF 7 64 v125 v127 H128 fun v129 H130 =>
  pNil (.pointer (some ⟨p, 0, none⟩)) (
  zas 1 (.pointer (some ⟨p, 0, none⟩)) fun p131 =>
  zar 1 H130 p131 v129 fun H132 =>
  pNil (.pointer (some ⟨p, 0, none⟩)) (
  zas 2 (.pointer (some ⟨p, 0, none⟩)) fun p133 =>
  zal 1 false H132 p133 fun v134 =>
  zai 7 true (zab n.val) 0 fun v135 =>
  pNil (.pointer (some ⟨p, 0, none⟩)) (
  zas 1 (.pointer (some ⟨p, 0, none⟩)) fun p136 =>
  zal 1 false H132 p136 fun v137 =>
  pLen .sl v137 H132 fun v138 =>
  pUpd PP T.api_Node v134 v135 v138 H132 fun H139 =>
  zai 1 false (zab n.val) 0 fun v140 =>
  pBin PP .eql T.int v140 (.int .i64 4) fun v141 =>
  zaa v141 fun b142 => br b142
  (pNil (.pointer (some ⟨p, 0, none⟩)) (
  zas 3 (.pointer (some ⟨p, 0, none⟩)) fun p143 =>
  zal 1 false H139 p143 fun v144 =>
  zai 1 false (zab n.val) 6 fun v145 =>
  zai 1 false (zab n.val) 1 fun v146 =>
  pUpd PP T.string v144 v145 v146 H139 fun H147 =>
  pNil (.pointer (some ⟨p, 0, none⟩)) (
  zas 1 (.pointer (some ⟨p, 0, none⟩)) fun p148 =>
  zal 1 false H147 p148 fun v149 =>
  pLen .sl v149 H147 fun v150 =>
  some ((.tuple #[v150, (.int .i64 0)]), H147))))
  (pNil (.pointer (some ⟨p, 0, none⟩)) (
  zas 1 (.pointer (some ⟨p, 0, none⟩)) fun p151 =>
  zal 1 false H139 p151 fun v152 =>
  pLen .sl v152 H139 fun v153 =>
  some ((.tuple #[v153, (.int .i64 0)]), H139)))))))))
theorem zjR (n : Nd) (H : Hp) {α : Type} (k : Value → Hp → Option α) :
    zaj 7 [.int .i64 0, .int .i64 0, .int .i64 0, .int .i64 0, .int .i64 0, .int .u64 0, .string ⟨#[]⟩] 1 [(0, n.val)] H k = k (.slice (some ⟨H.next, 0, some 7⟩) 1 1) (H.new (.cells n.cells true)) := by
  have : zbK 7 [.int .i64 0, .int .i64 0, .int .i64 0, .int .i64 0, .int .i64 0, .int .u64 0, .string ⟨#[]⟩] 1 [(0, n.val)] H = some (.slice (some ⟨H.next, 0, some 7⟩) 1 1, H.new (.cells n.cells true)) := by
    have h1 : zab n.val = n.cells := rfl
    have h2 : n.cells.length = 7 := rfl
    simp [zbK, repl, ziu, h1, h2, ziD, spl]
  unfold zaj
  rw [this]
theorem zj6 {α : Type} {q : Prop} (h : q) (k : Option α) : chk q k = k := by unfold chk; exact if_pos h
end Go.AM
namespace Go.AM
open Go
structure StF (H : Hp) (p : Nat) (lim : Int) (L : List Nd) (K : List (ByteArray × Int)) (sl : Value) (f g : Nat) : Prop where
  st : StR H p lim L sl f g
  fm : H.get f = some (.map (zdI 0 L))
  gm : H.get g = some (.map (zdz K))
  pf : p ≠ f
  pg : p ≠ g
  fg : f ≠ g
  lp : p < H.next
  lf : f < H.next
  lg : g < H.next
  sa : ∀ i, slId sl = some i → i ≠ p ∧ i ≠ f ∧ i ≠ g ∧ i < H.next
theorem store1 {α : Type} {H : Hp} {p f g : Nat} {lim : Int} {sl : Value} (hs : H.get p = some (.cells [.int .i64 lim, sl, .map (some f), .map (some g)] true)) (v : Value) (hv : zab v = [v]) (h1 : one v = true) (k : Hp → Option α) :
    zar 1 H (.pointer (some ⟨p, 1, none⟩)) v k = k (H.set p (some (.cells [.int .i64 lim, v, .map (some f), .map (some g)] true))) := by
  have : H.wr (.pointer (some ⟨p, 1, none⟩)) 1 v = some (H.set p (some (.cells [.int .i64 lim, v, .map (some f), .map (some g)] true))) := by
    simp [Hp.wr, hs, zbj, hv, h1, spl]
  unfold zar
  rw [this]
theorem zno {α : Type} {n m : Nat} {s x : Value} {H : Hp} {v : Value} {H' : Hp} (h : zcC n m s x H = some (v, H')) (k : Value → Hp → Option α) : zaF n m s x H k = k v H' := by unfold zaF; rw [h]
theorem s_upd {α : Type} {P : Program} {kt : TypeId} {m key v : Value} {H H' : Hp} (h : updV P kt m key v H = some H') (k : Hp → Option α) : pUpd P kt m key v H k = k H' := by unfold pUpd; rw [h]
theorem tail_ok {H : Hp} {p f g : Nat} {lim : Int} {L : List Nd} {K : List (ByteArray × Int)} {sl : Value} (h : StF H p lim L K sl f g) (n : Nd) (hn : zbr n 0 L = none) (hw : n.op = 4 → ∀ j u, za4 n.name 0 K = some (j, u) → u = n.w) (hb : (L.length + 1) * 64 ≤ 2 ^ 47) :
    ∃ H' sl', tailM p n H = some (.tuple #[.int .i64 ((L.length + 1 : Nat) : Int), .int .i64 0], H') ∧ StF H' p lim (L ++ [n]) (if n.op = 4 then zb8 n.name n.w K else K) sl' f g ∧ H.next ≤ H'.next ∧
      (∀ j, j < H.next → j ≠ p → j ≠ f → j ≠ g → slId sl ≠ some j → H'.get j = H.get j) ∧ (∀ i, slId sl' = some i → H.next ≤ i) := by
  have hlp := h.lp
  have hlf := h.lf
  have hlg := h.lg
  have hH1 : ∀ j, j < H.next → (H.new (.cells n.cells true)).get j = H.get j := fun j hj => by rw [zgc, if_neg (by omega)]
  have hsl1 : SlR (H.new (.cells n.cells true)) sl L := by
    rcases h.st.all with ⟨e1, e2⟩ | ⟨i, e1, e2⟩
    · exact .inl ⟨e1, e2⟩
    · have := (h.sa i (by rw [e1]; rfl)).2.2.2
      exact .inr ⟨i, e1, by rw [hH1 i this]; exact e2⟩
  obtain ⟨sl', H2, ha, hsl2, hid, hnx, hfr⟩ := zm4 hsl1 (y := H.next) (own := true) (n := n) (by rw [zgc, if_pos rfl]) (fun i hi => by have := (h.sa i hi).2.2.2; show i < H.next + 1; omega) hb
  have hnx1 : (H.new (.cells n.cells true)).next = H.next + 1 := rfl
  rw [hnx1] at hid hnx hfr
  have hg2 : ∀ j, j < H.next → slId sl ≠ some j → H2.get j = H.get j := fun j hj hne => by rw [hfr j (by omega) hne, hH1 j hj]
  have sp : slId sl ≠ some p := fun e => (h.sa p e).1 rfl
  have sf : slId sl ≠ some f := fun e => (h.sa f e).2.1 rfl
  have sg : slId sl ≠ some g := fun e => (h.sa g e).2.2.1 rfl
  have hsl' : ∃ c, sl' = .slice (some ⟨H.next + 1, 0, some 7⟩) (L ++ [n]).length c := by
    rcases hsl2 with ⟨e1, _⟩ | ⟨i, e1, _⟩
    · simp at e1
    · rw [e1] at hid
      have : i = H.next + 1 := by simpa [slId] using hid
      subst this
      exact ⟨_, e1⟩
  obtain ⟨c, hslc⟩ := hsl'
  have hobj2 : H2.get p = some (.cells [.int .i64 lim, sl, .map (some f), .map (some g)] true) := by rw [hg2 p hlp sp]; exact h.st.obj
  have hcl : zab sl' = [sl'] := by rw [hslc]; rfl
  have hone : one sl' = true := by rw [hslc]; rfl
  generalize hH3 : H2.set p (some (.cells [.int .i64 lim, sl', .map (some f), .map (some g)] true)) = H3
  have g3 : ∀ j, j ≠ p → H3.get j = H2.get j := fun j hj => by rw [← hH3, zmS, if_neg hj]
  have obj3 : H3.get p = some (.cells [.int .i64 lim, sl', .map (some f), .map (some g)] true) := by rw [← hH3, zmS, if_pos rfl]
  have n3 : H3.next = H.next + 2 := by rw [← hH3, zlF, hnx]
  have hsl3 : SlR H3 sl' (L ++ [n]) := by
    rcases hsl2 with ⟨e1, _⟩ | ⟨i, e1, e2⟩
    · simp at e1
    · have : i = H.next + 1 := by rw [e1] at hid; simpa [slId] using hid
      exact .inr ⟨i, e1, by rw [g3 i (by omega)]; exact e2⟩
  have hf3 : H3.get f = some (.map (zdI 0 L)) := by rw [g3 f (Ne.symm h.pf), hg2 f hlf sf]; exact h.fm
  have hg3 : H3.get g = some (.map (zdz K)) := by rw [g3 g (Ne.symm h.pg), hg2 g hlg sg]; exact h.gm
  have st3 : StR H3 p lim (L ++ [n]) sl' f g := ⟨obj3, hsl3⟩
  have hu := upd36 hf3 n hn
  generalize hH4 : H3.set f (some (.map (zdI 0 (L ++ [n])))) = H4 at hu
  have g4 : ∀ j, j ≠ f → H4.get j = H3.get j := fun j hj => by rw [← hH4, zmS, if_neg hj]
  have n4 : H4.next = H.next + 2 := by rw [← hH4, zlF, n3]
  have obj4 : H4.get p = some (.cells [.int .i64 lim, sl', .map (some f), .map (some g)] true) := by rw [g4 p h.pf]; exact obj3
  have hf4 : H4.get f = some (.map (zdI 0 (L ++ [n]))) := by rw [← hH4, zmS, if_pos rfl]
  have hg4 : H4.get g = some (.map (zdz K)) := by rw [g4 g (Ne.symm h.fg)]; exact hg3
  have hslk : ∀ {Hx : Hp}, (∀ j, j ≠ p → j ≠ f → j ≠ g → Hx.get j = H3.get j) → SlR Hx sl' (L ++ [n]) := fun hx => by
    rcases hsl3 with ⟨e1, _⟩ | ⟨i, e1, e2⟩
    · simp at e1
    · have : i = H.next + 1 := by rw [e1] at hid; simpa [slId] using hid
      exact .inr ⟨i, e1, by rw [hx i (by omega) (by omega) (by omega)]; exact e2⟩
  have st4 : StR H4 p lim (L ++ [n]) sl' f g := ⟨obj4, hslk fun j _ hf _ => g4 j hf⟩
  have hlen : ((L ++ [n]).length : Int) = ((L.length + 1 : Nat) : Int) := by simp
  have hapart : ∀ i, slId sl' = some i → i ≠ p ∧ i ≠ f ∧ i ≠ g ∧ i < H.next + 2 := fun i hi => by
    rw [hid] at hi
    cases hi
    exact ⟨by omega, by omega, by omega, by omega⟩
  have hframe4 : ∀ j, j < H.next → j ≠ p → j ≠ f → j ≠ g → slId sl ≠ some j → H4.get j = H.get j := fun j a b c d e => by rw [g4 j c, g3 j b, hg2 j a e]
  have hge : ∀ i, slId sl' = some i → H.next ≤ i := fun i hi => by rw [hid] at hi; cases hi; omega
  have hchk : Hp.rdP (H.new (.cells n.cells true)) (.pointer (some ⟨p, 1, none⟩)) 1 false = some sl := by
    simp [Hp.rdP, Hp.rd, hH1 p hlp, h.st.obj, zb6]
  by_cases hop : n.op = 4
  · have hu9 := upd9 hg4 n.name n.w (hw hop)
    generalize hH5 : H4.set g (some (.map (zdz (zb8 n.name n.w K)))) = H5 at hu9
    have g5 : ∀ j, j ≠ g → H5.get j = H4.get j := fun j hj => by rw [← hH5, zmS, if_neg hj]
    have n5 : H5.next = H.next + 2 := by rw [← hH5, zlF, n4]
    have obj5 : H5.get p = some (.cells [.int .i64 lim, sl', .map (some f), .map (some g)] true) := by rw [g5 p h.pg]; exact obj4
    have st5 : StR H5 p lim (L ++ [n]) sl' f g := ⟨obj5, hslk fun j _ hf hg => by rw [g5 j hg, g4 j hf]⟩
    refine ⟨H5, sl', ?_, ⟨st5, ?_, ?_, h.pf, h.pg, h.fg, by omega, by omega, by omega, by rw [n5]; exact hapart⟩, by omega, fun j a b c d e => ?_, hge⟩
    · unfold tailM
      simp only [zbV, zaT, Nat.zero_add, h.st.l1, n07, zjR]
      rw [zj6 hchk, zno ha, store1 hobj2 sl' hcl hone, hH3]
      simp only [st3.l1, st3.l2, hsl3.len, hlen]
      rw [s_upd hu]
      simp only [n0, n1, n6, za0, hop, decide_true, zac, s_br, if_true, st4.l3]
      rw [s_upd hu9]
      simp only [st5.l1, st5.all.len, hlen]
    · rw [g5 f h.fg]; exact hf4
    · rw [if_pos hop, ← hH5, zmS, if_pos rfl]
    · rw [g5 j d]; exact hframe4 j a b c d e
  · refine ⟨H4, sl', ?_, ⟨st4, hf4, ?_, h.pf, h.pg, h.fg, by omega, by omega, by omega, by rw [n4]; exact hapart⟩, by omega, hframe4, hge⟩
    · unfold tailM
      simp only [zbV, zaT, Nat.zero_add, h.st.l1, n07, zjR]
      rw [zj6 hchk, zno ha, store1 hobj2 sl' hcl hone, hH3]
      simp only [st3.l1, st3.l2, hsl3.len, hlen]
      rw [s_upd hu]
      simp only [n0, za0, hop, decide_false, zac, s_br, Bool.false_eq_true, if_false, st4.l1, st4.all.len, hlen]
    · rw [if_neg hop]; exact hg4
end Go.AM
namespace Go.AM
open Go
def zbM (L : List Nd) (n : Nd) : Bool := (decide (zah n.op ≥ 1) && !isT L n.a) || (decide (zah n.op ≥ 2) && !isT L n.b) || (decide (zah n.op ≥ 3) && !isT L n.c)
def zbL (K : List (ByteArray × Int)) (n : Nd) : Bool := !zcb n.name || (match za4 n.name 0 K with | some q => decide (q.2 ≠ n.w) | none => false)
def zd9 (L : List Nd) (K : List (ByteArray × Int)) (n : Nd) : Int :=
  if n.op < 1 ∨ n.op > 33 then 73 else if n.w < 0 ∨ n.w > 64 then 5 else if zbM L n = true then 70 else if zey (zah n.op) n = true then 1
  else if zbC n.op (wT L (-1) n.a) (wT L (-1) n.b) (wT L (-1) n.c) = false then 71 else if zbF n (wT L (-1) n.a) (wT L (-1) n.b) = false then 5
  else if n.op = 4 ∧ zbL K n = true then 72 else 0
def mkR (lim : Int) (L : List Nd) (K : List (ByteArray × Int)) (n : Nd) : Int × Int × List Nd × List (ByteArray × Int) :=
  if zd9 L K n ≠ 0 then (0, zd9 L K n, L, K) else match zbr n 0 L with
    | some q => (((q + 1 : Nat) : Int), 0, L, K)
    | none => if lim > 0 ∧ (L.length : Int) ≥ lim then (0, 4, L, K) else (((L.length + 1 : Nat) : Int), 0, L ++ [n], if n.op = 4 then zb8 n.name n.w K else K)
theorem wT_bd {L : List Nd} (h : ∀ m ∈ L, 0 ≤ m.w ∧ m.w ≤ 64) (t : Int) : -1 ≤ wT L (-1) t ∧ wT L (-1) t ≤ 64 := by
  unfold wT
  split
  · cases hq : L[(t - 1).toNat]? with
    | none => simp
    | some m =>
      have := h m (List.mem_of_getElem? hq)
      simp; omega
  · omega
end Go.AM
namespace Go.AM
open Go
theorem zhM {α : Type} {P : Program} {kt : TypeId} {z m key v : Value} {b : Bool} {H : Hp} (h : lookV P kt z m key H = some (v, b)) (k : Value → Option α) : zbs P kt z m key true H k = k (.tuple #[v, .bool b]) := by unfold zbs; rw [h]
theorem s_ext0 {α : Type} (x y : Value) (k : Value → Option α) : zae (.tuple #[x, y]) 0 k = k x := rfl
theorem s_ext1 {α : Type} (x y : Value) (k : Value → Option α) : zae (.tuple #[x, y]) 1 k = k y := rfl
noncomputable def restM (p : Nat) (n : Nd) (H : Hp) : Option (Value × Hp) :=
 pNil (.pointer (some ⟨p, 0, none⟩)) (
 zas 2 (.pointer (some ⟨p, 0, none⟩)) fun p102 =>
 zal 1 false H p102 fun v103 =>
 zai 7 true (zab n.val) 0 fun v104 =>
 zbs PP T.api_Node (.int .i64 0) v103 v104 true H fun v105 =>
 zae v105 0 fun v106 =>
 zae v105 1 fun v107 =>
 zaa v107 fun b108 => br b108
 (some ((.tuple #[v106, (.int .i64 0)]), H))
 (zav (
 pNil (.pointer (some ⟨p, 0, none⟩)) (
 zas 0 (.pointer (some ⟨p, 0, none⟩)) fun p109 =>
 zal 1 false H p109 fun v110 =>
 pBin PP .gtr T.int v110 (.int .i64 0) fun v111 =>
 zaa v111 fun b112 => br b112
 (pNil (.pointer (some ⟨p, 0, none⟩)) (
 zas 1 (.pointer (some ⟨p, 0, none⟩)) fun p113 =>
 zal 1 false H p113 fun v114 =>
 pLen .sl v114 H fun v115 =>
 pNil (.pointer (some ⟨p, 0, none⟩)) (
 zas 0 (.pointer (some ⟨p, 0, none⟩)) fun p116 =>
 zal 1 false H p116 fun v117 =>
 pBin PP .geq T.int v115 v117 fun v118 =>
 zaa v118 fun b119 => br b119
 (some (.ret, [(.tuple #[(.int .i64 0), (.int .i64 4)])], H))
 (some (.next, [], H)))))
 (some (.next, [], H)))) fun q120 l121 H122 => zaL q120
 (pNil (.pointer (some ⟨p, 0, none⟩)) (
 zas 1 (.pointer (some ⟨p, 0, none⟩)) fun p124 =>
 zal 1 false H122 p124 fun v125 =>
 zai 7 true (zab n.val) 0 fun v126 =>
 zaj 7 [.int .i64 0, .int .i64 0, .int .i64 0, .int .i64 0, .int .i64 0, .int .u64 0, .string ⟨#[]⟩] 1 [(0, v126)] H122 fun v127 H128 =>
 chk (Hp.rdP H128 p124 1 false = some v125) (
 zaF 7 64 v125 v127 H128 fun v129 H130 =>
 pNil (.pointer (some ⟨p, 0, none⟩)) (
 zas 1 (.pointer (some ⟨p, 0, none⟩)) fun p131 =>
 zar 1 H130 p131 v129 fun H132 =>
 pNil (.pointer (some ⟨p, 0, none⟩)) (
 zas 2 (.pointer (some ⟨p, 0, none⟩)) fun p133 =>
 zal 1 false H132 p133 fun v134 =>
 zai 7 true (zab n.val) 0 fun v135 =>
 pNil (.pointer (some ⟨p, 0, none⟩)) (
 zas 1 (.pointer (some ⟨p, 0, none⟩)) fun p136 =>
 zal 1 false H132 p136 fun v137 =>
 pLen .sl v137 H132 fun v138 =>
 pUpd PP T.api_Node v134 v135 v138 H132 fun H139 =>
 zai 1 false (zab n.val) 0 fun v140 =>
 pBin PP .eql T.int v140 (.int .i64 4) fun v141 =>
 zaa v141 fun b142 => br b142
 (pNil (.pointer (some ⟨p, 0, none⟩)) (
 zas 3 (.pointer (some ⟨p, 0, none⟩)) fun p143 =>
 zal 1 false H139 p143 fun v144 =>
 zai 1 false (zab n.val) 6 fun v145 =>
 zai 1 false (zab n.val) 1 fun v146 =>
 pUpd PP T.string v144 v145 v146 H139 fun H147 =>
 pNil (.pointer (some ⟨p, 0, none⟩)) (
 zas 1 (.pointer (some ⟨p, 0, none⟩)) fun p148 =>
 zal 1 false H147 p148 fun v149 =>
 pLen .sl v149 H147 fun v150 =>
 some ((.tuple #[v150, (.int .i64 0)]), H147))))
 (pNil (.pointer (some ⟨p, 0, none⟩)) (
 zas 1 (.pointer (some ⟨p, 0, none⟩)) fun p151 =>
 zal 1 false H139 p151 fun v152 =>
 pLen .sl v152 H139 fun v153 =>
 some ((.tuple #[v153, (.int .i64 0)]), H139)))))))))
 (fun i123 => none)
 (some ((l121.headD undef), H122))))
def okR (lim : Int) (L : List Nd) (K : List (ByteArray × Int)) (n : Nd) : Int × Int × List Nd × List (ByteArray × Int) :=
  match zbr n 0 L with
    | some q => (((q + 1 : Nat) : Int), 0, L, K)
    | none => if lim > 0 ∧ (L.length : Int) ≥ lim then (0, 4, L, K) else (((L.length + 1 : Nat) : Int), 0, L ++ [n], if n.op = 4 then zb8 n.name n.w K else K)
structure MkOk (H : Hp) (p : Nat) (lim : Int) (sl : Value) (f g : Nat) (r : Int × Int × List Nd × List (ByteArray × Int)) (H' : Hp) (sl' : Value) : Prop where
  st : StF H' p lim r.2.2.1 r.2.2.2 sl' f g
  next : H.next ≤ H'.next
  frame : ∀ j, j < H.next → j ≠ p → j ≠ f → j ≠ g → slId sl ≠ some j → H'.get j = H.get j
  own : ∀ i, slId sl' = some i → slId sl = some i ∨ H.next ≤ i
theorem MkOk.stay {H : Hp} {p f g : Nat} {lim : Int} {L : List Nd} {K : List (ByteArray × Int)} {sl : Value} (h : StF H p lim L K sl f g) {r : Int × Int × List Nd × List (ByteArray × Int)} (hr : r.2.2 = (L, K)) : MkOk H p lim sl f g r H sl :=
  ⟨by rw [hr]; exact h, Nat.le_refl _, fun _ _ _ _ _ _ => rfl, fun i hi => .inl hi⟩
theorem rest_ok {H : Hp} {p f g : Nat} {lim : Int} {L : List Nd} {K : List (ByteArray × Int)} {sl : Value} (h : StF H p lim L K sl f g) (n : Nd) (hw : n.op = 4 → ∀ j u, za4 n.name 0 K = some (j, u) → u = n.w) (hb : (L.length + 1) * 64 ≤ 2 ^ 47) :
    ∃ H' sl', restM p n H = some (.tuple #[.int .i64 (okR lim L K n).1, .int .i64 (okR lim L K n).2.1], H') ∧ MkOk H p lim sl f g (okR lim L K n) H' sl' := by
  have hl36 := look36 h.fm n
  unfold okR
  cases hq : zbr n 0 L with
  | some q =>
    rw [hq] at hl36
    refine ⟨H, sl, ?_, MkOk.stay h rfl⟩
    unfold restM
    simp only [zbV, zaT, Nat.zero_add, h.st.l2, n07, zhM hl36, x01, zac, s_br, if_true]
  | none =>
    rw [hq] at hl36
    by_cases hlim : lim > 0 ∧ (L.length : Int) ≥ lim
    · refine ⟨H, sl, ?_, MkOk.stay h (by simp only [if_pos hlim])⟩
      unfold restM
      simp only [zbV, zaT, Nat.zero_add, Nat.add_zero, h.st.l0, h.st.l1, h.st.l2, h.st.all.len, n07, zhM hl36, x01, zac, s_br, zb1, zde, hlim.1, hlim.2, decide_true, Bool.false_eq_true, if_false, if_true, zap, zez, zfb, if_pos hlim, and_self]
    · obtain ⟨H', sl', h1, h2, h3, h4, h5⟩ := tail_ok h n hq hw hb
      rw [if_neg hlim]
      refine ⟨H', sl', ?_, ⟨h2, h3, h4, fun i hi => .inr (h5 i hi)⟩⟩
      rw [← h1]
      unfold restM
      by_cases l1 : lim > 0
      · have l2 : ¬ ((L.length : Int) ≥ lim) := fun q => hlim ⟨l1, q⟩
        simp only [zbV, zaT, Nat.zero_add, Nat.add_zero, h.st.l0, h.st.l1, h.st.l2, h.st.all.len, n07, zhM hl36, x01, zac, s_br, zb1, zde, l1, l2, decide_true, decide_false, Bool.false_eq_true, if_false, if_true, zap, za3, zfb]
        unfold tailM
        simp only [zbV, zaT, Nat.zero_add, Nat.add_zero, h.st.l0, h.st.l1, h.st.l2, h.st.all.len, n07, s_br]
      · simp only [zbV, zaT, Nat.zero_add, Nat.add_zero, h.st.l0, h.st.l1, h.st.l2, h.st.all.len, n07, zhM hl36, x01, zac, s_br, zb1, zde, l1, decide_true, decide_false, Bool.false_eq_true, if_false, if_true, zap, za3, zfb]
        unfold tailM
        simp only [zbV, zaT, Nat.zero_add, Nat.add_zero, h.st.l0, h.st.l1, h.st.l2, h.st.all.len, n07, s_br]
end Go.AM
namespace Go.AM
open Go
end Go.AM
namespace Go.AM
open Go
theorem zhj {α : Type} (a b c : Int) (k : Value → Option α) : zaG PP T.a3_int [(0, .int .i64 a), (1, .int .i64 b), (2, .int .i64 c)] k = k (.agg #[.int .i64 a, .int .i64 b, .int .i64 c]) := by
  have : zgi PP T.a3_int [(0, .int .i64 a), (1, .int .i64 b), (2, .int .i64 c)] = some (.agg #[.int .i64 a, .int .i64 b, .int .i64 c]) := by kernel_rfl
  unfold zaG; rw [this]
theorem s_arr0 {α : Type} (a b c : Value) (k : Value → Option α) : zdi 3 false 1 (.agg #[a, b, c]) (.int .i64 0) k = k a := rfl
theorem s_arr1 {α : Type} (a b c : Value) (k : Value → Option α) : zdi 3 false 1 (.agg #[a, b, c]) (.int .i64 1) k = k b := rfl
theorem s_arr2 {α : Type} (a b c : Value) (k : Value → Option α) : zdi 3 false 1 (.agg #[a, b, c]) (.int .i64 2) k = k c := rfl
theorem loop3 {H : Hp} {p f g : Nat} {lim : Int} {L : List Nd} {sl : Value} (hs : StR H p lim L sl f g) (n : Nd) (S : List Value → Hp → Option Outc)
    (hS : S = fun (l25 : List Value) (H26 : Hp) =>
 pBin PP .lss T.int (l25.getD 0 undef) (.int .i64 3) fun v27 =>
 zaa v27 fun b28 => br b28
 (zdi 3 false 1 (.agg #[.int .i64 n.a, .int .i64 n.b, .int .i64 n.c]) (l25.getD 0 undef) fun v29 =>
 zaf RR F.a7 [.int .i64 n.op] H26 fun r31 H32 =>
 pBin PP .lss T.int (l25.getD 0 undef) r31 fun v33 =>
 zaa v33 fun b34 => br b34
 (zaf RR F.a13 [.pointer (some ⟨p, 0, none⟩), v29] H32 fun r35 H36 =>
 pUn .not r35 fun v37 =>
 zaa v37 fun b38 => br b38
 (some (.ret, [(.tuple #[(.int .i64 0), (.int .i64 70)])], H36))
 (pBin PP .add T.int (l25.getD 0 undef) (.int .i64 1) fun v39 =>
 some (.next, [v39], H36)))
 (pBin PP .add T.int (l25.getD 0 undef) (.int .i64 1) fun v40 =>
 some (.next, [v40], H32)))
 (some (.exit 0, [(l25.getD 0 undef)], H26))) :
    zat S [.int .i64 0] H = if zbM L n = true then some (.ret, [.tuple #[.int .i64 0, .int .i64 70]], H) else some (.exit 0, [.int .i64 3], H) := by
  have w1 : IntKind.i64.wrap (0 + 1) = 1 := by decide
  have w2 : IntKind.i64.wrap (1 + 1) = 2 := by decide
  have w3 : IntKind.i64.wrap (2 + 1) = 3 := by decide
  have e0 : zat S [.int .i64 0] H = if (decide (zah n.op ≥ 1) && !isT L n.a) = true then some (.ret, [.tuple #[.int .i64 0, .int .i64 70]], H) else zat S [.int .i64 1] H := by
    rw [zak]
    have : S [.int .i64 0] H = if (decide (zah n.op ≥ 1) && !isT L n.a) = true then some (.ret, [.tuple #[.int .i64 0, .int .i64 70]], H) else some (.next, [.int .i64 1], H) := by
      rw [hS]
      simp only [zbc, zac, s_br, qg0, s_arr0, zag (c29 _ _), zag (c19 hs), zbE, za5, w1, decide_eq_true_eq]
      by_cases q : 0 < zah n.op
      · have q2 : zah n.op ≥ 1 := by omega
        cases isT L n.a <;> simp [q, q2]
      · have q2 : ¬ zah n.op ≥ 1 := by omega
        simp [q, q2]
    rw [this]
    split <;> rfl
  have e1 : zat S [.int .i64 1] H = if (decide (zah n.op ≥ 2) && !isT L n.b) = true then some (.ret, [.tuple #[.int .i64 0, .int .i64 70]], H) else zat S [.int .i64 2] H := by
    rw [zak]
    have : S [.int .i64 1] H = if (decide (zah n.op ≥ 2) && !isT L n.b) = true then some (.ret, [.tuple #[.int .i64 0, .int .i64 70]], H) else some (.next, [.int .i64 2], H) := by
      rw [hS]
      simp only [zbc, zac, s_br, qg0, s_arr1, zag (c29 _ _), zag (c19 hs), zbE, za5, w2, decide_eq_true_eq]
      by_cases q : 1 < zah n.op
      · have q2 : zah n.op ≥ 2 := by omega
        cases isT L n.b <;> simp [q, q2]
      · have q2 : ¬ zah n.op ≥ 2 := by omega
        simp [q, q2]
    rw [this]
    split <;> rfl
  have e2 : zat S [.int .i64 2] H = if (decide (zah n.op ≥ 3) && !isT L n.c) = true then some (.ret, [.tuple #[.int .i64 0, .int .i64 70]], H) else zat S [.int .i64 3] H := by
    rw [zak]
    have : S [.int .i64 2] H = if (decide (zah n.op ≥ 3) && !isT L n.c) = true then some (.ret, [.tuple #[.int .i64 0, .int .i64 70]], H) else some (.next, [.int .i64 3], H) := by
      rw [hS]
      simp only [zbc, zac, s_br, qg0, s_arr2, zag (c29 _ _), zag (c19 hs), zbE, za5, w3, decide_eq_true_eq]
      by_cases q : 2 < zah n.op
      · have q2 : zah n.op ≥ 3 := by omega
        cases isT L n.c <;> simp [q, q2]
      · have q2 : ¬ zah n.op ≥ 3 := by omega
        simp [q, q2]
    rw [this]
    split <;> rfl
  have e3 : zat S [.int .i64 3] H = some (.exit 0, [.int .i64 3], H) := by
    rw [zak]
    have : S [.int .i64 3] H = some (.exit 0, [.int .i64 3], H) := by
      rw [hS]
      simp [zbc, zac, s_br]
    rw [this]; rfl
  rw [e0, e1, e2, e3]
  unfold zbM
  cases decide (zah n.op ≥ 1) && !isT L n.a <;> cases decide (zah n.op ≥ 2) && !isT L n.b <;> cases decide (zah n.op ≥ 3) && !isT L n.c <;> rfl
theorem c22 {H : Hp} {p f g : Nat} {lim : Int} {L : List Nd} {K : List (ByteArray × Int)} {sl : Value} (h : StF H p lim L K sl f g) (n : Nd) (hnum : 0 ≤ n.num ∧ n.num < 18446744073709551616)
    (hW : ∀ m ∈ L, 0 ≤ m.w ∧ m.w ≤ 64) (hb : (L.length + 1) * 64 ≤ 2 ^ 47) :
    ∃ H' sl', RR F.a12 [.pointer (some ⟨p, 0, none⟩), n.val] H = some (.tuple #[.int .i64 (mkR lim L K n).1, .int .i64 (mkR lim L K n).2.1], H') ∧ MkOk H p lim sl f g (mkR lim L K n) H' sl' := by
  have hL : (L.length : Int) ≤ 4611686018427387904 := by omega
  have ha := wT_bd hW n.a
  have hbd := wT_bd hW n.b
  have stay : ∀ e : Int, zd9 L K n = e → e ≠ 0 → RR F.a12 [.pointer (some ⟨p, 0, none⟩), n.val] H = some (.tuple #[.int .i64 0, .int .i64 e], H) →
      ∃ H' sl', RR F.a12 [.pointer (some ⟨p, 0, none⟩), n.val] H = some (.tuple #[.int .i64 (mkR lim L K n).1, .int .i64 (mkR lim L K n).2.1], H') ∧ MkOk H p lim sl f g (mkR lim L K n) H' sl' := fun e he h0 hr => by
    have hm : mkR lim L K n = (0, e, L, K) := by unfold mkR; rw [he, if_pos h0]
    rw [hm]
    exact ⟨H, sl, hr, MkOk.stay h rfl⟩
  have hrun := zgv E0 rfl (.pointer (some ⟨p, 0, none⟩)) n.val H
  unfold zd4 at hrun
  simp only [n0, n1, n2, n3, n4, zbc, zb1, zac, s_br, zap, zdU, za3, zez, zfb, decide_eq_true_eq, zhj] at hrun
  by_cases hop1 : n.op < 1
  · rw [if_pos hop1] at hrun
    exact stay 73 (by unfold zd9; rw [if_pos (.inl hop1)]) (by decide) hrun
  rw [if_neg hop1] at hrun
  by_cases hop2 : n.op > 33
  · rw [if_pos hop2] at hrun
    exact stay 73 (by unfold zd9; rw [if_pos (.inr hop2)]) (by decide) hrun
  rw [if_neg hop2] at hrun
  have hop : ¬ (n.op < 1 ∨ n.op > 33) := by omega
  by_cases hw1 : n.w < 0
  · rw [if_pos hw1] at hrun
    exact stay 5 (by unfold zd9; rw [if_neg hop, if_pos (.inl hw1)]) (by decide) hrun
  rw [if_neg hw1] at hrun
  by_cases hw2 : n.w > 64
  · rw [if_pos hw2] at hrun
    exact stay 5 (by unfold zd9; rw [if_neg hop, if_pos (.inr hw2)]) (by decide) hrun
  rw [if_neg hw2] at hrun
  have hww : ¬ (n.w < 0 ∨ n.w > 64) := by omega
  have hloop := loop3 h.st n _ rfl
  simp only [zbc, zac, s_br, zbE, za5, decide_eq_true_eq] at hloop
  simp only [zbc, zac, s_br, zbE, za5, decide_eq_true_eq, hloop] at hrun
  by_cases hpa : zbM L n = true
  · rw [if_pos hpa] at hrun
    exact stay 70 (by unfold zd9; rw [if_neg hop, if_neg hww, if_pos hpa]) (by decide) hrun
  rw [if_neg hpa] at hrun
  simp only [zap, zbg, zaJ] at hrun
  have pa : zah n.op ≥ 1 → isT L n.a = true := fun q => by
    cases e : isT L n.a with
    | true => rfl
    | false => exact absurd (by unfold zbM; simp [q, e]) hpa
  have hn : n.Ok := ⟨by omega, by omega, by omega, by omega, hnum.1, hnum.2⟩
  rw [n07, zag (c41 n H), zac] at hrun
  by_cases hsp : zey (zah n.op) n = true
  · rw [if_pos hsp] at hrun
    exact stay 1 (by unfold zd9; rw [if_neg hop, if_neg hww, if_neg hpa, if_pos hsp]) (by decide) hrun
  rw [if_neg hsp] at hrun
  rw [n07, zag (c42 h.st hL n), zbE, zac] at hrun
  cases hso : zbC n.op (wT L (-1) n.a) (wT L (-1) n.b) (wT L (-1) n.c) with
  | false =>
    rw [hso] at hrun
    simp only [Bool.not_false, if_true] at hrun
    exact stay 71 (by unfold zd9; rw [if_neg hop, if_neg hww, if_neg hpa, if_neg hsp, if_pos hso]) (by decide) hrun
  | true =>
  have hsort : n.op ≥ 15 → wT L (-1) n.a > 0 := fun q => by
    have q0 : zah n.op ≠ 0 := by unfold zah; (repeat' split) <;> omega
    have := hso
    unfold zbC at this
    rw [if_neg q0, if_neg (by omega), if_neg (by omega), if_neg (by omega), if_neg (by omega)] at this
    split at this
    · simp at this; omega
    · split at this
      · simpa using this
      · simp at this; omega
  rw [hso] at hrun
  simp only [Bool.not_true, Bool.false_eq_true, if_false] at hrun
  rw [n07, zag (c43 h.st hL n hn ha hbd hsort), zbE, zac] at hrun
  cases hwi : zbF n (wT L (-1) n.a) (wT L (-1) n.b) with
  | false =>
    rw [hwi] at hrun
    simp only [Bool.not_false, if_true] at hrun
    exact stay 5 (by unfold zd9; rw [if_neg hop, if_neg hww, if_neg hpa, if_neg hsp, hso, if_neg (by decide), if_pos hwi]) (by decide) hrun
  | true =>
  rw [hwi] at hrun
  simp only [Bool.not_true, Bool.false_eq_true, if_false] at hrun
  have hl9 := look9 h.gm n.name
  have hnm : n.op = 4 → zbL K n = true → RR F.a12 [.pointer (some ⟨p, 0, none⟩), n.val] H = some (.tuple #[.int .i64 0, .int .i64 72], H) := by
    intro h4 hbad
    refine hrun.trans ?_
    simp only [h4, za0, decide_true, zac, s_br, if_true, zbV, zaT, Nat.zero_add, h.st.l3, n6, n1, zhM hl9]
    unfold zbL at hbad
    cases hq : za4 n.name 0 K with
    | none =>
      rw [hq] at hbad
      simp only [x01, zag (c44 n.name H), zbE, zac, s_br]
      cases hno : zcb n.name with
      | true => rw [hno] at hbad; cases hbad
      | false => simp [zap, zez, zfb]
    | some q =>
      rw [hq] at hbad
      simp only [x01, zag (c44 n.name H), zbE, zac, s_br, zbo]
      cases hno : zcb n.name with
      | true =>
        rw [hno] at hbad
        have hne : q.2 ≠ n.w := by simpa using hbad
        simp [hne, zap, zez, zfb]
      | false => simp [zap, zez, zfb]
  by_cases hbad : n.op = 4 ∧ zbL K n = true
  · exact stay 72 (by unfold zd9; rw [if_neg hop, if_neg hww, if_neg hpa, if_neg hsp, hso, if_neg (by decide), hwi, if_neg (by decide), if_pos hbad]) (by decide) (hnm hbad.1 hbad.2)
  have herr : zd9 L K n = 0 := by unfold zd9; rw [if_neg hop, if_neg hww, if_neg hpa, if_neg hsp, hso, if_neg (by decide), hwi, if_neg (by decide), if_neg hbad]
  have hmk : mkR lim L K n = okR lim L K n := by unfold mkR; rw [herr]; rfl
  rw [hmk]
  have hgood : n.op = 4 → zbL K n = false := fun h4 => by
    cases e : zbL K n with
    | true => exact absurd ⟨h4, e⟩ hbad
    | false => rfl
  obtain ⟨H', sl', hr, hm⟩ := rest_ok h n (fun h4 j u hq => by
    have hb := hgood h4
    unfold zbL at hb
    rw [hq] at hb
    simp at hb
    exact hb.2) hb
  refine ⟨H', sl', hrun.trans ?_, hm⟩
  rw [← hr]
  unfold restM
  by_cases h4 : n.op = 4
  · have hb := hgood h4
    unfold zbL at hb
    cases hq : za4 n.name 0 K with
    | none =>
      rw [hq] at hb hl9
      have hno : zcb n.name = true := by simpa using hb
      simp only [h4, za0, decide_true, zac, s_br, if_true, zbV, zaT, Nat.zero_add, h.st.l3, n0, n6, n1, zhM hl9, x01, zag (c44 n.name H), zbE, hno, Bool.not_true, Bool.false_eq_true, if_false, zap, za3]
    | some q =>
      rw [hq] at hb hl9
      have hno : zcb n.name = true ∧ q.2 = n.w := by simpa using hb
      simp only [h4, za0, decide_true, zac, s_br, if_true, zbV, zaT, Nat.zero_add, h.st.l3, n0, n6, n1, zhM hl9, x01, zag (c44 n.name H), zbE, zbo, hno.1, hno.2, Bool.not_true, Bool.false_eq_true, if_false, zap, za3, ne_eq, not_true_eq_false, decide_false]
  · simp only [n0, n1, n6, zbV, zaT, Nat.zero_add, h4, za0, decide_false, zac, s_br, Bool.false_eq_true, if_false, zap, za3]
end Go.AM
namespace Go.AM
open Go
def dig (d : Nat) : UInt8 := UInt8.ofNat (if d < 10 then 48 + d else 87 + d)
def dgt (b x : Nat) : List UInt8 := if h : x < b ∨ b < 2 then [dig x] else dgt b (x / b) ++ [dig (x % b)]
termination_by x
decreasing_by exact Nat.div_lt_self (by omega) (by omega)
abbrev ba (l : List UInt8) : ByteArray := ⟨l.toArray⟩
theorem zb3 (l : List UInt8) : (ba l).size = l.length := by simp [ba, ByteArray.size]
theorem zdO (l : List UInt8) : (ba l).data.toList = l := by simp [ba]
theorem ziv {s : ByteArray} {l : List UInt8} (h : s.data.toList = l) : s = ba l := by
  cases s; subst h; simp [ba]
theorem app_list (a b : ByteArray) : (a ++ b).data.toList = a.data.toList ++ b.data.toList := by simp
theorem ba_app (l m : List UInt8) : ba l ++ ba m = ba (l ++ m) := ziv (by rw [app_list, zdO, zdO])
section
variable {α : Type} {P : Program}
theorem s_cat (T : TypeId) (a b : ByteArray) (h : a.size + b.size ≤ 2 ^ 60) (k : Value → Option α) : pBin P .add T (.string a) (.string b) k = k (.string (a ++ b)) := by
  have h1 : ¬ ((a.size + b.size : Nat) : Int) > IntKind.i64.max := by
    have : IntKind.i64.max = 9223372036854775807 := rfl
    omega
  have : zl4 .add a b = some (.string (a ++ b)) := if_neg h1
  unfold pBin binV
  dsimp only
  rw [this]
theorem znn (T : TypeId) (a b : List UInt8) (h : a.length + b.length ≤ 2 ^ 60) (k : Value → Option α) : pBin P .add T (.string (ba a)) (.string (ba b)) k = k (.string (ba (a ++ b))) := by
  rw [s_cat T _ _ (by rw [zb3, zb3]; exact h), ba_app]
theorem s_cut (s : ByteArray) (k1 k2 : IntKind) (i j : Nat) (h : i ≤ j) (hj : j ≤ s.size) (k : Value → Option α) : za9 (.string s) (some (.int k1 (i : Int))) (some (.int k2 (j : Int))) k = k (.string (s.extract i j)) := by
  have : zfP (.string s) (some (.int k1 (i : Int))) (some (.int k2 (j : Int))) = some (.string (s.extract i j)) := by
    unfold zfP
    dsimp only [zcI]
    rw [if_pos ⟨by omega, by omega, by omega⟩]
    simp
  unfold za9; rw [this]
theorem f_at (s : ByteArray) (kd : IntKind) (i : Nat) (b : UInt8) (h : s.data.toList[i]? = some b) (k : Value → Option α) : zci (.string s) (.int kd (i : Int)) k = k (.int .u8 (b.toNat : Int)) := q_at s i b h k
end
def numT (x : Nat) : List UInt8 := if x < 1000 then dgt 10 x else [48, 120] ++ dgt 16 x
end Go.AM
namespace Go.AM
open Go
theorem run_at {P : Program} {O : Orc} {ext : FuncId → Option (List Value → Hp → Option (Value × Hp))} {g : FuncId} {fn : Func} {e : List Value → Option Value} (hf : P.funcs[g]? = some fn) (hn : (fn.name == "runtime.NumGoroutine") = false) (hb : fn.body.isNone = true) (hx : O.xt g = some e) {xs : List Value} {v : Value} (hv : e xs = some v) (H : Hp) :
    run P O ext g xs H = some (v, H) := by
  have hb : fn.body = none := by
    cases q : fn.body with
    | none => rfl
    | some c => rw [q] at hb; cases hb
  rw [run_eq]
  unfold zhe
  rw [hf]
  dsimp only
  rw [hn]
  dsimp only
  rw [hb]
  dsimp only
  rw [hx]
  dsimp only
  rw [hv]
abbrev nlB : ByteArray := ⟨#[10]⟩
theorem znI {α : Type} (H : Hp) (k : Value → Option α) : pLen .str (.string nlB) H k = k (.int .i64 1) := rfl
theorem nl_at {α : Type} (k : Value → Option α) : zci (.string nlB) (.int .i64 0) k = k (.int .u8 10) := f_at nlB .i64 0 10 rfl k
theorem znl {α : Type} (T : TypeId) (a b : ByteArray) (k : Value → Option α) : pBin PP .eql T (.string a) (.string b) k = k (.bool (a.data.toList == b.data.toList)) := by
  have : zl4 .eql a b = some (.bool (a.data.toList == b.data.toList)) := by
    unfold zl4
    simp only [Go.Lib.toList_data]
  unfold pBin binV
  dsimp only
  rw [this]
theorem c_cntS (s : ByteArray) (H : Hp) : RR F.a41 [.string s, .string nlB] H = some (.int .i64 (Go.Lib.countByte s.data.toList 10 : Nat), H) := by
  have h : RR F.a24 [.string s, .int .u8 10] H = some (.int .i64 (Go.Lib.countByte s.data.toList 10 : Nat), H) :=
    run_at (e := zjO) Go.Proofs.Tryz.func157 (by kernel_rfl) (by kernel_rfl) (by kernel_rfl) rfl H
  refine (zhT E0 rfl _ _ H).trans ?_
  unfold zeI
  simp only [znI, za0, zac, s_br, nl_at, zag h, show (1 : Int) ≠ 0 by decide, decide_false, decide_true, if_false, if_true, Bool.false_eq_true]
theorem c_ixS (s : ByteArray) (H : Hp) : RR F.a28 [.string s, .string nlB] H = some (.int .i64 (Go.Lib.indexByte s.data.toList 10), H) := by
  have h : RR F.a25 [.string s, .int .u8 10] H = some (.int .i64 (Go.Lib.indexByte s.data.toList 10), H) :=
    run_at (e := zjE) Go.Proofs.Tryz.func184 (by kernel_rfl) (by kernel_rfl) (by kernel_rfl) rfl H
  have h2 : RR F.a39 [.string s, .int .u8 10] H = some (.int .i64 (Go.Lib.indexByte s.data.toList 10), H) := by
    refine (zcp E0 rfl _ _ H).trans ?_
    unfold zbv
    rw [zag h]
  have h3 : RR F.a61 [.string s, .string nlB] H = some (.int .i64 (Go.Lib.indexByte s.data.toList 10), H) := by
    refine (zc2 E0 rfl _ _ H).trans ?_
    unfold zbQ
    cases e : (nlB.data.toList == s.data.toList) with
    | true =>
      have e1 : s.data.toList = [10] := (eq_of_beq e).symm
      simp only [znI, za0, zac, s_br, nl_at, znl, e, zap, za3, zez, show (1 : Int) ≠ 0 by decide, decide_false, decide_true, if_false, if_true, Bool.false_eq_true, qg0, List.headD_cons]
      rw [e1]
      rfl
    | false => simp only [znI, za0, zac, s_br, nl_at, znl, zap, za3, zez, e, zag h2, show (1 : Int) ≠ 0 by decide, decide_false, decide_true, if_false, if_true, Bool.false_eq_true, qg0, List.headD_cons]
  refine (zhS E0 rfl _ _ H).trans ?_
  unfold zeH
  rw [zag h3]
def cutB (c : UInt8) : List UInt8 → List (List UInt8)
  | [] => [[]]
  | b :: r => match b == c with
    | true => [] :: cutB c r
    | false => match cutB c r with
      | h :: t => (b :: h) :: t
      | [] => [[b]]
theorem cutB_hit {c b : UInt8} (h : (b == c) = true) (r : List UInt8) : cutB c (b :: r) = [] :: cutB c r := by
  conv => lhs; unfold cutB
  rw [h]
theorem cutB_miss {c b : UInt8} (h : (b == c) = false) {r x : List UInt8} {t : List (List UInt8)} (e : cutB c r = x :: t) : cutB c (b :: r) = (b :: x) :: t := by
  conv => lhs; unfold cutB
  rw [h, e]
theorem zge (c : UInt8) : ∀ l, (cutB c l).length = l.count c + 1
  | [] => rfl
  | b :: r => by
    have ih := zge c r
    unfold cutB
    rw [List.count_cons]
    cases h : b == c with
    | true => dsimp only; rw [List.length_cons, ih]; simp
    | false =>
      dsimp only
      split
      · rename_i h1 t e; rw [e] at ih; simpa using ih
      · rename_i e; rw [e] at ih; cases ih
theorem zlQ (c : UInt8) : ∀ l, l.count c = 0 → cutB c l = [l]
  | [], _ => rfl
  | b :: r, h => by
    rw [List.count_cons] at h
    have h1 : (b == c) = false := by
      cases q : b == c with
      | false => rfl
      | true => rw [q] at h; simp at h
    rw [h1] at h
    unfold cutB
    rw [h1]
    dsimp only
    rw [zlQ c r (by simpa using h)]
theorem zlP (c : UInt8) : ∀ l, l.count c ≠ 0 → ∃ m : Nat, Go.Lib.indexByte l c = m ∧ m < l.length ∧ cutB c l = l.take m :: cutB c (l.drop (m + 1)) ∧ (l.drop (m + 1)).count c + 1 = l.count c
  | [], h => by simp at h
  | b :: r, h => by
    rw [List.count_cons] at h
    cases q : b == c with
    | true =>
      refine ⟨0, ?_, by simp, ?_, ?_⟩
      · unfold Go.Lib.indexByte; rw [q]; rfl
      · rw [cutB_hit q]; rfl
      · rw [List.count_cons, q]; simp
    | false =>
      rw [q] at h
      obtain ⟨m, h1, h2, h3, h4⟩ := zlP c r (by simpa using h)
      refine ⟨m + 1, ?_, by simp; omega, ?_, ?_⟩
      · unfold Go.Lib.indexByte
        rw [q, h1]
        have : ((m : Int) == -1) = false := by rw [beq_eq_false_iff_ne]; omega
        simp [this]
      · rw [cutB_miss q h3]; rfl
      · rw [List.count_cons, q]; simpa using h4
end Go.AM
namespace Go.AM
open Go
def str (l : List UInt8) : Value := .string (ba l)
theorem ba_take (l : List UInt8) (m : Nat) : (ba l).extract 0 m = ba (l.take m) := ziv (by simp [ByteArray.data_extract])
theorem ba_drop (l : List UInt8) (m : Nat) : (ba l).extract m l.length = ba (l.drop m) := ziv (by
  simp only [ByteArray.data_extract, Array.toList_extract, List.extract_eq_take_drop]
  exact List.take_of_length_le (by simp))
theorem s_upto {α : Type} (l : List UInt8) (kd : IntKind) {m : Nat} (hm : m ≤ l.length) (k : Value → Option α) : za9 (str l) none (some (.int kd (m : Int))) k = k (str (l.take m)) := by
  have : zfP (str l) none (some (.int kd (m : Int))) = some (.string ((ba l).extract 0 m)) := by
    unfold zfP str
    dsimp only [zcI]
    rw [zb3, if_pos ⟨by omega, by omega, by omega⟩]
    simp
  unfold za9; rw [this, ba_take]; rfl
theorem s_from {α : Type} (l : List UInt8) (kd : IntKind) {m : Nat} (hm : m ≤ l.length) (k : Value → Option α) : za9 (str l) (some (.int kd (m : Int))) none k = k (str (l.drop m)) := by
  have : zfP (str l) (some (.int kd (m : Int))) none = some (.string ((ba l).extract m l.length)) := by
    unfold zfP str
    dsimp only [zcI]
    rw [zb3, if_pos ⟨by omega, by omega, by omega⟩]
    simp
  unfold za9; rw [this, ba_drop]; rfl
theorem c_ixL (l : List UInt8) (H : Hp) : RR F.a28 [str l, .string nlB] H = some (.int .i64 (Go.Lib.indexByte l 10), H) := by
  have := c_ixS (ba l) H
  rw [zdO] at this
  exact this
theorem w64 {a : Int} (h1 : -9223372036854775808 ≤ a) (h2 : a ≤ 9223372036854775807) : IntKind.i64.wrap a = a := zb5 (k := .i64) h1 h2
theorem zj0 (A : List Value) (e x : Value) {i n : Nat} (hi : A.length = i) (k : Nat) : spl (A ++ repl (k + 1) [e]) (i * 1) [x] = A ++ [x] ++ repl k [e] := by
  subst hi
  have h : repl (k + 1) [e] = e :: repl k [e] := rfl
  unfold spl
  rw [h, Nat.mul_one]
  simp
theorem zi6 (v : Value) (n : Nat) (hn : n ≤ 2 ^ 41) : ∀ (c i : Nat) (done : List (List UInt8)) (rest : List UInt8) (H : Hp), rest.count 10 = c → Vec H 1 v n (done.map str ++ repl (c + 1) [str []]) → done.length = i → i + c + 1 = n → rest.length ≤ 2 ^ 40 →
    ∃ H' front last, zat (za7 RR (.string nlB) (.int .i64 0) v (.int .i64 ((n : Int) - 1))) [str rest, .int .i64 (i : Int)] H = some (.exit 0, [str last, .int .i64 ((n : Int) - 1)], H') ∧
      cutB 10 rest = front ++ [last] ∧ Vec H' 1 v n ((done ++ front).map str ++ repl 1 [str []]) ∧ Frm (Id v) H H'
  | 0, i, done, rest, H, hc, hv, hd, hi, hl => by
    refine ⟨H, [], rest, ?_, by rw [zlQ _ _ hc]; rfl, by rw [List.append_nil]; exact hv, Frm.refl _ _⟩
    have : za7 RR (.string nlB) (.int .i64 0) v (.int .i64 ((n : Int) - 1)) [str rest, .int .i64 (i : Int)] H = some (.exit 0, [str rest, .int .i64 (i : Int)], H) := by
      unfold za7
      have h1 : ¬ ((i : Int) < (n : Int) - 1) := by omega
      simp only [qg1, qg0, zbc, zac, s_br, h1, decide_false, Bool.false_eq_true, if_false]
    rw [zak, this]
    have e : ((n : Int) - 1) = (i : Int) := by omega
    rw [e]
    rfl
  | c + 1, i, done, rest, H, hc, hv, hd, hi, hl => by
    obtain ⟨m, h1, h2, h3, h4⟩ := zlP 10 rest (by omega)
    obtain ⟨y, hy, _, hix⟩ := hv.ix (i := i) (by omega)
    have hsz := hv.size
    obtain ⟨H1, hst, hv1, hf1, hnx⟩ := hv.set hy (o := i * 1) (m := 1) (x := str (rest.take m)) rfl (by rw [hsz]; omega) rfl
    have hspl := zj0 (done.map str) (str []) (str (rest.take m)) (i := i) (n := n) (by simpa using hd) (c + 1)
    have hcl : zab (str (rest.take m)) = [str (rest.take m)] := rfl
    rw [hcl, hspl] at hv1
    have hv2 : Vec H1 1 v n ((done ++ [rest.take m]).map str ++ repl (c + 1) [str []]) := by simpa using hv1
    obtain ⟨H', front, last, g1, g2, g3, g4⟩ := zi6 v n hn c (i + 1) (done ++ [rest.take m]) (rest.drop (m + 1)) H1 (by omega) hv2 (by simp [hd]) (by omega) (by simp; omega)
    refine ⟨H', rest.take m :: front, last, ?_, by rw [h3, g2]; rfl, by simpa using g3, hf1.trans g4 (fun j hj => .inl hj)⟩
    have : za7 RR (.string nlB) (.int .i64 0) v (.int .i64 ((n : Int) - 1)) [str rest, .int .i64 (i : Int)] H = some (.next, [str (rest.drop (m + 1)), .int .i64 ((i + 1 : Nat) : Int)], H1) := by
      unfold za7
      have q1 : ((i : Int) < (n : Int) - 1) := by omega
      have q2 : ¬ ((m : Int) < 0) := by omega
      simp only [qg1, qg0, zbc, zac, s_br, q1, decide_true, if_true, zag (c_ixL rest H), h1, q2, decide_false, Bool.false_eq_true, if_false, za5]
      rw [Int.add_zero, w64 (by omega) (by omega), s_upto rest _ (by omega), hix, hst, znI, za5]
      have e1 : (m : Int) + 1 = ((m + 1 : Nat) : Int) := by omega
      have e2 : (i : Int) + 1 = ((i + 1 : Nat) : Int) := by omega
      rw [e1, e2, w64 (by omega) (by omega), w64 (by omega) (by omega), s_from rest _ (by omega)]
    rw [zak, this]
    exact g1
theorem c_split (l : List UInt8) (hl : l.length ≤ 2 ^ 40) (H : Hp) : ∃ v H', RR F.a43 [str l, .string nlB] H = some (v, H') ∧ Vec H' 1 v (cutB 10 l).length ((cutB 10 l).map str) ∧ Frm (fun _ => False) H H' ∧ ∀ j, Id v j → H.next ≤ j := by
  have hlen := zge 10 l
  have hcnt : l.count 10 ≤ l.length := List.count_le_length
  generalize hnn : (cutB 10 l).length = n at *
  obtain ⟨v, hmk, hv, hid⟩ := Vec.make H (sz := 1) (bytes := 16) (zs := [str []]) rfl (n := n) (by omega)
  obtain ⟨H1, front, last, g1, g2, g3, g4⟩ := zi6 v n (by omega) (l.count 10) 0 [] l (H.new (.cells (repl n [str []]) true)) rfl (by show Vec _ 1 v n (repl (l.count 10 + 1) [str []]); rw [← hlen]; exact hv) rfl (by omega) hl
  rw [show ((0 : Nat) : Int) = 0 from rfl] at g1
  have hfl : front.length + 1 = n := by rw [← hnn, g2]; simp
  obtain ⟨y, hy, _, hix⟩ := g3.ix (i := n - 1) (by omega)
  have hsz := g3.size
  obtain ⟨H2, hst, hv2, hf2, hnx⟩ := g3.set hy (o := (n - 1) * 1) (m := 1) (x := str last) rfl (by rw [hsz]; omega) rfl
  have hspl := zj0 (([] ++ front).map str) (str []) (str last) (i := n - 1) (n := n) (by simp; omega) 0
  have hcl : zab (str last) = [str last] := rfl
  rw [hcl, hspl] at hv2
  have hv3 : Vec H2 1 v n ((cutB 10 l).map str) := by rw [g2]; simpa [repl] using hv2
  obtain ⟨v', hcut, hv4, hid4⟩ := hv3.cut (by rw [List.all_map]; exact List.all_eq_true.2 fun x _ => rfl) (m := n) (Nat.le_refl _)
  have hv5 : Vec H2 1 v' n ((cutB 10 l).map str) := by
    have e : ((cutB 10 l).map str).take (n * 1) = (cutB 10 l).map str := List.take_of_length_le (by rw [List.length_map, hnn]; omega)
    rw [e] at hv4; exact hv4
  have hgen : RR F.a44 [str l, .string nlB, .int .i64 0, .int .i64 (-1)] H = some (v', H2) := by
    refine (zfW E0 rfl _ _ _ _ H).trans ?_
    rw [zga]
    have hc : RR F.a41 [str l, .string nlB] H = some (.int .i64 (l.count 10 : Nat), H) := by
      have := c_cntS (ba l) H
      rw [zdO] at this
      exact this
    have q1 : ¬ ((-1 : Int) = 0) := by decide
    have q2 : (nlB.data.toList == (⟨#[]⟩ : ByteArray).data.toList) = false := by decide
    have q3 : ((-1 : Int) < 0) := by decide
    have e1 : ((l.count 10 : Nat) : Int) + 1 = (n : Int) := by omega
    have e2 : ∀ {α : Type} (k : Value → Option α), pLen .str (str l) H k = k (.int .i64 (l.length : Int)) := fun k => by
      show k (.int .i64 ((ba l).size : Int)) = _
      rw [zb3]
    have e3 : ∀ (a b : Int) (k : Value → Option (Value × Hp)), pMM false [.int .i64 a, .int .i64 b] k = k (.int .i64 (if b < a then b else a)) := fun a b k => rfl
    have hmk' : ∀ (α : Type) (k : Value → Hp → Option α), zaZ 1 16 [Value.string ⟨#[]⟩] (.int .i64 (n : Int)) (.int .i64 (n : Int)) H k = k v (H.new (.cells (repl n [str []]) true)) := hmk
    have q4 : ¬ (((l.length : Int) + 1) < (n : Int)) := by omega
    simp only [za0, zac, s_br, q1, znl, q2, zbc, q3, decide_true, decide_false, if_true, if_false, Bool.false_eq_true, zag hc, za5, e1, zap, za3]
    rw [w64 (by omega) (by omega)]
    simp only [qg0]
    rw [e2, za5, w64 (by omega) (by omega), e3, if_neg q4, hmk', zdr, w64 (by omega) (by omega), g1, zap, zbg, zaJ]
    simp only [qg1, qg0]
    have e5 : (n : Int) - 1 = ((n - 1 : Nat) : Int) := by omega
    rw [e5, hix, hst, za5]
    have e6 : ((n - 1 : Nat) : Int) + 1 = (n : Int) := by omega
    rw [e6, w64 (by omega) (by omega), hcut]
  refine ⟨v', H2, ?_, hv5, ?_, fun j hj => ?_⟩
  · refine (zhR E0 rfl _ _ H).trans ?_
    unfold zeG
    rw [zag hgen]
  · refine (zct H _ (fun _ => False)).trans (g4.trans hf2 fun j hj => .inl hj) fun j hj => .inr ?_
    rw [hid j hj]; exact Nat.le_refl _
  · rw [hid j (hid4 j hj)]; exact Nat.le_refl _
end Go.AM
namespace Go.AM
open Go
theorem zlO (n b0 b1 b2 b3 : Nat) (hn : 0 < n) : (b0 < 128 ∧ Go.Lib.decodeN n b0 b1 b2 b3 = (b0, 1)) ∨ (128 ≤ b0 ∧ Go.Lib.decodeN n b0 b1 b2 b3 = (65533, 1)) ∨
    (128 ≤ b0 ∧ 1 < n ∧ 128 ≤ b1 ∧ (Go.Lib.decodeN n b0 b1 b2 b3).2 = 2 ∧ 128 ≤ (Go.Lib.decodeN n b0 b1 b2 b3).1) ∨
    (128 ≤ b0 ∧ 2 < n ∧ 128 ≤ b1 ∧ 128 ≤ b2 ∧ (Go.Lib.decodeN n b0 b1 b2 b3).2 = 3 ∧ 128 ≤ (Go.Lib.decodeN n b0 b1 b2 b3).1) ∨
    (128 ≤ b0 ∧ 3 < n ∧ 128 ≤ b1 ∧ 128 ≤ b2 ∧ 128 ≤ b3 ∧ (Go.Lib.decodeN n b0 b1 b2 b3).2 = 4 ∧ 128 ≤ (Go.Lib.decodeN n b0 b1 b2 b3).1) := by
  unfold Go.Lib.decodeN
  repeat' split
  all_goals first
    | (left; exact ⟨by assumption, rfl⟩)
    | (right; left; exact ⟨by omega, rfl⟩)
    | (right; right; left; exact ⟨by omega, by omega, by omega, rfl, by dsimp only; omega⟩)
    | (right; right; right; left; exact ⟨by omega, by omega, by omega, by omega, rfl, by dsimp only; omega⟩)
    | (right; right; right; right; exact ⟨by omega, by omega, by omega, by omega, by omega, rfl, by dsimp only; omega⟩)
theorem ba_get (l : List UInt8) (j : Nat) : (ba l).get! j = l.getD j 0 := by
  show (ba l).data[j]! = _
  rw [List.getD_eq_getElem?_getD]
  by_cases h : j < l.length
  · simp [getElem!_pos, h]
  · rw [getElem!_neg _ _ (by simpa using h), List.getElem?_eq_none (by omega)]
    rfl
theorem dec_sp (l : List UInt8) (i : Nat) (hi : i < l.length) : 1 ≤ (Utf8.decode (ba l) i).2 ∧ i + (Utf8.decode (ba l) i).2 ≤ l.length ∧
    (((Utf8.decode (ba l) i).1 = 32 ∧ (Utf8.decode (ba l) i).2 = 1 ∧ l.getD i 0 = 32) ∨ ((Utf8.decode (ba l) i).1 ≠ 32 ∧ ∀ j, i ≤ j → j < i + (Utf8.decode (ba l) i).2 → l.getD j 0 ≠ 32)) := by
  have no : ∀ j, 128 ≤ (l.getD j 0).toNat → l.getD j 0 ≠ 32 := fun j h e => by rw [e] at h; exact absurd h (by decide)
  rw [Go.Lib.decode_at, zb3]
  simp only [ba_get]
  have hs := zlO (l.length - i) (l.getD i 0).toNat (l.getD (i + 1) 0).toNat (l.getD (i + 2) 0).toNat (l.getD (i + 3) 0).toNat (by omega)
  generalize Go.Lib.decodeN (l.length - i) (l.getD i 0).toNat (l.getD (i + 1) 0).toNat (l.getD (i + 2) 0).toNat (l.getD (i + 3) 0).toNat = q at hs ⊢
  obtain ⟨r, w⟩ := q
  rcases hs with ⟨h1, h2⟩ | ⟨h1, h2⟩ | ⟨h1, h2, h3, h4, h5⟩ | ⟨h1, h2, h3, h3', h4, h5⟩ | ⟨h1, h2, h3, h3', h3'', h4, h5⟩
  · cases h2
    refine ⟨Nat.le_refl _, by show i + 1 ≤ _; omega, ?_⟩
    by_cases e : l.getD i 0 = 32
    · left; rw [e]; exact ⟨rfl, rfl, rfl⟩
    · right
      refine ⟨fun q => e (UInt8.toNat_inj.1 q), fun j h3 h4 => ?_⟩
      have : j = i := by have h4 : j < i + 1 := h4; omega
      rw [this]; exact e
  · cases h2
    refine ⟨Nat.le_refl _, by show i + 1 ≤ _; omega, .inr ⟨by decide, fun j h3 h4 => ?_⟩⟩
    have : j = i := by have h4 : j < i + 1 := h4; omega
    rw [this]; exact no i h1
  · dsimp only at h4 h5 ⊢
    subst h4
    refine ⟨by omega, by omega, .inr ⟨by omega, fun j h6 h7 => ?_⟩⟩
    have : j = i ∨ j = i + 1 := by omega
    rcases this with rfl | rfl
    · exact no _ h1
    · exact no _ h3
  · dsimp only at h4 h5 ⊢
    subst h4
    refine ⟨by omega, by omega, .inr ⟨by omega, fun j h6 h7 => ?_⟩⟩
    have : j = i ∨ j = i + 1 ∨ j = i + 2 := by omega
    rcases this with rfl | rfl | rfl
    · exact no _ h1
    · exact no _ h3
    · exact no _ h3'
  · dsimp only at h4 h5 ⊢
    subst h4
    refine ⟨by omega, by omega, .inr ⟨by omega, fun j h6 h7 => ?_⟩⟩
    have : j = i ∨ j = i + 1 ∨ j = i + 2 ∨ j = i + 3 := by omega
    rcases this with rfl | rfl | rfl | rfl
    · exact no _ h1
    · exact no _ h3
    · exact no _ h3'
    · exact no _ h3''
theorem c_space (r : Int) (H : Hp) : RR F.a8 [.int .i32 r] H = some (.bool (decide (r = 32)), H) := by
  refine (zkb E0 rfl _ H).trans ?_
  unfold zf3
  rw [za0]
end Go.AM
namespace Go.AM
open Go
def spn : List UInt8 → Nat → Option Nat → List (Nat × Nat)
  | [], _, none => []
  | [], i, some a => [(a, i)]
  | b :: r, i, st => match b == 32, st with
    | true, none => spn r (i + 1) none
    | true, some a => (a, i) :: spn r (i + 1) none
    | false, st => spn r (i + 1) (some (st.getD i))
theorem znf : ∀ (x r : List UInt8) (i : Nat) (st : Option Nat), (∀ b ∈ x, b ≠ 32) → x ≠ [] → spn (x ++ r) i st = spn r (i + x.length) (some (st.getD i))
  | [], _, _, _, _, h => absurd rfl h
  | b :: x, r, i, st, h, _ => by
    have hb : (b == 32) = false := by rw [beq_eq_false_iff_ne]; exact h b (List.mem_cons_self ..)
    show spn (b :: (x ++ r)) i st = _
    have e : spn (b :: (x ++ r)) i st = spn (x ++ r) (i + 1) (some (st.getD i)) := by
      conv => lhs; unfold spn
      rw [hb]
    rw [e]
    cases x with
    | nil => rfl
    | cons c x =>
      rw [znf (c :: x) r (i + 1) _ (fun b hb => h b (List.mem_cons_of_mem _ hb)) (by simp)]
      simp only [List.length_cons, Option.getD_some]
      congr 1
      omega
theorem zjZ {b : UInt8} (hb : (b == 32) = true) (r : List UInt8) (i : Nat) : spn (b :: r) i none = spn r (i + 1) none := by
  conv => lhs; unfold spn
  rw [hb]
theorem zl5 {b : UInt8} (hb : (b == 32) = true) (r : List UInt8) (i a : Nat) : spn (b :: r) i (some a) = (a, i) :: spn r (i + 1) none := by
  conv => lhs; unfold spn
  rw [hb]
def stV : Option Nat → Int → Prop
  | none, v => v < 0
  | some a, v => v = a
def zhE (p : Nat × Nat) : List Value := [.int .i64 (p.1 : Int), .int .i64 (p.2 : Int)]
def zcT (l : List UInt8) (i : Nat) : Value := .tuple #[.string (ba l), .int .i64 (i : Nat)]
theorem neg_xor (a : Nat) (ha : a < 2 ^ 62) : ∃ x : Int, x < 0 ∧ ∀ (α : Type) (k : Value → Option α), pUn .xor (.int .i64 (a : Int)) k = k (.int .i64 x) := by
  refine ⟨IntKind.i64.wrap (BitVec.ofInt 64 (-1) ^^^ BitVec.ofInt 64 (a : Int)).toNat, ?_, fun α k => rfl⟩
  have e1 : BitVec.ofInt 64 (-1) = BitVec.allOnes 64 := by decide
  have e2 : (BitVec.ofInt 64 (a : Int)).toNat = a := by
    rw [BitVec.toNat_ofInt]
    omega
  have e3 : (BitVec.ofInt 64 (-1) ^^^ BitVec.ofInt 64 (a : Int)).toNat = 2 ^ 64 - 1 - a := by
    rw [e1, BitVec.allOnes_xor, BitVec.toNat_not, e2]
  rw [e3]
  have hc : ((2 ^ 64 - 1 - a : Nat) : Int) = 18446744073709551615 - (a : Int) := by omega
  rw [hc]
  have : (IntKind.i64.wrap (18446744073709551615 - (a : Int))) = -1 - (a : Int) := by
    clear e3
    simp [IntKind.wrap, IntKind.signed, IntKind.bits]
    omega
  rw [this]
  omega
theorem s_bspan {α : Type} (a b : Int) (k : Value → Option α) : zaG PP T.strings_span [(0, .int .i64 a), (1, .int .i64 b)] k = k (.agg #[.int .i64 a, .int .i64 b]) := by
  have : zgi PP T.strings_span [(0, .int .i64 a), (1, .int .i64 b)] = some (.agg #[.int .i64 a, .int .i64 b]) := by kernel_rfl
  unfold zaG; rw [this]
abbrev spF : Value := .func (.func F.a8) #[] #[]
theorem zhi {α : Type} (r : Int) (H : Hp) (k : Value → Hp → Option α) : zed orc RR spF [.int .i32 r] H k = k (.bool (decide (r = 32))) H := by
  have h : orc.pan F.a8 = false := by kernel_rfl
  have e : zed orc RR spF [.int .i32 r] H k = zaf RR F.a8 [.int .i32 r] H k := by
    unfold zed
    dsimp only
    rw [h]
    rfl
  rw [e, zag (c_space r H)]
theorem span_loop (l : List UInt8) (hl : l.length ≤ 2 ^ 40) : ∀ (m i : Nat) (done : List (Nat × Nat)) (st : Option Nat) (z : Int) (v : Value) (H : Hp), l.length - i = m → i ≤ l.length → stV st z → (∀ a, st = some a → a ≤ i) → done.length ≤ i → Vec H 2 v done.length (done.flatMap zhE) →
    ∃ H' done' st' z' v', zat (zaH RR spF) [v, .int .i64 z, zcT l i] H = some (.exit 0, [v', .int .i64 z', zcT l l.length], H') ∧
      done ++ spn (l.drop i) i st = done' ++ spn [] l.length st' ∧ stV st' z' ∧ (∀ a, st' = some a → a ≤ l.length) ∧ done'.length ≤ l.length ∧ Vec H' 2 v' done'.length (done'.flatMap zhE) ∧ Frm (Id v) H H' ∧ (∀ j, Id v' j → Id v j ∨ H.next ≤ j) := by
  intro m
  induction m using Nat.strongRecOn with
  | _ m ih =>
  intro i done st z v H hm hi hst hsti hdl hv
  have step : zaH RR spF [v, .int .i64 z, zcT l i] H = br (Nat.blt i (ba l).size)
      (zed orc RR spF [.int .i32 ((Utf8.decode (ba l) i).1 : Nat)] H fun r6 H7 => zaa r6 fun b8 => br b8
        (pBin PP .geq T.int (.int .i64 z) (.int .i64 0) fun v9 => zaa v9 fun b10 => br b10
          (zaG PP T.strings_span [(0, .int .i64 z), (1, .int .i64 (i : Nat))] fun v11 => zaj 2 [.int .i64 0, .int .i64 0] 1 [(0, v11)] H7 fun v12 H13 => zaF 2 16 v v12 H13 fun v14 H15 => pUn .xor (.int .i64 z) fun v16 =>
            some (.next, [v14, v16, zcT l (i + (Utf8.decode (ba l) i).2)], H15))
          (some (.next, [v, .int .i64 z, zcT l (i + (Utf8.decode (ba l) i).2)], H7)))
        (pBin PP .lss T.int (.int .i64 z) (.int .i64 0) fun v17 => zaa v17 fun b18 => br b18
          (some (.next, [v, .int .i64 (i : Nat), zcT l (i + (Utf8.decode (ba l) i).2)], H7))
          (some (.next, [v, .int .i64 z, zcT l (i + (Utf8.decode (ba l) i).2)], H7))))
      (some (.exit 0, [v, .int .i64 z, zcT l i], H)) := rfl
  rcases Nat.lt_or_ge i l.length with hlt | hge
  · have hb : Nat.blt i (ba l).size = true := by rw [zb3, Nat.blt_eq]; exact hlt
    obtain ⟨d1, d2, d3⟩ := dec_sp l i hlt
    have hdrop : l.drop i = l.getD i 0 :: l.drop (i + 1) := by
      rw [List.drop_eq_getElem_cons hlt]
      simp [List.getD_eq_getElem?_getD, hlt]
    rw [hb] at step
    have hd : decide ((((32 : Nat) : Int)) = 32) = true := by decide
    rcases d3 with ⟨e1, e2, e3⟩ | ⟨e1, e2⟩
    · have h32 : (l.getD i 0 == 32) = true := by rw [e3]; rfl
      rw [e1, e2] at step
      cases st with
      | none =>
        have hz : ¬ (z ≥ 0) := by have : z < 0 := hst; omega
        have this : zaH RR spF [v, .int .i64 z, zcT l i] H = some (.next, [v, .int .i64 z, zcT l (i + 1)], H) := by
          rw [step]
          simp only [s_br, if_true, zhi, hd, zac, zde, hz, decide_false, Bool.false_eq_true, if_false]
        obtain ⟨H', done', st', z', v', g1, g2, g3⟩ := ih (l.length - (i + 1)) (by omega) (i + 1) done none z v H rfl (by omega) hst (fun a ha => by cases ha) (by omega) hv
        refine ⟨H', done', st', z', v', ?_, ?_, g3⟩
        · rw [zak, this]; exact g1
        · rw [hdrop, zjZ h32]; exact g2
      | some a =>
        have hza : z = (a : Int) := hst
        have hai := hsti a rfl
        obtain ⟨x, hx0, hx⟩ := neg_xor a (by omega)
        obtain ⟨v2, H2, hpu, hv2, hf2, hid2, _⟩ := hv.push (bytes := 16) (zs := [.int .i64 0, .int .i64 0]) (x := .agg #[.int .i64 (a : Int), .int .i64 (i : Int)]) (by omega) (by omega) rfl rfl rfl (by omega)
        have hv3 : Vec H2 2 v2 (done ++ [(a, i)]).length ((done ++ [(a, i)]).flatMap zhE) := by
          rw [List.length_append, List.flatMap_append]
          exact hv2
        have hz : z ≥ 0 := by omega
        have this : zaH RR spF [v, .int .i64 z, zcT l i] H = some (.next, [v2, .int .i64 x, zcT l (i + 1)], H2) := by
          rw [step]
          simp only [s_br, if_true, zhi, hd, zac, zde, hz, decide_true, s_bspan]
          rw [hza, hpu, hx]
        obtain ⟨H', done', st', z', v', g1, g2, g3, g4, g5, g6, g7, g8⟩ := ih (l.length - (i + 1)) (by omega) (i + 1) (done ++ [(a, i)]) none x v2 H2 rfl (by omega) hx0 (fun a ha => by cases ha) (by simp; omega) hv3
        refine ⟨H', done', st', z', v', ?_, ?_, g3, g4, g5, g6, hf2.trans g7 hid2, fun j hj => ?_⟩
        · rw [zak, this]; exact g1
        · rw [hdrop, zl5 h32]; rw [← g2]; simp
        · rcases g8 j hj with q | q
          · exact hid2 j q
          · exact .inr (Nat.le_trans hf2.next q)
    · generalize hq : Utf8.decode (ba l) i = q at step d1 d2 e1 e2
      obtain ⟨r, w⟩ := q
      dsimp only at step d1 d2 e1 e2
      have hr : ¬ ((r : Int) = 32) := by omega
      have hsk : ∀ st, spn (l.drop i) i st = spn (l.drop (i + w)) (i + w) (some (st.getD i)) := fun st => by
        have hsp : l.drop i = (l.drop i).take w ++ l.drop (i + w) := by
          rw [← List.drop_drop]
          exact (List.take_append_drop w _).symm
        have hlen : ((l.drop i).take w).length = w := by rw [List.length_take, List.length_drop]; omega
        have := znf ((l.drop i).take w) (l.drop (i + w)) i st (fun b hb => by
          obtain ⟨j, hj, hjb⟩ := List.mem_iff_getElem.1 hb
          rw [hlen] at hj
          have h1 := e2 (i + j) (by omega) (by omega)
          rw [List.getElem_take, List.getElem_drop] at hjb
          rw [List.getD_eq_getElem?_getD, List.getElem?_eq_getElem (by omega), Option.getD_some, hjb] at h1
          exact h1) (fun h => by rw [h] at hlen; simp at hlen; omega)
        rw [← hsp, hlen] at this
        exact this
      have go : ∀ (z2 : Int) (st2 : Option Nat), st2 = some (st.getD i) → z2 = ((st.getD i : Nat) : Int) → st.getD i ≤ i → zaH RR spF [v, .int .i64 z, zcT l i] H = some (.next, [v, .int .i64 z2, zcT l (i + w)], H) →
          ∃ H' done' st' z' v', zat (zaH RR spF) [v, .int .i64 z, zcT l i] H = some (.exit 0, [v', .int .i64 z', zcT l l.length], H') ∧
            done ++ spn (l.drop i) i st = done' ++ spn [] l.length st' ∧ stV st' z' ∧ (∀ a, st' = some a → a ≤ l.length) ∧ done'.length ≤ l.length ∧ Vec H' 2 v' done'.length (done'.flatMap zhE) ∧ Frm (Id v) H H' ∧ (∀ j, Id v' j → Id v j ∨ H.next ≤ j) := by
        intro z2 st2 hs2 hz2 hle this
        obtain ⟨H', done', st', z', v', g1, g2, g3⟩ := ih (l.length - (i + w)) (by omega) (i + w) done st2 z2 v H rfl (by omega) (by rw [hs2]; exact hz2) (fun a ha => by rw [hs2] at ha; cases ha; omega) (by omega) hv
        refine ⟨H', done', st', z', v', ?_, ?_, g3⟩
        · rw [zak, this]; exact g1
        · rw [hsk, ← hs2]; exact g2
      cases st with
      | none =>
        have hz : z < 0 := hst
        refine go (i : Nat) _ rfl rfl (Nat.le_refl _) ?_
        rw [step]
        simp only [s_br, if_true, zhi, zac, hr, decide_false, Bool.false_eq_true, if_false, zbc, hz, decide_true]
      | some a =>
        have hza : z = (a : Int) := hst
        have hz : ¬ z < 0 := by omega
        refine go z _ rfl hza (hsti a rfl) ?_
        rw [step]
        simp only [s_br, if_true, zhi, zac, hr, decide_false, Bool.false_eq_true, if_false, zbc, hz]
  · have hie : i = l.length := by omega
    subst hie
    have hb : Nat.blt l.length (ba l).size = false := by
      rw [zb3]
      cases h : Nat.blt l.length l.length with
      | false => rfl
      | true => rw [Nat.blt_eq] at h; exact absurd h (Nat.lt_irrefl _)
    rw [hb] at step
    refine ⟨H, done, st, z, v, ?_, ?_, hst, hsti, hdl, hv, Frm.refl _ _, fun j hj => .inl hj⟩
    · rw [zak, step]; rfl
    · rw [List.drop_length]
end Go.AM
namespace Go.AM
open Go
theorem zng : ∀ (l : List UInt8) (i : Nat) (st : Option Nat), (∀ a, st = some a → a ≤ i) → ∀ p ∈ spn l i st, p.1 ≤ p.2 ∧ p.2 ≤ i + l.length
  | [], i, none, h, p, hp => by cases hp
  | [], i, some a, h, p, hp => by
    have hp : p ∈ [(a, i)] := hp
    rw [List.mem_singleton] at hp
    subst hp
    exact ⟨h a rfl, by simp⟩
  | b :: r, i, st, h, p, hp => by
    cases hb : b == 32 with
    | true =>
      cases st with
      | none =>
        rw [zjZ hb] at hp
        have := zng r (i + 1) none (fun a ha => by cases ha) p hp
        simp only [List.length_cons]; omega
      | some a =>
        rw [zl5 hb] at hp
        rcases List.mem_cons.1 hp with rfl | hp
        · exact ⟨h a rfl, by simp only [List.length_cons]; omega⟩
        · have := zng r (i + 1) none (fun a ha => by cases ha) p hp
          simp only [List.length_cons]; omega
    | false =>
      have e : spn (b :: r) i st = spn r (i + 1) (some (st.getD i)) := by
        conv => lhs; unfold spn
        rw [hb]
      rw [e] at hp
      have := zng r (i + 1) (some (st.getD i)) (fun a ha => by
        cases ha
        cases st with
        | none => simp
        | some a => have := h a rfl; simp; omega) p hp
      simp only [List.length_cons]; omega
def zda (l : List UInt8) (p : Nat × Nat) : List UInt8 := (l.take p.2).drop p.1
theorem s_cutL {α : Type} (l : List UInt8) {a e : Nat} (h : a ≤ e) (he : e ≤ l.length) (k : Value → Option α) : za9 (str l) (some (.int .i64 (a : Int))) (some (.int .i64 (e : Int))) k = k (str (zda l (a, e))) := by
  have := s_cut (ba l) .i64 .i64 a e h (by rw [zb3]; exact he) k
  have hx : (ba l).extract a e = ba (zda l (a, e)) := ziv (by
    simp only [ByteArray.data_extract, Array.toList_extract, List.extract_eq_take_drop, zda]
    rw [List.drop_take])
  rw [hx] at this
  exact this
theorem span_at : ∀ (L : List (Nat × Nat)) (i : Nat) (p : Nat × Nat), L[i]? = some p → ((L.flatMap zhE).drop (i * 2)).take 2 = zhE p
  | q :: L, 0, p, h => by cases h; rfl
  | q :: L, i + 1, p, h => by
    have e : (i + 1) * 2 = i * 2 + 2 := by omega
    rw [e]
    show List.take 2 (List.drop (i * 2 + 2) (.int .i64 (q.1 : Int) :: .int .i64 (q.2 : Int) :: L.flatMap zhE)) = _
    exact span_at L i p h
theorem zkM (l : List UInt8) (hl : l.length ≤ 2 ^ 40) (L : List (Nat × Nat)) (hL : ∀ p ∈ L, p.1 ≤ p.2 ∧ p.2 ≤ l.length) (hn : L.length ≤ 2 ^ 41) (sv v : Value) (hne : ∀ j, Id v j → ¬ Id sv j) : ∀ (m i : Nat) (H : Hp), i + m = L.length → Vec H 2 sv L.length (L.flatMap zhE) → Vec H 1 v L.length (((L.take i).map (zda l)).map str ++ repl m [str []]) →
    ∃ H', zat (zaQ RR (str l) v (.int .i64 (L.length : Int)) [sv]) [.int .i64 (i : Int)] H = some (.exit 2, [.int .i64 (L.length : Int)], H') ∧ Vec H' 1 v L.length ((L.map (zda l)).map str) ∧ Frm (Id v) H H'
  | 0, i, H, hi, hs, hv => by
    have h1 : ¬ ((i : Int) < (L.length : Int)) := by omega
    have this : zaQ RR (str l) v (.int .i64 (L.length : Int)) [sv] [.int .i64 (i : Int)] H = some (.exit 2, [.int .i64 (i : Int)], H) := by
      unfold zaQ
      simp only [qg0, zbc, zac, s_br, h1, decide_false, Bool.false_eq_true, if_false]
    have hil : i = L.length := by omega
    refine ⟨H, ?_, ?_, Frm.refl _ _⟩
    · rw [zak, this, hil]; rfl
    · rw [hil, List.take_length] at hv
      simpa [repl] using hv
  | m + 1, i, H, hi, hs, hv => by
    have hlt : i < L.length := by omega
    have hp : L[i]? = some L[i] := List.getElem?_eq_getElem hlt
    generalize L[i] = p at hp
    obtain ⟨a, e⟩ := p
    have hpl := hL (a, e) (List.mem_of_getElem? hp)
    obtain ⟨y, hy, ⟨rest, hg⟩, hix⟩ := hs.ix (i := i) hlt
    obtain ⟨y2, hy2, _, hix2⟩ := hv.ix (i := i) hlt
    have hsz := hv.size
    have hsz2 := hs.size
    obtain ⟨H1, hst, hv1, hf1, hnx⟩ := hv.set hy2 (o := i * 1) (m := 1) (x := str (zda l (a, e))) rfl (by rw [hsz]; omega) rfl
    have hspl := zj0 (((L.take i).map (zda l)).map str) (str []) (str (zda l (a, e))) (i := i) (n := L.length) (by simp; omega) m
    have hcl : zab (str (zda l (a, e))) = [str (zda l (a, e))] := rfl
    rw [hcl, hspl] at hv1
    have htk : L.take (i + 1) = L.take i ++ [(a, e)] := by rw [List.take_add_one, hp]; rfl
    have hv2 : Vec H1 1 v L.length (((L.take (i + 1)).map (zda l)).map str ++ repl m [str []]) := by rw [htk]; simpa using hv1
    have hs2 : Vec H1 2 sv L.length (L.flatMap zhE) := hs.keep hf1 fun j hj hj2 => hne j hj2 hj
    obtain ⟨H', g1, g2, g3⟩ := zkM l hl L hL hn sv v hne m (i + 1) H1 (by omega) hs2 hv2
    refine ⟨H', ?_, g2, hf1.trans g3 fun j hj => .inl hj⟩
    have q1 : ((i : Int) < (L.length : Int)) := by omega
    have hld := fun (α : Type) (k : Value → Option α) => ld_agg hg (o := i * 2) (m := 2) (by rw [hsz2]; omega) k
    rw [span_at L i (a, e) hp] at hld
    have e2 : (i : Int) + 1 = ((i + 1 : Nat) : Int) := by omega
    have this : zaQ RR (str l) v (.int .i64 (L.length : Int)) [sv] [.int .i64 (i : Int)] H = some (.next, [.int .i64 ((i + 1 : Nat) : Int)], H1) := by
      unfold zaQ
      simp only [qg0, zbc, zac, s_br, q1, decide_true, if_true]
      rw [hix, hld]
      show (za9 (str l) (some (.int .i64 (a : Int))) (some (.int .i64 (e : Int))) fun v48 => _) = _
      rw [s_cutL l hpl.1 hpl.2, hix2, hst, za5, e2, w64 (by omega) (by omega)]
    rw [zak, this]
    exact g1
end Go.AM
namespace Go.AM
open Go
theorem Vec.capS (H : Hp) {sz bytes : Nat} {zs : List Value} (hz : zs.length = sz) (h1 : zs.all one = true) {n : Nat} (hb : n * bytes ≤ 2 ^ 47) :
    ∃ v H', (∀ (α : Type) (k : Value → Hp → Option α), zaZ sz bytes zs (.int .i64 0) (.int .i64 (n : Int)) H k = k v H') ∧ Vec H' sz v 0 [] ∧ Frm (fun _ => False) H H' ∧ (∀ j, Id v j → H.next ≤ j) := by
  have ra : ∀ n, (repl n zs).all one = true := fun n => by
    induction n with
    | zero => rfl
    | succ n ih => show (zs ++ repl n zs).all one = true; rw [List.all_append, h1, ih]; rfl
  refine ⟨.slice (some ⟨H.next, 0, some sz⟩) 0 n, H.new (.cells (repl n zs) true), fun α k => ?_, .inr ⟨H.next, n, repl n zs, rfl, Nat.zero_le _, ?_, by simp, by rw [zeW, hz]; rfl, by show H.next < H.next + 1; omega, ra n⟩, zct _ _ _, fun j hj => by cases hj; exact Nat.le_refl _⟩
  · have e : ((2 : Int) ^ 47) = ((2 ^ 47 : Nat) : Int) := by rfl
    have hb' : (n : Int) * (bytes : Int) ≤ 2 ^ 47 := by rw [e, ← Int.natCast_mul]; exact Int.ofNat_le.2 hb
    have : zbX sz bytes zs (.int .i64 0) (.int .i64 (n : Int)) H = some (.slice (some ⟨H.next, 0, some sz⟩) 0 n, H.new (.cells (repl n zs) true)) := by
      unfold zbX
      dsimp only
      rw [if_pos ⟨by omega, by omega, hb'⟩]
      rfl
    unfold zaZ
    rw [this]
  · rw [get_new, if_pos rfl, List.nil_append]
def zbB (l : List UInt8) : List (List UInt8) := (spn l 0 none).map (zda l)
theorem zgm : ∀ (l : List UInt8) (i : Nat) (st : Option Nat), (spn l i st).length ≤ l.length + 1
  | [], i, none => by simp [spn]
  | [], i, some a => by simp [spn]
  | b :: r, i, st => by
    cases hb : b == 32 with
    | true =>
      cases st with
      | none => rw [zjZ hb]; have := zgm r (i + 1) none; simp only [List.length_cons]; omega
      | some a => rw [zl5 hb]; have := zgm r (i + 1) none; simp only [List.length_cons]; omega
    | false =>
      have e : spn (b :: r) i st = spn r (i + 1) (some (st.getD i)) := by
        conv => lhs; unfold spn
        rw [hb]
      rw [e]; have := zgm r (i + 1) (some (st.getD i)); simp only [List.length_cons]; omega
theorem c_fields (l : List UInt8) (hl : l.length ≤ 2 ^ 40) (H : Hp) : ∃ v H', RR F.a11 [str l, spF] H = some (v, H') ∧ Vec H' 1 v (zbB l).length ((zbB l).map str) ∧ Frm (fun _ => False) H H' ∧ ∀ j, Id v j → H.next ≤ j := by
  obtain ⟨v1, H1, hmk, hv1, hf1, hid1⟩ := Vec.capS H (sz := 2) (bytes := 16) (zs := [.int .i64 0, .int .i64 0]) rfl rfl (n := 32) (by omega)
  obtain ⟨H2, done, st, z, v2, g1, g2, g3, g4, g5, g6, g7, g8⟩ := span_loop l hl (l.length - 0) 0 [] none (-1) v1 H1 rfl (Nat.zero_le _) (by show (-1 : Int) < 0; decide) (fun a ha => by cases ha) (Nat.le_refl _) hv1
  rw [List.nil_append, qd0] at g2
  have hid2 : ∀ j, Id v2 j → H.next ≤ j := fun j hj => by
    rcases g8 j hj with q | q
    · exact hid1 j q
    · exact Nat.le_trans hf1.next q
  have hf2 : Frm (fun _ => False) H H2 := hf1.trans g7 fun j hj => .inr (hid1 j hj)
  have last : ∃ H3 v3, (zav (pBin PP .geq T.int (.int .i64 z) (.int .i64 0) fun v23 => zaa v23 fun b24 => br b24
      (pLen .str (str l) H2 fun v25 => zaG PP T.strings_span [(0, .int .i64 z), (1, v25)] fun v26 => zaj 2 [.int .i64 0, .int .i64 0] 1 [(0, v26)] H2 fun v27 H28 => zaF 2 16 v2 v27 H28 fun v29 H30 => some (.next, [v29], H30))
      (some (.next, [v2], H2))) : (Ctl → List Value → Hp → Option (Value × Hp)) → Option (Value × Hp)) = (fun k => k .next [v3] H3) ∧
      Vec H3 2 v3 (spn l 0 none).length ((spn l 0 none).flatMap zhE) ∧ Frm (fun _ => False) H H3 ∧ ∀ j, Id v3 j → H.next ≤ j := by
    cases st with
    | none =>
      have hz : ¬ z ≥ 0 := by have : z < 0 := g3; omega
      have e : spn l 0 none = done := by rw [g2]; show done ++ [] = done; rw [List.append_nil]
      refine ⟨H2, v2, ?_, by rw [e]; exact g6, hf2, hid2⟩
      funext k
      simp only [zde, zac, s_br, hz, decide_false, Bool.false_eq_true, if_false, zap]
    | some a =>
      have hza : z = (a : Int) := g3
      have hz : z ≥ 0 := by omega
      have e : spn l 0 none = done ++ [(a, l.length)] := g2
      obtain ⟨v3, H3, hpu, hv3, hf3, hid3, _⟩ := g6.push (bytes := 16) (zs := [.int .i64 0, .int .i64 0]) (x := .agg #[.int .i64 (a : Int), .int .i64 (l.length : Int)]) (by omega) (by omega) rfl rfl rfl (by omega)
      refine ⟨H3, v3, ?_, by rw [e, List.length_append, List.flatMap_append]; exact hv3, hf2.trans hf3 fun j hj => .inr (hid2 j hj), fun j hj => ?_⟩
      · funext k
        have e2 : ∀ {α : Type} (k : Value → Option α), pLen .str (str l) H2 k = k (.int .i64 (l.length : Int)) := fun k => by
          show k (.int .i64 ((ba l).size : Int)) = _
          rw [zb3]
        simp only [zde, zac, s_br, hz, decide_true, if_true, e2, s_bspan]
        rw [hza, hpu, zap]
      · rcases hid3 j hj with q | q
        · exact hid2 j q
        · exact Nat.le_trans hf2.next q
  obtain ⟨H3, v3, hlast, hv3, hf3, hid3⟩ := last
  have hn := zgm l 0 none
  have hok := zng l 0 none (fun a ha => by cases ha)
  generalize hL : spn l 0 none = L at *
  obtain ⟨v4, hmk4, hv4, hid4⟩ := Vec.make H3 (sz := 1) (bytes := 16) (zs := [str []]) rfl (n := L.length) (by omega)
  have hs4 : Vec (H3.new (.cells (repl L.length [str []]) true)) 2 v3 L.length (L.flatMap zhE) := hv3.keep (zct _ _ (fun _ => False)) fun _ _ h => h
  obtain ⟨H5, w1, w2, w3⟩ := zkM l hl L (fun p hp => by have := hok p hp; omega) (by omega) v3 v4 (fun j hj hj3 => by have := hid4 j hj; have := hv3.lt hj3; omega) L.length 0 _ (by omega) hs4 (by simpa using hv4)
  have hw : zbB l = L.map (zda l) := by unfold zbB; rw [hL]
  refine ⟨v4, H5, ?_, by rw [hw, List.length_map]; exact w2, ?_, fun j hj => ?_⟩
  · refine (ze1 E0 rfl _ _ H).trans ?_
    rw [ze4]
    have hmk' : ∀ (α : Type) (k : Value → Hp → Option α), zaZ 2 16 [.int .i64 0, .int .i64 0] (.int .i64 0) (.int .i64 32) H k = k v1 H1 := hmk
    have hmk4' : ∀ (α : Type) (k : Value → Hp → Option α), zaZ 1 16 [Value.string ⟨#[]⟩] (.int .i64 (L.length : Int)) (.int .i64 (L.length : Int)) H3 k = k v4 (H3.new (.cells (repl L.length [str []]) true)) := hmk4
    rw [hmk']
    show (zav (zat (zaH RR spF) [v1, .int .i64 (-1), zcT l 0] H1) _) = _
    rw [g1, zap, zbg, zaJ]
    refine (congrFun hlast _).trans ?_
    rw [za3]
    simp only [qg0]
    rw [hv3.len, hmk4', hv3.len]
    have w1' : zat (zaQ RR (str l) v4 (.int .i64 (L.length : Int)) [v3]) [.int .i64 0] (H3.new (.cells (repl L.length [str []]) true)) = some (.exit 2, [.int .i64 (L.length : Int)], H5) := w1
    rw [w1', zap, zbg, zaJ]
  · refine hf3.trans ((zct _ _ (fun _ => False)).trans w3 fun j hj => .inr (by rw [hid4 j hj]; exact Nat.le_refl _)) fun j hj => .inl hj
  · rw [hid4 j hj]; exact hf3.next
end Go.AM
namespace Go.AM
open Go
def Wds (H : Hp) (v : Value) (ws : List (List UInt8)) : Prop :=
  (ws = [] ∧ v = .slice none 0 0) ∨ ∃ y c pre rest own, v = .slice (some ⟨y, pre.length, some 1⟩) ws.length c ∧ ws.length ≤ c ∧ H.get y = some (.cells (pre ++ ws.map str ++ rest) own) ∧ y < H.next
theorem Vec.wds {H : Hp} {v : Value} {ws : List (List UInt8)} (h : Vec H 1 v ws.length (ws.map str)) : Wds H v ws := by
  rcases h with ⟨h1, h2, h3⟩ | ⟨y, c, rest, h1, h2, h3, h4, h5, h6, h7⟩
  · exact .inl ⟨List.length_eq_zero_iff.1 h1, h3⟩
  · exact .inr ⟨y, c, [], rest, true, h1, h2, by simpa using h3, h6⟩
theorem Wds.len {H : Hp} {v : Value} {ws : List (List UInt8)} (h : Wds H v ws) {α : Type} (H' : Hp) (k : Value → Option α) : pLen .sl v H' k = k (.int .i64 (ws.length : Int)) := by
  rcases h with ⟨rfl, rfl⟩ | ⟨y, c, pre, rest, own, rfl, _⟩ <;> rfl
theorem Wds.keep {M : Nat → Prop} {H H' : Hp} {v : Value} {ws : List (List UInt8)} (h : Wds H v ws) (k : Frm M H H') (hm : ∀ j, Id v j → ¬ M j) : Wds H' v ws := by
  rcases h with h | ⟨y, c, pre, rest, own, rfl, h1, h2, h3⟩
  · exact .inl h
  · exact .inr ⟨y, c, pre, rest, own, rfl, h1, by rw [k.same y h3 (hm y rfl)]; exact h2, Nat.lt_of_lt_of_le h3 k.next⟩
theorem Wds.head {H : Hp} {v : Value} {w : List UInt8} {ws : List (List UInt8)} (h : Wds H v (w :: ws)) : ∃ v', (∀ (α : Type) (k : Value → Option α), (pIdx 1 v (.int .i64 0) fun p => zal 1 false H p k) = k (str w)) ∧ (∀ (α : Type) (k : Value → Option α), zch 1 v (some (.int .i64 1)) none k = k v') ∧ Wds H v' ws ∧ (∀ j, Id v' j → Id v j) := by
  rcases h with ⟨h, _⟩ | ⟨y, c, pre, rest, own, rfl, h1, h2, h3⟩
  · cases h
  · rw [List.length_cons] at h1
    refine ⟨.slice (some ⟨y, pre.length + 1, some 1⟩) ws.length (c - 1), fun α k => ?_, fun α k => ?_, .inr ⟨y, c - 1, pre ++ [str w], rest, own, by simp, by omega, by simpa using h2, h3⟩, fun j hj => hj⟩
    · have e : idxV 1 (.slice (some ⟨y, pre.length, some 1⟩) (w :: ws).length c) (.int .i64 0) = some (.pointer (some ⟨y, pre.length, none⟩)) := by
        unfold idxV
        dsimp only
        rw [if_pos ⟨rfl, by omega, by rw [List.length_cons]; omega⟩]
        rfl
      unfold pIdx
      rw [e]
      dsimp only
      refine zbl h2 pre.length (str w) ?_ k
      simp
    · have e : zfa 1 (.slice (some ⟨y, pre.length, some 1⟩) (w :: ws).length c) (some (.int .i64 1)) none = some (.slice (some ⟨y, pre.length + 1, some 1⟩) ws.length (c - 1)) := by
        unfold zfa
        dsimp only [zcI]
        rw [if_pos ⟨rfl, by omega, by rw [List.length_cons]; omega, by rw [List.length_cons]; omega⟩]
        simp
      unfold zch
      rw [e]
abbrev zb0 (e : Int) : Value := .iface T.term_fault (.agg #[.int .i64 e])
theorem zbW {α : Type} (e : Int) (k : Value → Option α) : zaG PP T.term_fault [(0, .int .i64 e)] k = k (.agg #[.int .i64 e]) := by
  have : zgi PP T.term_fault [(0, .int .i64 e)] = some (.agg #[.int .i64 e]) := by kernel_rfl
  unfold zaG; rw [this]
theorem next_none {H : Hp} {p : Nat} {sp wv tv : Value} (hp : H.get p = some (.cells [sp, wv, tv] true)) (hw : Wds H wv []) : RR F.a3 [.pointer (some ⟨p, 0, none⟩)] H = some (W0 (zb0 3), H) := by
  refine (zdu E0 rfl _ H).trans ?_
  unfold zck
  have hl := fun (α : Type) (k : Value → Option α) => zbl hp (0 + 1) wv rfl k
  simp only [zbV, zaT, hl, hw.len, za0, zac, s_br, List.length_nil, Int.ofNat_zero, decide_true, if_true, zbW]
theorem next_some {H : Hp} {p : Nat} {sp wv tv : Value} (hp : H.get p = some (.cells [sp, wv, tv] true)) {w : List UInt8} {ws : List (List UInt8)} (hw : Wds H wv (w :: ws)) (hne : ¬ Id wv p) : ∃ H' wv', RR F.a3 [.pointer (some ⟨p, 0, none⟩)] H = some (W1 (str w), H') ∧ H'.get p = some (.cells [sp, wv', tv] true) ∧ Wds H' wv' ws ∧ (∀ j, Id wv' j → Id wv j) ∧ Frm (· = p) H H' ∧ H'.next = H.next := by
  obtain ⟨wv', h1, h2, h3, h4⟩ := hw.head
  have hwr : H.wr (.pointer (some ⟨p, 0 + 1, none⟩)) 1 wv' = some (H.set p (some (.cells [sp, wv', tv] true))) := by
    have hc : zab wv' = [wv'] := by
      rcases h3 with ⟨_, rfl⟩ | ⟨y, c, pre, rest, own, rfl, _⟩ <;> rfl
    have ho : one wv' = true := by
      rcases h3 with ⟨_, rfl⟩ | ⟨y, c, pre, rest, own, rfl, _⟩ <;> rfl
    have hw2 : zbj 1 [sp, wv, tv] (0 + 1) wv' = some [sp, wv', tv] := by
      unfold zbj
      rw [hc, if_pos ⟨rfl, by simp, by simp [ho]⟩]
      rfl
    show (match H.get p with | some (.cells cs true) => (match zbj 1 cs (0 + 1) wv' with | some cs' => some (H.set p (some (.cells cs' true))) | none => none) | _ => none) = _
    rw [hp]; dsimp only; rw [hw2]
  have hfr : Frm (· = p) H (H.set p (some (.cells [sp, wv', tv] true))) := zfi _ _ _ _ rfl
  refine ⟨_, wv', ?_, by rw [get_set, if_pos rfl], h3.keep hfr fun j hj e => hne (e ▸ h4 j hj), h4, hfr, rfl⟩
  refine (zdu E0 rfl _ H).trans ?_
  unfold zck
  have hl := fun (α : Type) (k : Value → Option α) => zbl hp (0 + 1) wv rfl k
  have hz : ¬ (((w :: ws).length : Int) = 0) := by rw [List.length_cons]; omega
  simp only [zbV, zaT, hl, hw.len, za0, zac, s_br, hz, decide_false, Bool.false_eq_true, if_false]
  rw [h1, h2]
  unfold zar
  rw [hwr]
end Go.AM
namespace Go.AM
open Go
def hexV (n : Nat) : Int := if 48 ≤ n ∧ n ≤ 57 then (n : Int) - 48 else if 97 ≤ n ∧ n ≤ 102 then (n : Int) - 87 else if 65 ≤ n ∧ n ≤ 70 then (n : Int) - 55 else -1
def digV (n base : Nat) : Int := if hexV n < 0 ∨ (base : Int) ≤ hexV n then -1 else hexV n
theorem hexV_lt (n : Nat) : -1 ≤ hexV n ∧ hexV n ≤ 15 := by
  unfold hexV
  split
  · omega
  · split
    · omega
    · split <;> omega
end Go.AM
namespace Go.AM
open Go
def numL (base : Nat) : List UInt8 → Nat → Option Nat
  | [], v => some v
  | b :: r, v => if digV b.toNat base < 0 then none else if v > (18446744073709551615 - (digV b.toNat base).toNat) / base then none else numL base r (v * base + (digV b.toNat base).toNat)
def badN : Value := .tuple #[.int .u64 0, .int .i64 10]
theorem digV_lt (n base : Nat) : digV n base = -1 ∨ (0 ≤ digV n base ∧ digV n base < base ∧ digV n base ≤ 15) := by
  have := hexV_lt n
  unfold digV
  split
  · exact .inl rfl
  · right; omega
theorem u64 {a : Int} (h0 : 0 ≤ a) (h1 : a ≤ 18446744073709551615) : IntKind.u64.wrap a = a := zb5 (k := .u64) h0 h1
end Go.AM
namespace Go.AM
open Go
def numP (l : List UInt8) : Option Nat :=
  if l[0]? = some 48 ∧ l[1]? = some 120 then (if l.length = 2 then none else numL 16 (l.drop 2) 0) else (if l.length = 0 then none else numL 10 l 0)
def numV : Option Nat → Value
  | some x => .tuple #[.int .u64 (x : Int), .int .i64 0]
  | none => badN
end Go.AM
namespace Go.AM
open Go
def zbZ (l : List UInt8) : Int :=
  match numP l with
  | some x => if x < 2147483648 then (x : Int) else -1
  | none => -1
end Go.AM
namespace Go.AM
open Go
def lowB (n : Nat) : Nat := if n % 64 < 32 then n + 32 else n
theorem lowB_all : ((List.range 256).all fun n => match zdM .or .u8 (n : Int) 32 with | some (.int .u8 m) => m == (lowB n : Int) | _ => false) = true := by kernel_rfl
theorem s_low (n : Nat) (hn : n < 256) {α : Type} (T : TypeId) (k : Value → Option α) : pBin PP .or T (.int .u8 (n : Int)) (.int .u8 32) k = k (.int .u8 (lowB n : Int)) := by
  have h := List.all_eq_true.1 lowB_all n (List.mem_range.2 hn)
  have e : zdM .or .u8 (n : Int) 32 = some (.int .u8 (lowB n : Int)) := by
    split at h
    · rename_i m hm
      rw [hm, eq_of_beq h]
    · cases h
  have : binV PP .or T (.int .u8 (n : Int)) (.int .u8 32) = some (.int .u8 (lowB n : Int)) := e
  unfold pBin; rw [this]
theorem c_lower (n : Nat) (hn : n < 256) (H : Hp) : RR F.a6 [.int .u8 (n : Int)] H = some (.int .u8 (lowB n : Int), H) := by
  refine (zdW E0 rfl _ H).trans ?_
  unfold zcc
  rw [s_low n hn]
def pd (n : Nat) : Option Nat := if 48 ≤ n ∧ n ≤ 57 then some (n - 48) else if 97 ≤ lowB n ∧ lowB n ≤ 122 then some (lowB n - 97 + 10) else none
def pdOk (n base : Nat) : Bool := match pd n with
  | none => digV n base == -1
  | some d => d < 36 && (if d < base then digV n base == (d : Int) else digV n base == -1)
theorem pd_all : ((List.range 256).all fun n => pdOk n 10 && pdOk n 16) = true := by kernel_rfl
theorem pd_none {n base : Nat} (hn : n < 256) (hb : base = 10 ∨ base = 16) (h : pd n = none) : digV n base = -1 := by
  have := List.all_eq_true.1 pd_all n (List.mem_range.2 hn)
  rw [Bool.and_eq_true] at this
  have : pdOk n base = true := by rcases hb with rfl | rfl; exact this.1; exact this.2
  unfold pdOk at this
  rw [h] at this
  exact eq_of_beq this
theorem pd_some {n base d : Nat} (hn : n < 256) (hb : base = 10 ∨ base = 16) (h : pd n = some d) : d < 36 ∧ (d < base → digV n base = (d : Int)) ∧ (base ≤ d → digV n base = -1) := by
  have := List.all_eq_true.1 pd_all n (List.mem_range.2 hn)
  rw [Bool.and_eq_true] at this
  have : pdOk n base = true := by rcases hb with rfl | rfl; exact this.1; exact this.2
  unfold pdOk at this
  rw [h] at this
  dsimp only at this
  rw [Bool.and_eq_true, decide_eq_true_eq] at this
  refine ⟨this.1, fun q => ?_, fun q => ?_⟩
  · have h2 := this.2; rw [if_pos q] at h2; exact eq_of_beq h2
  · have h2 := this.2; rw [if_neg (by omega)] at h2; exact eq_of_beq h2
def zgh (l : List UInt8) : List Value := l.map fun b => Value.int .u8 (b.toNat : Int)
def errP (u c : Int) : Value := .tuple #[.int .u64 u, .iface T.strconv_Error (.int .i64 c)]
theorem u8w {a : Int} (h0 : 0 ≤ a) (h1 : a ≤ 255) : IntKind.u8.wrap a = a := zb5 (k := .u8) h0 h1
def maxU : Value := .int .u64 18446744073709551615
theorem u64mod {a : Nat} (h : 18446744073709551616 ≤ a) (h2 : a < 2 * 18446744073709551616) : IntKind.u64.wrap (a : Int) = ((a - 18446744073709551616 : Nat) : Int) := by
  simp [IntKind.wrap, IntKind.signed, IntKind.bits]
  omega
def ParQ (v base : Nat) (d : Int) (i : Nat) (H : Hp) (r : Outc) : Prop :=
  ((d < 0 ∨ v > (18446744073709551615 - d.toNat) / base) → ∃ u c, (c = 1 ∨ c = 2) ∧ r = (.ret, [errP u c], H)) ∧
  (¬ (d < 0 ∨ v > (18446744073709551615 - d.toNat) / base) → r = (.next, [.bool false, .int .u64 ((v * base + d.toNat : Nat) : Int), .int .i64 ((i + 1 : Nat) : Int)], H))
theorem ParQ.bad {v base : Nat} {d : Int} {i : Nat} {H : Hp} (h : d < 0 ∨ v > (18446744073709551615 - d.toNat) / base) (u c : Int) (hc : c = 1 ∨ c = 2) : ParQ v base d i H (.ret, [errP u c], H) := ⟨fun _ => ⟨u, c, hc, rfl⟩, fun q => absurd h q⟩
theorem par_step (l : List UInt8) (hl : l.length ≤ 2 ^ 40) (base : Nat) (hb : base = 10 ∨ base = 16) (xs vb : Value) (H : Hp) (hv : Rdb H 1 vb l.length (zgh l)) (i v : Nat) (b : UInt8) (hget : l[i]? = some b) (hv2 : v ≤ 18446744073709551615) :
    ∃ r, zaB RR (.bool false) maxU vb (.int .i64 (l.length : Int)) [xs, .int .i64 (base : Int)] [.int .u64 ((18446744073709551615 / base + 1 : Nat) : Int)] [.bool false, .int .u64 (v : Int), .int .i64 (i : Int)] H = some r ∧
      ParQ v base (digV b.toNat base) i H r := by
  have hi : i < l.length := (List.getElem?_eq_some_iff.1 hget).1
  obtain ⟨y, hy, ⟨rest, own, hg⟩, hix⟩ := hv.ix hi
  have hix' : ∀ (α : Type) (k : Value → Option α), pIdx 1 vb (.int .i64 (i : Int)) k = k (.pointer (some ⟨y, i, none⟩)) := fun α k => by
    have := hix α .i64 k
    rwa [Nat.mul_one] at this
  have hld : ∀ (α : Type) (k : Value → Option α), zal 1 false H (.pointer (some ⟨y, i, none⟩)) k = k (.int .u8 (b.toNat : Int)) := fun α k => zbl hg i _ (by
    rw [List.getElem?_append_left (by simpa [zgh] using hi)]
    simp [zgh, hget]) k
  have hn := UInt8.toNat_lt b
  generalize b.toNat = n at hn hld ⊢
  have h1 : ((i : Int) < (l.length : Int)) := by omega
  have hlow := c_lower n hn H
  have hbase8 : ∀ (α : Type) (k : Value → Option α), zan .u8 (.int .i64 (base : Int)) k = k (.int .u8 (base : Int)) := fun α k => by
    show k (.int .u8 (IntKind.u8.wrap (base : Int))) = _
    rw [u8w (by omega) (by omega)]
  have hbase64 : ∀ (α : Type) (k : Value → Option α), zan .u64 (.int .i64 (base : Int)) k = k (.int .u64 (base : Int)) := fun α k => by
    show k (.int .u64 (IntKind.u64.wrap (base : Int))) = _
    rw [u64 (by omega) (by omega)]
  have hinc : IntKind.i64.wrap ((i : Int) + 1) = ((i + 1 : Nat) : Int) := w64 (by omega) (by omega)
  have tailD : ∀ d : Nat, pd n = some d → d < 36 → ∃ r : Outc,
      (zan .u8 (.int .i64 (base : Int)) fun v131 =>
       pBin PP .geq T.uint8 (.int .u8 (d : Int)) v131 fun v132 =>
       zaa v132 fun b133 => br b133
       (some (Ctl.ret, [(.tuple #[(.int .u64 0), (.iface T.strconv_Error (.int .i64 2))])], H))
       (pBin PP .geq T.uint64 (.int .u64 (v : Int)) (.int .u64 ((18446744073709551615 / base + 1 : Nat) : Int)) fun v134 =>
       zaa v134 fun b135 => br b135
       (some (Ctl.ret, [(.tuple #[maxU, (.iface T.strconv_Error (.int .i64 1))])], H))
       (zan .u64 (.int .i64 (base : Int)) fun v136 =>
       pBin PP .mul T.uint64 (.int .u64 (v : Int)) v136 fun v137 =>
       zan .u64 (.int .u8 (d : Int)) fun v138 =>
       pBin PP .add T.uint64 v137 v138 fun v139 =>
       pBin PP .lss T.uint64 v139 v137 fun v140 =>
       zaa v140 fun b141 => br b141
       (some (Ctl.ret, [(.tuple #[maxU, (.iface T.strconv_Error (.int .i64 1))])], H))
       (pBin PP .gtr T.uint64 v139 maxU fun v142 =>
       zaa v142 fun b143 => br b143
       (some (Ctl.ret, [(.tuple #[maxU, (.iface T.strconv_Error (.int .i64 1))])], H))
       (pBin PP .add T.int (.int .i64 (i : Int)) (.int .i64 1) fun v144 =>
       some (Ctl.next, [.bool false, v139, v144], H)))))) = some r ∧
      ParQ v base (digV n base) i H r := by
    intro d hd hd36
    obtain ⟨_, hlt, hge⟩ := pd_some hn hb hd
    rw [hbase8]
    by_cases hdb : base ≤ d
    · have hq : digV n base < 0 := by rw [hge hdb]; decide
      have : ((d : Int) ≥ (base : Int)) := by omega
      simp only [zde, zac, s_br, this, decide_true, if_true]
      exact ⟨_, rfl, ParQ.bad (.inl hq) 0 2 (.inr rfl)⟩
    · have hdv := hlt (by omega)
      rw [hdv]
      have hdb' : ¬ ((d : Int) ≥ (base : Int)) := by omega
      have hd0 : ¬ ((d : Int) < 0) := by omega
      have hcd : ∀ (α : Type) (k : Value → Option α), zan .u64 (.int .u8 (d : Int)) k = k (.int .u64 (d : Int)) := fun α k => by
        show k (.int .u64 (IntKind.u64.wrap (d : Int))) = _
        rw [u64 (by omega) (by omega)]
      by_cases hc : v ≥ 18446744073709551615 / base + 1
      · have hq : v > (18446744073709551615 - d) / base := by
          have : (18446744073709551615 - d) / base ≤ 18446744073709551615 / base := Nat.div_le_div_right (by omega)
          omega
        have hc' : ((v : Int) ≥ ((18446744073709551615 / base + 1 : Nat) : Int)) := by omega
        simp only [zde, zac, s_br, hdb', hc', decide_true, decide_false, Bool.false_eq_true, if_true, if_false]
        exact ⟨_, rfl, ParQ.bad (.inr hq) _ 1 (.inl rfl)⟩
      · have hc' : ¬ ((v : Int) ≥ ((18446744073709551615 / base + 1 : Nat) : Int)) := by omega
        have hb0 : 0 < base := by omega
        have hm : v * base ≤ 18446744073709551615 := by
          have : v ≤ 18446744073709551615 / base := by omega
          exact (Nat.le_div_iff_mul_le hb0).1 this
        have hmul : IntKind.u64.wrap ((v : Int) * (base : Int)) = ((v * base : Nat) : Int) := by
          rw [← Int.natCast_mul]
          exact u64 (by omega) (by omega)
        by_cases ho : v * base + d ≤ 18446744073709551615
        · have hq : ¬ (v > (18446744073709551615 - d) / base) := by
            have : v ≤ (18446744073709551615 - d) / base := (Nat.le_div_iff_mul_le hb0).2 (by omega)
            omega
          have hadd : IntKind.u64.wrap (((v * base : Nat) : Int) + (d : Int)) = ((v * base + d : Nat) : Int) := by
            rw [← Int.natCast_add]
            exact u64 (by omega) (by omega)
          have e1 : ¬ (((v * base + d : Nat) : Int) < ((v * base : Nat) : Int)) := by omega
          have e2 : ¬ (((v * base + d : Nat) : Int) > 18446744073709551615) := by omega
          simp only [zde, zac, s_br, hdb', hc', decide_true, decide_false, Bool.false_eq_true, if_true, if_false, hbase64, s_mul, hmul, hcd, za5, hadd, zbc, e1, maxU, zb1, e2, hinc]
          exact ⟨_, rfl, fun q => absurd q (by intro q; rcases q with q | q; exact hd0 q; exact hq q), fun _ => rfl⟩
        · have hq : (v > (18446744073709551615 - d) / base) := by
            rcases Nat.lt_or_ge ((18446744073709551615 - d) / base) v with q | q
            · exact q
            · have := (Nat.le_div_iff_mul_le hb0).1 q; omega
          have hadd : IntKind.u64.wrap (((v * base : Nat) : Int) + (d : Int)) = ((v * base + d - 18446744073709551616 : Nat) : Int) := by
            rw [← Int.natCast_add]
            exact u64mod (by omega) (by omega)
          have e1 : (((v * base + d - 18446744073709551616 : Nat) : Int) < ((v * base : Nat) : Int)) := by omega
          simp only [zde, zac, s_br, hdb', hc', decide_true, decide_false, Bool.false_eq_true, if_true, if_false, hbase64, s_mul, hmul, hcd, za5, hadd, zbc, e1]
          exact ⟨_, rfl, ParQ.bad (.inr hq) _ 1 (.inl rfl)⟩
  have bad : pd n = none → ParQ v base (digV n base) i H (Ctl.ret, [Value.tuple #[(.int .u64 0), (.iface T.strconv_Error (.int .i64 2))]], H) := fun hp =>
    ParQ.bad (.inl (by rw [pd_none hn hb hp]; decide)) 0 2 (.inr rfl)
  have hl256 : lowB n < 288 := by unfold lowB; split <;> omega
  unfold zaB
  simp only [qg0, qg1, zbc, zac, s_br, h1, decide_true, if_true, hix', hld]
  have e95 : (zav (pBin PP .eql T.uint8 (.int .u8 (n : Int)) (.int .u8 95) fun v91 => zaa v91 fun b92 => br b92 (some (.next, [Value.bool false], H)) (some (.next, [(.bool false)], H))) : (Ctl → List Value → Hp → Option Outc) → Option Outc) = fun k => k .next [.bool false] H := by
    funext k
    rw [za0, zac, s_br]
    split <;> rfl
  have e95' := fun k => congrFun e95 k
  simp only [zac, s_br] at e95'
  rw [e95', za3]
  simp only [qg0, zac, s_br, Bool.false_eq_true, if_false, zfp]
  by_cases q1 : (48 : Int) ≤ (n : Int) <;> by_cases q2 : (n : Int) ≤ 57
  · have hp : pd n = some (n - 48) := by unfold pd; rw [if_pos ⟨by omega, by omega⟩]
    have hs : IntKind.u8.wrap ((n : Int) - 48) = ((n - 48 : Nat) : Int) := by rw [u8w (by omega) (by omega)]; omega
    have hT := tailD _ hp (by omega)
    simp only [zfp, zac, s_br, q1, q2, decide_true, if_true, zdr, hs, za5, zap, za3, qg0, qg1] at hT ⊢
    exact hT
  all_goals
    have hno : ¬ (48 ≤ n ∧ n ≤ 57) := by omega
    by_cases q3 : (97 : Int) ≤ (lowB n : Int) <;> by_cases q4 : (lowB n : Int) ≤ 122
    · have hp : pd n = some (lowB n - 97 + 10) := by unfold pd; rw [if_neg hno, if_pos ⟨by omega, by omega⟩]
      have hs : IntKind.u8.wrap ((lowB n : Int) - 97) = ((lowB n - 97 : Nat) : Int) := by rw [u8w (by omega) (by omega)]; omega
      have ha : IntKind.u8.wrap (((lowB n - 97 : Nat) : Int) + 10) = ((lowB n - 97 + 10 : Nat) : Int) := by rw [u8w (by omega) (by omega)]; omega
      have hT := tailD _ hp (by omega)
      simp only [zfp, zac, s_br, q1, q2, q3, q4, decide_true, decide_false, Bool.false_eq_true, if_true, if_false, zag hlow, zdr, hs, za5, ha, zap, za3, qg0, qg1] at hT ⊢
      exact hT
    all_goals
      have hp : pd n = none := by unfold pd; rw [if_neg hno, if_neg (by omega)]
      simp only [zfp, zac, s_br, q1, q2, q3, q4, decide_true, decide_false, Bool.false_eq_true, if_true, if_false, zag hlow, zap, zez, List.headD_cons]
      exact ⟨_, rfl, bad hp⟩
theorem znz (l : List UInt8) (hl : l.length ≤ 2 ^ 40) (base : Nat) (hb : base = 10 ∨ base = 16) (xs vb : Value) (H : Hp) (hv : Rdb H 1 vb l.length (zgh l)) : ∀ (rest : List UInt8) (i v : Nat), l.drop i = rest → i ≤ l.length → v ≤ 18446744073709551615 →
    ∃ r, zat (zaB RR (.bool false) maxU vb (.int .i64 (l.length : Int)) [xs, .int .i64 (base : Int)] [.int .u64 ((18446744073709551615 / base + 1 : Nat) : Int)]) [.bool false, .int .u64 (v : Int), .int .i64 (i : Int)] H = some r ∧
      match numL base rest v with
      | some x => r = (.exit 3, [.bool false, .int .u64 (x : Int), .int .i64 (l.length : Int)], H)
      | none => ∃ u c, (c = 1 ∨ c = 2) ∧ r = (.ret, [errP u c], H)
  | [], i, v, hr, hi, hv2 => by
    have hil : i = l.length := by
      have := congrArg List.length hr
      rw [List.length_drop] at this
      simp at this
      omega
    have this : zaB RR (.bool false) maxU vb (.int .i64 (l.length : Int)) [xs, .int .i64 (base : Int)] [.int .u64 ((18446744073709551615 / base + 1 : Nat) : Int)] [.bool false, .int .u64 (v : Int), .int .i64 (i : Int)] H = some (.exit 3, [.bool false, .int .u64 (v : Int), .int .i64 (i : Int)], H) := by
      unfold zaB
      have h1 : ¬ ((i : Int) < (l.length : Int)) := by omega
      simp only [qg0, qg1, zbc, zac, s_br, h1, decide_false, Bool.false_eq_true, if_false]
    subst hil
    exact ⟨_, (by rw [zak, this]; rfl), rfl⟩
  | b :: r, i, v, hr, hi, hv2 => by
    have hlt : i < l.length := by
      have := congrArg List.length hr
      rw [List.length_drop] at this
      simp at this
      omega
    have hget : l[i]? = some b := by
      have := congrArg (fun x => x[0]?) hr
      simpa using this
    have hr2 : l.drop (i + 1) = r := by rw [← List.drop_drop, hr]; rfl
    obtain ⟨o, h1, h2⟩ := par_step l hl base hb xs vb H hv i v b hget hv2
    unfold numL
    by_cases h0 : digV b.toNat base < 0
    · rw [if_pos h0]
      obtain ⟨u, c, hc, rfl⟩ := h2.1 (.inl h0)
      exact ⟨_, (by rw [zak, h1]; rfl), u, c, hc, rfl⟩
    · rw [if_neg h0]
      by_cases h3 : v > (18446744073709551615 - (digV b.toNat base).toNat) / base
      · rw [if_pos h3]
        obtain ⟨u, c, hc, rfl⟩ := h2.1 (.inr h3)
        exact ⟨_, (by rw [zak, h1]; rfl), u, c, hc, rfl⟩
      · rw [if_neg h3]
        have h2 := h2.2 (by intro q; rcases q with q | q; exact h0 q; exact h3 q)
        subst h2
        have hd := digV_lt b.toNat base
        have hm : v * base ≤ 18446744073709551615 - (digV b.toNat base).toNat := by
          have : v ≤ (18446744073709551615 - (digV b.toNat base).toNat) / base := by omega
          exact (Nat.le_div_iff_mul_le (by omega)).1 this
        rw [zak, h1]
        exact znz l hl base hb xs vb H hv r (i + 1) _ hr2 hlt (by omega)
end Go.AM
namespace Go.AM
open Go
theorem run_ext {P : Program} {O : Orc} {ext : FuncId → Option (List Value → Hp → Option (Value × Hp))} {g : FuncId} {fn : Func} {e : List Value → Hp → Option (Value × Hp)} (hf : P.funcs[g]? = some fn) (hn : (fn.name == "runtime.NumGoroutine") = false) (hb : fn.body.isSome = true) (hx : ext g = some e) (xs : List Value) (H : Hp) :
    run P O ext g xs H = e xs H := by
  rw [run_eq]
  unfold zhe
  rw [hf]
  dsimp only
  rw [hn]
  dsimp only
  obtain ⟨c, hc⟩ := Option.isSome_iff_exists.1 hb
  rw [hc]
  dsimp only
  rw [hx]
def bv (l : List UInt8) : List Value := l.map fun b => Value.int .u8 (b.toNat : Int)
theorem bv_len (l : List UInt8) : (bv l).length = l.length := by simp [bv]
end Go.AM
namespace Go.AM
open Go
section
end
end Go.AM
namespace Go.AM
open Go
section
end
end Go.AM
namespace Go.AM
open Go
structure Tabs (H : Hp) : Prop where
  pow : ∃ cs e fz, H.get G.internal_strconv_uint64pow10 = some (.fix (.cells cs e fz)) ∧ zjY .u64 cs.toList zox = true
  spc : ∃ cs e fz, H.get G.strings_asciiSpace = some (.fix (.cells cs e fz)) ∧ zjY .u8 cs.toList zi7 = true
  bru : ∃ cs e fz, H.get G.bits_deBruijn64tab = some (.fix (.cells cs e fz)) ∧ cs.toList[15]? = some (.int .u8 4)
end Go.AM
