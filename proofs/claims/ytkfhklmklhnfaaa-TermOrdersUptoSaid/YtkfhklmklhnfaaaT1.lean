/- Part of the proof of TermOrdersUptoSaid: see the last file.  -/
import Derived.KernelRfl
import Derived.Test.YtkfhklmklhnfaaaProg
import Derived.Test.YtkfhklmklhnfaaaT0
set_option linter.unusedSimpArgs false
set_option linter.unusedVariables false
set_option linter.unusedSectionVars false
namespace Go.AM
open Go
set_option linter.unusedVariables false
set_option maxRecDepth 100000
def orc : Orc := mkOrc [(4, [11, 13]), (5, [16]), (7, [16, 18, 21]), (10, [4]), (12, [3]), (13, [14]), (14, [12, 14]), (18, [3]), (21, [10]), (22, [3]), (31, [3]), (41, [1]), (42, [3]), (43, [3]), (44, [15]), (47, [2]), (48, [3]), (49, [3])]
  [(5, [(11, some ([], [])), (4, some ([], []))]), (6, [(10, some ([], []))]), (7, [(23, some ([], [])), (4, some ([], []))]), (8, [(5, some ([], []))]), (11, [(5, some ([], []))]), (21, [(5, some ([22], [])), (4, some ([15], [])), (10, some ([], [10]))]), (22, [(26, some ([], [])), (21, some ([], [])), (5, some ([], [])), (3, some ([], []))]), (29, [(6, some ([4], []))]), (31, [(23, some ([], [])), (18, some ([], [])), (7, some ([26], [])), (5, some ([17], []))]), (36, [(4, some ([26], [])), (2, some ([11], []))]), (42, [(8, some ([27], []))]), (43, [(12, some ([60], [])), (4, some ([13], []))]), (44, [(7, some ([5], [])), (3, some ([], []))]), (46, [(2, some ([3], []))]), (47, [(3, some ([], []))]), (48, [(12, some ([67], []))]), (49, [(3, some ([8], []))]), (50, [(3, some ([], []))])]
  [(4, [(7, [10], [])]), (5, [(19, [15], []), (5, [7], [])]), (6, [(15, [11, 18], []), (11, [17], [])]), (7, [(38, [23], []), (31, [20], []), (25, [19], []), (18, [15], []), (14, [14], []), (5, [9], [])]), (8, [(8, [11], [])]), (13, [(16, [8, 10], []), (11, [8, 10, 36], []), (2, [18], [])]), (14, [(18, [13, 15], []), (12, [8, 10], []), (9, [8, 9], []), (2, [6], [])]), (15, [(4, [5], [])]), (22, [(6, [35], [])]), (44, [(4, [], [15])]), (50, [(4, [3], [])]), (55, [(2, [3], [])])]
noncomputable def m2 (R : Handler) (H0 : Hp) : Option (Value × Hp) :=
 pCallF R 1 [] H0 fun r1 H2 =>
 some ((.tuple #[]), H2)
theorem e2 (R : Handler) (H0 : Hp) : execF Go.Proofs.Try.prog orc R 2 Go.Proofs.Try.f2 [] H0 = m2 R  H0 := by kernel_rfl
noncomputable def m3 (R : Handler) (x0 x1 : Value) (H0 : Hp) : Option (Value × Hp) :=
 pCallF R 8 [x0, x1] H0 fun r1 H2 =>
 pExtract r1 0 fun v3 =>
 pExtract r1 1 fun v4 =>
 pExtract r1 2 fun v5 =>
 some (v5, H2)
theorem e3 (R : Handler) (x0 x1 : Value) (H0 : Hp) : execF Go.Proofs.Try.prog orc R 3 Go.Proofs.Try.f3 [x0, x1] H0 = m3 R x0 x1 H0 := by kernel_rfl
noncomputable def m4 (R : Handler) (x0 x1 x2 : Value) (H0 : Hp) : Option (Value × Hp) :=
 pCallF R 8 [x0, x1] H0 fun r1 H2 =>
 pExtract r1 0 fun v3 =>
 pExtract r1 1 fun v4 =>
 pExtract r1 2 fun v5 =>
 pBin Go.Proofs.Try.prog .eql 23 v3 (.pointer none) fun v6 =>
 pBool v6 fun b7 => br b7
 (some (v5, H2))
 (pCallF R 9 [v3] H2 fun r8 H9 =>
 pNil v4 (
 pOffs 1 v4 fun p10 =>
 pLoad 1 false H9 p10 fun v11 =>
 chk (Hp.rdP H2 p10 1 false = some v11) (
 pLen .sl v11 H9 fun v12 =>
 lenAgain .sl v11 H2 v12 (
 pBin Go.Proofs.Try.prog .neq 3 r8 v12 fun v13 =>
 pBool v13 fun b14 => br b14
 (some ((.bool false), H9))
 (bindO (loopD (fun l15 H16 =>
 pNil v4 (
 pOffs 1 v4 fun p17 =>
 pLoad 1 false H16 p17 fun v18 =>
 pLen .sl v18 H16 fun v19 =>
 pBin Go.Proofs.Try.prog .lss 3 (l15.getD 0 undef) v19 fun v20 =>
 pBool v20 fun b21 => br b21
 (pBin Go.Proofs.Try.prog .add 3 (l15.getD 0 undef) (.int .i64 1) fun v22 =>
 pCallF R 10 [v3, v22] H16 fun r23 H24 =>
 pExtract r23 0 fun v25 =>
 pExtract r23 1 fun v26 =>
 pSplice 7 [.int .i64 0, .int .i64 0, .int .i64 0, .int .i64 0, .int .i64 0, .int .u64 0, .string ⟨#[]⟩] 0 v25 fun c27 =>
 pCell 7 true c27 0 fun v28 =>
 pNil v4 (
 pOffs 1 v4 fun p29 =>
 pLoad 1 false H24 p29 fun v30 =>
 pIdx 7 v30 (l15.getD 0 undef) fun p31 =>
 pLoad 7 true H24 p31 fun v32 =>
 pBin Go.Proofs.Try.prog .neq 36 v28 v32 fun v33 =>
 pBool v33 fun b34 => br b34
 (some (.ret, [(.bool false)], H24))
 (pBin Go.Proofs.Try.prog .neq 37 v26 (.int .i64 0) fun v35 =>
 pBool v35 fun b36 => br b36
 (some (.ret, [(.bool false)], H24))
 (pBin Go.Proofs.Try.prog .add 3 (l15.getD 0 undef) (.int .i64 1) fun v37 =>
 some (.next, [v37], H24)))))
 (some (.exit 0, [(l15.getD 0 undef)], H16)))) [(.int .i64 0)] H9) fun q38 l39 H40 => onCtl q38 none
 (fun i41 => onExit i41 0 (
 pCallF R 10 [v3, x2] H40 fun r42 H43 =>
 pExtract r42 0 fun v44 =>
 pExtract r42 1 fun v45 =>
 pSplice 7 [.int .i64 0, .int .i64 0, .int .i64 0, .int .i64 0, .int .i64 0, .int .u64 0, .string ⟨#[]⟩] 0 v44 fun c46 =>
 pBin Go.Proofs.Try.prog .lss 3 x2 (.int .i64 1) fun v47 =>
 pBool v47 fun b48 => br b48
 (pCell 7 true c46 0 fun v49 =>
 pBuild Go.Proofs.Try.prog 36 [] fun v50 =>
 pBin Go.Proofs.Try.prog .eql 36 v49 v50 fun v51 =>
 pBool v51 fun b52 => br b52
 (pBin Go.Proofs.Try.prog .eql 37 v45 (.int .i64 70) fun v53 =>
 some (v53, H43))
 (some ((.bool false), H43)))
 (pNil v4 (
 pOffs 1 v4 fun p54 =>
 pLoad 1 false H43 p54 fun v55 =>
 pLen .sl v55 H43 fun v56 =>
 pBin Go.Proofs.Try.prog .gtr 3 x2 v56 fun v57 =>
 pBool v57 fun b58 => br b58
 (pCell 7 true c46 0 fun v59 =>
 pBuild Go.Proofs.Try.prog 36 [] fun v60 =>
 pBin Go.Proofs.Try.prog .eql 36 v59 v60 fun v61 =>
 pBool v61 fun b62 => br b62
 (pBin Go.Proofs.Try.prog .eql 37 v45 (.int .i64 70) fun v63 =>
 some (v63, H43))
 (some ((.bool false), H43)))
 (pCell 7 true c46 0 fun v64 =>
 pNil v4 (
 pOffs 1 v4 fun p65 =>
 pLoad 1 false H43 p65 fun v66 =>
 pBin Go.Proofs.Try.prog .sub 3 x2 (.int .i64 1) fun v67 =>
 pIdx 7 v66 v67 fun p68 =>
 pLoad 7 true H43 p68 fun v69 =>
 pBin Go.Proofs.Try.prog .eql 36 v64 v69 fun v70 =>
 pBool v70 fun b71 => br b71
 (pBin Go.Proofs.Try.prog .eql 37 v45 (.int .i64 0) fun v72 =>
 some (v72, H43))
 (some ((.bool false), H43))))))) (
 none))
 (some ((l39.headD undef), H40)))))))
theorem e4 (R : Handler) (x0 x1 x2 : Value) (H0 : Hp) : execF Go.Proofs.Try.prog orc R 4 Go.Proofs.Try.f4 [x0, x1, x2] H0 = m4 R x0 x1 x2 H0 := by kernel_rfl
noncomputable def m5 (R : Handler) (x0 x1 : Value) (H0 : Hp) : Option (Value × Hp) :=
 pCallF R 11 [x0] H0 fun r1 H2 =>
 pExtract r1 0 fun v3 =>
 pExtract r1 1 fun v4 =>
 bindO (
 pBin Go.Proofs.Try.prog .eql 23 v3 (.pointer none) fun v5 =>
 pBool v5 fun b6 => br b6
 (some (.ret, [v4], H2))
 (pUn .not v4 fun v7 =>
 pBool v7 fun b8 => br b8
 (some (.ret, [v4], H2))
 (some (.next, [], H2)))) fun q9 l10 H11 => onCtl q9
 (bindO (loopD (fun l13 H14 =>
 pLen .sl x1 H14 fun v15 =>
 pBin Go.Proofs.Try.prog .lss 3 (l13.getD 0 undef) v15 fun v16 =>
 pBool v16 fun b17 => br b17
 (pCallF R 9 [v3] H14 fun r18 H19 =>
 pIdx 16 x1 (l13.getD 0 undef) fun p20 =>
 pLoad 16 true H19 p20 fun v21 =>
 pCallF R 12 [v3, v21] H19 fun r22 H23 =>
 pExtract r22 0 fun v24 =>
 pExtract r22 1 fun v25 =>
 pCallF R 9 [v3] H23 fun r26 H27 =>
 bindO (
 pIdx 16 x1 (l13.getD 0 undef) fun p28 =>
 pOffs 0 p28 fun p29 =>
 pLoad 1 false H27 p29 fun v30 =>
 pBin Go.Proofs.Try.prog .lss 3 v30 (.int .i64 1) fun v31 =>
 pBool v31 fun b32 => br b32
 (some (.exit 1, [], H27))
 (pIdx 16 x1 (l13.getD 0 undef) fun p33 =>
 pOffs 0 p33 fun p34 =>
 pLoad 1 false H27 p34 fun v35 =>
 pBin Go.Proofs.Try.prog .gtr 3 v35 (.int .i64 9) fun v36 =>
 pBool v36 fun b37 => br b37
 (some (.exit 1, [], H27))
 (some (.next, [], H27)))) fun q38 l39 H40 => onCtl q38
 (pBin Go.Proofs.Try.prog .neq 37 v25 (.int .i64 0) fun v42 =>
 pBool v42 fun b43 => br b43
 (pBin Go.Proofs.Try.prog .neq 3 v24 (.int .i64 0) fun v44 =>
 pBool v44 fun b45 => br b45
 (some (.ret, [(.bool false)], H40))
 (pBin Go.Proofs.Try.prog .neq 3 r26 r18 fun v46 =>
 pBool v46 fun b47 => br b47
 (some (.ret, [(.bool false)], H40))
 (pBin Go.Proofs.Try.prog .add 3 (l13.getD 0 undef) (.int .i64 1) fun v48 =>
 some (.next, [v48], H40))))
 (pIdx 16 x1 (l13.getD 0 undef) fun p49 =>
 pLoad 16 true H40 p49 fun v50 =>
 pCallF R 12 [v3, v50] H40 fun r51 H52 =>
 pExtract r51 0 fun v53 =>
 pExtract r51 1 fun v54 =>
 pBin Go.Proofs.Try.prog .neq 3 v53 v24 fun v55 =>
 pBool v55 fun b56 => br b56
 (some (.ret, [(.bool false)], H52))
 (pBin Go.Proofs.Try.prog .neq 37 v54 (.int .i64 0) fun v57 =>
 pBool v57 fun b58 => br b58
 (some (.ret, [(.bool false)], H52))
 (pCallF R 9 [v3] H52 fun r59 H60 =>
 pBin Go.Proofs.Try.prog .neq 3 r59 r26 fun v61 =>
 pBool v61 fun b62 => br b62
 (some (.ret, [(.bool false)], H60))
 (pBin Go.Proofs.Try.prog .add 3 r18 (.int .i64 1) fun v63 =>
 pBin Go.Proofs.Try.prog .gtr 3 r26 v63 fun v64 =>
 pBool v64 fun b65 => br b65
 (some (.ret, [(.bool false)], H60))
 (pBin Go.Proofs.Try.prog .lss 3 v24 (.int .i64 1) fun v66 =>
 pBool v66 fun b67 => br b67
 (some (.ret, [(.bool false)], H60))
 (pBin Go.Proofs.Try.prog .gtr 3 v24 r26 fun v68 =>
 pBool v68 fun b69 => br b69
 (some (.ret, [(.bool false)], H60))
 (pBin Go.Proofs.Try.prog .gtr 3 x0 (.int .i64 0) fun v70 =>
 pBool v70 fun b71 => br b71
 (pBin Go.Proofs.Try.prog .gtr 3 r26 x0 fun v72 =>
 pBool v72 fun b73 => br b73
 (some (.ret, [(.bool false)], H60))
 (pBin Go.Proofs.Try.prog .add 3 (l13.getD 0 undef) (.int .i64 1) fun v74 =>
 some (.next, [v74], H60)))
 (pBin Go.Proofs.Try.prog .add 3 (l13.getD 0 undef) (.int .i64 1) fun v75 =>
 some (.next, [v75], H60))))))))))
 (fun i41 => onExit i41 1 (
 pBin Go.Proofs.Try.prog .add 3 (l13.getD 0 undef) (.int .i64 1) fun v76 =>
 some (.next, [v76], H40)) (
 some (.exit i41, [(l13.getD 0 undef)], H40)))
 (some (.ret, [(l39.headD undef)], H40)))
 (some (.exit 0, [(l13.getD 0 undef)], H14))) [(.int .i64 0)] H11) fun q77 l78 H79 => onCtl q77 none
 (fun i80 => onExit i80 0 (
 pNewMap H79 fun v81 H82 =>
 bindO (loopD (fun l83 H84 =>
 pCallF R 9 [v3] H84 fun r85 H86 =>
 pBin Go.Proofs.Try.prog .leq 3 (l83.getD 0 undef) r85 fun v87 =>
 pBool v87 fun b88 => br b88
 (pCallF R 10 [v3, (l83.getD 0 undef)] H86 fun r89 H90 =>
 pExtract r89 0 fun v91 =>
 pExtract r89 1 fun v92 =>
 pSplice 7 [.int .i64 0, .int .i64 0, .int .i64 0, .int .i64 0, .int .i64 0, .int .u64 0, .string ⟨#[]⟩] 0 v91 fun c93 =>
 pBin Go.Proofs.Try.prog .neq 37 v92 (.int .i64 0) fun v94 =>
 pBool v94 fun b95 => br b95
 (some (.ret, [(.bool false)], H90))
 (pCell 7 true c93 0 fun v96 =>
 pLook Go.Proofs.Try.prog 36 (.int .i64 0) v81 v96 false H90 fun v97 =>
 pBin Go.Proofs.Try.prog .neq 3 v97 (.int .i64 0) fun v98 =>
 pBool v98 fun b99 => br b99
 (some (.ret, [(.bool false)], H90))
 (pCell 1 false c93 2 fun v100 =>
 pBin Go.Proofs.Try.prog .geq 3 v100 (l83.getD 0 undef) fun v101 =>
 pBool v101 fun b102 => br b102
 (some (.ret, [(.bool false)], H90))
 (pCell 1 false c93 3 fun v103 =>
 pBin Go.Proofs.Try.prog .geq 3 v103 (l83.getD 0 undef) fun v104 =>
 pBool v104 fun b105 => br b105
 (some (.ret, [(.bool false)], H90))
 (pCell 1 false c93 4 fun v106 =>
 pBin Go.Proofs.Try.prog .geq 3 v106 (l83.getD 0 undef) fun v107 =>
 pBool v107 fun b108 => br b108
 (some (.ret, [(.bool false)], H90))
 (pCell 7 true c93 0 fun v109 =>
 pUpd Go.Proofs.Try.prog 36 v81 v109 (l83.getD 0 undef) H90 fun H110 =>
 pBin Go.Proofs.Try.prog .add 3 (l83.getD 0 undef) (.int .i64 1) fun v111 =>
 some (.next, [v111], H110)))))))
 (some (.exit 2, [(l83.getD 0 undef)], H86))) [(.int .i64 1)] H82) fun q112 l113 H114 => onCtl q112 none
 (fun i115 => onExit i115 2 (
 some ((.bool true), H114)) (
 none))
 (some ((l113.headD undef), H114))) (
 none))
 (some ((l78.headD undef), H79)))
 (fun i12 => none)
 (some ((l10.headD undef), H11))
theorem e5 (R : Handler) (x0 x1 : Value) (H0 : Hp) : execF Go.Proofs.Try.prog orc R 5 Go.Proofs.Try.f5 [x0, x1] H0 = m5 R x0 x1 H0 := by kernel_rfl
noncomputable def m6 (R : Handler) (x0 x1 x2 : Value) (H0 : Hp) : Option (Value × Hp) :=
 pCallF R 8 [x0, x1] H0 fun r1 H2 =>
 pExtract r1 0 fun v3 =>
 pExtract r1 1 fun v4 =>
 pExtract r1 2 fun v5 =>
 pBin Go.Proofs.Try.prog .eql 23 v3 (.pointer none) fun v6 =>
 pBool v6 fun b7 => br b7
 (some (v5, H2))
 (pBuildSlice 1 [.int .i64 0] 0 [] H2 fun v8 H9 =>
 pAppend 1 8 v8 x2 H9 fun v10 H11 =>
 pCallF R 13 [v3, v10] H11 fun r12 H13 =>
 pExtract r12 0 fun v14 =>
 pExtract r12 1 fun v15 =>
 pCallF R 13 [v3, v10] H13 fun r16 H17 =>
 pExtract r16 0 fun v18 =>
 pExtract r16 1 fun v19 =>
 pCallF R 14 [v4, x2] H17 fun r20 H21 =>
 pExtract r20 0 fun v22 =>
 pExtract r20 1 fun v23 =>
 bindO (
 pCallF R 15 [v14, v22] H21 fun r24 H25 =>
 pUn .not r24 fun v26 =>
 pBool v26 fun b27 => br b27
 (some (.ret, [(.bool false)], H25))
 (pCallF R 15 [v18, v22] H25 fun r28 H29 =>
 pUn .not r28 fun v30 =>
 pBool v30 fun b31 => br b31
 (some (.ret, [(.bool false)], H29))
 (pBin Go.Proofs.Try.prog .neq 37 v15 v23 fun v32 =>
 pBool v32 fun b33 => br b33
 (some (.ret, [(.bool false)], H29))
 (pCallF R 15 [v10, x2] H29 fun r34 H35 =>
 pUn .not r34 fun v36 =>
 pBool v36 fun b37 => br b37
 (some (.ret, [(.bool false)], H35))
 (some (.next, [], H35)))))) fun q38 l39 H40 => onCtl q38
 (bindO (loopD (fun l42 H43 =>
 pLen .sl v14 H43 fun v44 =>
 pBin Go.Proofs.Try.prog .lss 3 (l42.getD 0 undef) v44 fun v45 =>
 pBool v45 fun b46 => br b46
 (pIdx 1 v14 (l42.getD 0 undef) fun p47 =>
 pStore 1 H43 p47 (.int .i64 (-7)) fun H48 =>
 pBin Go.Proofs.Try.prog .add 3 (l42.getD 0 undef) (.int .i64 1) fun v49 =>
 some (.next, [v49], H48))
 (some (.exit 0, [(l42.getD 0 undef)], H43))) [(.int .i64 0)] H40) fun q50 l51 H52 => onCtl q50 none
 (fun i53 => onExit i53 0 (
 bindO (loopD (fun l54 H55 =>
 pBin Go.Proofs.Try.prog .lss 3 (l54.getD 1 undef) (.int .i64 16) fun v56 =>
 pBool v56 fun b57 => br b57
 (pBuildSlice 1 [.int .i64 0] 1 [(0, (.int .i64 (-8)))] H55 fun v58 H59 =>
 pAppend 1 8 (l54.getD 0 undef) v58 H59 fun v60 H61 =>
 pBin Go.Proofs.Try.prog .add 3 (l54.getD 1 undef) (.int .i64 1) fun v62 =>
 some (.next, [v60, v62], H61))
 (some (.exit 2, [(l54.getD 0 undef), (l54.getD 1 undef)], H55))) [v14, (.int .i64 0)] H52) fun q63 l64 H65 => onCtl q63 none
 (fun i66 => onExit i66 2 (
 pCallF R 13 [v3, v10] H65 fun r67 H68 =>
 pExtract r67 0 fun v69 =>
 pExtract r67 1 fun v70 =>
 pLen .sl (l64.getD 0 undef) H68 fun v71 =>
 pLen .sl v22 H68 fun v72 =>
 pBin Go.Proofs.Try.prog .add 3 v72 (.int .i64 16) fun v73 =>
 pBin Go.Proofs.Try.prog .eql 3 v71 v73 fun v74 =>
 pBool v74 fun b75 => br b75
 (pCallF R 15 [v18, v22] H68 fun r76 H77 =>
 pBool r76 fun b78 => br b78
 (pCallF R 15 [v69, v22] H77 fun r79 H80 =>
 some (r79, H80))
 (some ((.bool false), H77)))
 (some ((.bool false), H68))) (
 none))
 (some ((l64.headD undef), H65))) (
 none))
 (some ((l51.headD undef), H52)))
 (fun i41 => none)
 (some ((l39.headD undef), H40)))
theorem e6 (R : Handler) (x0 x1 x2 : Value) (H0 : Hp) : execF Go.Proofs.Try.prog orc R 6 Go.Proofs.Try.f6 [x0, x1, x2] H0 = m6 R x0 x1 x2 H0 := by kernel_rfl
noncomputable def m7 (R : Handler) (x0 x1 x2 : Value) (H0 : Hp) : Option (Value × Hp) :=
 pCallF R 11 [x0] H0 fun r1 H2 =>
 pExtract r1 0 fun v3 =>
 pExtract r1 1 fun v4 =>
 bindO (
 pBin Go.Proofs.Try.prog .eql 23 v3 (.pointer none) fun v5 =>
 pBool v5 fun b6 => br b6
 (some (.ret, [v4], H2))
 (pUn .not v4 fun v7 =>
 pBool v7 fun b8 => br b8
 (some (.ret, [v4], H2))
 (some (.next, [], H2)))) fun q9 l10 H11 => onCtl q9
 (bindO (loopD (fun l13 H14 =>
 pLen .sl x1 H14 fun v15 =>
 pBin Go.Proofs.Try.prog .lss 3 (l13.getD 0 undef) v15 fun v16 =>
 pBool v16 fun b17 => br b17
 (pIdx 16 x1 (l13.getD 0 undef) fun p18 =>
 pLoad 16 true H14 p18 fun v19 =>
 pCallF R 12 [v3, v19] H14 fun r20 H21 =>
 pBin Go.Proofs.Try.prog .add 3 (l13.getD 0 undef) (.int .i64 1) fun v22 =>
 some (.next, [v22], H21))
 (some (.exit 0, [(l13.getD 0 undef)], H14))) [(.int .i64 0)] H11) fun q23 l24 H25 => onCtl q23 none
 (fun i26 => onExit i26 0 (
 pBuildSlice 1 [.int .i64 0] 0 [] H25 fun v27 H28 =>
 pAppend 1 8 v27 x2 H28 fun v29 H30 =>
 pCallF R 13 [v3, v29] H30 fun r31 H32 =>
 pExtract r31 0 fun v33 =>
 pExtract r31 1 fun v34 =>
 pBin Go.Proofs.Try.prog .neq 37 v34 (.int .i64 0) fun v35 =>
 pBool v35 fun b36 => br b36
 (pLen .sl v33 H32 fun v37 =>
 pBin Go.Proofs.Try.prog .eql 3 v37 (.int .i64 0) fun v38 =>
 some (v38, H32))
 (pNewMap H32 fun v39 H40 =>
 pNewMap H40 fun v41 H42 =>
 bindO (loopD (fun l43 H44 =>
 pLen .sl x2 H44 fun v45 =>
 pBin Go.Proofs.Try.prog .lss 3 (l43.getD 0 undef) v45 fun v46 =>
 pBool v46 fun b47 => br b47
 (pIdx 1 x2 (l43.getD 0 undef) fun p48 =>
 pLoad 1 false H44 p48 fun v49 =>
 pUpd Go.Proofs.Try.prog 3 v41 v49 (.int .i64 1) H44 fun H50 =>
 pBin Go.Proofs.Try.prog .add 3 (l43.getD 0 undef) (.int .i64 1) fun v51 =>
 some (.next, [v51], H50))
 (some (.exit 2, [(l43.getD 0 undef)], H44))) [(.int .i64 0)] H42) fun q52 l53 H54 => onCtl q52 none
 (fun i55 => onExit i55 2 (
 bindO (loopD (fun l56 H57 =>
 pLen .sl v33 H57 fun v58 =>
 pBin Go.Proofs.Try.prog .lss 3 (l56.getD 0 undef) v58 fun v59 =>
 pBool v59 fun b60 => br b60
 (pIdx 1 v33 (l56.getD 0 undef) fun p61 =>
 pLoad 1 false H57 p61 fun v62 =>
 pCallF R 10 [v3, v62] H57 fun r63 H64 =>
 pExtract r63 0 fun v65 =>
 pExtract r63 1 fun v66 =>
 pSplice 7 [.int .i64 0, .int .i64 0, .int .i64 0, .int .i64 0, .int .i64 0, .int .u64 0, .string ⟨#[]⟩] 0 v65 fun c67 =>
 bindO (
 pBin Go.Proofs.Try.prog .neq 37 v66 (.int .i64 0) fun v68 =>
 pBool v68 fun b69 => br b69
 (some (.ret, [(.bool false)], H64))
 (pIdx 1 v33 (l56.getD 0 undef) fun p70 =>
 pLoad 1 false H64 p70 fun v71 =>
 pLook Go.Proofs.Try.prog 3 (.int .i64 0) v39 v71 false H64 fun v72 =>
 pBin Go.Proofs.Try.prog .neq 3 v72 (.int .i64 0) fun v73 =>
 pBool v73 fun b74 => br b74
 (some (.ret, [(.bool false)], H64))
 (some (.next, [], H64)))) fun q75 l76 H77 => onCtl q75
 (pCell 1 false c67 2 fun v79 =>
 pCell 1 false c67 3 fun v80 =>
 pCell 1 false c67 4 fun v81 =>
 pBuild Go.Proofs.Try.prog 54 [(0, v79), (1, v80), (2, v81)] fun v82 =>
 pSplice 3 [.int .i64 0, .int .i64 0, .int .i64 0] 0 v82 fun c83 =>
 bindO (loopD (fun l84 H85 =>
 pBin Go.Proofs.Try.prog .lss 3 (l84.getD 0 undef) (.int .i64 3) fun v86 =>
 pBool v86 fun b87 => br b87
 (pIdxLoc 3 (l84.getD 0 undef) fun j88 =>
 pCell 1 false c83 (0 + j88 * 1) fun v89 =>
 pBin Go.Proofs.Try.prog .neq 3 v89 (.int .i64 0) fun v90 =>
 pBool v90 fun b91 => br b91
 (pIdxLoc 3 (l84.getD 0 undef) fun j92 =>
 pCell 1 false c83 (0 + j92 * 1) fun v93 =>
 pLook Go.Proofs.Try.prog 3 (.int .i64 0) v39 v93 false H85 fun v94 =>
 pBin Go.Proofs.Try.prog .eql 3 v94 (.int .i64 0) fun v95 =>
 pBool v95 fun b96 => br b96
 (some (.ret, [(.bool false)], H85))
 (pBin Go.Proofs.Try.prog .add 3 (l84.getD 0 undef) (.int .i64 1) fun v97 =>
 some (.next, [v97], H85)))
 (pBin Go.Proofs.Try.prog .add 3 (l84.getD 0 undef) (.int .i64 1) fun v98 =>
 some (.next, [v98], H85)))
 (some (.exit 6, [(l84.getD 0 undef)], H85))) [(.int .i64 0)] H77) fun q99 l100 H101 => onCtl q99 none
 (fun i102 => onExit i102 6 (
 pIdx 1 v33 (l56.getD 0 undef) fun p103 =>
 pLoad 1 false H101 p103 fun v104 =>
 pBin Go.Proofs.Try.prog .add 3 (l56.getD 0 undef) (.int .i64 1) fun v105 =>
 pUpd Go.Proofs.Try.prog 3 v39 v104 v105 H101 fun H106 =>
 pBin Go.Proofs.Try.prog .add 3 (l56.getD 0 undef) (.int .i64 1) fun v107 =>
 some (.next, [v107], H106)) (
 onExit i102 5 (
 pBin Go.Proofs.Try.prog .add 3 (l56.getD 0 undef) (.int .i64 1) fun v108 =>
 some (.next, [v108], H101)) (
 some (.exit i102, [(l56.getD 0 undef)], H101))))
 (some (.ret, [(l100.headD undef)], H101)))
 (fun i78 => onExit i78 5 (
 pBin Go.Proofs.Try.prog .add 3 (l56.getD 0 undef) (.int .i64 1) fun v109 =>
 some (.next, [v109], H77)) (
 some (.exit i78, [(l56.getD 0 undef)], H77)))
 (some (.ret, [(l76.headD undef)], H77)))
 (some (.exit 4, [(l56.getD 0 undef)], H57))) [(.int .i64 0)] H54) fun q110 l111 H112 => onCtl q110 none
 (fun i113 => onExit i113 4 (
 pLen .sl v33 H112 fun v114 =>
 pBin Go.Proofs.Try.prog .sub 3 v114 (.int .i64 1) fun v115 =>
 bindO (loopD (fun l116 H117 =>
 pBin Go.Proofs.Try.prog .geq 3 (l116.getD 0 undef) (.int .i64 0) fun v118 =>
 pBool v118 fun b119 => br b119
 (pIdx 1 v33 (l116.getD 0 undef) fun p120 =>
 pLoad 1 false H117 p120 fun v121 =>
 pLook Go.Proofs.Try.prog 3 (.int .i64 0) v41 v121 false H117 fun v122 =>
 pBin Go.Proofs.Try.prog .eql 3 v122 (.int .i64 0) fun v123 =>
 pBool v123 fun b124 => br b124
 (some (.ret, [(.bool false)], H117))
 (pIdx 1 v33 (l116.getD 0 undef) fun p125 =>
 pLoad 1 false H117 p125 fun v126 =>
 pCallF R 10 [v3, v126] H117 fun r127 H128 =>
 pExtract r127 0 fun v129 =>
 pExtract r127 1 fun v130 =>
 pSplice 7 [.int .i64 0, .int .i64 0, .int .i64 0, .int .i64 0, .int .i64 0, .int .u64 0, .string ⟨#[]⟩] 0 v129 fun c131 =>
 pCell 1 false c131 2 fun v132 =>
 pCell 1 false c131 3 fun v133 =>
 pCell 1 false c131 4 fun v134 =>
 pUpd Go.Proofs.Try.prog 3 v41 v132 (.int .i64 1) H128 fun H135 =>
 pUpd Go.Proofs.Try.prog 3 v41 v133 (.int .i64 1) H135 fun H136 =>
 pUpd Go.Proofs.Try.prog 3 v41 v134 (.int .i64 1) H136 fun H137 =>
 pBin Go.Proofs.Try.prog .sub 3 (l116.getD 0 undef) (.int .i64 1) fun v138 =>
 some (.next, [v138], H137)))
 (some (.exit 8, [(l116.getD 0 undef)], H117))) [v115] H112) fun q139 l140 H141 => onCtl q139 none
 (fun i142 => onExit i142 8 (
 bindO (loopD (fun l143 H144 =>
 pLen .sl x2 H144 fun v145 =>
 pBin Go.Proofs.Try.prog .lss 3 (l143.getD 0 undef) v145 fun v146 =>
 pBool v146 fun b147 => br b147
 (pIdx 1 x2 (l143.getD 0 undef) fun p148 =>
 pLoad 1 false H144 p148 fun v149 =>
 pLook Go.Proofs.Try.prog 3 (.int .i64 0) v39 v149 false H144 fun v150 =>
 pBin Go.Proofs.Try.prog .eql 3 v150 (.int .i64 0) fun v151 =>
 pBool v151 fun b152 => br b152
 (some (.ret, [(.bool false)], H144))
 (pBin Go.Proofs.Try.prog .add 3 (l143.getD 0 undef) (.int .i64 1) fun v153 =>
 some (.next, [v153], H144)))
 (some (.exit 10, [(l143.getD 0 undef)], H144))) [(.int .i64 0)] H141) fun q154 l155 H156 => onCtl q154 none
 (fun i157 => onExit i157 10 (
 some ((.bool true), H156)) (
 none))
 (some ((l155.headD undef), H156))) (
 none))
 (some ((l140.headD undef), H141))) (
 none))
 (some ((l111.headD undef), H112))) (
 none))
 (some ((l53.headD undef), H54)))) (
 none))
 (some ((l24.headD undef), H25)))
 (fun i12 => none)
 (some ((l10.headD undef), H11))
theorem e7 (R : Handler) (x0 x1 x2 : Value) (H0 : Hp) : execF Go.Proofs.Try.prog orc R 7 Go.Proofs.Try.f7 [x0, x1, x2] H0 = m7 R x0 x1 x2 H0 := by kernel_rfl
noncomputable def m8 (R : Handler) (x0 x1 : Value) (H0 : Hp) : Option (Value × Hp) :=
 pCallF R 16 [x0] H0 fun r1 H2 =>
 pExtract r1 0 fun v3 =>
 pExtract r1 1 fun v4 =>
 pCallF R 17 [x0] H2 fun r5 H6 =>
 pExtract r5 0 fun v7 =>
 pExtract r5 1 fun v8 =>
 bindO (
 pBin Go.Proofs.Try.prog .neq 37 v4 v8 fun v9 =>
 pBool v9 fun b10 => br b10
 (some (.ret, [(.tuple #[(.pointer none), (.pointer none), (.bool false)])], H6))
 (pBin Go.Proofs.Try.prog .eql 23 v3 (.pointer none) fun v11 =>
 pBin Go.Proofs.Try.prog .eql 24 v7 (.pointer none) fun v12 =>
 pBin Go.Proofs.Try.prog .neq 4 v11 v12 fun v13 =>
 pBool v13 fun b14 => br b14
 (some (.ret, [(.tuple #[(.pointer none), (.pointer none), (.bool false)])], H6))
 (some (.next, [], H6)))) fun q15 l16 H17 => onCtl q15
 (pBin Go.Proofs.Try.prog .eql 23 v3 (.pointer none) fun v19 =>
 pBool v19 fun b20 => br b20
 (some ((.tuple #[(.pointer none), (.pointer none), (.bool true)]), H17))
 (bindO (loopD (fun l21 H22 =>
 pLen .sl x1 H22 fun v23 =>
 pBin Go.Proofs.Try.prog .lss 3 (l21.getD 0 undef) v23 fun v24 =>
 pBool v24 fun b25 => br b25
 (pIdx 16 x1 (l21.getD 0 undef) fun p26 =>
 pLoad 16 true H22 p26 fun v27 =>
 pCallF R 12 [v3, v27] H22 fun r28 H29 =>
 pExtract r28 0 fun v30 =>
 pExtract r28 1 fun v31 =>
 pIdx 16 x1 (l21.getD 0 undef) fun p32 =>
 pLoad 16 true H29 p32 fun v33 =>
 pCallF R 18 [v7, v33] H29 fun r34 H35 =>
 pExtract r34 0 fun v36 =>
 pExtract r34 1 fun v37 =>
 pBin Go.Proofs.Try.prog .neq 3 v30 v36 fun v38 =>
 pBool v38 fun b39 => br b39
 (some (.ret, [(.tuple #[(.pointer none), (.pointer none), (.bool false)])], H35))
 (pBin Go.Proofs.Try.prog .neq 37 v31 v37 fun v40 =>
 pBool v40 fun b41 => br b41
 (some (.ret, [(.tuple #[(.pointer none), (.pointer none), (.bool false)])], H35))
 (pBin Go.Proofs.Try.prog .add 3 (l21.getD 0 undef) (.int .i64 1) fun v42 =>
 some (.next, [v42], H35))))
 (some (.exit 0, [(l21.getD 0 undef)], H22))) [(.int .i64 0)] H17) fun q43 l44 H45 => onCtl q43 none
 (fun i46 => onExit i46 0 (
 some ((.tuple #[v3, v7, (.bool true)]), H45)) (
 none))
 (some ((l44.headD undef), H45))))
 (fun i18 => none)
 (some ((l16.headD undef), H17))
theorem e8 (R : Handler) (x0 x1 : Value) (H0 : Hp) : execF Go.Proofs.Try.prog orc R 8 Go.Proofs.Try.f8 [x0, x1] H0 = m8 R x0 x1 H0 := by kernel_rfl
noncomputable def m9 (R : Handler) (x0 : Value) (H0 : Hp) : Option (Value × Hp) :=
 pNil x0 (
 pOffs 1 x0 fun p1 =>
 pLoad 1 false H0 p1 fun v2 =>
 pLen .sl v2 H0 fun v3 =>
 some (v3, H0))
theorem e9 (R : Handler) (x0 : Value) (H0 : Hp) : execF Go.Proofs.Try.prog orc R 9 Go.Proofs.Try.f9 [x0] H0 = m9 R x0 H0 := by kernel_rfl
noncomputable def m10 (R : Handler) (x0 x1 : Value) (H0 : Hp) : Option (Value × Hp) :=
 pCallF R 19 [x0, x1] H0 fun r1 H2 =>
 pUn .not r1 fun v3 =>
 pBool v3 fun b4 => br b4
 (pBuild Go.Proofs.Try.prog 36 [] fun v5 =>
 pSplice 7 [.int .i64 0, .int .i64 0, .int .i64 0, .int .i64 0, .int .i64 0, .int .u64 0, .string ⟨#[]⟩] 0 v5 fun c6 =>
 pCell 7 true c6 0 fun v7 =>
 some ((.tuple #[v7, (.int .i64 70)]), H2))
 (pNil x0 (
 pOffs 1 x0 fun p8 =>
 pLoad 1 false H2 p8 fun v9 =>
 pBin Go.Proofs.Try.prog .sub 3 x1 (.int .i64 1) fun v10 =>
 pIdx 7 v9 v10 fun p11 =>
 pLoad 7 true H2 p11 fun v12 =>
 pSplice 7 [.int .i64 0, .int .i64 0, .int .i64 0, .int .i64 0, .int .i64 0, .int .u64 0, .string ⟨#[]⟩] 0 v12 fun c13 =>
 pCell 7 true c13 0 fun v14 =>
 some ((.tuple #[v14, (.int .i64 0)]), H2)))
theorem e10 (R : Handler) (x0 x1 : Value) (H0 : Hp) : execF Go.Proofs.Try.prog orc R 10 Go.Proofs.Try.f10 [x0, x1] H0 = m10 R x0 x1 H0 := by kernel_rfl
noncomputable def m11 (R : Handler) (x0 : Value) (H0 : Hp) : Option (Value × Hp) :=
 pBin Go.Proofs.Try.prog .geq 3 x0 (.int .i64 0) fun v1 =>
 pCallF R 16 [x0] H0 fun r2 H3 =>
 pExtract r2 0 fun v4 =>
 pExtract r2 1 fun v5 =>
 bindO (
 pBin Go.Proofs.Try.prog .neq 23 v4 (.pointer none) fun v6 =>
 pBin Go.Proofs.Try.prog .neq 4 v6 v1 fun v7 =>
 pBool v7 fun b8 => br b8
 (pBin Go.Proofs.Try.prog .neq 23 v4 (.pointer none) fun v9 =>
 pBin Go.Proofs.Try.prog .eql 4 v9 v1 fun v10 =>
 pBool v10 fun b11 => br b11
 (pBin Go.Proofs.Try.prog .eql 37 v5 (.int .i64 0) fun v12 =>
 pBin Go.Proofs.Try.prog .eql 4 v12 v1 fun v13 =>
 some (.ret, [(.tuple #[(.pointer none), v13])], H3))
 (some (.ret, [(.tuple #[(.pointer none), (.bool false)])], H3)))
 (pBin Go.Proofs.Try.prog .eql 37 v5 (.int .i64 0) fun v14 =>
 pBin Go.Proofs.Try.prog .neq 4 v14 v1 fun v15 =>
 pBool v15 fun b16 => br b16
 (pBin Go.Proofs.Try.prog .neq 23 v4 (.pointer none) fun v17 =>
 pBin Go.Proofs.Try.prog .eql 4 v17 v1 fun v18 =>
 pBool v18 fun b19 => br b19
 (pBin Go.Proofs.Try.prog .eql 37 v5 (.int .i64 0) fun v20 =>
 pBin Go.Proofs.Try.prog .eql 4 v20 v1 fun v21 =>
 some (.ret, [(.tuple #[(.pointer none), v21])], H3))
 (some (.ret, [(.tuple #[(.pointer none), (.bool false)])], H3)))
 (pUn .not v1 fun v22 =>
 pBool v22 fun b23 => br b23
 (pBin Go.Proofs.Try.prog .neq 23 v4 (.pointer none) fun v24 =>
 pBin Go.Proofs.Try.prog .eql 4 v24 v1 fun v25 =>
 pBool v25 fun b26 => br b26
 (pBin Go.Proofs.Try.prog .eql 37 v5 (.int .i64 0) fun v27 =>
 pBin Go.Proofs.Try.prog .eql 4 v27 v1 fun v28 =>
 some (.ret, [(.tuple #[(.pointer none), v28])], H3))
 (some (.ret, [(.tuple #[(.pointer none), (.bool false)])], H3)))
 (some (.next, [], H3))))) fun q29 l30 H31 => onCtl q29
 (pCallF R 16 [(.int .i64 0)] H31 fun r33 H34 =>
 pExtract r33 0 fun v35 =>
 pExtract r33 1 fun v36 =>
 pBin Go.Proofs.Try.prog .eql 23 v35 (.pointer none) fun v37 =>
 pBool v37 fun b38 => br b38
 (some ((.tuple #[(.pointer none), (.bool false)]), H34))
 (pCallF R 20 [v35, (.string ⟨#[107]⟩), (.int .i64 8)] H34 fun r39 H40 =>
 pExtract r39 0 fun v41 =>
 pExtract r39 1 fun v42 =>
 pCallF R 21 [v35, (.int .i64 20), v41, v41] H40 fun r43 H44 =>
 pExtract r43 0 fun v45 =>
 pExtract r43 1 fun v46 =>
 pCallF R 21 [v35, (.int .i64 20), v41, v41] H44 fun r47 H48 =>
 pExtract r47 0 fun v49 =>
 pExtract r47 1 fun v50 =>
 pBin Go.Proofs.Try.prog .neq 3 v41 (.int .i64 1) fun v51 =>
 pBool v51 fun b52 => br b52
 (some ((.tuple #[(.pointer none), (.bool false)]), H48))
 (pBin Go.Proofs.Try.prog .neq 3 v45 (.int .i64 2) fun v53 =>
 pBool v53 fun b54 => br b54
 (some ((.tuple #[(.pointer none), (.bool false)]), H48))
 (pBin Go.Proofs.Try.prog .neq 3 v49 (.int .i64 2) fun v55 =>
 pBool v55 fun b56 => br b56
 (some ((.tuple #[(.pointer none), (.bool false)]), H48))
 (pBin Go.Proofs.Try.prog .neq 37 v42 (.int .i64 0) fun v57 =>
 pBool v57 fun b58 => br b58
 (some ((.tuple #[(.pointer none), (.bool false)]), H48))
 (pBin Go.Proofs.Try.prog .neq 37 v46 (.int .i64 0) fun v59 =>
 pBool v59 fun b60 => br b60
 (some ((.tuple #[(.pointer none), (.bool false)]), H48))
 (pBin Go.Proofs.Try.prog .neq 37 v50 (.int .i64 0) fun v61 =>
 pBool v61 fun b62 => br b62
 (some ((.tuple #[(.pointer none), (.bool false)]), H48))
 (pCallF R 9 [v35] H48 fun r63 H64 =>
 pBin Go.Proofs.Try.prog .neq 3 r63 (.int .i64 2) fun v65 =>
 pBool v65 fun b66 => br b66
 (some ((.tuple #[(.pointer none), (.bool false)]), H64))
 (some ((.tuple #[v4, (.bool true)]), H64))))))))))
 (fun i32 => none)
 (some ((l30.headD undef), H31))
theorem e11 (R : Handler) (x0 : Value) (H0 : Hp) : execF Go.Proofs.Try.prog orc R 11 Go.Proofs.Try.f11 [x0] H0 = m11 R x0 H0 := by kernel_rfl
noncomputable def m12 (R : Handler) (x0 x1 : Value) (H0 : Hp) : Option (Value × Hp) :=
 pCell 1 false (cellsL x1) 0 fun v1 =>
 pBin Go.Proofs.Try.prog .eql 3 v1 (.int .i64 1) fun v2 =>
 pBool v2 fun b3 => br b3
 (pCell 7 true (cellsL x1) 9 fun v4 =>
 pCallF R 22 [x0, v4] H0 fun r5 H6 =>
 pExtract r5 0 fun v7 =>
 pExtract r5 1 fun v8 =>
 some ((.tuple #[v7, v8]), H6))
 (pBin Go.Proofs.Try.prog .eql 3 v1 (.int .i64 2) fun v9 =>
 pBool v9 fun b10 => br b10
 (pCell 1 false (cellsL x1) 6 fun v11 =>
 pCallF R 23 [x0, v11] H0 fun r12 H13 =>
 pExtract r12 0 fun v14 =>
 pExtract r12 1 fun v15 =>
 some ((.tuple #[v14, v15]), H13))
 (pBin Go.Proofs.Try.prog .eql 3 v1 (.int .i64 3) fun v16 =>
 pBool v16 fun b17 => br b17
 (pCell 1 false (cellsL x1) 5 fun v18 =>
 pCell 1 false (cellsL x1) 7 fun v19 =>
 pCallF R 24 [x0, v18, v19] H0 fun r20 H21 =>
 pExtract r20 0 fun v22 =>
 pExtract r20 1 fun v23 =>
 some ((.tuple #[v22, v23]), H21))
 (pBin Go.Proofs.Try.prog .eql 3 v1 (.int .i64 4) fun v24 =>
 pBool v24 fun b25 => br b25
 (pCell 1 false (cellsL x1) 8 fun v26 =>
 pCell 1 false (cellsL x1) 5 fun v27 =>
 pCallF R 20 [x0, v26, v27] H0 fun r28 H29 =>
 pExtract r28 0 fun v30 =>
 pExtract r28 1 fun v31 =>
 some ((.tuple #[v30, v31]), H29))
 (pBin Go.Proofs.Try.prog .eql 3 v1 (.int .i64 5) fun v32 =>
 pBool v32 fun b33 => br b33
 (pCell 1 false (cellsL x1) 1 fun v34 =>
 pCell 1 false (cellsL x1) 2 fun v35 =>
 pCallF R 25 [x0, v34, v35] H0 fun r36 H37 =>
 pExtract r36 0 fun v38 =>
 pExtract r36 1 fun v39 =>
 some ((.tuple #[v38, v39]), H37))
 (pBin Go.Proofs.Try.prog .eql 3 v1 (.int .i64 6) fun v40 =>
 pBool v40 fun b41 => br b41
 (pCell 1 false (cellsL x1) 1 fun v42 =>
 pCell 1 false (cellsL x1) 2 fun v43 =>
 pCell 1 false (cellsL x1) 3 fun v44 =>
 pCallF R 21 [x0, v42, v43, v44] H0 fun r45 H46 =>
 pExtract r45 0 fun v47 =>
 pExtract r45 1 fun v48 =>
 some ((.tuple #[v47, v48]), H46))
 (pBin Go.Proofs.Try.prog .eql 3 v1 (.int .i64 7) fun v49 =>
 pBool v49 fun b50 => br b50
 (pCell 1 false (cellsL x1) 2 fun v51 =>
 pCell 1 false (cellsL x1) 3 fun v52 =>
 pCell 1 false (cellsL x1) 4 fun v53 =>
 pCallF R 26 [x0, v51, v52, v53] H0 fun r54 H55 =>
 pExtract r54 0 fun v56 =>
 pExtract r54 1 fun v57 =>
 some ((.tuple #[v56, v57]), H55))
 (pBin Go.Proofs.Try.prog .eql 3 v1 (.int .i64 8) fun v58 =>
 pBool v58 fun b59 => br b59
 (pCell 1 false (cellsL x1) 2 fun v60 =>
 pCell 1 false (cellsL x1) 3 fun v61 =>
 pCell 1 false (cellsL x1) 4 fun v62 =>
 pCallF R 27 [x0, v60, v61, v62] H0 fun r63 H64 =>
 pExtract r63 0 fun v65 =>
 pExtract r63 1 fun v66 =>
 some ((.tuple #[v65, v66]), H64))
 (pBin Go.Proofs.Try.prog .eql 3 v1 (.int .i64 9) fun v67 =>
 pBool v67 fun b68 => br b68
 (pCell 1 false (cellsL x1) 1 fun v69 =>
 pCell 1 false (cellsL x1) 2 fun v70 =>
 pCell 1 false (cellsL x1) 5 fun v71 =>
 pCallF R 28 [x0, v69, v70, v71] H0 fun r72 H73 =>
 pExtract r72 0 fun v74 =>
 pExtract r72 1 fun v75 =>
 some ((.tuple #[v74, v75]), H73))
 (some ((.tuple #[(.int .i64 0), (.int .i64 0)]), H0))))))))))
theorem e12 (R : Handler) (x0 x1 : Value) (H0 : Hp) : execF Go.Proofs.Try.prog orc R 12 Go.Proofs.Try.f12 [x0, x1] H0 = m12 R x0 x1 H0 := by kernel_rfl
noncomputable def m13 (R : Handler) (x0 x1 : Value) (H0 : Hp) : Option (Value × Hp) :=
 pLen .sl x1 H0 fun v1 =>
 bindO (loopD (fun l2 H3 =>
 pBin Go.Proofs.Try.prog .lss 3 (l2.getD 0 undef) v1 fun v4 =>
 pBool v4 fun b5 => br b5
 (pIdx 1 x1 (l2.getD 0 undef) fun p6 =>
 pLoad 1 false H3 p6 fun v7 =>
 pCallF R 19 [x0, v7] H3 fun r8 H9 =>
 pUn .not r8 fun v10 =>
 pBool v10 fun b11 => br b11
 (some (.ret, [(.tuple #[(.slice none 0 0), (.int .i64 70)])], H9))
 (pBin Go.Proofs.Try.prog .add 3 (l2.getD 0 undef) (.int .i64 1) fun v12 =>
 some (.next, [v12], H9)))
 (some (.exit 0, [(l2.getD 0 undef)], H3))) [(.int .i64 0)] H0) fun q13 l14 H15 => onCtl q13 none
 (fun i16 => onExit i16 0 (
 pNil x0 (
 pOffs 1 x0 fun p17 =>
 pLoad 1 false H15 p17 fun v18 =>
 pLen .sl v18 H15 fun v19 =>
 pBin Go.Proofs.Try.prog .add 3 v19 (.int .i64 1) fun v20 =>
 pMakeSlice 1 1 [.bool false] v20 v20 H15 fun v21 H22 =>
 pLen .sl x1 H22 fun v23 =>
 bindO (loopD (fun l24 H25 =>
 pBin Go.Proofs.Try.prog .lss 3 (l24.getD 2 undef) v23 fun v26 =>
 pBool v26 fun b27 => br b27
 (pIdx 1 x1 (l24.getD 2 undef) fun p28 =>
 pLoad 1 false H25 p28 fun v29 =>
 pIdx 1 v21 v29 fun p30 =>
 pLoad 1 false H25 p30 fun v31 =>
 pBool v31 fun b32 => br b32
 (pBin Go.Proofs.Try.prog .add 3 (l24.getD 2 undef) (.int .i64 1) fun v33 =>
 some (.next, [(l24.getD 0 undef), (l24.getD 1 undef), v33], H25))
 (pIdx 1 v21 v29 fun p34 =>
 pStore 1 H25 p34 (.bool true) fun H35 =>
 pBuild Go.Proofs.Try.prog 72 [(0, v29), (1, (.int .i64 0))] fun v36 =>
 pBuildSlice 2 [.int .i64 0, .int .i64 0] 1 [(0, v36)] H35 fun v37 H38 =>
 pAppend 2 16 (l24.getD 1 undef) v37 H38 fun v39 H40 =>
 bindO (loopD (fun l41 H42 =>
 pLen .sl (l41.getD 1 undef) H42 fun v43 =>
 pBin Go.Proofs.Try.prog .gtr 3 v43 (.int .i64 0) fun v44 =>
 pBool v44 fun b45 => br b45
 (pLen .sl (l41.getD 1 undef) H42 fun v46 =>
 pBin Go.Proofs.Try.prog .sub 3 v46 (.int .i64 1) fun v47 =>
 pIdx 2 (l41.getD 1 undef) v47 fun p48 =>
 pNil x0 (
 pOffs 1 x0 fun p49 =>
 pLoad 1 false H42 p49 fun v50 =>
 pNil p48 (
 pOffs 0 p48 fun p51 =>
 pLoad 1 false H42 p51 fun v52 =>
 pBin Go.Proofs.Try.prog .sub 3 v52 (.int .i64 1) fun v53 =>
 pIdx 7 v50 v53 fun p54 =>
 pLoad 7 true H42 p54 fun v55 =>
 pSplice 7 [.int .i64 0, .int .i64 0, .int .i64 0, .int .i64 0, .int .i64 0, .int .u64 0, .string ⟨#[]⟩] 0 v55 fun c56 =>
 pNil p48 (
 pOffs 1 p48 fun p57 =>
 pLoad 1 false H42 p57 fun v58 =>
 pCell 1 false c56 0 fun v59 =>
 pCallF R 29 [v59] H42 fun r60 H61 =>
 chk (Hp.rdP H61 p57 1 false = some v58) (
 pBin Go.Proofs.Try.prog .eql 3 v58 r60 fun v62 =>
 pBool v62 fun b63 => br b63
 (pNil p48 (
 pOffs 0 p48 fun p64 =>
 pLoad 1 false H61 p64 fun v65 =>
 pBuildSlice 1 [.int .i64 0] 1 [(0, v65)] H61 fun v66 H67 =>
 pAppend 1 8 (l41.getD 0 undef) v66 H67 fun v68 H69 =>
 pLen .sl (l41.getD 1 undef) H69 fun v70 =>
 pBin Go.Proofs.Try.prog .sub 3 v70 (.int .i64 1) fun v71 =>
 pSlice 2 (l41.getD 1 undef) none (some v71) fun v72 =>
 some (.next, [v68, v72], H69)))
 (pCell 1 false c56 2 fun v73 =>
 pCell 1 false c56 3 fun v74 =>
 pCell 1 false c56 4 fun v75 =>
 pBuild Go.Proofs.Try.prog 54 [(0, v73), (1, v74), (2, v75)] fun v76 =>
 pNil p48 (
 pOffs 1 p48 fun p77 =>
 pLoad 1 false H61 p77 fun v78 =>
 pAtArr 3 false 1 v76 v78 fun v79 =>
 pNil p48 (
 pOffs 1 p48 fun p80 =>
 pLoad 1 false H61 p80 fun v81 =>
 pBin Go.Proofs.Try.prog .add 3 v81 (.int .i64 1) fun v82 =>
 pNil p48 (
 pOffs 1 p48 fun p83 =>
 pStore 1 H61 p83 v82 fun H84 =>
 pIdx 1 v21 v79 fun p85 =>
 pLoad 1 false H84 p85 fun v86 =>
 pUn .not v86 fun v87 =>
 pBool v87 fun b88 => br b88
 (pIdx 1 v21 v79 fun p89 =>
 pStore 1 H84 p89 (.bool true) fun H90 =>
 pBuild Go.Proofs.Try.prog 72 [(0, v79), (1, (.int .i64 0))] fun v91 =>
 pBuildSlice 2 [.int .i64 0, .int .i64 0] 1 [(0, v91)] H90 fun v92 H93 =>
 pAppend 2 16 (l41.getD 1 undef) v92 H93 fun v94 H95 =>
 some (.next, [(l41.getD 0 undef), v94], H95))
 (some (.next, [(l41.getD 0 undef), (l41.getD 1 undef)], H84)))))))))))
 (some (.exit 4, [(l41.getD 0 undef), (l41.getD 1 undef)], H42))) [(l24.getD 0 undef), v39] H40) fun q96 l97 H98 => onCtl q96 none
 (fun i99 => onExit i99 4 (
 pBin Go.Proofs.Try.prog .add 3 (l24.getD 2 undef) (.int .i64 1) fun v100 =>
 some (.next, [(l97.getD 0 undef), (l97.getD 1 undef), v100], H98)) (
 onExit i99 3 (
 pBin Go.Proofs.Try.prog .add 3 (l24.getD 2 undef) (.int .i64 1) fun v101 =>
 some (.next, [(l97.getD 0 undef), (l97.getD 1 undef), v101], H98)) (
 some (.exit i99, [(l97.getD 0 undef), (l97.getD 1 undef), (l24.getD 2 undef)], H98))))
 (some (.ret, [(l97.headD undef)], H98))))
 (some (.exit 2, [(l24.getD 0 undef), (l24.getD 1 undef), (l24.getD 2 undef)], H25))) [(.slice none 0 0), (.slice none 0 0), (.int .i64 0)] H22) fun q102 l103 H104 => onCtl q102 none
 (fun i105 => onExit i105 2 (
 some ((.tuple #[(l103.getD 0 undef), (.int .i64 0)]), H104)) (
 none))
 (some ((l103.headD undef), H104)))) (
 none))
 (some ((l14.headD undef), H15))
theorem e13 (R : Handler) (x0 x1 : Value) (H0 : Hp) : execF Go.Proofs.Try.prog orc R 13 Go.Proofs.Try.f13 [x0, x1] H0 = m13 R x0 x1 H0 := by kernel_rfl
noncomputable def m14 (R : Handler) (x0 x1 : Value) (H0 : Hp) : Option (Value × Hp) :=
 bindO (loopD (fun l1 H2 =>
 pLen .sl x1 H2 fun v3 =>
 pBin Go.Proofs.Try.prog .lss 3 (l1.getD 0 undef) v3 fun v4 =>
 pBool v4 fun b5 => br b5
 (pIdx 1 x1 (l1.getD 0 undef) fun p6 =>
 pLoad 1 false H2 p6 fun v7 =>
 pCallF R 30 [x0, v7] H2 fun r8 H9 =>
 pUn .not r8 fun v10 =>
 pBool v10 fun b11 => br b11
 (some (.ret, [(.tuple #[(.slice none 0 0), (.int .i64 70)])], H9))
 (pBin Go.Proofs.Try.prog .add 3 (l1.getD 0 undef) (.int .i64 1) fun v12 =>
 some (.next, [v12], H9)))
 (some (.exit 0, [(l1.getD 0 undef)], H2))) [(.int .i64 0)] H0) fun q13 l14 H15 => onCtl q13 none
 (fun i16 => onExit i16 0 (
 pNil x0 (
 pOffs 1 x0 fun p17 =>
 pLoad 1 false H15 p17 fun v18 =>
 pLen .sl v18 H15 fun v19 =>
 pBin Go.Proofs.Try.prog .add 3 v19 (.int .i64 1) fun v20 =>
 pMakeSlice 1 1 [.bool false] v20 v20 H15 fun v21 H22 =>
 bindO (loopD (fun l23 H24 =>
 pLen .sl x1 H24 fun v25 =>
 pBin Go.Proofs.Try.prog .lss 3 (l23.getD 1 undef) v25 fun v26 =>
 pBool v26 fun b27 => br b27
 (pIdx 1 x1 (l23.getD 1 undef) fun p28 =>
 pLoad 1 false H24 p28 fun v29 =>
 pBuildSlice 1 [.int .i64 0] 1 [(0, v29)] H24 fun v30 H31 =>
 bindO (loopD (fun l32 H33 =>
 pLen .sl (l32.getD 1 undef) H33 fun v34 =>
 pBin Go.Proofs.Try.prog .gtr 3 v34 (.int .i64 0) fun v35 =>
 pBool v35 fun b36 => br b36
 (pLen .sl (l32.getD 1 undef) H33 fun v37 =>
 pBin Go.Proofs.Try.prog .sub 3 v37 (.int .i64 1) fun v38 =>
 pIdx 1 (l32.getD 1 undef) v38 fun p39 =>
 pLoad 1 false H33 p39 fun v40 =>
 pNil x0 (
 pOffs 1 x0 fun p41 =>
 pLoad 1 false H33 p41 fun v42 =>
 pBin Go.Proofs.Try.prog .sub 3 v40 (.int .i64 1) fun v43 =>
 pIdx 7 v42 v43 fun p44 =>
 pLoad 7 true H33 p44 fun v45 =>
 pSplice 7 [.int .i64 0, .int .i64 0, .int .i64 0, .int .i64 0, .int .i64 0, .int .u64 0, .string ⟨#[]⟩] 0 v45 fun c46 =>
 pCell 1 false c46 2 fun v47 =>
 pCell 1 false c46 3 fun v48 =>
 pCell 1 false c46 4 fun v49 =>
 pBuild Go.Proofs.Try.prog 54 [(0, v47), (1, v48), (2, v49)] fun v50 =>
 pSplice 3 [.int .i64 0, .int .i64 0, .int .i64 0] 0 v50 fun c51 =>
 bindO (loopD (fun l52 H53 =>
 pBin Go.Proofs.Try.prog .geq 3 (l52.getD 1 undef) (.int .i64 0) fun v54 =>
 pBool v54 fun b55 => br b55
 (pIdxLoc 3 (l52.getD 1 undef) fun j56 =>
 pCell 1 false c51 (0 + j56 * 1) fun v57 =>
 pBin Go.Proofs.Try.prog .gtr 3 v57 (.int .i64 0) fun v58 =>
 pBool v58 fun b59 => br b59
 (pIdxLoc 3 (l52.getD 1 undef) fun j60 =>
 pCell 1 false c51 (0 + j60 * 1) fun v61 =>
 pIdx 1 v21 v61 fun p62 =>
 pLoad 1 false H53 p62 fun v63 =>
 pUn .not v63 fun v64 =>
 pBool v64 fun b65 => br b65
 (pIdxLoc 3 (l52.getD 1 undef) fun j66 =>
 pCell 1 false c51 (0 + j66 * 1) fun v67 =>
 pBin Go.Proofs.Try.prog .sub 3 (l52.getD 1 undef) (.int .i64 1) fun v68 =>
 some (.next, [v67, v68], H53))
 (pBin Go.Proofs.Try.prog .sub 3 (l52.getD 1 undef) (.int .i64 1) fun v69 =>
 some (.next, [(l52.getD 0 undef), v69], H53)))
 (pBin Go.Proofs.Try.prog .sub 3 (l52.getD 1 undef) (.int .i64 1) fun v70 =>
 some (.next, [(l52.getD 0 undef), v70], H53)))
 (some (.exit 6, [(l52.getD 0 undef), (l52.getD 1 undef)], H53))) [(.int .i64 0), (.int .i64 2)] H33) fun q71 l72 H73 => onCtl q71 none
 (fun i74 => onExit i74 6 (
 pBin Go.Proofs.Try.prog .gtr 3 (l72.getD 0 undef) (.int .i64 0) fun v75 =>
 pBool v75 fun b76 => br b76
 (pIdx 1 v21 v40 fun p77 =>
 pLoad 1 false H73 p77 fun v78 =>
 pUn .not v78 fun v79 =>
 pBool v79 fun b80 => br b80
 (pBuildSlice 1 [.int .i64 0] 1 [(0, (l72.getD 0 undef))] H73 fun v81 H82 =>
 pAppend 1 8 (l32.getD 1 undef) v81 H82 fun v83 H84 =>
 some (.next, [(l32.getD 0 undef), v83], H84))
 (pIdx 1 v21 v40 fun p85 =>
 pLoad 1 false H73 p85 fun v86 =>
 pUn .not v86 fun v87 =>
 pBool v87 fun b88 => br b88
 (pIdx 1 v21 v40 fun p89 =>
 pStore 1 H73 p89 (.bool true) fun H90 =>
 pBuildSlice 1 [.int .i64 0] 1 [(0, v40)] H90 fun v91 H92 =>
 pAppend 1 8 (l32.getD 0 undef) v91 H92 fun v93 H94 =>
 pLen .sl (l32.getD 1 undef) H94 fun v95 =>
 pBin Go.Proofs.Try.prog .sub 3 v95 (.int .i64 1) fun v96 =>
 pSlice 1 (l32.getD 1 undef) none (some v96) fun v97 =>
 some (.next, [v93, v97], H94))
 (pLen .sl (l32.getD 1 undef) H73 fun v98 =>
 pBin Go.Proofs.Try.prog .sub 3 v98 (.int .i64 1) fun v99 =>
 pSlice 1 (l32.getD 1 undef) none (some v99) fun v100 =>
 some (.next, [(l32.getD 0 undef), v100], H73))))
 (pIdx 1 v21 v40 fun p101 =>
 pLoad 1 false H73 p101 fun v102 =>
 pUn .not v102 fun v103 =>
 pBool v103 fun b104 => br b104
 (pIdx 1 v21 v40 fun p105 =>
 pStore 1 H73 p105 (.bool true) fun H106 =>
 pBuildSlice 1 [.int .i64 0] 1 [(0, v40)] H106 fun v107 H108 =>
 pAppend 1 8 (l32.getD 0 undef) v107 H108 fun v109 H110 =>
 pLen .sl (l32.getD 1 undef) H110 fun v111 =>
 pBin Go.Proofs.Try.prog .sub 3 v111 (.int .i64 1) fun v112 =>
 pSlice 1 (l32.getD 1 undef) none (some v112) fun v113 =>
 some (.next, [v109, v113], H110))
 (pLen .sl (l32.getD 1 undef) H73 fun v114 =>
 pBin Go.Proofs.Try.prog .sub 3 v114 (.int .i64 1) fun v115 =>
 pSlice 1 (l32.getD 1 undef) none (some v115) fun v116 =>
 some (.next, [(l32.getD 0 undef), v116], H73)))) (
 onExit i74 5 (
 some (.next, [(l32.getD 0 undef), (l32.getD 1 undef)], H73)) (
 some (.exit i74, [(l32.getD 0 undef), (l32.getD 1 undef)], H73))))
 (some (.ret, [(l72.headD undef)], H73))))
 (some (.exit 4, [(l32.getD 0 undef), (l32.getD 1 undef)], H33))) [(l23.getD 0 undef), v30] H31) fun q117 l118 H119 => onCtl q117 none
 (fun i120 => onExit i120 4 (
 pBin Go.Proofs.Try.prog .add 3 (l23.getD 1 undef) (.int .i64 1) fun v121 =>
 some (.next, [(l118.getD 0 undef), v121], H119)) (
 onExit i120 3 (
 pBin Go.Proofs.Try.prog .add 3 (l23.getD 1 undef) (.int .i64 1) fun v122 =>
 some (.next, [(l118.getD 0 undef), v122], H119)) (
 some (.exit i120, [(l118.getD 0 undef), (l23.getD 1 undef)], H119))))
 (some (.ret, [(l118.headD undef)], H119)))
 (some (.exit 2, [(l23.getD 0 undef), (l23.getD 1 undef)], H24))) [(.slice none 0 0), (.int .i64 0)] H22) fun q123 l124 H125 => onCtl q123 none
 (fun i126 => onExit i126 2 (
 some ((.tuple #[(l124.getD 0 undef), (.int .i64 0)]), H125)) (
 none))
 (some ((l124.headD undef), H125)))) (
 none))
 (some ((l14.headD undef), H15))
theorem e14 (R : Handler) (x0 x1 : Value) (H0 : Hp) : execF Go.Proofs.Try.prog orc R 14 Go.Proofs.Try.f14 [x0, x1] H0 = m14 R x0 x1 H0 := by kernel_rfl
noncomputable def m15 (R : Handler) (x0 x1 : Value) (H0 : Hp) : Option (Value × Hp) :=
 pLen .sl x0 H0 fun v1 =>
 pLen .sl x1 H0 fun v2 =>
 pBin Go.Proofs.Try.prog .neq 3 v1 v2 fun v3 =>
 pBool v3 fun b4 => br b4
 (some ((.bool false), H0))
 (bindO (loopD (fun l5 H6 =>
 pLen .sl x0 H6 fun v7 =>
 pBin Go.Proofs.Try.prog .lss 3 (l5.getD 0 undef) v7 fun v8 =>
 pBool v8 fun b9 => br b9
 (pIdx 1 x0 (l5.getD 0 undef) fun p10 =>
 pLoad 1 false H6 p10 fun v11 =>
 pIdx 1 x1 (l5.getD 0 undef) fun p12 =>
 pLoad 1 false H6 p12 fun v13 =>
 pBin Go.Proofs.Try.prog .neq 3 v11 v13 fun v14 =>
 pBool v14 fun b15 => br b15
 (some (.ret, [(.bool false)], H6))
 (pBin Go.Proofs.Try.prog .add 3 (l5.getD 0 undef) (.int .i64 1) fun v16 =>
 some (.next, [v16], H6)))
 (some (.exit 0, [(l5.getD 0 undef)], H6))) [(.int .i64 0)] H0) fun q17 l18 H19 => onCtl q17 none
 (fun i20 => onExit i20 0 (
 some ((.bool true), H19)) (
 none))
 (some ((l18.headD undef), H19)))
theorem e15 (R : Handler) (x0 x1 : Value) (H0 : Hp) : execF Go.Proofs.Try.prog orc R 15 Go.Proofs.Try.f15 [x0, x1] H0 = m15 R x0 x1 H0 := by kernel_rfl
noncomputable def m16 (R : Handler) (x0 : Value) (H0 : Hp) : Option (Value × Hp) :=
 pBin Go.Proofs.Try.prog .lss 3 x0 (.int .i64 0) fun v1 =>
 pBool v1 fun b2 => br b2
 (some ((.tuple #[(.pointer none), (.int .i64 1)]), H0))
 (pNewMap H0 fun v3 H4 =>
 pNewMap H4 fun v5 H6 =>
 pBuild Go.Proofs.Try.prog 61 [(0, x0), (2, v3), (3, v5)] fun v7 =>
 pAlloc (cellsL v7) H6 fun p8 H9 =>
 some ((.tuple #[p8, (.int .i64 0)]), H9))
theorem e16 (R : Handler) (x0 : Value) (H0 : Hp) : execF Go.Proofs.Try.prog orc R 16 Go.Proofs.Try.f16 [x0] H0 = m16 R x0 H0 := by kernel_rfl
noncomputable def m17 (R : Handler) (x0 : Value) (H0 : Hp) : Option (Value × Hp) :=
 pBin Go.Proofs.Try.prog .lss 3 x0 (.int .i64 0) fun v1 =>
 pBool v1 fun b2 => br b2
 (some ((.tuple #[(.pointer none), (.int .i64 1)]), H0))
 (pNewMap H0 fun v3 H4 =>
 pNewMap H4 fun v5 H6 =>
 pBuild Go.Proofs.Try.prog 33 [(0, x0), (2, v3), (3, v5)] fun v7 =>
 pAlloc (cellsL v7) H6 fun p8 H9 =>
 some ((.tuple #[p8, (.int .i64 0)]), H9))
theorem e17 (R : Handler) (x0 : Value) (H0 : Hp) : execF Go.Proofs.Try.prog orc R 17 Go.Proofs.Try.f17 [x0] H0 = m17 R x0 H0 := by kernel_rfl
noncomputable def m18 (R : Handler) (x0 x1 : Value) (H0 : Hp) : Option (Value × Hp) :=
 pCell 1 false (cellsL x1) 0 fun v1 =>
 pBin Go.Proofs.Try.prog .eql 3 v1 (.int .i64 1) fun v2 =>
 pBool v2 fun b3 => br b3
 (pCell 7 true (cellsL x1) 9 fun v4 =>
 pCallF R 31 [x0, v4] H0 fun r5 H6 =>
 pExtract r5 0 fun v7 =>
 pExtract r5 1 fun v8 =>
 some ((.tuple #[v7, v8]), H6))
 (pBin Go.Proofs.Try.prog .eql 3 v1 (.int .i64 2) fun v9 =>
 pBool v9 fun b10 => br b10
 (pCell 1 false (cellsL x1) 6 fun v11 =>
 pCallF R 32 [x0, v11] H0 fun r12 H13 =>
 pExtract r12 0 fun v14 =>
 pExtract r12 1 fun v15 =>
 some ((.tuple #[v14, v15]), H13))
 (pBin Go.Proofs.Try.prog .eql 3 v1 (.int .i64 3) fun v16 =>
 pBool v16 fun b17 => br b17
 (pCell 1 false (cellsL x1) 5 fun v18 =>
 pCell 1 false (cellsL x1) 7 fun v19 =>
 pCallF R 33 [x0, v18, v19] H0 fun r20 H21 =>
 pExtract r20 0 fun v22 =>
 pExtract r20 1 fun v23 =>
 some ((.tuple #[v22, v23]), H21))
 (pBin Go.Proofs.Try.prog .eql 3 v1 (.int .i64 4) fun v24 =>
 pBool v24 fun b25 => br b25
 (pCell 1 false (cellsL x1) 8 fun v26 =>
 pCell 1 false (cellsL x1) 5 fun v27 =>
 pCallF R 34 [x0, v26, v27] H0 fun r28 H29 =>
 pExtract r28 0 fun v30 =>
 pExtract r28 1 fun v31 =>
 some ((.tuple #[v30, v31]), H29))
 (pBin Go.Proofs.Try.prog .eql 3 v1 (.int .i64 5) fun v32 =>
 pBool v32 fun b33 => br b33
 (pCell 1 false (cellsL x1) 1 fun v34 =>
 pCell 1 false (cellsL x1) 2 fun v35 =>
 pCallF R 35 [x0, v34, v35] H0 fun r36 H37 =>
 pExtract r36 0 fun v38 =>
 pExtract r36 1 fun v39 =>
 some ((.tuple #[v38, v39]), H37))
 (pBin Go.Proofs.Try.prog .eql 3 v1 (.int .i64 6) fun v40 =>
 pBool v40 fun b41 => br b41
 (pCell 1 false (cellsL x1) 1 fun v42 =>
 pCell 1 false (cellsL x1) 2 fun v43 =>
 pCell 1 false (cellsL x1) 3 fun v44 =>
 pCallF R 36 [x0, v42, v43, v44] H0 fun r45 H46 =>
 pExtract r45 0 fun v47 =>
 pExtract r45 1 fun v48 =>
 some ((.tuple #[v47, v48]), H46))
 (pBin Go.Proofs.Try.prog .eql 3 v1 (.int .i64 7) fun v49 =>
 pBool v49 fun b50 => br b50
 (pCell 1 false (cellsL x1) 2 fun v51 =>
 pCell 1 false (cellsL x1) 3 fun v52 =>
 pCell 1 false (cellsL x1) 4 fun v53 =>
 pCallF R 37 [x0, v51, v52, v53] H0 fun r54 H55 =>
 pExtract r54 0 fun v56 =>
 pExtract r54 1 fun v57 =>
 some ((.tuple #[v56, v57]), H55))
 (pBin Go.Proofs.Try.prog .eql 3 v1 (.int .i64 8) fun v58 =>
 pBool v58 fun b59 => br b59
 (pCell 1 false (cellsL x1) 2 fun v60 =>
 pCell 1 false (cellsL x1) 3 fun v61 =>
 pCell 1 false (cellsL x1) 4 fun v62 =>
 pCallF R 38 [x0, v60, v61, v62] H0 fun r63 H64 =>
 pExtract r63 0 fun v65 =>
 pExtract r63 1 fun v66 =>
 some ((.tuple #[v65, v66]), H64))
 (pBin Go.Proofs.Try.prog .eql 3 v1 (.int .i64 9) fun v67 =>
 pBool v67 fun b68 => br b68
 (pCell 1 false (cellsL x1) 1 fun v69 =>
 pCell 1 false (cellsL x1) 2 fun v70 =>
 pCell 1 false (cellsL x1) 5 fun v71 =>
 pCallF R 39 [x0, v69, v70, v71] H0 fun r72 H73 =>
 pExtract r72 0 fun v74 =>
 pExtract r72 1 fun v75 =>
 some ((.tuple #[v74, v75]), H73))
 (some ((.tuple #[(.int .i64 0), (.int .i64 0)]), H0))))))))))
theorem e18 (R : Handler) (x0 x1 : Value) (H0 : Hp) : execF Go.Proofs.Try.prog orc R 18 Go.Proofs.Try.f18 [x0, x1] H0 = m18 R x0 x1 H0 := by kernel_rfl
noncomputable def m19 (R : Handler) (x0 x1 : Value) (H0 : Hp) : Option (Value × Hp) :=
 pBin Go.Proofs.Try.prog .geq 3 x1 (.int .i64 1) fun v1 =>
 pBool v1 fun b2 => br b2
 (pNil x0 (
 pOffs 1 x0 fun p3 =>
 pLoad 1 false H0 p3 fun v4 =>
 pLen .sl v4 H0 fun v5 =>
 pBin Go.Proofs.Try.prog .leq 3 x1 v5 fun v6 =>
 some (v6, H0)))
 (some ((.bool false), H0))
theorem e19 (R : Handler) (x0 x1 : Value) (H0 : Hp) : execF Go.Proofs.Try.prog orc R 19 Go.Proofs.Try.f19 [x0, x1] H0 = m19 R x0 x1 H0 := by kernel_rfl
noncomputable def m20 (R : Handler) (x0 x1 x2 : Value) (H0 : Hp) : Option (Value × Hp) :=
 pBuild Go.Proofs.Try.prog 36 [(0, (.int .i64 4)), (1, x2), (6, x1)] fun v1 =>
 pCallF R 22 [x0, v1] H0 fun r2 H3 =>
 pExtract r2 0 fun v4 =>
 pExtract r2 1 fun v5 =>
 some ((.tuple #[v4, v5]), H3)
theorem e20 (R : Handler) (x0 x1 x2 : Value) (H0 : Hp) : execF Go.Proofs.Try.prog orc R 20 Go.Proofs.Try.f20 [x0, x1, x2] H0 = m20 R x0 x1 x2 H0 := by kernel_rfl
noncomputable def m21 (R : Handler) (x0 x1 x2 x3 : Value) (H0 : Hp) : Option (Value × Hp) :=
 pBuild Go.Proofs.Try.prog 36 [(0, x1), (2, x2), (3, x3)] fun v1 =>
 pSplice 7 [.int .i64 0, .int .i64 0, .int .i64 0, .int .i64 0, .int .i64 0, .int .u64 0, .string ⟨#[]⟩] 0 v1 fun c2 =>
 bindO (
 bindO (
 pBin Go.Proofs.Try.prog .geq 3 x1 (.int .i64 6) fun v3 =>
 pBool v3 fun b4 => br b4
 (pBin Go.Proofs.Try.prog .leq 3 x1 (.int .i64 13) fun v5 =>
 some (.next, [v5], H0))
 (some (.next, [(.bool false)], H0))) fun q6 l7 H8 => onCtl q6
 (pBool (l7.getD 0 undef) fun b10 => br b10
 (some (.next, [(.agg c2.toArray)], H8))
 (bindO (
 pBin Go.Proofs.Try.prog .geq 3 x1 (.int .i64 17) fun v11 =>
 pBool v11 fun b12 => br b12
 (pBin Go.Proofs.Try.prog .leq 3 x1 (.int .i64 29) fun v13 =>
 some (.next, [v13], H8))
 (some (.next, [(.bool false)], H8))) fun q14 l15 H16 => onCtl q14
 (pBool (l15.getD 0 undef) fun b18 => br b18
 (pCallF R 40 [x0, x2] H16 fun r19 H20 =>
 pMM true [r19, (.int .i64 0)] fun v21 =>
 pSplice 1 c2 1 v21 fun c22 =>
 some (.next, [(.agg c22.toArray)], H20))
 (pBin Go.Proofs.Try.prog .eql 3 x1 (.int .i64 30) fun v23 =>
 pBool v23 fun b24 => br b24
 (pCallF R 40 [x0, x2] H16 fun r25 H26 =>
 pMM true [r25, (.int .i64 0)] fun v27 =>
 pCallF R 40 [x0, x3] H26 fun r28 H29 =>
 pMM true [r28, (.int .i64 0)] fun v30 =>
 pBin Go.Proofs.Try.prog .add 3 v27 v30 fun v31 =>
 pSplice 1 c2 1 v31 fun c32 =>
 pCell 1 false c32 1 fun v33 =>
 pBin Go.Proofs.Try.prog .gtr 3 v33 (.int .i64 64) fun v34 =>
 pBool v34 fun b35 => br b35
 (pSplice 1 c32 1 (.int .i64 0) fun c36 =>
 some (.next, [(.agg c36.toArray)], H29))
 (pCallF R 19 [x0, x2] H29 fun r37 H38 =>
 pUn .not r37 fun v39 =>
 pBool v39 fun b40 => br b40
 (pSplice 1 c32 1 (.int .i64 0) fun c41 =>
 some (.next, [(.agg c41.toArray)], H38))
 (pCallF R 19 [x0, x3] H38 fun r42 H43 =>
 pUn .not r42 fun v44 =>
 pBool v44 fun b45 => br b45
 (pSplice 1 c32 1 (.int .i64 0) fun c46 =>
 some (.next, [(.agg c46.toArray)], H43))
 (some (.next, [(.agg c32.toArray)], H43)))))
 (some (.ret, [(.tuple #[(.int .i64 0), (.int .i64 73)])], H16))))
 (fun i17 => onExit i17 0 (
 some (.next, [(.agg c2.toArray)], H16)) (
 some (.exit i17, [(.agg c2.toArray)], H16)))
 (some (.ret, [(l15.headD undef)], H16))))
 (fun i9 => onExit i9 0 (
 some (.next, [(.agg c2.toArray)], H8)) (
 some (.exit i9, [(.agg c2.toArray)], H8)))
 (some (.ret, [(l7.headD undef)], H8))) fun q47 l48 H49 => onCtl q47
 (pCell 7 true (cellsL ((l48.drop 0).getD 0 undef)) 0 fun v51 =>
 pCallF R 22 [x0, v51] H49 fun r52 H53 =>
 pExtract r52 0 fun v54 =>
 pExtract r52 1 fun v55 =>
 some ((.tuple #[v54, v55]), H53))
 (fun i50 => none)
 (some ((l48.headD undef), H49))
theorem e21 (R : Handler) (x0 x1 x2 x3 : Value) (H0 : Hp) : execF Go.Proofs.Try.prog orc R 21 Go.Proofs.Try.f21 [x0, x1, x2, x3] H0 = m21 R x0 x1 x2 x3 H0 := by kernel_rfl
noncomputable def m22 (R : Handler) (x0 x1 : Value) (H0 : Hp) : Option (Value × Hp) :=
 bindO (
 pCell 1 false (cellsL x1) 0 fun v1 =>
 pBin Go.Proofs.Try.prog .lss 3 v1 (.int .i64 1) fun v2 =>
 pBool v2 fun b3 => br b3
 (some (.ret, [(.tuple #[(.int .i64 0), (.int .i64 73)])], H0))
 (pCell 1 false (cellsL x1) 0 fun v4 =>
 pBin Go.Proofs.Try.prog .gtr 3 v4 (.int .i64 33) fun v5 =>
 pBool v5 fun b6 => br b6
 (some (.ret, [(.tuple #[(.int .i64 0), (.int .i64 73)])], H0))
 (some (.next, [], H0)))) fun q7 l8 H9 => onCtl q7
 (bindO (
 pCell 1 false (cellsL x1) 1 fun v11 =>
 pBin Go.Proofs.Try.prog .lss 3 v11 (.int .i64 0) fun v12 =>
 pBool v12 fun b13 => br b13
 (some (.ret, [(.tuple #[(.int .i64 0), (.int .i64 5)])], H9))
 (pCell 1 false (cellsL x1) 1 fun v14 =>
 pBin Go.Proofs.Try.prog .gtr 3 v14 (.int .i64 64) fun v15 =>
 pBool v15 fun b16 => br b16
 (some (.ret, [(.tuple #[(.int .i64 0), (.int .i64 5)])], H9))
 (some (.next, [], H9)))) fun q17 l18 H19 => onCtl q17
 (pCell 1 false (cellsL x1) 2 fun v21 =>
 pCell 1 false (cellsL x1) 3 fun v22 =>
 pCell 1 false (cellsL x1) 4 fun v23 =>
 pBuild Go.Proofs.Try.prog 54 [(0, v21), (1, v22), (2, v23)] fun v24 =>
 bindO (loopD (fun l25 H26 =>
 pBin Go.Proofs.Try.prog .lss 3 (l25.getD 0 undef) (.int .i64 3) fun v27 =>
 pBool v27 fun b28 => br b28
 (pAtArr 3 false 1 v24 (l25.getD 0 undef) fun v29 =>
 pCell 1 false (cellsL x1) 0 fun v30 =>
 pCallF R 29 [v30] H26 fun r31 H32 =>
 pBin Go.Proofs.Try.prog .lss 3 (l25.getD 0 undef) r31 fun v33 =>
 pBool v33 fun b34 => br b34
 (pCallF R 19 [x0, v29] H32 fun r35 H36 =>
 pUn .not r35 fun v37 =>
 pBool v37 fun b38 => br b38
 (some (.ret, [(.tuple #[(.int .i64 0), (.int .i64 70)])], H36))
 (pBin Go.Proofs.Try.prog .add 3 (l25.getD 0 undef) (.int .i64 1) fun v39 =>
 some (.next, [v39], H36)))
 (pBin Go.Proofs.Try.prog .add 3 (l25.getD 0 undef) (.int .i64 1) fun v40 =>
 some (.next, [v40], H32)))
 (some (.exit 0, [(l25.getD 0 undef)], H26))) [(.int .i64 0)] H19) fun q41 l42 H43 => onCtl q41 none
 (fun i44 => onExit i44 0 (
 pCell 7 true (cellsL x1) 0 fun v45 =>
 pCallF R 41 [v45] H43 fun r46 H47 =>
 pBool r46 fun b48 => br b48
 (some ((.tuple #[(.int .i64 0), (.int .i64 1)]), H47))
 (pCell 7 true (cellsL x1) 0 fun v49 =>
 pCallF R 42 [x0, v49] H47 fun r50 H51 =>
 pUn .not r50 fun v52 =>
 pBool v52 fun b53 => br b53
 (some ((.tuple #[(.int .i64 0), (.int .i64 71)]), H51))
 (pCell 7 true (cellsL x1) 0 fun v54 =>
 pCallF R 43 [x0, v54] H51 fun r55 H56 =>
 pUn .not r55 fun v57 =>
 pBool v57 fun b58 => br b58
 (some ((.tuple #[(.int .i64 0), (.int .i64 5)]), H56))
 (bindO (
 pCell 1 false (cellsL x1) 0 fun v59 =>
 pBin Go.Proofs.Try.prog .eql 3 v59 (.int .i64 4) fun v60 =>
 pBool v60 fun b61 => br b61
 (pNil x0 (
 pOffs 3 x0 fun p62 =>
 pLoad 1 false H56 p62 fun v63 =>
 pCell 1 false (cellsL x1) 6 fun v64 =>
 pLook Go.Proofs.Try.prog 9 (.int .i64 0) v63 v64 true H56 fun v65 =>
 pExtract v65 0 fun v66 =>
 pExtract v65 1 fun v67 =>
 pCell 1 false (cellsL x1) 6 fun v68 =>
 pCallF R 44 [v68] H56 fun r69 H70 =>
 pUn .not r69 fun v71 =>
 pBool v71 fun b72 => br b72
 (some (.ret, [(.tuple #[(.int .i64 0), (.int .i64 72)])], H70))
 (pBool v67 fun b73 => br b73
 (pCell 1 false (cellsL x1) 1 fun v74 =>
 pBin Go.Proofs.Try.prog .neq 3 v66 v74 fun v75 =>
 pBool v75 fun b76 => br b76
 (some (.ret, [(.tuple #[(.int .i64 0), (.int .i64 72)])], H70))
 (some (.next, [], H70)))
 (some (.next, [], H70)))))
 (some (.next, [], H56))) fun q77 l78 H79 => onCtl q77
 (pNil x0 (
 pOffs 2 x0 fun p81 =>
 pLoad 1 false H79 p81 fun v82 =>
 pCell 7 true (cellsL x1) 0 fun v83 =>
 pLook Go.Proofs.Try.prog 36 (.int .i64 0) v82 v83 true H79 fun v84 =>
 pExtract v84 0 fun v85 =>
 pExtract v84 1 fun v86 =>
 pBool v86 fun b87 => br b87
 (some ((.tuple #[v85, (.int .i64 0)]), H79))
 (bindO (
 pNil x0 (
 pOffs 0 x0 fun p88 =>
 pLoad 1 false H79 p88 fun v89 =>
 pBin Go.Proofs.Try.prog .gtr 3 v89 (.int .i64 0) fun v90 =>
 pBool v90 fun b91 => br b91
 (pNil x0 (
 pOffs 1 x0 fun p92 =>
 pLoad 1 false H79 p92 fun v93 =>
 pLen .sl v93 H79 fun v94 =>
 pNil x0 (
 pOffs 0 x0 fun p95 =>
 pLoad 1 false H79 p95 fun v96 =>
 pBin Go.Proofs.Try.prog .geq 3 v94 v96 fun v97 =>
 pBool v97 fun b98 => br b98
 (some (.ret, [(.tuple #[(.int .i64 0), (.int .i64 4)])], H79))
 (some (.next, [], H79)))))
 (some (.next, [], H79)))) fun q99 l100 H101 => onCtl q99
 (pNil x0 (
 pOffs 1 x0 fun p103 =>
 pLoad 1 false H101 p103 fun v104 =>
 pCell 7 true (cellsL x1) 0 fun v105 =>
 pBuildSlice 7 [.int .i64 0, .int .i64 0, .int .i64 0, .int .i64 0, .int .i64 0, .int .u64 0, .string ⟨#[]⟩] 1 [(0, v105)] H101 fun v106 H107 =>
 chk (Hp.rdP H107 p103 1 false = some v104) (
 pAppend 7 64 v104 v106 H107 fun v108 H109 =>
 pNil x0 (
 pOffs 1 x0 fun p110 =>
 pStore 1 H109 p110 v108 fun H111 =>
 pNil x0 (
 pOffs 2 x0 fun p112 =>
 pLoad 1 false H111 p112 fun v113 =>
 pCell 7 true (cellsL x1) 0 fun v114 =>
 pNil x0 (
 pOffs 1 x0 fun p115 =>
 pLoad 1 false H111 p115 fun v116 =>
 pLen .sl v116 H111 fun v117 =>
 pUpd Go.Proofs.Try.prog 36 v113 v114 v117 H111 fun H118 =>
 pCell 1 false (cellsL x1) 0 fun v119 =>
 pBin Go.Proofs.Try.prog .eql 3 v119 (.int .i64 4) fun v120 =>
 pBool v120 fun b121 => br b121
 (pNil x0 (
 pOffs 3 x0 fun p122 =>
 pLoad 1 false H118 p122 fun v123 =>
 pCell 1 false (cellsL x1) 6 fun v124 =>
 pCell 1 false (cellsL x1) 1 fun v125 =>
 pUpd Go.Proofs.Try.prog 9 v123 v124 v125 H118 fun H126 =>
 pNil x0 (
 pOffs 1 x0 fun p127 =>
 pLoad 1 false H126 p127 fun v128 =>
 pLen .sl v128 H126 fun v129 =>
 some ((.tuple #[v129, (.int .i64 0)]), H126))))
 (pNil x0 (
 pOffs 1 x0 fun p130 =>
 pLoad 1 false H118 p130 fun v131 =>
 pLen .sl v131 H118 fun v132 =>
 some ((.tuple #[v132, (.int .i64 0)]), H118)))))))))
 (fun i102 => none)
 (some ((l100.headD undef), H101)))))
 (fun i80 => none)
 (some ((l78.headD undef), H79)))))) (
 none))
 (some ((l42.headD undef), H43)))
 (fun i20 => none)
 (some ((l18.headD undef), H19)))
 (fun i10 => none)
 (some ((l8.headD undef), H9))
theorem e22 (R : Handler) (x0 x1 : Value) (H0 : Hp) : execF Go.Proofs.Try.prog orc R 22 Go.Proofs.Try.f22 [x0, x1] H0 = m22 R x0 x1 H0 := by kernel_rfl
noncomputable def m23 (R : Handler) (x0 x1 : Value) (H0 : Hp) : Option (Value × Hp) :=
 pBool x1 fun b1 => br b1
 (pBuild Go.Proofs.Try.prog 36 [(0, (.int .i64 1))] fun v2 =>
 pCallF R 22 [x0, v2] H0 fun r3 H4 =>
 pExtract r3 0 fun v5 =>
 pExtract r3 1 fun v6 =>
 some ((.tuple #[v5, v6]), H4))
 (pBuild Go.Proofs.Try.prog 36 [(0, (.int .i64 2))] fun v7 =>
 pCallF R 22 [x0, v7] H0 fun r8 H9 =>
 pExtract r8 0 fun v10 =>
 pExtract r8 1 fun v11 =>
 some ((.tuple #[v10, v11]), H9))
theorem e23 (R : Handler) (x0 x1 : Value) (H0 : Hp) : execF Go.Proofs.Try.prog orc R 23 Go.Proofs.Try.f23 [x0, x1] H0 = m23 R x0 x1 H0 := by kernel_rfl
noncomputable def m24 (R : Handler) (x0 x1 x2 : Value) (H0 : Hp) : Option (Value × Hp) :=
 pCallF R 45 [x1, x2] H0 fun r1 H2 =>
 pBuild Go.Proofs.Try.prog 36 [(0, (.int .i64 3)), (1, x1), (5, r1)] fun v3 =>
 pCallF R 22 [x0, v3] H2 fun r4 H5 =>
 pExtract r4 0 fun v6 =>
 pExtract r4 1 fun v7 =>
 some ((.tuple #[v6, v7]), H5)
theorem e24 (R : Handler) (x0 x1 x2 : Value) (H0 : Hp) : execF Go.Proofs.Try.prog orc R 24 Go.Proofs.Try.f24 [x0, x1, x2] H0 = m24 R x0 x1 x2 H0 := by kernel_rfl
noncomputable def m25 (R : Handler) (x0 x1 x2 : Value) (H0 : Hp) : Option (Value × Hp) :=
 pBin Go.Proofs.Try.prog .eql 3 x1 (.int .i64 5) fun v1 =>
 pBool v1 fun b2 => br b2
 (pBuild Go.Proofs.Try.prog 36 [(0, x1), (2, x2)] fun v3 =>
 pCallF R 22 [x0, v3] H0 fun r4 H5 =>
 pExtract r4 0 fun v6 =>
 pExtract r4 1 fun v7 =>
 some ((.tuple #[v6, v7]), H5))
 (pBin Go.Proofs.Try.prog .eql 3 x1 (.int .i64 15) fun v8 =>
 pBool v8 fun b9 => br b9
 (pBool v8 fun b10 => br b10
 (pCallF R 40 [x0, x2] H0 fun r11 H12 =>
 pMM true [r11, (.int .i64 0)] fun v13 =>
 pBuild Go.Proofs.Try.prog 36 [(0, x1), (1, v13), (2, x2)] fun v14 =>
 pCallF R 22 [x0, v14] H12 fun r15 H16 =>
 pExtract r15 0 fun v17 =>
 pExtract r15 1 fun v18 =>
 some ((.tuple #[v17, v18]), H16))
 (some ((.tuple #[(.int .i64 0), (.int .i64 73)]), H0)))
 (pBin Go.Proofs.Try.prog .eql 3 x1 (.int .i64 16) fun v19 =>
 pBool v19 fun b20 => br b20
 (pCallF R 40 [x0, x2] H0 fun r21 H22 =>
 pMM true [r21, (.int .i64 0)] fun v23 =>
 pBuild Go.Proofs.Try.prog 36 [(0, x1), (1, v23), (2, x2)] fun v24 =>
 pCallF R 22 [x0, v24] H22 fun r25 H26 =>
 pExtract r25 0 fun v27 =>
 pExtract r25 1 fun v28 =>
 some ((.tuple #[v27, v28]), H26))
 (some ((.tuple #[(.int .i64 0), (.int .i64 73)]), H0))))
theorem e25 (R : Handler) (x0 x1 x2 : Value) (H0 : Hp) : execF Go.Proofs.Try.prog orc R 25 Go.Proofs.Try.f25 [x0, x1, x2] H0 = m25 R x0 x1 x2 H0 := by kernel_rfl
noncomputable def m26 (R : Handler) (x0 x1 x2 x3 : Value) (H0 : Hp) : Option (Value × Hp) :=
 pCallF R 40 [x0, x2] H0 fun r1 H2 =>
 pMM true [r1, (.int .i64 0)] fun v3 =>
 pBuild Go.Proofs.Try.prog 36 [(0, (.int .i64 14)), (1, v3), (2, x1), (3, x2), (4, x3)] fun v4 =>
 pCallF R 22 [x0, v4] H2 fun r5 H6 =>
 pExtract r5 0 fun v7 =>
 pExtract r5 1 fun v8 =>
 some ((.tuple #[v7, v8]), H6)
theorem e26 (R : Handler) (x0 x1 x2 x3 : Value) (H0 : Hp) : execF Go.Proofs.Try.prog orc R 26 Go.Proofs.Try.f26 [x0, x1, x2, x3] H0 = m26 R x0 x1 x2 x3 H0 := by kernel_rfl
noncomputable def m27 (R : Handler) (x0 x1 x2 x3 : Value) (H0 : Hp) : Option (Value × Hp) :=
 pConvInt .u64 x2 fun v1 =>
 pBuild Go.Proofs.Try.prog 36 [(0, (.int .i64 31)), (1, x3), (2, x1), (5, v1)] fun v2 =>
 pCallF R 22 [x0, v2] H0 fun r3 H4 =>
 pExtract r3 0 fun v5 =>
 pExtract r3 1 fun v6 =>
 some ((.tuple #[v5, v6]), H4)
theorem e27 (R : Handler) (x0 x1 x2 x3 : Value) (H0 : Hp) : execF Go.Proofs.Try.prog orc R 27 Go.Proofs.Try.f27 [x0, x1, x2, x3] H0 = m27 R x0 x1 x2 x3 H0 := by kernel_rfl
noncomputable def m28 (R : Handler) (x0 x1 x2 x3 : Value) (H0 : Hp) : Option (Value × Hp) :=
 pBin Go.Proofs.Try.prog .neq 3 x1 (.int .i64 32) fun v1 =>
 pBool v1 fun b2 => br b2
 (pBin Go.Proofs.Try.prog .neq 3 x1 (.int .i64 33) fun v3 =>
 pBool v3 fun b4 => br b4
 (some ((.tuple #[(.int .i64 0), (.int .i64 73)]), H0))
 (pBuild Go.Proofs.Try.prog 36 [(0, x1), (1, x3), (2, x2)] fun v5 =>
 pCallF R 22 [x0, v5] H0 fun r6 H7 =>
 pExtract r6 0 fun v8 =>
 pExtract r6 1 fun v9 =>
 some ((.tuple #[v8, v9]), H7)))
 (pBuild Go.Proofs.Try.prog 36 [(0, x1), (1, x3), (2, x2)] fun v10 =>
 pCallF R 22 [x0, v10] H0 fun r11 H12 =>
 pExtract r11 0 fun v13 =>
 pExtract r11 1 fun v14 =>
 some ((.tuple #[v13, v14]), H12))
theorem e28 (R : Handler) (x0 x1 x2 x3 : Value) (H0 : Hp) : execF Go.Proofs.Try.prog orc R 28 Go.Proofs.Try.f28 [x0, x1, x2, x3] H0 = m28 R x0 x1 x2 x3 H0 := by kernel_rfl
noncomputable def m29 (R : Handler) (x0 : Value) (H0 : Hp) : Option (Value × Hp) :=
 bindO (
 pBin Go.Proofs.Try.prog .eql 3 x0 (.int .i64 1) fun v1 =>
 pBool v1 fun b2 => br b2
 (some (.next, [v1], H0))
 (pBin Go.Proofs.Try.prog .eql 3 x0 (.int .i64 2) fun v3 =>
 pBool v3 fun b4 => br b4
 (some (.next, [v3], H0))
 (pBin Go.Proofs.Try.prog .eql 3 x0 (.int .i64 3) fun v5 =>
 pBool v5 fun b6 => br b6
 (some (.next, [v5], H0))
 (pBin Go.Proofs.Try.prog .eql 3 x0 (.int .i64 4) fun v7 =>
 some (.next, [v7], H0))))) fun q8 l9 H10 => onCtl q8
 (pBool (l9.getD 0 undef) fun b12 => br b12
 (some ((.int .i64 0), H10))
 (pBin Go.Proofs.Try.prog .eql 3 x0 (.int .i64 5) fun v13 =>
 pBool v13 fun b14 => br b14
 (pBool v13 fun b15 => br b15
 (some ((.int .i64 1), H10))
 (pBin Go.Proofs.Try.prog .eql 3 x0 (.int .i64 14) fun v16 =>
 pBool v16 fun b17 => br b17
 (some ((.int .i64 3), H10))
 (some ((.int .i64 2), H10))))
 (pBin Go.Proofs.Try.prog .eql 3 x0 (.int .i64 15) fun v18 =>
 pBool v18 fun b19 => br b19
 (pBool v18 fun b20 => br b20
 (some ((.int .i64 1), H10))
 (pBin Go.Proofs.Try.prog .eql 3 x0 (.int .i64 14) fun v21 =>
 pBool v21 fun b22 => br b22
 (some ((.int .i64 3), H10))
 (some ((.int .i64 2), H10))))
 (pBin Go.Proofs.Try.prog .eql 3 x0 (.int .i64 16) fun v23 =>
 pBool v23 fun b24 => br b24
 (pBool v23 fun b25 => br b25
 (some ((.int .i64 1), H10))
 (pBin Go.Proofs.Try.prog .eql 3 x0 (.int .i64 14) fun v26 =>
 pBool v26 fun b27 => br b27
 (some ((.int .i64 3), H10))
 (some ((.int .i64 2), H10))))
 (pBin Go.Proofs.Try.prog .eql 3 x0 (.int .i64 31) fun v28 =>
 pBool v28 fun b29 => br b29
 (pBool v28 fun b30 => br b30
 (some ((.int .i64 1), H10))
 (pBin Go.Proofs.Try.prog .eql 3 x0 (.int .i64 14) fun v31 =>
 pBool v31 fun b32 => br b32
 (some ((.int .i64 3), H10))
 (some ((.int .i64 2), H10))))
 (pBin Go.Proofs.Try.prog .eql 3 x0 (.int .i64 32) fun v33 =>
 pBool v33 fun b34 => br b34
 (pBool v33 fun b35 => br b35
 (some ((.int .i64 1), H10))
 (pBin Go.Proofs.Try.prog .eql 3 x0 (.int .i64 14) fun v36 =>
 pBool v36 fun b37 => br b37
 (some ((.int .i64 3), H10))
 (some ((.int .i64 2), H10))))
 (pBin Go.Proofs.Try.prog .eql 3 x0 (.int .i64 33) fun v38 =>
 pBool v38 fun b39 => br b39
 (some ((.int .i64 1), H10))
 (pBin Go.Proofs.Try.prog .eql 3 x0 (.int .i64 14) fun v40 =>
 pBool v40 fun b41 => br b41
 (some ((.int .i64 3), H10))
 (some ((.int .i64 2), H10))))))))))
 (fun i11 => onExit i11 0 (
 some ((.int .i64 2), H10)) (
 none))
 (some ((l9.headD undef), H10))
theorem e29 (R : Handler) (x0 : Value) (H0 : Hp) : execF Go.Proofs.Try.prog orc R 29 Go.Proofs.Try.f29 [x0] H0 = m29 R x0 H0 := by kernel_rfl
noncomputable def m30 (R : Handler) (x0 x1 : Value) (H0 : Hp) : Option (Value × Hp) :=
 pBin Go.Proofs.Try.prog .geq 3 x1 (.int .i64 1) fun v1 =>
 pBool v1 fun b2 => br b2
 (pNil x0 (
 pOffs 1 x0 fun p3 =>
 pLoad 1 false H0 p3 fun v4 =>
 pLen .sl v4 H0 fun v5 =>
 pBin Go.Proofs.Try.prog .leq 3 x1 v5 fun v6 =>
 some (v6, H0)))
 (some ((.bool false), H0))
theorem e30 (R : Handler) (x0 x1 : Value) (H0 : Hp) : execF Go.Proofs.Try.prog orc R 30 Go.Proofs.Try.f30 [x0, x1] H0 = m30 R x0 x1 H0 := by kernel_rfl
noncomputable def m31 (R : Handler) (x0 x1 : Value) (H0 : Hp) : Option (Value × Hp) :=
 pCell 1 false (cellsL x1) 0 fun v1 =>
 pCallF R 46 [v1] H0 fun r2 H3 =>
 pBin Go.Proofs.Try.prog .lss 3 r2 (.int .i64 0) fun v4 =>
 pBool v4 fun b5 => br b5
 (some ((.tuple #[(.int .i64 0), (.int .i64 73)]), H3))
 (bindO (
 pCell 1 false (cellsL x1) 1 fun v6 =>
 pBin Go.Proofs.Try.prog .lss 3 v6 (.int .i64 0) fun v7 =>
 pBool v7 fun b8 => br b8
 (some (.next, [(.bool true)], H3))
 (pCell 1 false (cellsL x1) 1 fun v9 =>
 pBin Go.Proofs.Try.prog .gtr 3 v9 (.int .i64 64) fun v10 =>
 some (.next, [v10], H3))) fun q11 l12 H13 => onCtl q11
 (pBool (l12.getD 0 undef) fun b15 => br b15
 (some ((.tuple #[(.int .i64 0), (.int .i64 5)]), H13))
 (bindO (
 pBin Go.Proofs.Try.prog .geq 3 r2 (.int .i64 1) fun v16 =>
 pBool v16 fun b17 => br b17
 (pCell 1 false (cellsL x1) 2 fun v18 =>
 pCallF R 30 [x0, v18] H13 fun r19 H20 =>
 pUn .not r19 fun v21 =>
 pBool v21 fun b22 => br b22
 (some (.next, [(.bool true)], H20))
 (pBin Go.Proofs.Try.prog .geq 3 r2 (.int .i64 2) fun v23 =>
 pBool v23 fun b24 => br b24
 (pCell 1 false (cellsL x1) 3 fun v25 =>
 pCallF R 30 [x0, v25] H20 fun r26 H27 =>
 pUn .not r26 fun v28 =>
 pBool v28 fun b29 => br b29
 (some (.next, [(.bool true)], H27))
 (pBin Go.Proofs.Try.prog .geq 3 r2 (.int .i64 3) fun v30 =>
 pBool v30 fun b31 => br b31
 (pCell 1 false (cellsL x1) 4 fun v32 =>
 pCallF R 30 [x0, v32] H27 fun r33 H34 =>
 pUn .not r33 fun v35 =>
 some (.next, [v35], H34))
 (some (.next, [(.bool false)], H27))))
 (pBin Go.Proofs.Try.prog .geq 3 r2 (.int .i64 3) fun v36 =>
 pBool v36 fun b37 => br b37
 (pCell 1 false (cellsL x1) 4 fun v38 =>
 pCallF R 30 [x0, v38] H20 fun r39 H40 =>
 pUn .not r39 fun v41 =>
 some (.next, [v41], H40))
 (some (.next, [(.bool false)], H20)))))
 (pBin Go.Proofs.Try.prog .geq 3 r2 (.int .i64 2) fun v42 =>
 pBool v42 fun b43 => br b43
 (pCell 1 false (cellsL x1) 3 fun v44 =>
 pCallF R 30 [x0, v44] H13 fun r45 H46 =>
 pUn .not r45 fun v47 =>
 pBool v47 fun b48 => br b48
 (some (.next, [(.bool true)], H46))
 (pBin Go.Proofs.Try.prog .geq 3 r2 (.int .i64 3) fun v49 =>
 pBool v49 fun b50 => br b50
 (pCell 1 false (cellsL x1) 4 fun v51 =>
 pCallF R 30 [x0, v51] H46 fun r52 H53 =>
 pUn .not r52 fun v54 =>
 some (.next, [v54], H53))
 (some (.next, [(.bool false)], H46))))
 (pBin Go.Proofs.Try.prog .geq 3 r2 (.int .i64 3) fun v55 =>
 pBool v55 fun b56 => br b56
 (pCell 1 false (cellsL x1) 4 fun v57 =>
 pCallF R 30 [x0, v57] H13 fun r58 H59 =>
 pUn .not r58 fun v60 =>
 some (.next, [v60], H59))
 (some (.next, [(.bool false)], H13))))) fun q61 l62 H63 => onCtl q61
 (pBool (l62.getD 0 undef) fun b65 => br b65
 (some ((.tuple #[(.int .i64 0), (.int .i64 70)]), H63))
 (pCell 7 true (cellsL x1) 0 fun v66 =>
 pCallF R 47 [v66, r2] H63 fun r67 H68 =>
 pBool r67 fun b69 => br b69
 (some ((.tuple #[(.int .i64 0), (.int .i64 1)]), H68))
 (pCell 7 true (cellsL x1) 0 fun v70 =>
 pCallF R 48 [x0, v70] H68 fun r71 H72 =>
 pUn .not r71 fun v73 =>
 pBool v73 fun b74 => br b74
 (some ((.tuple #[(.int .i64 0), (.int .i64 71)]), H72))
 (pCell 7 true (cellsL x1) 0 fun v75 =>
 pCallF R 49 [x0, v75] H72 fun r76 H77 =>
 pUn .not r76 fun v78 =>
 pBool v78 fun b79 => br b79
 (some ((.tuple #[(.int .i64 0), (.int .i64 5)]), H77))
 (bindO (
 pCell 1 false (cellsL x1) 0 fun v80 =>
 pBin Go.Proofs.Try.prog .eql 3 v80 (.int .i64 4) fun v81 =>
 pBool v81 fun b82 => br b82
 (pNil x0 (
 pOffs 3 x0 fun p83 =>
 pLoad 1 false H77 p83 fun v84 =>
 pCell 1 false (cellsL x1) 6 fun v85 =>
 pLook Go.Proofs.Try.prog 9 (.int .i64 0) v84 v85 true H77 fun v86 =>
 pExtract v86 0 fun v87 =>
 pExtract v86 1 fun v88 =>
 pCell 1 false (cellsL x1) 6 fun v89 =>
 pCallF R 50 [v89] H77 fun r90 H91 =>
 pUn .not r90 fun v92 =>
 pBool v92 fun b93 => br b93
 (some (.ret, [(.tuple #[(.int .i64 0), (.int .i64 72)])], H91))
 (pBool v88 fun b94 => br b94
 (pCell 1 false (cellsL x1) 1 fun v95 =>
 pBin Go.Proofs.Try.prog .neq 3 v87 v95 fun v96 =>
 pBool v96 fun b97 => br b97
 (some (.ret, [(.tuple #[(.int .i64 0), (.int .i64 72)])], H91))
 (some (.next, [], H91)))
 (some (.next, [], H91)))))
 (some (.next, [], H77))) fun q98 l99 H100 => onCtl q98
 (pNil x0 (
 pOffs 2 x0 fun p102 =>
 pLoad 1 false H100 p102 fun v103 =>
 pCell 7 true (cellsL x1) 0 fun v104 =>
 pLook Go.Proofs.Try.prog 36 (.int .i64 0) v103 v104 true H100 fun v105 =>
 pExtract v105 0 fun v106 =>
 pExtract v105 1 fun v107 =>
 pBool v107 fun b108 => br b108
 (some ((.tuple #[v106, (.int .i64 0)]), H100))
 (bindO (
 pNil x0 (
 pOffs 0 x0 fun p109 =>
 pLoad 1 false H100 p109 fun v110 =>
 pBin Go.Proofs.Try.prog .gtr 3 v110 (.int .i64 0) fun v111 =>
 pBool v111 fun b112 => br b112
 (pNil x0 (
 pOffs 1 x0 fun p113 =>
 pLoad 1 false H100 p113 fun v114 =>
 pLen .sl v114 H100 fun v115 =>
 pNil x0 (
 pOffs 0 x0 fun p116 =>
 pLoad 1 false H100 p116 fun v117 =>
 pBin Go.Proofs.Try.prog .geq 3 v115 v117 fun v118 =>
 pBool v118 fun b119 => br b119
 (some (.ret, [(.tuple #[(.int .i64 0), (.int .i64 4)])], H100))
 (some (.next, [], H100)))))
 (some (.next, [], H100)))) fun q120 l121 H122 => onCtl q120
 (pNil x0 (
 pOffs 1 x0 fun p124 =>
 pLoad 1 false H122 p124 fun v125 =>
 pCell 7 true (cellsL x1) 0 fun v126 =>
 pBuildSlice 7 [.int .i64 0, .int .i64 0, .int .i64 0, .int .i64 0, .int .i64 0, .int .u64 0, .string ⟨#[]⟩] 1 [(0, v126)] H122 fun v127 H128 =>
 chk (Hp.rdP H128 p124 1 false = some v125) (
 pAppend 7 64 v125 v127 H128 fun v129 H130 =>
 pNil x0 (
 pOffs 1 x0 fun p131 =>
 pStore 1 H130 p131 v129 fun H132 =>
 pNil x0 (
 pOffs 2 x0 fun p133 =>
 pLoad 1 false H132 p133 fun v134 =>
 pCell 7 true (cellsL x1) 0 fun v135 =>
 pNil x0 (
 pOffs 1 x0 fun p136 =>
 pLoad 1 false H132 p136 fun v137 =>
 pLen .sl v137 H132 fun v138 =>
 pUpd Go.Proofs.Try.prog 36 v134 v135 v138 H132 fun H139 =>
 pCell 1 false (cellsL x1) 0 fun v140 =>
 pBin Go.Proofs.Try.prog .eql 3 v140 (.int .i64 4) fun v141 =>
 pBool v141 fun b142 => br b142
 (pNil x0 (
 pOffs 3 x0 fun p143 =>
 pLoad 1 false H139 p143 fun v144 =>
 pCell 1 false (cellsL x1) 6 fun v145 =>
 pCell 1 false (cellsL x1) 1 fun v146 =>
 pUpd Go.Proofs.Try.prog 9 v144 v145 v146 H139 fun H147 =>
 pNil x0 (
 pOffs 1 x0 fun p148 =>
 pLoad 1 false H147 p148 fun v149 =>
 pLen .sl v149 H147 fun v150 =>
 some ((.tuple #[v150, (.int .i64 0)]), H147))))
 (pNil x0 (
 pOffs 1 x0 fun p151 =>
 pLoad 1 false H139 p151 fun v152 =>
 pLen .sl v152 H139 fun v153 =>
 some ((.tuple #[v153, (.int .i64 0)]), H139)))))))))
 (fun i123 => none)
 (some ((l121.headD undef), H122)))))
 (fun i101 => none)
 (some ((l99.headD undef), H100)))))))
 (fun i64 => onExit i64 0 (
 bindO (
 pCell 1 false (cellsL x1) 0 fun v154 =>
 pBin Go.Proofs.Try.prog .eql 3 v154 (.int .i64 4) fun v155 =>
 pBool v155 fun b156 => br b156
 (pNil x0 (
 pOffs 3 x0 fun p157 =>
 pLoad 1 false H63 p157 fun v158 =>
 pCell 1 false (cellsL x1) 6 fun v159 =>
 pLook Go.Proofs.Try.prog 9 (.int .i64 0) v158 v159 true H63 fun v160 =>
 pExtract v160 0 fun v161 =>
 pExtract v160 1 fun v162 =>
 pCell 1 false (cellsL x1) 6 fun v163 =>
 pCallF R 50 [v163] H63 fun r164 H165 =>
 pUn .not r164 fun v166 =>
 pBool v166 fun b167 => br b167
 (some (.ret, [(.tuple #[(.int .i64 0), (.int .i64 72)])], H165))
 (pBool v162 fun b168 => br b168
 (pCell 1 false (cellsL x1) 1 fun v169 =>
 pBin Go.Proofs.Try.prog .neq 3 v161 v169 fun v170 =>
 pBool v170 fun b171 => br b171
 (some (.ret, [(.tuple #[(.int .i64 0), (.int .i64 72)])], H165))
 (some (.next, [], H165)))
 (some (.next, [], H165)))))
 (some (.next, [], H63))) fun q172 l173 H174 => onCtl q172
 (pNil x0 (
 pOffs 2 x0 fun p176 =>
 pLoad 1 false H174 p176 fun v177 =>
 pCell 7 true (cellsL x1) 0 fun v178 =>
 pLook Go.Proofs.Try.prog 36 (.int .i64 0) v177 v178 true H174 fun v179 =>
 pExtract v179 0 fun v180 =>
 pExtract v179 1 fun v181 =>
 pBool v181 fun b182 => br b182
 (some ((.tuple #[v180, (.int .i64 0)]), H174))
 (bindO (
 pNil x0 (
 pOffs 0 x0 fun p183 =>
 pLoad 1 false H174 p183 fun v184 =>
 pBin Go.Proofs.Try.prog .gtr 3 v184 (.int .i64 0) fun v185 =>
 pBool v185 fun b186 => br b186
 (pNil x0 (
 pOffs 1 x0 fun p187 =>
 pLoad 1 false H174 p187 fun v188 =>
 pLen .sl v188 H174 fun v189 =>
 pNil x0 (
 pOffs 0 x0 fun p190 =>
 pLoad 1 false H174 p190 fun v191 =>
 pBin Go.Proofs.Try.prog .geq 3 v189 v191 fun v192 =>
 pBool v192 fun b193 => br b193
 (some (.ret, [(.tuple #[(.int .i64 0), (.int .i64 4)])], H174))
 (some (.next, [], H174)))))
 (some (.next, [], H174)))) fun q194 l195 H196 => onCtl q194
 (pNil x0 (
 pOffs 1 x0 fun p198 =>
 pLoad 1 false H196 p198 fun v199 =>
 pCell 7 true (cellsL x1) 0 fun v200 =>
 pBuildSlice 7 [.int .i64 0, .int .i64 0, .int .i64 0, .int .i64 0, .int .i64 0, .int .u64 0, .string ⟨#[]⟩] 1 [(0, v200)] H196 fun v201 H202 =>
 chk (Hp.rdP H202 p198 1 false = some v199) (
 pAppend 7 64 v199 v201 H202 fun v203 H204 =>
 pNil x0 (
 pOffs 1 x0 fun p205 =>
 pStore 1 H204 p205 v203 fun H206 =>
 pNil x0 (
 pOffs 2 x0 fun p207 =>
 pLoad 1 false H206 p207 fun v208 =>
 pCell 7 true (cellsL x1) 0 fun v209 =>
 pNil x0 (
 pOffs 1 x0 fun p210 =>
 pLoad 1 false H206 p210 fun v211 =>
 pLen .sl v211 H206 fun v212 =>
 pUpd Go.Proofs.Try.prog 36 v208 v209 v212 H206 fun H213 =>
 pCell 1 false (cellsL x1) 0 fun v214 =>
 pBin Go.Proofs.Try.prog .eql 3 v214 (.int .i64 4) fun v215 =>
 pBool v215 fun b216 => br b216
 (pNil x0 (
 pOffs 3 x0 fun p217 =>
 pLoad 1 false H213 p217 fun v218 =>
 pCell 1 false (cellsL x1) 6 fun v219 =>
 pCell 1 false (cellsL x1) 1 fun v220 =>
 pUpd Go.Proofs.Try.prog 9 v218 v219 v220 H213 fun H221 =>
 pNil x0 (
 pOffs 1 x0 fun p222 =>
 pLoad 1 false H221 p222 fun v223 =>
 pLen .sl v223 H221 fun v224 =>
 some ((.tuple #[v224, (.int .i64 0)]), H221))))
 (pNil x0 (
 pOffs 1 x0 fun p225 =>
 pLoad 1 false H213 p225 fun v226 =>
 pLen .sl v226 H213 fun v227 =>
 some ((.tuple #[v227, (.int .i64 0)]), H213)))))))))
 (fun i197 => none)
 (some ((l195.headD undef), H196)))))
 (fun i175 => none)
 (some ((l173.headD undef), H174))) (
 none))
 (some ((l62.headD undef), H63))))
 (fun i14 => onExit i14 0 (
 bindO (
 pCell 1 false (cellsL x1) 0 fun v228 =>
 pBin Go.Proofs.Try.prog .eql 3 v228 (.int .i64 4) fun v229 =>
 pBool v229 fun b230 => br b230
 (pNil x0 (
 pOffs 3 x0 fun p231 =>
 pLoad 1 false H13 p231 fun v232 =>
 pCell 1 false (cellsL x1) 6 fun v233 =>
 pLook Go.Proofs.Try.prog 9 (.int .i64 0) v232 v233 true H13 fun v234 =>
 pExtract v234 0 fun v235 =>
 pExtract v234 1 fun v236 =>
 pCell 1 false (cellsL x1) 6 fun v237 =>
 pCallF R 50 [v237] H13 fun r238 H239 =>
 pUn .not r238 fun v240 =>
 pBool v240 fun b241 => br b241
 (some (.ret, [(.tuple #[(.int .i64 0), (.int .i64 72)])], H239))
 (pBool v236 fun b242 => br b242
 (pCell 1 false (cellsL x1) 1 fun v243 =>
 pBin Go.Proofs.Try.prog .neq 3 v235 v243 fun v244 =>
 pBool v244 fun b245 => br b245
 (some (.ret, [(.tuple #[(.int .i64 0), (.int .i64 72)])], H239))
 (some (.next, [], H239)))
 (some (.next, [], H239)))))
 (some (.next, [], H13))) fun q246 l247 H248 => onCtl q246
 (pNil x0 (
 pOffs 2 x0 fun p250 =>
 pLoad 1 false H248 p250 fun v251 =>
 pCell 7 true (cellsL x1) 0 fun v252 =>
 pLook Go.Proofs.Try.prog 36 (.int .i64 0) v251 v252 true H248 fun v253 =>
 pExtract v253 0 fun v254 =>
 pExtract v253 1 fun v255 =>
 pBool v255 fun b256 => br b256
 (some ((.tuple #[v254, (.int .i64 0)]), H248))
 (bindO (
 pNil x0 (
 pOffs 0 x0 fun p257 =>
 pLoad 1 false H248 p257 fun v258 =>
 pBin Go.Proofs.Try.prog .gtr 3 v258 (.int .i64 0) fun v259 =>
 pBool v259 fun b260 => br b260
 (pNil x0 (
 pOffs 1 x0 fun p261 =>
 pLoad 1 false H248 p261 fun v262 =>
 pLen .sl v262 H248 fun v263 =>
 pNil x0 (
 pOffs 0 x0 fun p264 =>
 pLoad 1 false H248 p264 fun v265 =>
 pBin Go.Proofs.Try.prog .geq 3 v263 v265 fun v266 =>
 pBool v266 fun b267 => br b267
 (some (.ret, [(.tuple #[(.int .i64 0), (.int .i64 4)])], H248))
 (some (.next, [], H248)))))
 (some (.next, [], H248)))) fun q268 l269 H270 => onCtl q268
 (pNil x0 (
 pOffs 1 x0 fun p272 =>
 pLoad 1 false H270 p272 fun v273 =>
 pCell 7 true (cellsL x1) 0 fun v274 =>
 pBuildSlice 7 [.int .i64 0, .int .i64 0, .int .i64 0, .int .i64 0, .int .i64 0, .int .u64 0, .string ⟨#[]⟩] 1 [(0, v274)] H270 fun v275 H276 =>
 chk (Hp.rdP H276 p272 1 false = some v273) (
 pAppend 7 64 v273 v275 H276 fun v277 H278 =>
 pNil x0 (
 pOffs 1 x0 fun p279 =>
 pStore 1 H278 p279 v277 fun H280 =>
 pNil x0 (
 pOffs 2 x0 fun p281 =>
 pLoad 1 false H280 p281 fun v282 =>
 pCell 7 true (cellsL x1) 0 fun v283 =>
 pNil x0 (
 pOffs 1 x0 fun p284 =>
 pLoad 1 false H280 p284 fun v285 =>
 pLen .sl v285 H280 fun v286 =>
 pUpd Go.Proofs.Try.prog 36 v282 v283 v286 H280 fun H287 =>
 pCell 1 false (cellsL x1) 0 fun v288 =>
 pBin Go.Proofs.Try.prog .eql 3 v288 (.int .i64 4) fun v289 =>
 pBool v289 fun b290 => br b290
 (pNil x0 (
 pOffs 3 x0 fun p291 =>
 pLoad 1 false H287 p291 fun v292 =>
 pCell 1 false (cellsL x1) 6 fun v293 =>
 pCell 1 false (cellsL x1) 1 fun v294 =>
 pUpd Go.Proofs.Try.prog 9 v292 v293 v294 H287 fun H295 =>
 pNil x0 (
 pOffs 1 x0 fun p296 =>
 pLoad 1 false H295 p296 fun v297 =>
 pLen .sl v297 H295 fun v298 =>
 some ((.tuple #[v298, (.int .i64 0)]), H295))))
 (pNil x0 (
 pOffs 1 x0 fun p299 =>
 pLoad 1 false H287 p299 fun v300 =>
 pLen .sl v300 H287 fun v301 =>
 some ((.tuple #[v301, (.int .i64 0)]), H287)))))))))
 (fun i271 => none)
 (some ((l269.headD undef), H270)))))
 (fun i249 => none)
 (some ((l247.headD undef), H248))) (
 none))
 (some ((l12.headD undef), H13)))
theorem e31 (R : Handler) (x0 x1 : Value) (H0 : Hp) : execF Go.Proofs.Try.prog orc R 31 Go.Proofs.Try.f31 [x0, x1] H0 = m31 R x0 x1 H0 := by kernel_rfl
noncomputable def m32 (R : Handler) (x0 x1 : Value) (H0 : Hp) : Option (Value × Hp) :=
 pBool x1 fun b1 => br b1
 (pBuild Go.Proofs.Try.prog 36 [(0, (.int .i64 1))] fun v2 =>
 pCallF R 31 [x0, v2] H0 fun r3 H4 =>
 pExtract r3 0 fun v5 =>
 pExtract r3 1 fun v6 =>
 some ((.tuple #[v5, v6]), H4))
 (pBuild Go.Proofs.Try.prog 36 [(0, (.int .i64 2))] fun v7 =>
 pCallF R 31 [x0, v7] H0 fun r8 H9 =>
 pExtract r8 0 fun v10 =>
 pExtract r8 1 fun v11 =>
 some ((.tuple #[v10, v11]), H9))
theorem e32 (R : Handler) (x0 x1 : Value) (H0 : Hp) : execF Go.Proofs.Try.prog orc R 32 Go.Proofs.Try.f32 [x0, x1] H0 = m32 R x0 x1 H0 := by kernel_rfl
noncomputable def m33 (R : Handler) (x0 x1 x2 : Value) (H0 : Hp) : Option (Value × Hp) :=
 pCallF R 51 [x1, x2] H0 fun r1 H2 =>
 pBuild Go.Proofs.Try.prog 36 [(0, (.int .i64 3)), (1, x1), (5, r1)] fun v3 =>
 pCallF R 31 [x0, v3] H2 fun r4 H5 =>
 pExtract r4 0 fun v6 =>
 pExtract r4 1 fun v7 =>
 some ((.tuple #[v6, v7]), H5)
theorem e33 (R : Handler) (x0 x1 x2 : Value) (H0 : Hp) : execF Go.Proofs.Try.prog orc R 33 Go.Proofs.Try.f33 [x0, x1, x2] H0 = m33 R x0 x1 x2 H0 := by kernel_rfl
noncomputable def m34 (R : Handler) (x0 x1 x2 : Value) (H0 : Hp) : Option (Value × Hp) :=
 pBuild Go.Proofs.Try.prog 36 [(0, (.int .i64 4)), (1, x2), (6, x1)] fun v1 =>
 pCallF R 31 [x0, v1] H0 fun r2 H3 =>
 pExtract r2 0 fun v4 =>
 pExtract r2 1 fun v5 =>
 some ((.tuple #[v4, v5]), H3)
theorem e34 (R : Handler) (x0 x1 x2 : Value) (H0 : Hp) : execF Go.Proofs.Try.prog orc R 34 Go.Proofs.Try.f34 [x0, x1, x2] H0 = m34 R x0 x1 x2 H0 := by kernel_rfl
noncomputable def m35 (R : Handler) (x0 x1 x2 : Value) (H0 : Hp) : Option (Value × Hp) :=
 pBin Go.Proofs.Try.prog .eql 3 x1 (.int .i64 5) fun v1 =>
 pBool v1 fun b2 => br b2
 (pBuild Go.Proofs.Try.prog 36 [(0, x1), (2, x2)] fun v3 =>
 pCallF R 31 [x0, v3] H0 fun r4 H5 =>
 pExtract r4 0 fun v6 =>
 pExtract r4 1 fun v7 =>
 some ((.tuple #[v6, v7]), H5))
 (pBin Go.Proofs.Try.prog .eql 3 x1 (.int .i64 15) fun v8 =>
 pBool v8 fun b9 => br b9
 (pBool v8 fun b10 => br b10
 (pCallF R 52 [x0, x2] H0 fun r11 H12 =>
 pBuild Go.Proofs.Try.prog 36 [(0, x1), (1, r11), (2, x2)] fun v13 =>
 pCallF R 31 [x0, v13] H12 fun r14 H15 =>
 pExtract r14 0 fun v16 =>
 pExtract r14 1 fun v17 =>
 some ((.tuple #[v16, v17]), H15))
 (some ((.tuple #[(.int .i64 0), (.int .i64 73)]), H0)))
 (pBin Go.Proofs.Try.prog .eql 3 x1 (.int .i64 16) fun v18 =>
 pBool v18 fun b19 => br b19
 (pCallF R 52 [x0, x2] H0 fun r20 H21 =>
 pBuild Go.Proofs.Try.prog 36 [(0, x1), (1, r20), (2, x2)] fun v22 =>
 pCallF R 31 [x0, v22] H21 fun r23 H24 =>
 pExtract r23 0 fun v25 =>
 pExtract r23 1 fun v26 =>
 some ((.tuple #[v25, v26]), H24))
 (some ((.tuple #[(.int .i64 0), (.int .i64 73)]), H0))))
theorem e35 (R : Handler) (x0 x1 x2 : Value) (H0 : Hp) : execF Go.Proofs.Try.prog orc R 35 Go.Proofs.Try.f35 [x0, x1, x2] H0 = m35 R x0 x1 x2 H0 := by kernel_rfl
noncomputable def m36 (R : Handler) (x0 x1 x2 x3 : Value) (H0 : Hp) : Option (Value × Hp) :=
 bindO (
 pBin Go.Proofs.Try.prog .geq 3 x1 (.int .i64 6) fun v1 =>
 pBool v1 fun b2 => br b2
 (pBin Go.Proofs.Try.prog .leq 3 x1 (.int .i64 13) fun v3 =>
 some (.next, [v3], H0))
 (some (.next, [(.bool false)], H0))) fun q4 l5 H6 => onCtl q4
 (pBool (l5.getD 0 undef) fun b8 => br b8
 (pBuild Go.Proofs.Try.prog 36 [(0, x1), (2, x2), (3, x3)] fun v9 =>
 pCallF R 31 [x0, v9] H6 fun r10 H11 =>
 pExtract r10 0 fun v12 =>
 pExtract r10 1 fun v13 =>
 some ((.tuple #[v12, v13]), H11))
 (bindO (
 pBin Go.Proofs.Try.prog .geq 3 x1 (.int .i64 17) fun v14 =>
 pBool v14 fun b15 => br b15
 (pBin Go.Proofs.Try.prog .leq 3 x1 (.int .i64 29) fun v16 =>
 some (.next, [v16], H6))
 (some (.next, [(.bool false)], H6))) fun q17 l18 H19 => onCtl q17
 (pBool (l18.getD 0 undef) fun b21 => br b21
 (pCallF R 52 [x0, x2] H19 fun r22 H23 =>
 pBuild Go.Proofs.Try.prog 36 [(0, x1), (1, r22), (2, x2), (3, x3)] fun v24 =>
 pCallF R 31 [x0, v24] H23 fun r25 H26 =>
 pExtract r25 0 fun v27 =>
 pExtract r25 1 fun v28 =>
 some ((.tuple #[v27, v28]), H26))
 (pBin Go.Proofs.Try.prog .eql 3 x1 (.int .i64 30) fun v29 =>
 pBool v29 fun b30 => br b30
 (pCallF R 52 [x0, x2] H19 fun r31 H32 =>
 pCallF R 52 [x0, x3] H32 fun r33 H34 =>
 pBin Go.Proofs.Try.prog .add 3 r31 r33 fun v35 =>
 pBin Go.Proofs.Try.prog .gtr 3 v35 (.int .i64 64) fun v36 =>
 pBool v36 fun b37 => br b37
 (pBuild Go.Proofs.Try.prog 36 [(0, x1), (1, (.int .i64 0)), (2, x2), (3, x3)] fun v38 =>
 pCallF R 31 [x0, v38] H34 fun r39 H40 =>
 pExtract r39 0 fun v41 =>
 pExtract r39 1 fun v42 =>
 some ((.tuple #[v41, v42]), H40))
 (pBuild Go.Proofs.Try.prog 36 [(0, x1), (1, v35), (2, x2), (3, x3)] fun v43 =>
 pCallF R 31 [x0, v43] H34 fun r44 H45 =>
 pExtract r44 0 fun v46 =>
 pExtract r44 1 fun v47 =>
 some ((.tuple #[v46, v47]), H45)))
 (some ((.tuple #[(.int .i64 0), (.int .i64 73)]), H19))))
 (fun i20 => onExit i20 0 (
 some ((.tuple #[(.int .i64 0), (.int .i64 73)]), H19)) (
 none))
 (some ((l18.headD undef), H19))))
 (fun i7 => onExit i7 0 (
 some ((.tuple #[(.int .i64 0), (.int .i64 73)]), H6)) (
 none))
 (some ((l5.headD undef), H6))
theorem e36 (R : Handler) (x0 x1 x2 x3 : Value) (H0 : Hp) : execF Go.Proofs.Try.prog orc R 36 Go.Proofs.Try.f36 [x0, x1, x2, x3] H0 = m36 R x0 x1 x2 x3 H0 := by kernel_rfl
noncomputable def m37 (R : Handler) (x0 x1 x2 x3 : Value) (H0 : Hp) : Option (Value × Hp) :=
 pCallF R 52 [x0, x2] H0 fun r1 H2 =>
 pBuild Go.Proofs.Try.prog 36 [(0, (.int .i64 14)), (1, r1), (2, x1), (3, x2), (4, x3)] fun v3 =>
 pCallF R 31 [x0, v3] H2 fun r4 H5 =>
 pExtract r4 0 fun v6 =>
 pExtract r4 1 fun v7 =>
 some ((.tuple #[v6, v7]), H5)
theorem e37 (R : Handler) (x0 x1 x2 x3 : Value) (H0 : Hp) : execF Go.Proofs.Try.prog orc R 37 Go.Proofs.Try.f37 [x0, x1, x2, x3] H0 = m37 R x0 x1 x2 x3 H0 := by kernel_rfl
noncomputable def m38 (R : Handler) (x0 x1 x2 x3 : Value) (H0 : Hp) : Option (Value × Hp) :=
 pConvInt .u64 x2 fun v1 =>
 pBuild Go.Proofs.Try.prog 36 [(0, (.int .i64 31)), (1, x3), (2, x1), (5, v1)] fun v2 =>
 pCallF R 31 [x0, v2] H0 fun r3 H4 =>
 pExtract r3 0 fun v5 =>
 pExtract r3 1 fun v6 =>
 some ((.tuple #[v5, v6]), H4)
theorem e38 (R : Handler) (x0 x1 x2 x3 : Value) (H0 : Hp) : execF Go.Proofs.Try.prog orc R 38 Go.Proofs.Try.f38 [x0, x1, x2, x3] H0 = m38 R x0 x1 x2 x3 H0 := by kernel_rfl
noncomputable def m39 (R : Handler) (x0 x1 x2 x3 : Value) (H0 : Hp) : Option (Value × Hp) :=
 pBin Go.Proofs.Try.prog .neq 3 x1 (.int .i64 32) fun v1 =>
 pBool v1 fun b2 => br b2
 (pBin Go.Proofs.Try.prog .neq 3 x1 (.int .i64 33) fun v3 =>
 pBool v3 fun b4 => br b4
 (some ((.tuple #[(.int .i64 0), (.int .i64 73)]), H0))
 (pBuild Go.Proofs.Try.prog 36 [(0, x1), (1, x3), (2, x2)] fun v5 =>
 pCallF R 31 [x0, v5] H0 fun r6 H7 =>
 pExtract r6 0 fun v8 =>
 pExtract r6 1 fun v9 =>
 some ((.tuple #[v8, v9]), H7)))
 (pBuild Go.Proofs.Try.prog 36 [(0, x1), (1, x3), (2, x2)] fun v10 =>
 pCallF R 31 [x0, v10] H0 fun r11 H12 =>
 pExtract r11 0 fun v13 =>
 pExtract r11 1 fun v14 =>
 some ((.tuple #[v13, v14]), H12))
theorem e39 (R : Handler) (x0 x1 x2 x3 : Value) (H0 : Hp) : execF Go.Proofs.Try.prog orc R 39 Go.Proofs.Try.f39 [x0, x1, x2, x3] H0 = m39 R x0 x1 x2 x3 H0 := by kernel_rfl
noncomputable def m40 (R : Handler) (x0 x1 : Value) (H0 : Hp) : Option (Value × Hp) :=
 pCallF R 19 [x0, x1] H0 fun r1 H2 =>
 pUn .not r1 fun v3 =>
 pBool v3 fun b4 => br b4
 (some ((.int .i64 (-1)), H2))
 (pNil x0 (
 pOffs 1 x0 fun p5 =>
 pLoad 1 false H2 p5 fun v6 =>
 pBin Go.Proofs.Try.prog .sub 3 x1 (.int .i64 1) fun v7 =>
 pIdx 7 v6 v7 fun p8 =>
 pOffs 1 p8 fun p9 =>
 pLoad 1 false H2 p9 fun v10 =>
 some (v10, H2)))
theorem e40 (R : Handler) (x0 x1 : Value) (H0 : Hp) : execF Go.Proofs.Try.prog orc R 40 Go.Proofs.Try.f40 [x0, x1] H0 = m40 R x0 x1 H0 := by kernel_rfl
noncomputable def m41 (R : Handler) (x0 : Value) (H0 : Hp) : Option (Value × Hp) :=
 pCell 1 false (cellsL x0) 0 fun v1 =>
 pCallF R 29 [v1] H0 fun r2 H3 =>
 pBin Go.Proofs.Try.prog .lss 3 r2 (.int .i64 1) fun v4 =>
 pBool v4 fun b5 => br b5
 (pCell 1 false (cellsL x0) 2 fun v6 =>
 pBin Go.Proofs.Try.prog .neq 3 v6 (.int .i64 0) fun v7 =>
 pBool v7 fun b8 => br b8
 (some ((.bool true), H3))
 (pBin Go.Proofs.Try.prog .lss 3 r2 (.int .i64 2) fun v9 =>
 pBool v9 fun b10 => br b10
 (pCell 1 false (cellsL x0) 3 fun v11 =>
 pBin Go.Proofs.Try.prog .neq 3 v11 (.int .i64 0) fun v12 =>
 pBool v12 fun b13 => br b13
 (some ((.bool true), H3))
 (pBin Go.Proofs.Try.prog .lss 3 r2 (.int .i64 3) fun v14 =>
 pBool v14 fun b15 => br b15
 (pCell 1 false (cellsL x0) 4 fun v16 =>
 pBin Go.Proofs.Try.prog .neq 3 v16 (.int .i64 0) fun v17 =>
 pBool v17 fun b18 => br b18
 (some ((.bool true), H3))
 (pCell 1 false (cellsL x0) 5 fun v19 =>
 pBin Go.Proofs.Try.prog .neq 34 v19 (.int .u64 0) fun v20 =>
 pBool v20 fun b21 => br b21
 (pCell 1 false (cellsL x0) 0 fun v22 =>
 pBin Go.Proofs.Try.prog .neq 3 v22 (.int .i64 3) fun v23 =>
 pBool v23 fun b24 => br b24
 (pCell 1 false (cellsL x0) 0 fun v25 =>
 pBin Go.Proofs.Try.prog .neq 3 v25 (.int .i64 31) fun v26 =>
 pBool v26 fun b27 => br b27
 (some ((.bool true), H3))
 (pCell 1 false (cellsL x0) 6 fun v28 =>
 pBin Go.Proofs.Try.prog .neq 9 v28 (.string ⟨#[]⟩) fun v29 =>
 pBool v29 fun b30 => br b30
 (pCell 1 false (cellsL x0) 0 fun v31 =>
 pBin Go.Proofs.Try.prog .neq 3 v31 (.int .i64 4) fun v32 =>
 some (v32, H3))
 (some ((.bool false), H3))))
 (pCell 1 false (cellsL x0) 6 fun v33 =>
 pBin Go.Proofs.Try.prog .neq 9 v33 (.string ⟨#[]⟩) fun v34 =>
 pBool v34 fun b35 => br b35
 (pCell 1 false (cellsL x0) 0 fun v36 =>
 pBin Go.Proofs.Try.prog .neq 3 v36 (.int .i64 4) fun v37 =>
 some (v37, H3))
 (some ((.bool false), H3))))
 (pCell 1 false (cellsL x0) 6 fun v38 =>
 pBin Go.Proofs.Try.prog .neq 9 v38 (.string ⟨#[]⟩) fun v39 =>
 pBool v39 fun b40 => br b40
 (pCell 1 false (cellsL x0) 0 fun v41 =>
 pBin Go.Proofs.Try.prog .neq 3 v41 (.int .i64 4) fun v42 =>
 some (v42, H3))
 (some ((.bool false), H3)))))
 (pCell 1 false (cellsL x0) 5 fun v43 =>
 pBin Go.Proofs.Try.prog .neq 34 v43 (.int .u64 0) fun v44 =>
 pBool v44 fun b45 => br b45
 (pCell 1 false (cellsL x0) 0 fun v46 =>
 pBin Go.Proofs.Try.prog .neq 3 v46 (.int .i64 3) fun v47 =>
 pBool v47 fun b48 => br b48
 (pCell 1 false (cellsL x0) 0 fun v49 =>
 pBin Go.Proofs.Try.prog .neq 3 v49 (.int .i64 31) fun v50 =>
 pBool v50 fun b51 => br b51
 (some ((.bool true), H3))
 (pCell 1 false (cellsL x0) 6 fun v52 =>
 pBin Go.Proofs.Try.prog .neq 9 v52 (.string ⟨#[]⟩) fun v53 =>
 pBool v53 fun b54 => br b54
 (pCell 1 false (cellsL x0) 0 fun v55 =>
 pBin Go.Proofs.Try.prog .neq 3 v55 (.int .i64 4) fun v56 =>
 some (v56, H3))
 (some ((.bool false), H3))))
 (pCell 1 false (cellsL x0) 6 fun v57 =>
 pBin Go.Proofs.Try.prog .neq 9 v57 (.string ⟨#[]⟩) fun v58 =>
 pBool v58 fun b59 => br b59
 (pCell 1 false (cellsL x0) 0 fun v60 =>
 pBin Go.Proofs.Try.prog .neq 3 v60 (.int .i64 4) fun v61 =>
 some (v61, H3))
 (some ((.bool false), H3))))
 (pCell 1 false (cellsL x0) 6 fun v62 =>
 pBin Go.Proofs.Try.prog .neq 9 v62 (.string ⟨#[]⟩) fun v63 =>
 pBool v63 fun b64 => br b64
 (pCell 1 false (cellsL x0) 0 fun v65 =>
 pBin Go.Proofs.Try.prog .neq 3 v65 (.int .i64 4) fun v66 =>
 some (v66, H3))
 (some ((.bool false), H3))))))
 (pBin Go.Proofs.Try.prog .lss 3 r2 (.int .i64 3) fun v67 =>
 pBool v67 fun b68 => br b68
 (pCell 1 false (cellsL x0) 4 fun v69 =>
 pBin Go.Proofs.Try.prog .neq 3 v69 (.int .i64 0) fun v70 =>
 pBool v70 fun b71 => br b71
 (some ((.bool true), H3))
 (pCell 1 false (cellsL x0) 5 fun v72 =>
 pBin Go.Proofs.Try.prog .neq 34 v72 (.int .u64 0) fun v73 =>
 pBool v73 fun b74 => br b74
 (pCell 1 false (cellsL x0) 0 fun v75 =>
 pBin Go.Proofs.Try.prog .neq 3 v75 (.int .i64 3) fun v76 =>
 pBool v76 fun b77 => br b77
 (pCell 1 false (cellsL x0) 0 fun v78 =>
 pBin Go.Proofs.Try.prog .neq 3 v78 (.int .i64 31) fun v79 =>
 pBool v79 fun b80 => br b80
 (some ((.bool true), H3))
 (pCell 1 false (cellsL x0) 6 fun v81 =>
 pBin Go.Proofs.Try.prog .neq 9 v81 (.string ⟨#[]⟩) fun v82 =>
 pBool v82 fun b83 => br b83
 (pCell 1 false (cellsL x0) 0 fun v84 =>
 pBin Go.Proofs.Try.prog .neq 3 v84 (.int .i64 4) fun v85 =>
 some (v85, H3))
 (some ((.bool false), H3))))
 (pCell 1 false (cellsL x0) 6 fun v86 =>
 pBin Go.Proofs.Try.prog .neq 9 v86 (.string ⟨#[]⟩) fun v87 =>
 pBool v87 fun b88 => br b88
 (pCell 1 false (cellsL x0) 0 fun v89 =>
 pBin Go.Proofs.Try.prog .neq 3 v89 (.int .i64 4) fun v90 =>
 some (v90, H3))
 (some ((.bool false), H3))))
 (pCell 1 false (cellsL x0) 6 fun v91 =>
 pBin Go.Proofs.Try.prog .neq 9 v91 (.string ⟨#[]⟩) fun v92 =>
 pBool v92 fun b93 => br b93
 (pCell 1 false (cellsL x0) 0 fun v94 =>
 pBin Go.Proofs.Try.prog .neq 3 v94 (.int .i64 4) fun v95 =>
 some (v95, H3))
 (some ((.bool false), H3)))))
 (pCell 1 false (cellsL x0) 5 fun v96 =>
 pBin Go.Proofs.Try.prog .neq 34 v96 (.int .u64 0) fun v97 =>
 pBool v97 fun b98 => br b98
 (pCell 1 false (cellsL x0) 0 fun v99 =>
 pBin Go.Proofs.Try.prog .neq 3 v99 (.int .i64 3) fun v100 =>
 pBool v100 fun b101 => br b101
 (pCell 1 false (cellsL x0) 0 fun v102 =>
 pBin Go.Proofs.Try.prog .neq 3 v102 (.int .i64 31) fun v103 =>
 pBool v103 fun b104 => br b104
 (some ((.bool true), H3))
 (pCell 1 false (cellsL x0) 6 fun v105 =>
 pBin Go.Proofs.Try.prog .neq 9 v105 (.string ⟨#[]⟩) fun v106 =>
 pBool v106 fun b107 => br b107
 (pCell 1 false (cellsL x0) 0 fun v108 =>
 pBin Go.Proofs.Try.prog .neq 3 v108 (.int .i64 4) fun v109 =>
 some (v109, H3))
 (some ((.bool false), H3))))
 (pCell 1 false (cellsL x0) 6 fun v110 =>
 pBin Go.Proofs.Try.prog .neq 9 v110 (.string ⟨#[]⟩) fun v111 =>
 pBool v111 fun b112 => br b112
 (pCell 1 false (cellsL x0) 0 fun v113 =>
 pBin Go.Proofs.Try.prog .neq 3 v113 (.int .i64 4) fun v114 =>
 some (v114, H3))
 (some ((.bool false), H3))))
 (pCell 1 false (cellsL x0) 6 fun v115 =>
 pBin Go.Proofs.Try.prog .neq 9 v115 (.string ⟨#[]⟩) fun v116 =>
 pBool v116 fun b117 => br b117
 (pCell 1 false (cellsL x0) 0 fun v118 =>
 pBin Go.Proofs.Try.prog .neq 3 v118 (.int .i64 4) fun v119 =>
 some (v119, H3))
 (some ((.bool false), H3)))))))
 (pBin Go.Proofs.Try.prog .lss 3 r2 (.int .i64 2) fun v120 =>
 pBool v120 fun b121 => br b121
 (pCell 1 false (cellsL x0) 3 fun v122 =>
 pBin Go.Proofs.Try.prog .neq 3 v122 (.int .i64 0) fun v123 =>
 pBool v123 fun b124 => br b124
 (some ((.bool true), H3))
 (pBin Go.Proofs.Try.prog .lss 3 r2 (.int .i64 3) fun v125 =>
 pBool v125 fun b126 => br b126
 (pCell 1 false (cellsL x0) 4 fun v127 =>
 pBin Go.Proofs.Try.prog .neq 3 v127 (.int .i64 0) fun v128 =>
 pBool v128 fun b129 => br b129
 (some ((.bool true), H3))
 (pCell 1 false (cellsL x0) 5 fun v130 =>
 pBin Go.Proofs.Try.prog .neq 34 v130 (.int .u64 0) fun v131 =>
 pBool v131 fun b132 => br b132
 (pCell 1 false (cellsL x0) 0 fun v133 =>
 pBin Go.Proofs.Try.prog .neq 3 v133 (.int .i64 3) fun v134 =>
 pBool v134 fun b135 => br b135
 (pCell 1 false (cellsL x0) 0 fun v136 =>
 pBin Go.Proofs.Try.prog .neq 3 v136 (.int .i64 31) fun v137 =>
 pBool v137 fun b138 => br b138
 (some ((.bool true), H3))
 (pCell 1 false (cellsL x0) 6 fun v139 =>
 pBin Go.Proofs.Try.prog .neq 9 v139 (.string ⟨#[]⟩) fun v140 =>
 pBool v140 fun b141 => br b141
 (pCell 1 false (cellsL x0) 0 fun v142 =>
 pBin Go.Proofs.Try.prog .neq 3 v142 (.int .i64 4) fun v143 =>
 some (v143, H3))
 (some ((.bool false), H3))))
 (pCell 1 false (cellsL x0) 6 fun v144 =>
 pBin Go.Proofs.Try.prog .neq 9 v144 (.string ⟨#[]⟩) fun v145 =>
 pBool v145 fun b146 => br b146
 (pCell 1 false (cellsL x0) 0 fun v147 =>
 pBin Go.Proofs.Try.prog .neq 3 v147 (.int .i64 4) fun v148 =>
 some (v148, H3))
 (some ((.bool false), H3))))
 (pCell 1 false (cellsL x0) 6 fun v149 =>
 pBin Go.Proofs.Try.prog .neq 9 v149 (.string ⟨#[]⟩) fun v150 =>
 pBool v150 fun b151 => br b151
 (pCell 1 false (cellsL x0) 0 fun v152 =>
 pBin Go.Proofs.Try.prog .neq 3 v152 (.int .i64 4) fun v153 =>
 some (v153, H3))
 (some ((.bool false), H3)))))
 (pCell 1 false (cellsL x0) 5 fun v154 =>
 pBin Go.Proofs.Try.prog .neq 34 v154 (.int .u64 0) fun v155 =>
 pBool v155 fun b156 => br b156
 (pCell 1 false (cellsL x0) 0 fun v157 =>
 pBin Go.Proofs.Try.prog .neq 3 v157 (.int .i64 3) fun v158 =>
 pBool v158 fun b159 => br b159
 (pCell 1 false (cellsL x0) 0 fun v160 =>
 pBin Go.Proofs.Try.prog .neq 3 v160 (.int .i64 31) fun v161 =>
 pBool v161 fun b162 => br b162
 (some ((.bool true), H3))
 (pCell 1 false (cellsL x0) 6 fun v163 =>
 pBin Go.Proofs.Try.prog .neq 9 v163 (.string ⟨#[]⟩) fun v164 =>
 pBool v164 fun b165 => br b165
 (pCell 1 false (cellsL x0) 0 fun v166 =>
 pBin Go.Proofs.Try.prog .neq 3 v166 (.int .i64 4) fun v167 =>
 some (v167, H3))
 (some ((.bool false), H3))))
 (pCell 1 false (cellsL x0) 6 fun v168 =>
 pBin Go.Proofs.Try.prog .neq 9 v168 (.string ⟨#[]⟩) fun v169 =>
 pBool v169 fun b170 => br b170
 (pCell 1 false (cellsL x0) 0 fun v171 =>
 pBin Go.Proofs.Try.prog .neq 3 v171 (.int .i64 4) fun v172 =>
 some (v172, H3))
 (some ((.bool false), H3))))
 (pCell 1 false (cellsL x0) 6 fun v173 =>
 pBin Go.Proofs.Try.prog .neq 9 v173 (.string ⟨#[]⟩) fun v174 =>
 pBool v174 fun b175 => br b175
 (pCell 1 false (cellsL x0) 0 fun v176 =>
 pBin Go.Proofs.Try.prog .neq 3 v176 (.int .i64 4) fun v177 =>
 some (v177, H3))
 (some ((.bool false), H3))))))
 (pBin Go.Proofs.Try.prog .lss 3 r2 (.int .i64 3) fun v178 =>
 pBool v178 fun b179 => br b179
 (pCell 1 false (cellsL x0) 4 fun v180 =>
 pBin Go.Proofs.Try.prog .neq 3 v180 (.int .i64 0) fun v181 =>
 pBool v181 fun b182 => br b182
 (some ((.bool true), H3))
 (pCell 1 false (cellsL x0) 5 fun v183 =>
 pBin Go.Proofs.Try.prog .neq 34 v183 (.int .u64 0) fun v184 =>
 pBool v184 fun b185 => br b185
 (pCell 1 false (cellsL x0) 0 fun v186 =>
 pBin Go.Proofs.Try.prog .neq 3 v186 (.int .i64 3) fun v187 =>
 pBool v187 fun b188 => br b188
 (pCell 1 false (cellsL x0) 0 fun v189 =>
 pBin Go.Proofs.Try.prog .neq 3 v189 (.int .i64 31) fun v190 =>
 pBool v190 fun b191 => br b191
 (some ((.bool true), H3))
 (pCell 1 false (cellsL x0) 6 fun v192 =>
 pBin Go.Proofs.Try.prog .neq 9 v192 (.string ⟨#[]⟩) fun v193 =>
 pBool v193 fun b194 => br b194
 (pCell 1 false (cellsL x0) 0 fun v195 =>
 pBin Go.Proofs.Try.prog .neq 3 v195 (.int .i64 4) fun v196 =>
 some (v196, H3))
 (some ((.bool false), H3))))
 (pCell 1 false (cellsL x0) 6 fun v197 =>
 pBin Go.Proofs.Try.prog .neq 9 v197 (.string ⟨#[]⟩) fun v198 =>
 pBool v198 fun b199 => br b199
 (pCell 1 false (cellsL x0) 0 fun v200 =>
 pBin Go.Proofs.Try.prog .neq 3 v200 (.int .i64 4) fun v201 =>
 some (v201, H3))
 (some ((.bool false), H3))))
 (pCell 1 false (cellsL x0) 6 fun v202 =>
 pBin Go.Proofs.Try.prog .neq 9 v202 (.string ⟨#[]⟩) fun v203 =>
 pBool v203 fun b204 => br b204
 (pCell 1 false (cellsL x0) 0 fun v205 =>
 pBin Go.Proofs.Try.prog .neq 3 v205 (.int .i64 4) fun v206 =>
 some (v206, H3))
 (some ((.bool false), H3)))))
 (pCell 1 false (cellsL x0) 5 fun v207 =>
 pBin Go.Proofs.Try.prog .neq 34 v207 (.int .u64 0) fun v208 =>
 pBool v208 fun b209 => br b209
 (pCell 1 false (cellsL x0) 0 fun v210 =>
 pBin Go.Proofs.Try.prog .neq 3 v210 (.int .i64 3) fun v211 =>
 pBool v211 fun b212 => br b212
 (pCell 1 false (cellsL x0) 0 fun v213 =>
 pBin Go.Proofs.Try.prog .neq 3 v213 (.int .i64 31) fun v214 =>
 pBool v214 fun b215 => br b215
 (some ((.bool true), H3))
 (pCell 1 false (cellsL x0) 6 fun v216 =>
 pBin Go.Proofs.Try.prog .neq 9 v216 (.string ⟨#[]⟩) fun v217 =>
 pBool v217 fun b218 => br b218
 (pCell 1 false (cellsL x0) 0 fun v219 =>
 pBin Go.Proofs.Try.prog .neq 3 v219 (.int .i64 4) fun v220 =>
 some (v220, H3))
 (some ((.bool false), H3))))
 (pCell 1 false (cellsL x0) 6 fun v221 =>
 pBin Go.Proofs.Try.prog .neq 9 v221 (.string ⟨#[]⟩) fun v222 =>
 pBool v222 fun b223 => br b223
 (pCell 1 false (cellsL x0) 0 fun v224 =>
 pBin Go.Proofs.Try.prog .neq 3 v224 (.int .i64 4) fun v225 =>
 some (v225, H3))
 (some ((.bool false), H3))))
 (pCell 1 false (cellsL x0) 6 fun v226 =>
 pBin Go.Proofs.Try.prog .neq 9 v226 (.string ⟨#[]⟩) fun v227 =>
 pBool v227 fun b228 => br b228
 (pCell 1 false (cellsL x0) 0 fun v229 =>
 pBin Go.Proofs.Try.prog .neq 3 v229 (.int .i64 4) fun v230 =>
 some (v230, H3))
 (some ((.bool false), H3))))))
theorem e41 (R : Handler) (x0 : Value) (H0 : Hp) : execF Go.Proofs.Try.prog orc R 41 Go.Proofs.Try.f41 [x0] H0 = m41 R x0 H0 := by kernel_rfl
noncomputable def m42 (R : Handler) (x0 x1 : Value) (H0 : Hp) : Option (Value × Hp) :=
 pCell 1 false (cellsL x1) 2 fun v1 =>
 pCallF R 40 [x0, v1] H0 fun r2 H3 =>
 pCell 1 false (cellsL x1) 3 fun v4 =>
 pCallF R 40 [x0, v4] H3 fun r5 H6 =>
 pCell 1 false (cellsL x1) 0 fun v7 =>
 pCallF R 29 [v7] H6 fun r8 H9 =>
 pBin Go.Proofs.Try.prog .eql 3 r8 (.int .i64 0) fun v10 =>
 pBool v10 fun b11 => br b11
 (some ((.bool true), H9))
 (pBin Go.Proofs.Try.prog .eql 3 v7 (.int .i64 5) fun v12 =>
 pBool v12 fun b13 => br b13
 (pBin Go.Proofs.Try.prog .eql 3 r2 (.int .i64 0) fun v14 =>
 some (v14, H9))
 (bindO (
 pBin Go.Proofs.Try.prog .eql 3 v7 (.int .i64 6) fun v15 =>
 pBool v15 fun b16 => br b16
 (some (.next, [(.bool true)], H9))
 (pBin Go.Proofs.Try.prog .eql 3 v7 (.int .i64 7) fun v17 =>
 pBool v17 fun b18 => br b18
 (some (.next, [(.bool true)], H9))
 (pBin Go.Proofs.Try.prog .eql 3 v7 (.int .i64 8) fun v19 =>
 some (.next, [v19], H9)))) fun q20 l21 H22 => onCtl q20
 (pBool (l21.getD 0 undef) fun b24 => br b24
 (pBin Go.Proofs.Try.prog .eql 3 r2 (.int .i64 0) fun v25 =>
 pBool v25 fun b26 => br b26
 (pBin Go.Proofs.Try.prog .eql 3 r5 (.int .i64 0) fun v27 =>
 some (v27, H22))
 (some ((.bool false), H22)))
 (pBin Go.Proofs.Try.prog .eql 3 v7 (.int .i64 9) fun v28 =>
 pBool v28 fun b29 => br b29
 (pBin Go.Proofs.Try.prog .eql 3 r2 r5 fun v30 =>
 some (v30, H22))
 (pBin Go.Proofs.Try.prog .eql 3 v7 (.int .i64 14) fun v31 =>
 pBool v31 fun b32 => br b32
 (pBin Go.Proofs.Try.prog .eql 3 r2 (.int .i64 0) fun v33 =>
 pBool v33 fun b34 => br b34
 (pCell 1 false (cellsL x1) 4 fun v35 =>
 pCallF R 40 [x0, v35] H22 fun r36 H37 =>
 pBin Go.Proofs.Try.prog .eql 3 r5 r36 fun v38 =>
 some (v38, H37))
 (some ((.bool false), H22)))
 (pBin Go.Proofs.Try.prog .eql 3 v7 (.int .i64 30) fun v39 =>
 pBool v39 fun b40 => br b40
 (pBin Go.Proofs.Try.prog .gtr 3 r2 (.int .i64 0) fun v41 =>
 pBool v41 fun b42 => br b42
 (pBin Go.Proofs.Try.prog .gtr 3 r5 (.int .i64 0) fun v43 =>
 some (v43, H22))
 (some ((.bool false), H22)))
 (pCallF R 29 [v7] H22 fun r44 H45 =>
 pBin Go.Proofs.Try.prog .eql 3 r44 (.int .i64 1) fun v46 =>
 pBool v46 fun b47 => br b47
 (pBin Go.Proofs.Try.prog .gtr 3 r2 (.int .i64 0) fun v48 =>
 some (v48, H45))
 (pBin Go.Proofs.Try.prog .gtr 3 r2 (.int .i64 0) fun v49 =>
 pBool v49 fun b50 => br b50
 (pBin Go.Proofs.Try.prog .eql 3 r2 r5 fun v51 =>
 some (v51, H45))
 (some ((.bool false), H45))))))))
 (fun i23 => onExit i23 0 (
 pBin Go.Proofs.Try.prog .gtr 3 r2 (.int .i64 0) fun v52 =>
 pBool v52 fun b53 => br b53
 (pBin Go.Proofs.Try.prog .eql 3 r2 r5 fun v54 =>
 some (v54, H22))
 (some ((.bool false), H22))) (
 none))
 (some ((l21.headD undef), H22))))
theorem e42 (R : Handler) (x0 x1 : Value) (H0 : Hp) : execF Go.Proofs.Try.prog orc R 42 Go.Proofs.Try.f42 [x0, x1] H0 = m42 R x0 x1 H0 := by kernel_rfl
noncomputable def m43 (R : Handler) (x0 x1 : Value) (H0 : Hp) : Option (Value × Hp) :=
 pCell 1 false (cellsL x1) 2 fun v1 =>
 pCallF R 40 [x0, v1] H0 fun r2 H3 =>
 pCell 1 false (cellsL x1) 0 fun v4 =>
 bindO (
 pBin Go.Proofs.Try.prog .eql 3 v4 (.int .i64 1) fun v5 =>
 pBool v5 fun b6 => br b6
 (some (.next, [(.bool true)], H3))
 (pBin Go.Proofs.Try.prog .eql 3 v4 (.int .i64 2) fun v7 =>
 pBool v7 fun b8 => br b8
 (some (.next, [(.bool true)], H3))
 (pBin Go.Proofs.Try.prog .geq 3 v4 (.int .i64 5) fun v9 =>
 pBool v9 fun b10 => br b10
 (pBin Go.Proofs.Try.prog .leq 3 v4 (.int .i64 13) fun v11 =>
 some (.next, [v11], H3))
 (some (.next, [(.bool false)], H3))))) fun q12 l13 H14 => onCtl q12
 (pBool (l13.getD 0 undef) fun b16 => br b16
 (pCell 1 false (cellsL x1) 1 fun v17 =>
 pBin Go.Proofs.Try.prog .eql 3 v17 (.int .i64 0) fun v18 =>
 some (v18, H14))
 (pBin Go.Proofs.Try.prog .eql 3 v4 (.int .i64 3) fun v19 =>
 pBool v19 fun b20 => br b20
 (pCell 1 false (cellsL x1) 1 fun v21 =>
 pBin Go.Proofs.Try.prog .gtr 3 v21 (.int .i64 0) fun v22 =>
 pBool v22 fun b23 => br b23
 (pCell 1 false (cellsL x1) 1 fun v24 =>
 pCell 1 false (cellsL x1) 5 fun v25 =>
 pCallF R 45 [v24, v25] H14 fun r26 H27 =>
 pCell 1 false (cellsL x1) 5 fun v28 =>
 pBin Go.Proofs.Try.prog .eql 34 r26 v28 fun v29 =>
 some (v29, H27))
 (some ((.bool false), H14)))
 (pBin Go.Proofs.Try.prog .eql 3 v4 (.int .i64 4) fun v30 =>
 pBool v30 fun b31 => br b31
 (some ((.bool true), H14))
 (pBin Go.Proofs.Try.prog .eql 3 v4 (.int .i64 14) fun v32 =>
 pBool v32 fun b33 => br b33
 (pCell 1 false (cellsL x1) 1 fun v34 =>
 pCell 1 false (cellsL x1) 3 fun v35 =>
 pCallF R 40 [x0, v35] H14 fun r36 H37 =>
 pBin Go.Proofs.Try.prog .eql 3 v34 r36 fun v38 =>
 some (v38, H37))
 (bindO (
 pBin Go.Proofs.Try.prog .geq 3 v4 (.int .i64 25) fun v39 =>
 pBool v39 fun b40 => br b40
 (pBin Go.Proofs.Try.prog .leq 3 v4 (.int .i64 29) fun v41 =>
 some (.next, [v41], H14))
 (some (.next, [(.bool false)], H14))) fun q42 l43 H44 => onCtl q42
 (pBool (l43.getD 0 undef) fun b46 => br b46
 (pCell 1 false (cellsL x1) 1 fun v47 =>
 pBin Go.Proofs.Try.prog .eql 3 v47 r2 fun v48 =>
 pBool v48 fun b49 => br b49
 (pConvInt .u64 r2 fun v50 =>
 pCallF R 53 [v50] H44 fun r51 H52 =>
 pBin Go.Proofs.Try.prog .eql 3 r51 (.int .i64 1) fun v53 =>
 some (v53, H52))
 (some ((.bool false), H44)))
 (pBin Go.Proofs.Try.prog .eql 3 v4 (.int .i64 30) fun v54 =>
 pBool v54 fun b55 => br b55
 (pCell 1 false (cellsL x1) 1 fun v56 =>
 pCell 1 false (cellsL x1) 3 fun v57 =>
 pCallF R 40 [x0, v57] H44 fun r58 H59 =>
 pBin Go.Proofs.Try.prog .add 3 r2 r58 fun v60 =>
 pBin Go.Proofs.Try.prog .eql 3 v56 v60 fun v61 =>
 some (v61, H59))
 (pBin Go.Proofs.Try.prog .eql 3 v4 (.int .i64 31) fun v62 =>
 pBool v62 fun b63 => br b63
 (pCell 1 false (cellsL x1) 1 fun v64 =>
 pBin Go.Proofs.Try.prog .geq 3 v64 (.int .i64 1) fun v65 =>
 pBool v65 fun b66 => br b66
 (pCell 1 false (cellsL x1) 1 fun v67 =>
 pBin Go.Proofs.Try.prog .leq 3 v67 r2 fun v68 =>
 pBool v68 fun b69 => br b69
 (pCell 1 false (cellsL x1) 5 fun v70 =>
 pCell 1 false (cellsL x1) 1 fun v71 =>
 pBin Go.Proofs.Try.prog .sub 3 r2 v71 fun v72 =>
 pConvInt .u64 v72 fun v73 =>
 pBin Go.Proofs.Try.prog .leq 34 v70 v73 fun v74 =>
 some (v74, H44))
 (some ((.bool false), H44)))
 (some ((.bool false), H44)))
 (pBin Go.Proofs.Try.prog .eql 3 v4 (.int .i64 32) fun v75 =>
 pBool v75 fun b76 => br b76
 (pCell 1 false (cellsL x1) 1 fun v77 =>
 pBin Go.Proofs.Try.prog .geq 3 v77 r2 fun v78 =>
 some (v78, H44))
 (pBin Go.Proofs.Try.prog .eql 3 v4 (.int .i64 33) fun v79 =>
 pBool v79 fun b80 => br b80
 (pCell 1 false (cellsL x1) 1 fun v81 =>
 pBin Go.Proofs.Try.prog .geq 3 v81 r2 fun v82 =>
 some (v82, H44))
 (pCell 1 false (cellsL x1) 1 fun v83 =>
 pBin Go.Proofs.Try.prog .eql 3 v83 r2 fun v84 =>
 some (v84, H44)))))))
 (fun i45 => onExit i45 0 (
 pCell 1 false (cellsL x1) 1 fun v85 =>
 pBin Go.Proofs.Try.prog .eql 3 v85 r2 fun v86 =>
 some (v86, H44)) (
 none))
 (some ((l43.headD undef), H44)))))))
 (fun i15 => onExit i15 0 (
 pCell 1 false (cellsL x1) 1 fun v87 =>
 pBin Go.Proofs.Try.prog .eql 3 v87 r2 fun v88 =>
 some (v88, H14)) (
 none))
 (some ((l13.headD undef), H14))
theorem e43 (R : Handler) (x0 x1 : Value) (H0 : Hp) : execF Go.Proofs.Try.prog orc R 43 Go.Proofs.Try.f43 [x0, x1] H0 = m43 R x0 x1 H0 := by kernel_rfl
noncomputable def m44 (R : Handler) (x0 : Value) (H0 : Hp) : Option (Value × Hp) :=
 bindO (
 pLen .str x0 H0 fun v1 =>
 pBin Go.Proofs.Try.prog .lss 3 v1 (.int .i64 1) fun v2 =>
 pBool v2 fun b3 => br b3
 (some (.ret, [(.bool false)], H0))
 (pLen .str x0 H0 fun v4 =>
 pBin Go.Proofs.Try.prog .gtr 3 v4 (.int .i64 24) fun v5 =>
 pBool v5 fun b6 => br b6
 (some (.ret, [(.bool false)], H0))
 (some (.next, [], H0)))) fun q7 l8 H9 => onCtl q7
 (pStrC x0 fun s11 =>
 bindO (loopD (fun l12 H13 =>
 br (Nat.blt (posOf ((l12.drop 0).getD 0 undef)) (strOf ((l12.drop 0).getD 0 undef)).size)
 (bindO (
 pBin Go.Proofs.Try.prog .geq 21 (.int .i32 (Utf8.decode (strOf ((l12.drop 0).getD 0 undef)) (posOf ((l12.drop 0).getD 0 undef))).1) (.int .i32 97) fun v14 =>
 pBool v14 fun b15 => br b15
 (pBin Go.Proofs.Try.prog .leq 21 (.int .i32 (Utf8.decode (strOf ((l12.drop 0).getD 0 undef)) (posOf ((l12.drop 0).getD 0 undef))).1) (.int .i32 122) fun v16 =>
 pBool v16 fun b17 => br b17
 (some (.next, [(.bool true)], H13))
 (pBin Go.Proofs.Try.prog .geq 21 (.int .i32 (Utf8.decode (strOf ((l12.drop 0).getD 0 undef)) (posOf ((l12.drop 0).getD 0 undef))).1) (.int .i32 65) fun v18 =>
 pBool v18 fun b19 => br b19
 (pBin Go.Proofs.Try.prog .leq 21 (.int .i32 (Utf8.decode (strOf ((l12.drop 0).getD 0 undef)) (posOf ((l12.drop 0).getD 0 undef))).1) (.int .i32 90) fun v20 =>
 pBool v20 fun b21 => br b21
 (some (.next, [(.bool true)], H13))
 (pBin Go.Proofs.Try.prog .eql 21 (.int .i32 (Utf8.decode (strOf ((l12.drop 0).getD 0 undef)) (posOf ((l12.drop 0).getD 0 undef))).1) (.int .i32 95) fun v22 =>
 some (.next, [v22], H13)))
 (pBin Go.Proofs.Try.prog .eql 21 (.int .i32 (Utf8.decode (strOf ((l12.drop 0).getD 0 undef)) (posOf ((l12.drop 0).getD 0 undef))).1) (.int .i32 95) fun v23 =>
 some (.next, [v23], H13))))
 (pBin Go.Proofs.Try.prog .geq 21 (.int .i32 (Utf8.decode (strOf ((l12.drop 0).getD 0 undef)) (posOf ((l12.drop 0).getD 0 undef))).1) (.int .i32 65) fun v24 =>
 pBool v24 fun b25 => br b25
 (pBin Go.Proofs.Try.prog .leq 21 (.int .i32 (Utf8.decode (strOf ((l12.drop 0).getD 0 undef)) (posOf ((l12.drop 0).getD 0 undef))).1) (.int .i32 90) fun v26 =>
 pBool v26 fun b27 => br b27
 (some (.next, [(.bool true)], H13))
 (pBin Go.Proofs.Try.prog .eql 21 (.int .i32 (Utf8.decode (strOf ((l12.drop 0).getD 0 undef)) (posOf ((l12.drop 0).getD 0 undef))).1) (.int .i32 95) fun v28 =>
 some (.next, [v28], H13)))
 (pBin Go.Proofs.Try.prog .eql 21 (.int .i32 (Utf8.decode (strOf ((l12.drop 0).getD 0 undef)) (posOf ((l12.drop 0).getD 0 undef))).1) (.int .i32 95) fun v29 =>
 some (.next, [v29], H13)))) fun q30 l31 H32 => onCtl q30
 (pUn .not (l31.getD 0 undef) fun v34 =>
 pBool v34 fun b35 => br b35
 (pBin Go.Proofs.Try.prog .eql 3 (.int .i64 ((posOf ((l12.drop 0).getD 0 undef)) : Nat)) (.int .i64 0) fun v36 =>
 pBool v36 fun b37 => br b37
 (some (.ret, [(.bool false)], H32))
 (pBin Go.Proofs.Try.prog .lss 21 (.int .i32 (Utf8.decode (strOf ((l12.drop 0).getD 0 undef)) (posOf ((l12.drop 0).getD 0 undef))).1) (.int .i32 48) fun v38 =>
 pBool v38 fun b39 => br b39
 (some (.ret, [(.bool false)], H32))
 (pBin Go.Proofs.Try.prog .gtr 21 (.int .i32 (Utf8.decode (strOf ((l12.drop 0).getD 0 undef)) (posOf ((l12.drop 0).getD 0 undef))).1) (.int .i32 57) fun v40 =>
 pBool v40 fun b41 => br b41
 (some (.ret, [(.bool false)], H32))
 (some (.next, [(.tuple #[.string (strOf ((l12.drop 0).getD 0 undef)), .int .i64 (((posOf ((l12.drop 0).getD 0 undef)) + (Utf8.decode (strOf ((l12.drop 0).getD 0 undef)) (posOf ((l12.drop 0).getD 0 undef))).2) : Nat)])], H32)))))
 (some (.next, [(.tuple #[.string (strOf ((l12.drop 0).getD 0 undef)), .int .i64 (((posOf ((l12.drop 0).getD 0 undef)) + (Utf8.decode (strOf ((l12.drop 0).getD 0 undef)) (posOf ((l12.drop 0).getD 0 undef))).2) : Nat)])], H32)))
 (fun i33 => onExit i33 1 (
 some (.next, [(.tuple #[.string (strOf ((l12.drop 0).getD 0 undef)), .int .i64 (((posOf ((l12.drop 0).getD 0 undef)) + (Utf8.decode (strOf ((l12.drop 0).getD 0 undef)) (posOf ((l12.drop 0).getD 0 undef))).2) : Nat)])], H32)) (
 some (.exit i33, [(.tuple #[.string (strOf ((l12.drop 0).getD 0 undef)), .int .i64 (((posOf ((l12.drop 0).getD 0 undef)) + (Utf8.decode (strOf ((l12.drop 0).getD 0 undef)) (posOf ((l12.drop 0).getD 0 undef))).2) : Nat)])], H32)))
 (some (.ret, [(l31.headD undef)], H32)))
 (some (.exit 0, [(.tuple #[.string (strOf ((l12.drop 0).getD 0 undef)), .int .i64 ((posOf ((l12.drop 0).getD 0 undef)) : Nat)])], H13))) [(.tuple #[.string s11, .int .i64 (0 : Nat)])] H9) fun q42 l43 H44 => onCtl q42 none
 (fun i45 => onExit i45 0 (
 some ((.bool true), H44)) (
 none))
 (some ((l43.headD undef), H44)))
 (fun i10 => none)
 (some ((l8.headD undef), H9))
theorem e44 (R : Handler) (x0 : Value) (H0 : Hp) : execF Go.Proofs.Try.prog orc R 44 Go.Proofs.Try.f44 [x0] H0 = m44 R x0 H0 := by kernel_rfl
noncomputable def m45 (R : Handler) (x0 x1 : Value) (H0 : Hp) : Option (Value × Hp) :=
 pBin Go.Proofs.Try.prog .lss 3 x0 (.int .i64 1) fun v1 =>
 pBool v1 fun b2 => br b2
 (some ((.int .u64 0), H0))
 (pBin Go.Proofs.Try.prog .geq 3 x0 (.int .i64 64) fun v3 =>
 pBool v3 fun b4 => br b4
 (some (x1, H0))
 (pConvInt .u64 x0 fun v5 =>
 pBin Go.Proofs.Try.prog .shl 34 (.int .u64 1) v5 fun v6 =>
 pBin Go.Proofs.Try.prog .sub 34 v6 (.int .u64 1) fun v7 =>
 pBin Go.Proofs.Try.prog .and 34 x1 v7 fun v8 =>
 some (v8, H0)))
theorem e45 (R : Handler) (x0 x1 : Value) (H0 : Hp) : execF Go.Proofs.Try.prog orc R 45 Go.Proofs.Try.f45 [x0, x1] H0 = m45 R x0 x1 H0 := by kernel_rfl
noncomputable def m46 (R : Handler) (x0 : Value) (H0 : Hp) : Option (Value × Hp) :=
 bindO (
 pBin Go.Proofs.Try.prog .lss 3 x0 (.int .i64 1) fun v1 =>
 pBool v1 fun b2 => br b2
 (some (.next, [(.bool true)], H0))
 (pBin Go.Proofs.Try.prog .gtr 3 x0 (.int .i64 33) fun v3 =>
 some (.next, [v3], H0))) fun q4 l5 H6 => onCtl q4
 (pBool (l5.getD 0 undef) fun b8 => br b8
 (some ((.int .i64 (-1)), H6))
 (pBin Go.Proofs.Try.prog .leq 3 x0 (.int .i64 4) fun v9 =>
 pBool v9 fun b10 => br b10
 (some ((.int .i64 0), H6))
 (pBin Go.Proofs.Try.prog .eql 3 x0 (.int .i64 5) fun v11 =>
 pBool v11 fun b12 => br b12
 (some ((.int .i64 1), H6))
 (pBin Go.Proofs.Try.prog .eql 3 x0 (.int .i64 15) fun v13 =>
 pBool v13 fun b14 => br b14
 (some ((.int .i64 1), H6))
 (pBin Go.Proofs.Try.prog .eql 3 x0 (.int .i64 16) fun v15 =>
 pBool v15 fun b16 => br b16
 (some ((.int .i64 1), H6))
 (pBin Go.Proofs.Try.prog .geq 3 x0 (.int .i64 31) fun v17 =>
 pBool v17 fun b18 => br b18
 (some ((.int .i64 1), H6))
 (pBin Go.Proofs.Try.prog .eql 3 x0 (.int .i64 14) fun v19 =>
 pBool v19 fun b20 => br b20
 (some ((.int .i64 3), H6))
 (some ((.int .i64 2), H6)))))))))
 (fun i7 => onExit i7 0 (
 some ((.int .i64 2), H6)) (
 none))
 (some ((l5.headD undef), H6))
theorem e46 (R : Handler) (x0 : Value) (H0 : Hp) : execF Go.Proofs.Try.prog orc R 46 Go.Proofs.Try.f46 [x0] H0 = m46 R x0 H0 := by kernel_rfl
noncomputable def m47 (R : Handler) (x0 x1 : Value) (H0 : Hp) : Option (Value × Hp) :=
 bindO (
 pBin Go.Proofs.Try.prog .lss 3 x1 (.int .i64 1) fun v1 =>
 pBool v1 fun b2 => br b2
 (pCell 1 false (cellsL x0) 2 fun v3 =>
 pBin Go.Proofs.Try.prog .neq 3 v3 (.int .i64 0) fun v4 =>
 pBool v4 fun b5 => br b5
 (some (.ret, [(.bool true)], H0))
 (pBin Go.Proofs.Try.prog .lss 3 x1 (.int .i64 2) fun v6 =>
 pBool v6 fun b7 => br b7
 (pCell 1 false (cellsL x0) 3 fun v8 =>
 pBin Go.Proofs.Try.prog .neq 3 v8 (.int .i64 0) fun v9 =>
 pBool v9 fun b10 => br b10
 (some (.ret, [(.bool true)], H0))
 (pBin Go.Proofs.Try.prog .lss 3 x1 (.int .i64 3) fun v11 =>
 pBool v11 fun b12 => br b12
 (pCell 1 false (cellsL x0) 4 fun v13 =>
 pBin Go.Proofs.Try.prog .neq 3 v13 (.int .i64 0) fun v14 =>
 pBool v14 fun b15 => br b15
 (some (.ret, [(.bool true)], H0))
 (some (.next, [], H0)))
 (some (.next, [], H0))))
 (pBin Go.Proofs.Try.prog .lss 3 x1 (.int .i64 3) fun v16 =>
 pBool v16 fun b17 => br b17
 (pCell 1 false (cellsL x0) 4 fun v18 =>
 pBin Go.Proofs.Try.prog .neq 3 v18 (.int .i64 0) fun v19 =>
 pBool v19 fun b20 => br b20
 (some (.ret, [(.bool true)], H0))
 (some (.next, [], H0)))
 (some (.next, [], H0)))))
 (pBin Go.Proofs.Try.prog .lss 3 x1 (.int .i64 2) fun v21 =>
 pBool v21 fun b22 => br b22
 (pCell 1 false (cellsL x0) 3 fun v23 =>
 pBin Go.Proofs.Try.prog .neq 3 v23 (.int .i64 0) fun v24 =>
 pBool v24 fun b25 => br b25
 (some (.ret, [(.bool true)], H0))
 (pBin Go.Proofs.Try.prog .lss 3 x1 (.int .i64 3) fun v26 =>
 pBool v26 fun b27 => br b27
 (pCell 1 false (cellsL x0) 4 fun v28 =>
 pBin Go.Proofs.Try.prog .neq 3 v28 (.int .i64 0) fun v29 =>
 pBool v29 fun b30 => br b30
 (some (.ret, [(.bool true)], H0))
 (some (.next, [], H0)))
 (some (.next, [], H0))))
 (pBin Go.Proofs.Try.prog .lss 3 x1 (.int .i64 3) fun v31 =>
 pBool v31 fun b32 => br b32
 (pCell 1 false (cellsL x0) 4 fun v33 =>
 pBin Go.Proofs.Try.prog .neq 3 v33 (.int .i64 0) fun v34 =>
 pBool v34 fun b35 => br b35
 (some (.ret, [(.bool true)], H0))
 (some (.next, [], H0)))
 (some (.next, [], H0))))) fun q36 l37 H38 => onCtl q36
 (pCell 1 false (cellsL x0) 5 fun v40 =>
 pBin Go.Proofs.Try.prog .neq 34 v40 (.int .u64 0) fun v41 =>
 pBool v41 fun b42 => br b42
 (pCell 1 false (cellsL x0) 0 fun v43 =>
 pBin Go.Proofs.Try.prog .neq 3 v43 (.int .i64 3) fun v44 =>
 pBool v44 fun b45 => br b45
 (pCell 1 false (cellsL x0) 0 fun v46 =>
 pBin Go.Proofs.Try.prog .neq 3 v46 (.int .i64 31) fun v47 =>
 pBool v47 fun b48 => br b48
 (some ((.bool true), H38))
 (pCell 1 false (cellsL x0) 6 fun v49 =>
 pBin Go.Proofs.Try.prog .neq 9 v49 (.string ⟨#[]⟩) fun v50 =>
 pBool v50 fun b51 => br b51
 (pCell 1 false (cellsL x0) 0 fun v52 =>
 pBin Go.Proofs.Try.prog .neq 3 v52 (.int .i64 4) fun v53 =>
 some (v53, H38))
 (some ((.bool false), H38))))
 (pCell 1 false (cellsL x0) 6 fun v54 =>
 pBin Go.Proofs.Try.prog .neq 9 v54 (.string ⟨#[]⟩) fun v55 =>
 pBool v55 fun b56 => br b56
 (pCell 1 false (cellsL x0) 0 fun v57 =>
 pBin Go.Proofs.Try.prog .neq 3 v57 (.int .i64 4) fun v58 =>
 some (v58, H38))
 (some ((.bool false), H38))))
 (pCell 1 false (cellsL x0) 6 fun v59 =>
 pBin Go.Proofs.Try.prog .neq 9 v59 (.string ⟨#[]⟩) fun v60 =>
 pBool v60 fun b61 => br b61
 (pCell 1 false (cellsL x0) 0 fun v62 =>
 pBin Go.Proofs.Try.prog .neq 3 v62 (.int .i64 4) fun v63 =>
 some (v63, H38))
 (some ((.bool false), H38))))
 (fun i39 => none)
 (some ((l37.headD undef), H38))
theorem e47 (R : Handler) (x0 x1 : Value) (H0 : Hp) : execF Go.Proofs.Try.prog orc R 47 Go.Proofs.Try.f47 [x0, x1] H0 = m47 R x0 x1 H0 := by kernel_rfl
noncomputable def m48 (R : Handler) (x0 x1 : Value) (H0 : Hp) : Option (Value × Hp) :=
 pCell 1 false (cellsL x1) 0 fun v1 =>
 pBin Go.Proofs.Try.prog .leq 3 v1 (.int .i64 4) fun v2 =>
 pBool v2 fun b3 => br b3
 (some ((.bool true), H0))
 (pCell 1 false (cellsL x1) 0 fun v4 =>
 pBin Go.Proofs.Try.prog .eql 3 v4 (.int .i64 5) fun v5 =>
 pBool v5 fun b6 => br b6
 (pCell 1 false (cellsL x1) 2 fun v7 =>
 pCallF R 54 [x0, v7] H0 fun r8 H9 =>
 pBin Go.Proofs.Try.prog .eql 3 r8 (.int .i64 0) fun v10 =>
 some (v10, H9))
 (pCell 1 false (cellsL x1) 0 fun v11 =>
 pBin Go.Proofs.Try.prog .leq 3 v11 (.int .i64 8) fun v12 =>
 pBool v12 fun b13 => br b13
 (pCell 1 false (cellsL x1) 2 fun v14 =>
 pCallF R 54 [x0, v14] H0 fun r15 H16 =>
 pBin Go.Proofs.Try.prog .eql 3 r15 (.int .i64 0) fun v17 =>
 pBool v17 fun b18 => br b18
 (pCell 1 false (cellsL x1) 3 fun v19 =>
 pCallF R 54 [x0, v19] H16 fun r20 H21 =>
 pBin Go.Proofs.Try.prog .eql 3 r20 (.int .i64 0) fun v22 =>
 some (v22, H21))
 (some ((.bool false), H16)))
 (pCell 1 false (cellsL x1) 0 fun v23 =>
 pBin Go.Proofs.Try.prog .eql 3 v23 (.int .i64 9) fun v24 =>
 pBool v24 fun b25 => br b25
 (pCell 1 false (cellsL x1) 2 fun v26 =>
 pCallF R 54 [x0, v26] H0 fun r27 H28 =>
 pCell 1 false (cellsL x1) 3 fun v29 =>
 pCallF R 54 [x0, v29] H28 fun r30 H31 =>
 pBin Go.Proofs.Try.prog .eql 3 r27 r30 fun v32 =>
 some (v32, H31))
 (pCell 1 false (cellsL x1) 0 fun v33 =>
 pBin Go.Proofs.Try.prog .eql 3 v33 (.int .i64 14) fun v34 =>
 pBool v34 fun b35 => br b35
 (pCell 1 false (cellsL x1) 2 fun v36 =>
 pCallF R 54 [x0, v36] H0 fun r37 H38 =>
 pBin Go.Proofs.Try.prog .eql 3 r37 (.int .i64 0) fun v39 =>
 pBool v39 fun b40 => br b40
 (pCell 1 false (cellsL x1) 3 fun v41 =>
 pCallF R 54 [x0, v41] H38 fun r42 H43 =>
 pCell 1 false (cellsL x1) 4 fun v44 =>
 pCallF R 54 [x0, v44] H43 fun r45 H46 =>
 pBin Go.Proofs.Try.prog .eql 3 r42 r45 fun v47 =>
 some (v47, H46))
 (some ((.bool false), H38)))
 (bindO (
 pCell 1 false (cellsL x1) 0 fun v48 =>
 pBin Go.Proofs.Try.prog .eql 3 v48 (.int .i64 15) fun v49 =>
 pBool v49 fun b50 => br b50
 (some (.next, [(.bool true)], H0))
 (pCell 1 false (cellsL x1) 0 fun v51 =>
 pBin Go.Proofs.Try.prog .eql 3 v51 (.int .i64 16) fun v52 =>
 pBool v52 fun b53 => br b53
 (some (.next, [(.bool true)], H0))
 (pCell 1 false (cellsL x1) 0 fun v54 =>
 pBin Go.Proofs.Try.prog .geq 3 v54 (.int .i64 31) fun v55 =>
 some (.next, [v55], H0)))) fun q56 l57 H58 => onCtl q56
 (pBool (l57.getD 0 undef) fun b60 => br b60
 (pCell 1 false (cellsL x1) 2 fun v61 =>
 pCallF R 54 [x0, v61] H58 fun r62 H63 =>
 pBin Go.Proofs.Try.prog .gtr 3 r62 (.int .i64 0) fun v64 =>
 some (v64, H63))
 (pCell 1 false (cellsL x1) 0 fun v65 =>
 pBin Go.Proofs.Try.prog .eql 3 v65 (.int .i64 30) fun v66 =>
 pBool v66 fun b67 => br b67
 (pCell 1 false (cellsL x1) 2 fun v68 =>
 pCallF R 54 [x0, v68] H58 fun r69 H70 =>
 pBin Go.Proofs.Try.prog .gtr 3 r69 (.int .i64 0) fun v71 =>
 pBool v71 fun b72 => br b72
 (pCell 1 false (cellsL x1) 3 fun v73 =>
 pCallF R 54 [x0, v73] H70 fun r74 H75 =>
 pBin Go.Proofs.Try.prog .gtr 3 r74 (.int .i64 0) fun v76 =>
 some (v76, H75))
 (some ((.bool false), H70)))
 (pCell 1 false (cellsL x1) 2 fun v77 =>
 pCallF R 54 [x0, v77] H58 fun r78 H79 =>
 pBin Go.Proofs.Try.prog .gtr 3 r78 (.int .i64 0) fun v80 =>
 pBool v80 fun b81 => br b81
 (pCell 1 false (cellsL x1) 2 fun v82 =>
 pCallF R 54 [x0, v82] H79 fun r83 H84 =>
 pCell 1 false (cellsL x1) 3 fun v85 =>
 pCallF R 54 [x0, v85] H84 fun r86 H87 =>
 pBin Go.Proofs.Try.prog .eql 3 r83 r86 fun v88 =>
 some (v88, H87))
 (some ((.bool false), H79)))))
 (fun i59 => onExit i59 0 (
 pCell 1 false (cellsL x1) 2 fun v89 =>
 pCallF R 54 [x0, v89] H58 fun r90 H91 =>
 pBin Go.Proofs.Try.prog .gtr 3 r90 (.int .i64 0) fun v92 =>
 pBool v92 fun b93 => br b93
 (pCell 1 false (cellsL x1) 2 fun v94 =>
 pCallF R 54 [x0, v94] H91 fun r95 H96 =>
 pCell 1 false (cellsL x1) 3 fun v97 =>
 pCallF R 54 [x0, v97] H96 fun r98 H99 =>
 pBin Go.Proofs.Try.prog .eql 3 r95 r98 fun v100 =>
 some (v100, H99))
 (some ((.bool false), H91))) (
 none))
 (some ((l57.headD undef), H58)))))))
theorem e48 (R : Handler) (x0 x1 : Value) (H0 : Hp) : execF Go.Proofs.Try.prog orc R 48 Go.Proofs.Try.f48 [x0, x1] H0 = m48 R x0 x1 H0 := by kernel_rfl
noncomputable def m49 (R : Handler) (x0 x1 : Value) (H0 : Hp) : Option (Value × Hp) :=
 pCell 1 false (cellsL x1) 1 fun v1 =>
 bindO (
 pCell 1 false (cellsL x1) 0 fun v2 =>
 pBin Go.Proofs.Try.prog .leq 3 v2 (.int .i64 2) fun v3 =>
 pBool v3 fun b4 => br b4
 (some (.next, [(.bool true)], H0))
 (pCell 1 false (cellsL x1) 0 fun v5 =>
 pBin Go.Proofs.Try.prog .geq 3 v5 (.int .i64 5) fun v6 =>
 pBool v6 fun b7 => br b7
 (pCell 1 false (cellsL x1) 0 fun v8 =>
 pBin Go.Proofs.Try.prog .leq 3 v8 (.int .i64 13) fun v9 =>
 some (.next, [v9], H0))
 (some (.next, [(.bool false)], H0)))) fun q10 l11 H12 => onCtl q10
 (pBool (l11.getD 0 undef) fun b14 => br b14
 (pBin Go.Proofs.Try.prog .eql 3 v1 (.int .i64 0) fun v15 =>
 some (v15, H12))
 (pCell 1 false (cellsL x1) 0 fun v16 =>
 pBin Go.Proofs.Try.prog .eql 3 v16 (.int .i64 3) fun v17 =>
 pBool v17 fun b18 => br b18
 (pBin Go.Proofs.Try.prog .geq 3 v1 (.int .i64 1) fun v19 =>
 pBool v19 fun b20 => br b20
 (pCell 1 false (cellsL x1) 5 fun v21 =>
 pCallF R 51 [v1, v21] H12 fun r22 H23 =>
 pCell 1 false (cellsL x1) 5 fun v24 =>
 pBin Go.Proofs.Try.prog .eql 34 r22 v24 fun v25 =>
 some (v25, H23))
 (some ((.bool false), H12)))
 (pCell 1 false (cellsL x1) 0 fun v26 =>
 pBin Go.Proofs.Try.prog .eql 3 v26 (.int .i64 4) fun v27 =>
 pBool v27 fun b28 => br b28
 (some ((.bool true), H12))
 (pCell 1 false (cellsL x1) 0 fun v29 =>
 pBin Go.Proofs.Try.prog .eql 3 v29 (.int .i64 14) fun v30 =>
 pBool v30 fun b31 => br b31
 (pCell 1 false (cellsL x1) 3 fun v32 =>
 pCallF R 54 [x0, v32] H12 fun r33 H34 =>
 pBin Go.Proofs.Try.prog .eql 3 v1 r33 fun v35 =>
 some (v35, H34))
 (pCell 1 false (cellsL x1) 0 fun v36 =>
 pBin Go.Proofs.Try.prog .eql 3 v36 (.int .i64 30) fun v37 =>
 pBool v37 fun b38 => br b38
 (pCell 1 false (cellsL x1) 2 fun v39 =>
 pCallF R 54 [x0, v39] H12 fun r40 H41 =>
 pCell 1 false (cellsL x1) 3 fun v42 =>
 pCallF R 54 [x0, v42] H41 fun r43 H44 =>
 pBin Go.Proofs.Try.prog .add 3 r40 r43 fun v45 =>
 pBin Go.Proofs.Try.prog .eql 3 v1 v45 fun v46 =>
 some (v46, H44))
 (pCell 1 false (cellsL x1) 0 fun v47 =>
 pBin Go.Proofs.Try.prog .eql 3 v47 (.int .i64 31) fun v48 =>
 pBool v48 fun b49 => br b49
 (pBin Go.Proofs.Try.prog .geq 3 v1 (.int .i64 1) fun v50 =>
 pBool v50 fun b51 => br b51
 (pCell 1 false (cellsL x1) 5 fun v52 =>
 pBin Go.Proofs.Try.prog .leq 34 v52 (.int .u64 64) fun v53 =>
 pBool v53 fun b54 => br b54
 (pCell 1 false (cellsL x1) 5 fun v55 =>
 pConvInt .i64 v55 fun v56 =>
 pBin Go.Proofs.Try.prog .add 3 v56 v1 fun v57 =>
 pCell 1 false (cellsL x1) 2 fun v58 =>
 pCallF R 54 [x0, v58] H12 fun r59 H60 =>
 pBin Go.Proofs.Try.prog .leq 3 v57 r59 fun v61 =>
 some (v61, H60))
 (some ((.bool false), H12)))
 (some ((.bool false), H12)))
 (pCell 1 false (cellsL x1) 0 fun v62 =>
 pBin Go.Proofs.Try.prog .geq 3 v62 (.int .i64 32) fun v63 =>
 pBool v63 fun b64 => br b64
 (pCell 1 false (cellsL x1) 2 fun v65 =>
 pCallF R 54 [x0, v65] H12 fun r66 H67 =>
 pBin Go.Proofs.Try.prog .geq 3 v1 r66 fun v68 =>
 some (v68, H67))
 (pCell 1 false (cellsL x1) 0 fun v69 =>
 pBin Go.Proofs.Try.prog .geq 3 v69 (.int .i64 25) fun v70 =>
 pBool v70 fun b71 => br b71
 (pCell 1 false (cellsL x1) 2 fun v72 =>
 pCallF R 54 [x0, v72] H12 fun r73 H74 =>
 pBin Go.Proofs.Try.prog .eql 3 v1 r73 fun v75 =>
 pBool v75 fun b76 => br b76
 (pCallF R 55 [v1] H74 fun r77 H78 =>
 some (r77, H78))
 (some ((.bool false), H74)))
 (pCell 1 false (cellsL x1) 2 fun v79 =>
 pCallF R 54 [x0, v79] H12 fun r80 H81 =>
 pBin Go.Proofs.Try.prog .eql 3 v1 r80 fun v82 =>
 some (v82, H81))))))))))
 (fun i13 => onExit i13 0 (
 pCell 1 false (cellsL x1) 2 fun v83 =>
 pCallF R 54 [x0, v83] H12 fun r84 H85 =>
 pBin Go.Proofs.Try.prog .eql 3 v1 r84 fun v86 =>
 some (v86, H85)) (
 none))
 (some ((l11.headD undef), H12))
theorem e49 (R : Handler) (x0 x1 : Value) (H0 : Hp) : execF Go.Proofs.Try.prog orc R 49 Go.Proofs.Try.f49 [x0, x1] H0 = m49 R x0 x1 H0 := by kernel_rfl
noncomputable def m50 (R : Handler) (x0 : Value) (H0 : Hp) : Option (Value × Hp) :=
 bindO (
 pLen .str x0 H0 fun v1 =>
 pBin Go.Proofs.Try.prog .lss 3 v1 (.int .i64 1) fun v2 =>
 pBool v2 fun b3 => br b3
 (some (.ret, [(.bool false)], H0))
 (pLen .str x0 H0 fun v4 =>
 pBin Go.Proofs.Try.prog .gtr 3 v4 (.int .i64 24) fun v5 =>
 pBool v5 fun b6 => br b6
 (some (.ret, [(.bool false)], H0))
 (pAtStr x0 (.int .i64 0) fun v7 =>
 pCallF R 56 [v7] H0 fun r8 H9 =>
 pUn .not r8 fun v10 =>
 pBool v10 fun b11 => br b11
 (some (.ret, [(.bool false)], H9))
 (some (.next, [], H9))))) fun q12 l13 H14 => onCtl q12
 (bindO (loopD (fun l16 H17 =>
 pLen .str x0 H17 fun v18 =>
 pBin Go.Proofs.Try.prog .lss 3 (l16.getD 0 undef) v18 fun v19 =>
 pBool v19 fun b20 => br b20
 (pAtStr x0 (l16.getD 0 undef) fun v21 =>
 pCallF R 56 [v21] H17 fun r22 H23 =>
 pUn .not r22 fun v24 =>
 pBool v24 fun b25 => br b25
 (pAtStr x0 (l16.getD 0 undef) fun v26 =>
 pBin Go.Proofs.Try.prog .lss 5 v26 (.int .u8 48) fun v27 =>
 pBool v27 fun b28 => br b28
 (some (.ret, [(.bool false)], H23))
 (pAtStr x0 (l16.getD 0 undef) fun v29 =>
 pBin Go.Proofs.Try.prog .gtr 5 v29 (.int .u8 57) fun v30 =>
 pBool v30 fun b31 => br b31
 (some (.ret, [(.bool false)], H23))
 (pBin Go.Proofs.Try.prog .add 3 (l16.getD 0 undef) (.int .i64 1) fun v32 =>
 some (.next, [v32], H23))))
 (pBin Go.Proofs.Try.prog .add 3 (l16.getD 0 undef) (.int .i64 1) fun v33 =>
 some (.next, [v33], H23)))
 (some (.exit 0, [(l16.getD 0 undef)], H17))) [(.int .i64 1)] H14) fun q34 l35 H36 => onCtl q34 none
 (fun i37 => onExit i37 0 (
 some ((.bool true), H36)) (
 none))
 (some ((l35.headD undef), H36)))
 (fun i15 => none)
 (some ((l13.headD undef), H14))
theorem e50 (R : Handler) (x0 : Value) (H0 : Hp) : execF Go.Proofs.Try.prog orc R 50 Go.Proofs.Try.f50 [x0] H0 = m50 R x0 H0 := by kernel_rfl
noncomputable def m51 (R : Handler) (x0 x1 : Value) (H0 : Hp) : Option (Value × Hp) :=
 pBin Go.Proofs.Try.prog .lss 3 x0 (.int .i64 1) fun v1 =>
 pBool v1 fun b2 => br b2
 (some ((.int .u64 0), H0))
 (pBin Go.Proofs.Try.prog .geq 3 x0 (.int .i64 64) fun v3 =>
 pBool v3 fun b4 => br b4
 (some (x1, H0))
 (pConvInt .u64 x0 fun v5 =>
 pBin Go.Proofs.Try.prog .shl 34 (.int .u64 1) v5 fun v6 =>
 pBin Go.Proofs.Try.prog .rem 34 x1 v6 fun v7 =>
 some (v7, H0)))
theorem e51 (R : Handler) (x0 x1 : Value) (H0 : Hp) : execF Go.Proofs.Try.prog orc R 51 Go.Proofs.Try.f51 [x0, x1] H0 = m51 R x0 x1 H0 := by kernel_rfl
noncomputable def m52 (R : Handler) (x0 x1 : Value) (H0 : Hp) : Option (Value × Hp) :=
 pCallF R 30 [x0, x1] H0 fun r1 H2 =>
 pUn .not r1 fun v3 =>
 pBool v3 fun b4 => br b4
 (some ((.int .i64 0), H2))
 (pCallF R 54 [x0, x1] H2 fun r5 H6 =>
 some (r5, H6))
theorem e52 (R : Handler) (x0 x1 : Value) (H0 : Hp) : execF Go.Proofs.Try.prog orc R 52 Go.Proofs.Try.f52 [x0, x1] H0 = m52 R x0 x1 H0 := by kernel_rfl
noncomputable def m53 (R : Handler) (x0 : Value) (H0 : Hp) : Option (Value × Hp) :=
 pCallF R 58 [x0] H0 fun r1 H2 =>
 some (r1, H2)
theorem e53 (R : Handler) (x0 : Value) (H0 : Hp) : execF Go.Proofs.Try.prog orc R 53 Go.Proofs.Try.f53 [x0] H0 = m53 R x0 H0 := by kernel_rfl
noncomputable def m54 (R : Handler) (x0 x1 : Value) (H0 : Hp) : Option (Value × Hp) :=
 pNil x0 (
 pOffs 1 x0 fun p1 =>
 pLoad 1 false H0 p1 fun v2 =>
 pBin Go.Proofs.Try.prog .sub 3 x1 (.int .i64 1) fun v3 =>
 pIdx 7 v2 v3 fun p4 =>
 pOffs 1 p4 fun p5 =>
 pLoad 1 false H0 p5 fun v6 =>
 some (v6, H0))
theorem e54 (R : Handler) (x0 x1 : Value) (H0 : Hp) : execF Go.Proofs.Try.prog orc R 54 Go.Proofs.Try.f54 [x0, x1] H0 = m54 R x0 x1 H0 := by kernel_rfl
noncomputable def m55 (R : Handler) (x0 : Value) (H0 : Hp) : Option (Value × Hp) :=
 bindO (loopD (fun l1 H2 =>
 pBin Go.Proofs.Try.prog .leq 3 (l1.getD 0 undef) (.int .i64 64) fun v3 =>
 pBool v3 fun b4 => br b4
 (pBin Go.Proofs.Try.prog .eql 3 x0 (l1.getD 0 undef) fun v5 =>
 pBool v5 fun b6 => br b6
 (some (.ret, [(.bool true)], H2))
 (pBin Go.Proofs.Try.prog .mul 3 (.int .i64 2) (l1.getD 0 undef) fun v7 =>
 some (.next, [v7], H2)))
 (some (.exit 0, [(l1.getD 0 undef)], H2))) [(.int .i64 1)] H0) fun q8 l9 H10 => onCtl q8 none
 (fun i11 => onExit i11 0 (
 some ((.bool false), H10)) (
 none))
 (some ((l9.headD undef), H10))
theorem e55 (R : Handler) (x0 : Value) (H0 : Hp) : execF Go.Proofs.Try.prog orc R 55 Go.Proofs.Try.f55 [x0] H0 = m55 R x0 H0 := by kernel_rfl
noncomputable def m56 (R : Handler) (x0 : Value) (H0 : Hp) : Option (Value × Hp) :=
 pBin Go.Proofs.Try.prog .geq 5 x0 (.int .u8 97) fun v1 =>
 pBool v1 fun b2 => br b2
 (pBin Go.Proofs.Try.prog .leq 5 x0 (.int .u8 122) fun v3 =>
 pBool v3 fun b4 => br b4
 (some ((.bool true), H0))
 (pBin Go.Proofs.Try.prog .geq 5 x0 (.int .u8 65) fun v5 =>
 pBool v5 fun b6 => br b6
 (pBin Go.Proofs.Try.prog .leq 5 x0 (.int .u8 90) fun v7 =>
 pBool v7 fun b8 => br b8
 (some ((.bool true), H0))
 (pBin Go.Proofs.Try.prog .eql 5 x0 (.int .u8 95) fun v9 =>
 some (v9, H0)))
 (pBin Go.Proofs.Try.prog .eql 5 x0 (.int .u8 95) fun v10 =>
 some (v10, H0))))
 (pBin Go.Proofs.Try.prog .geq 5 x0 (.int .u8 65) fun v11 =>
 pBool v11 fun b12 => br b12
 (pBin Go.Proofs.Try.prog .leq 5 x0 (.int .u8 90) fun v13 =>
 pBool v13 fun b14 => br b14
 (some ((.bool true), H0))
 (pBin Go.Proofs.Try.prog .eql 5 x0 (.int .u8 95) fun v15 =>
 some (v15, H0)))
 (pBin Go.Proofs.Try.prog .eql 5 x0 (.int .u8 95) fun v16 =>
 some (v16, H0)))
theorem e56 (R : Handler) (x0 : Value) (H0 : Hp) : execF Go.Proofs.Try.prog orc R 56 Go.Proofs.Try.f56 [x0] H0 = m56 R x0 H0 := by kernel_rfl
noncomputable def m58 (R : Handler) (x0 : Value) (H0 : Hp) : Option (Value × Hp) :=
 pBin Go.Proofs.Try.prog .shr 34 x0 (.int .u64 1) fun v1 =>
 pBin Go.Proofs.Try.prog .and 34 v1 (.int .u64 6148914691236517205) fun v2 =>
 pBin Go.Proofs.Try.prog .and 34 x0 (.int .u64 6148914691236517205) fun v3 =>
 pBin Go.Proofs.Try.prog .add 34 v2 v3 fun v4 =>
 pBin Go.Proofs.Try.prog .shr 34 v4 (.int .u64 2) fun v5 =>
 pBin Go.Proofs.Try.prog .and 34 v5 (.int .u64 3689348814741910323) fun v6 =>
 pBin Go.Proofs.Try.prog .and 34 v4 (.int .u64 3689348814741910323) fun v7 =>
 pBin Go.Proofs.Try.prog .add 34 v6 v7 fun v8 =>
 pBin Go.Proofs.Try.prog .shr 34 v8 (.int .u64 4) fun v9 =>
 pBin Go.Proofs.Try.prog .add 34 v9 v8 fun v10 =>
 pBin Go.Proofs.Try.prog .and 34 v10 (.int .u64 1085102592571150095) fun v11 =>
 pBin Go.Proofs.Try.prog .shr 34 v11 (.int .u64 8) fun v12 =>
 pBin Go.Proofs.Try.prog .add 34 v11 v12 fun v13 =>
 pBin Go.Proofs.Try.prog .shr 34 v13 (.int .u64 16) fun v14 =>
 pBin Go.Proofs.Try.prog .add 34 v13 v14 fun v15 =>
 pBin Go.Proofs.Try.prog .shr 34 v15 (.int .u64 32) fun v16 =>
 pBin Go.Proofs.Try.prog .add 34 v15 v16 fun v17 =>
 pConvInt .i64 v17 fun v18 =>
 pBin Go.Proofs.Try.prog .and 3 v18 (.int .i64 127) fun v19 =>
 some (v19, H0)
theorem e58 (R : Handler) (x0 : Value) (H0 : Hp) : execF Go.Proofs.Try.prog orc R 58 Go.Proofs.Try.f58 [x0] H0 = m58 R x0 H0 := by kernel_rfl
theorem r2 (E : FuncId → Option (List Value → Hp → Option (Value × Hp))) (h : E 2 = none) (H0 : Hp) : run Go.Proofs.Try.prog orc E 2 [] H0 = m2 (run Go.Proofs.Try.prog orc E)  H0 := (run_fn Go.Proofs.Try.func2 (by kernel_rfl) (by kernel_rfl) h _ _).trans (e2 _  H0)
theorem r3 (E : FuncId → Option (List Value → Hp → Option (Value × Hp))) (h : E 3 = none) (x0 x1 : Value) (H0 : Hp) : run Go.Proofs.Try.prog orc E 3 [x0, x1] H0 = m3 (run Go.Proofs.Try.prog orc E) x0 x1 H0 := (run_fn Go.Proofs.Try.func3 (by kernel_rfl) (by kernel_rfl) h _ _).trans (e3 _ x0 x1 H0)
theorem r4 (E : FuncId → Option (List Value → Hp → Option (Value × Hp))) (h : E 4 = none) (x0 x1 x2 : Value) (H0 : Hp) : run Go.Proofs.Try.prog orc E 4 [x0, x1, x2] H0 = m4 (run Go.Proofs.Try.prog orc E) x0 x1 x2 H0 := (run_fn Go.Proofs.Try.func4 (by kernel_rfl) (by kernel_rfl) h _ _).trans (e4 _ x0 x1 x2 H0)
theorem r5 (E : FuncId → Option (List Value → Hp → Option (Value × Hp))) (h : E 5 = none) (x0 x1 : Value) (H0 : Hp) : run Go.Proofs.Try.prog orc E 5 [x0, x1] H0 = m5 (run Go.Proofs.Try.prog orc E) x0 x1 H0 := (run_fn Go.Proofs.Try.func5 (by kernel_rfl) (by kernel_rfl) h _ _).trans (e5 _ x0 x1 H0)
theorem r6 (E : FuncId → Option (List Value → Hp → Option (Value × Hp))) (h : E 6 = none) (x0 x1 x2 : Value) (H0 : Hp) : run Go.Proofs.Try.prog orc E 6 [x0, x1, x2] H0 = m6 (run Go.Proofs.Try.prog orc E) x0 x1 x2 H0 := (run_fn Go.Proofs.Try.func6 (by kernel_rfl) (by kernel_rfl) h _ _).trans (e6 _ x0 x1 x2 H0)
theorem r7 (E : FuncId → Option (List Value → Hp → Option (Value × Hp))) (h : E 7 = none) (x0 x1 x2 : Value) (H0 : Hp) : run Go.Proofs.Try.prog orc E 7 [x0, x1, x2] H0 = m7 (run Go.Proofs.Try.prog orc E) x0 x1 x2 H0 := (run_fn Go.Proofs.Try.func7 (by kernel_rfl) (by kernel_rfl) h _ _).trans (e7 _ x0 x1 x2 H0)
theorem r8 (E : FuncId → Option (List Value → Hp → Option (Value × Hp))) (h : E 8 = none) (x0 x1 : Value) (H0 : Hp) : run Go.Proofs.Try.prog orc E 8 [x0, x1] H0 = m8 (run Go.Proofs.Try.prog orc E) x0 x1 H0 := (run_fn Go.Proofs.Try.func8 (by kernel_rfl) (by kernel_rfl) h _ _).trans (e8 _ x0 x1 H0)
theorem r9 (E : FuncId → Option (List Value → Hp → Option (Value × Hp))) (h : E 9 = none) (x0 : Value) (H0 : Hp) : run Go.Proofs.Try.prog orc E 9 [x0] H0 = m9 (run Go.Proofs.Try.prog orc E) x0 H0 := (run_fn Go.Proofs.Try.func9 (by kernel_rfl) (by kernel_rfl) h _ _).trans (e9 _ x0 H0)
theorem r10 (E : FuncId → Option (List Value → Hp → Option (Value × Hp))) (h : E 10 = none) (x0 x1 : Value) (H0 : Hp) : run Go.Proofs.Try.prog orc E 10 [x0, x1] H0 = m10 (run Go.Proofs.Try.prog orc E) x0 x1 H0 := (run_fn Go.Proofs.Try.func10 (by kernel_rfl) (by kernel_rfl) h _ _).trans (e10 _ x0 x1 H0)
theorem r11 (E : FuncId → Option (List Value → Hp → Option (Value × Hp))) (h : E 11 = none) (x0 : Value) (H0 : Hp) : run Go.Proofs.Try.prog orc E 11 [x0] H0 = m11 (run Go.Proofs.Try.prog orc E) x0 H0 := (run_fn Go.Proofs.Try.func11 (by kernel_rfl) (by kernel_rfl) h _ _).trans (e11 _ x0 H0)
theorem r12 (E : FuncId → Option (List Value → Hp → Option (Value × Hp))) (h : E 12 = none) (x0 x1 : Value) (H0 : Hp) : run Go.Proofs.Try.prog orc E 12 [x0, x1] H0 = m12 (run Go.Proofs.Try.prog orc E) x0 x1 H0 := (run_fn Go.Proofs.Try.func12 (by kernel_rfl) (by kernel_rfl) h _ _).trans (e12 _ x0 x1 H0)
theorem r13 (E : FuncId → Option (List Value → Hp → Option (Value × Hp))) (h : E 13 = none) (x0 x1 : Value) (H0 : Hp) : run Go.Proofs.Try.prog orc E 13 [x0, x1] H0 = m13 (run Go.Proofs.Try.prog orc E) x0 x1 H0 := (run_fn Go.Proofs.Try.func13 (by kernel_rfl) (by kernel_rfl) h _ _).trans (e13 _ x0 x1 H0)
theorem r14 (E : FuncId → Option (List Value → Hp → Option (Value × Hp))) (h : E 14 = none) (x0 x1 : Value) (H0 : Hp) : run Go.Proofs.Try.prog orc E 14 [x0, x1] H0 = m14 (run Go.Proofs.Try.prog orc E) x0 x1 H0 := (run_fn Go.Proofs.Try.func14 (by kernel_rfl) (by kernel_rfl) h _ _).trans (e14 _ x0 x1 H0)
theorem r15 (E : FuncId → Option (List Value → Hp → Option (Value × Hp))) (h : E 15 = none) (x0 x1 : Value) (H0 : Hp) : run Go.Proofs.Try.prog orc E 15 [x0, x1] H0 = m15 (run Go.Proofs.Try.prog orc E) x0 x1 H0 := (run_fn Go.Proofs.Try.func15 (by kernel_rfl) (by kernel_rfl) h _ _).trans (e15 _ x0 x1 H0)
theorem r16 (E : FuncId → Option (List Value → Hp → Option (Value × Hp))) (h : E 16 = none) (x0 : Value) (H0 : Hp) : run Go.Proofs.Try.prog orc E 16 [x0] H0 = m16 (run Go.Proofs.Try.prog orc E) x0 H0 := (run_fn Go.Proofs.Try.func16 (by kernel_rfl) (by kernel_rfl) h _ _).trans (e16 _ x0 H0)
theorem r17 (E : FuncId → Option (List Value → Hp → Option (Value × Hp))) (h : E 17 = none) (x0 : Value) (H0 : Hp) : run Go.Proofs.Try.prog orc E 17 [x0] H0 = m17 (run Go.Proofs.Try.prog orc E) x0 H0 := (run_fn Go.Proofs.Try.func17 (by kernel_rfl) (by kernel_rfl) h _ _).trans (e17 _ x0 H0)
theorem r18 (E : FuncId → Option (List Value → Hp → Option (Value × Hp))) (h : E 18 = none) (x0 x1 : Value) (H0 : Hp) : run Go.Proofs.Try.prog orc E 18 [x0, x1] H0 = m18 (run Go.Proofs.Try.prog orc E) x0 x1 H0 := (run_fn Go.Proofs.Try.func18 (by kernel_rfl) (by kernel_rfl) h _ _).trans (e18 _ x0 x1 H0)
theorem r19 (E : FuncId → Option (List Value → Hp → Option (Value × Hp))) (h : E 19 = none) (x0 x1 : Value) (H0 : Hp) : run Go.Proofs.Try.prog orc E 19 [x0, x1] H0 = m19 (run Go.Proofs.Try.prog orc E) x0 x1 H0 := (run_fn Go.Proofs.Try.func19 (by kernel_rfl) (by kernel_rfl) h _ _).trans (e19 _ x0 x1 H0)
theorem r20 (E : FuncId → Option (List Value → Hp → Option (Value × Hp))) (h : E 20 = none) (x0 x1 x2 : Value) (H0 : Hp) : run Go.Proofs.Try.prog orc E 20 [x0, x1, x2] H0 = m20 (run Go.Proofs.Try.prog orc E) x0 x1 x2 H0 := (run_fn Go.Proofs.Try.func20 (by kernel_rfl) (by kernel_rfl) h _ _).trans (e20 _ x0 x1 x2 H0)
theorem r21 (E : FuncId → Option (List Value → Hp → Option (Value × Hp))) (h : E 21 = none) (x0 x1 x2 x3 : Value) (H0 : Hp) : run Go.Proofs.Try.prog orc E 21 [x0, x1, x2, x3] H0 = m21 (run Go.Proofs.Try.prog orc E) x0 x1 x2 x3 H0 := (run_fn Go.Proofs.Try.func21 (by kernel_rfl) (by kernel_rfl) h _ _).trans (e21 _ x0 x1 x2 x3 H0)
theorem r22 (E : FuncId → Option (List Value → Hp → Option (Value × Hp))) (h : E 22 = none) (x0 x1 : Value) (H0 : Hp) : run Go.Proofs.Try.prog orc E 22 [x0, x1] H0 = m22 (run Go.Proofs.Try.prog orc E) x0 x1 H0 := (run_fn Go.Proofs.Try.func22 (by kernel_rfl) (by kernel_rfl) h _ _).trans (e22 _ x0 x1 H0)
theorem r23 (E : FuncId → Option (List Value → Hp → Option (Value × Hp))) (h : E 23 = none) (x0 x1 : Value) (H0 : Hp) : run Go.Proofs.Try.prog orc E 23 [x0, x1] H0 = m23 (run Go.Proofs.Try.prog orc E) x0 x1 H0 := (run_fn Go.Proofs.Try.func23 (by kernel_rfl) (by kernel_rfl) h _ _).trans (e23 _ x0 x1 H0)
theorem r24 (E : FuncId → Option (List Value → Hp → Option (Value × Hp))) (h : E 24 = none) (x0 x1 x2 : Value) (H0 : Hp) : run Go.Proofs.Try.prog orc E 24 [x0, x1, x2] H0 = m24 (run Go.Proofs.Try.prog orc E) x0 x1 x2 H0 := (run_fn Go.Proofs.Try.func24 (by kernel_rfl) (by kernel_rfl) h _ _).trans (e24 _ x0 x1 x2 H0)
theorem r25 (E : FuncId → Option (List Value → Hp → Option (Value × Hp))) (h : E 25 = none) (x0 x1 x2 : Value) (H0 : Hp) : run Go.Proofs.Try.prog orc E 25 [x0, x1, x2] H0 = m25 (run Go.Proofs.Try.prog orc E) x0 x1 x2 H0 := (run_fn Go.Proofs.Try.func25 (by kernel_rfl) (by kernel_rfl) h _ _).trans (e25 _ x0 x1 x2 H0)
theorem r26 (E : FuncId → Option (List Value → Hp → Option (Value × Hp))) (h : E 26 = none) (x0 x1 x2 x3 : Value) (H0 : Hp) : run Go.Proofs.Try.prog orc E 26 [x0, x1, x2, x3] H0 = m26 (run Go.Proofs.Try.prog orc E) x0 x1 x2 x3 H0 := (run_fn Go.Proofs.Try.func26 (by kernel_rfl) (by kernel_rfl) h _ _).trans (e26 _ x0 x1 x2 x3 H0)
theorem r27 (E : FuncId → Option (List Value → Hp → Option (Value × Hp))) (h : E 27 = none) (x0 x1 x2 x3 : Value) (H0 : Hp) : run Go.Proofs.Try.prog orc E 27 [x0, x1, x2, x3] H0 = m27 (run Go.Proofs.Try.prog orc E) x0 x1 x2 x3 H0 := (run_fn Go.Proofs.Try.func27 (by kernel_rfl) (by kernel_rfl) h _ _).trans (e27 _ x0 x1 x2 x3 H0)
theorem r28 (E : FuncId → Option (List Value → Hp → Option (Value × Hp))) (h : E 28 = none) (x0 x1 x2 x3 : Value) (H0 : Hp) : run Go.Proofs.Try.prog orc E 28 [x0, x1, x2, x3] H0 = m28 (run Go.Proofs.Try.prog orc E) x0 x1 x2 x3 H0 := (run_fn Go.Proofs.Try.func28 (by kernel_rfl) (by kernel_rfl) h _ _).trans (e28 _ x0 x1 x2 x3 H0)
theorem r29 (E : FuncId → Option (List Value → Hp → Option (Value × Hp))) (h : E 29 = none) (x0 : Value) (H0 : Hp) : run Go.Proofs.Try.prog orc E 29 [x0] H0 = m29 (run Go.Proofs.Try.prog orc E) x0 H0 := (run_fn Go.Proofs.Try.func29 (by kernel_rfl) (by kernel_rfl) h _ _).trans (e29 _ x0 H0)
theorem r30 (E : FuncId → Option (List Value → Hp → Option (Value × Hp))) (h : E 30 = none) (x0 x1 : Value) (H0 : Hp) : run Go.Proofs.Try.prog orc E 30 [x0, x1] H0 = m30 (run Go.Proofs.Try.prog orc E) x0 x1 H0 := (run_fn Go.Proofs.Try.func30 (by kernel_rfl) (by kernel_rfl) h _ _).trans (e30 _ x0 x1 H0)
theorem r31 (E : FuncId → Option (List Value → Hp → Option (Value × Hp))) (h : E 31 = none) (x0 x1 : Value) (H0 : Hp) : run Go.Proofs.Try.prog orc E 31 [x0, x1] H0 = m31 (run Go.Proofs.Try.prog orc E) x0 x1 H0 := (run_fn Go.Proofs.Try.func31 (by kernel_rfl) (by kernel_rfl) h _ _).trans (e31 _ x0 x1 H0)
theorem r32 (E : FuncId → Option (List Value → Hp → Option (Value × Hp))) (h : E 32 = none) (x0 x1 : Value) (H0 : Hp) : run Go.Proofs.Try.prog orc E 32 [x0, x1] H0 = m32 (run Go.Proofs.Try.prog orc E) x0 x1 H0 := (run_fn Go.Proofs.Try.func32 (by kernel_rfl) (by kernel_rfl) h _ _).trans (e32 _ x0 x1 H0)
theorem r33 (E : FuncId → Option (List Value → Hp → Option (Value × Hp))) (h : E 33 = none) (x0 x1 x2 : Value) (H0 : Hp) : run Go.Proofs.Try.prog orc E 33 [x0, x1, x2] H0 = m33 (run Go.Proofs.Try.prog orc E) x0 x1 x2 H0 := (run_fn Go.Proofs.Try.func33 (by kernel_rfl) (by kernel_rfl) h _ _).trans (e33 _ x0 x1 x2 H0)
theorem r34 (E : FuncId → Option (List Value → Hp → Option (Value × Hp))) (h : E 34 = none) (x0 x1 x2 : Value) (H0 : Hp) : run Go.Proofs.Try.prog orc E 34 [x0, x1, x2] H0 = m34 (run Go.Proofs.Try.prog orc E) x0 x1 x2 H0 := (run_fn Go.Proofs.Try.func34 (by kernel_rfl) (by kernel_rfl) h _ _).trans (e34 _ x0 x1 x2 H0)
theorem r35 (E : FuncId → Option (List Value → Hp → Option (Value × Hp))) (h : E 35 = none) (x0 x1 x2 : Value) (H0 : Hp) : run Go.Proofs.Try.prog orc E 35 [x0, x1, x2] H0 = m35 (run Go.Proofs.Try.prog orc E) x0 x1 x2 H0 := (run_fn Go.Proofs.Try.func35 (by kernel_rfl) (by kernel_rfl) h _ _).trans (e35 _ x0 x1 x2 H0)
theorem r36 (E : FuncId → Option (List Value → Hp → Option (Value × Hp))) (h : E 36 = none) (x0 x1 x2 x3 : Value) (H0 : Hp) : run Go.Proofs.Try.prog orc E 36 [x0, x1, x2, x3] H0 = m36 (run Go.Proofs.Try.prog orc E) x0 x1 x2 x3 H0 := (run_fn Go.Proofs.Try.func36 (by kernel_rfl) (by kernel_rfl) h _ _).trans (e36 _ x0 x1 x2 x3 H0)
theorem r37 (E : FuncId → Option (List Value → Hp → Option (Value × Hp))) (h : E 37 = none) (x0 x1 x2 x3 : Value) (H0 : Hp) : run Go.Proofs.Try.prog orc E 37 [x0, x1, x2, x3] H0 = m37 (run Go.Proofs.Try.prog orc E) x0 x1 x2 x3 H0 := (run_fn Go.Proofs.Try.func37 (by kernel_rfl) (by kernel_rfl) h _ _).trans (e37 _ x0 x1 x2 x3 H0)
theorem r38 (E : FuncId → Option (List Value → Hp → Option (Value × Hp))) (h : E 38 = none) (x0 x1 x2 x3 : Value) (H0 : Hp) : run Go.Proofs.Try.prog orc E 38 [x0, x1, x2, x3] H0 = m38 (run Go.Proofs.Try.prog orc E) x0 x1 x2 x3 H0 := (run_fn Go.Proofs.Try.func38 (by kernel_rfl) (by kernel_rfl) h _ _).trans (e38 _ x0 x1 x2 x3 H0)
theorem r39 (E : FuncId → Option (List Value → Hp → Option (Value × Hp))) (h : E 39 = none) (x0 x1 x2 x3 : Value) (H0 : Hp) : run Go.Proofs.Try.prog orc E 39 [x0, x1, x2, x3] H0 = m39 (run Go.Proofs.Try.prog orc E) x0 x1 x2 x3 H0 := (run_fn Go.Proofs.Try.func39 (by kernel_rfl) (by kernel_rfl) h _ _).trans (e39 _ x0 x1 x2 x3 H0)
theorem r40 (E : FuncId → Option (List Value → Hp → Option (Value × Hp))) (h : E 40 = none) (x0 x1 : Value) (H0 : Hp) : run Go.Proofs.Try.prog orc E 40 [x0, x1] H0 = m40 (run Go.Proofs.Try.prog orc E) x0 x1 H0 := (run_fn Go.Proofs.Try.func40 (by kernel_rfl) (by kernel_rfl) h _ _).trans (e40 _ x0 x1 H0)
theorem r41 (E : FuncId → Option (List Value → Hp → Option (Value × Hp))) (h : E 41 = none) (x0 : Value) (H0 : Hp) : run Go.Proofs.Try.prog orc E 41 [x0] H0 = m41 (run Go.Proofs.Try.prog orc E) x0 H0 := (run_fn Go.Proofs.Try.func41 (by kernel_rfl) (by kernel_rfl) h _ _).trans (e41 _ x0 H0)
theorem r42 (E : FuncId → Option (List Value → Hp → Option (Value × Hp))) (h : E 42 = none) (x0 x1 : Value) (H0 : Hp) : run Go.Proofs.Try.prog orc E 42 [x0, x1] H0 = m42 (run Go.Proofs.Try.prog orc E) x0 x1 H0 := (run_fn Go.Proofs.Try.func42 (by kernel_rfl) (by kernel_rfl) h _ _).trans (e42 _ x0 x1 H0)
theorem r43 (E : FuncId → Option (List Value → Hp → Option (Value × Hp))) (h : E 43 = none) (x0 x1 : Value) (H0 : Hp) : run Go.Proofs.Try.prog orc E 43 [x0, x1] H0 = m43 (run Go.Proofs.Try.prog orc E) x0 x1 H0 := (run_fn Go.Proofs.Try.func43 (by kernel_rfl) (by kernel_rfl) h _ _).trans (e43 _ x0 x1 H0)
theorem r44 (E : FuncId → Option (List Value → Hp → Option (Value × Hp))) (h : E 44 = none) (x0 : Value) (H0 : Hp) : run Go.Proofs.Try.prog orc E 44 [x0] H0 = m44 (run Go.Proofs.Try.prog orc E) x0 H0 := (run_fn Go.Proofs.Try.func44 (by kernel_rfl) (by kernel_rfl) h _ _).trans (e44 _ x0 H0)
theorem r45 (E : FuncId → Option (List Value → Hp → Option (Value × Hp))) (h : E 45 = none) (x0 x1 : Value) (H0 : Hp) : run Go.Proofs.Try.prog orc E 45 [x0, x1] H0 = m45 (run Go.Proofs.Try.prog orc E) x0 x1 H0 := (run_fn Go.Proofs.Try.func45 (by kernel_rfl) (by kernel_rfl) h _ _).trans (e45 _ x0 x1 H0)
theorem r46 (E : FuncId → Option (List Value → Hp → Option (Value × Hp))) (h : E 46 = none) (x0 : Value) (H0 : Hp) : run Go.Proofs.Try.prog orc E 46 [x0] H0 = m46 (run Go.Proofs.Try.prog orc E) x0 H0 := (run_fn Go.Proofs.Try.func46 (by kernel_rfl) (by kernel_rfl) h _ _).trans (e46 _ x0 H0)
theorem r47 (E : FuncId → Option (List Value → Hp → Option (Value × Hp))) (h : E 47 = none) (x0 x1 : Value) (H0 : Hp) : run Go.Proofs.Try.prog orc E 47 [x0, x1] H0 = m47 (run Go.Proofs.Try.prog orc E) x0 x1 H0 := (run_fn Go.Proofs.Try.func47 (by kernel_rfl) (by kernel_rfl) h _ _).trans (e47 _ x0 x1 H0)
theorem r48 (E : FuncId → Option (List Value → Hp → Option (Value × Hp))) (h : E 48 = none) (x0 x1 : Value) (H0 : Hp) : run Go.Proofs.Try.prog orc E 48 [x0, x1] H0 = m48 (run Go.Proofs.Try.prog orc E) x0 x1 H0 := (run_fn Go.Proofs.Try.func48 (by kernel_rfl) (by kernel_rfl) h _ _).trans (e48 _ x0 x1 H0)
theorem r49 (E : FuncId → Option (List Value → Hp → Option (Value × Hp))) (h : E 49 = none) (x0 x1 : Value) (H0 : Hp) : run Go.Proofs.Try.prog orc E 49 [x0, x1] H0 = m49 (run Go.Proofs.Try.prog orc E) x0 x1 H0 := (run_fn Go.Proofs.Try.func49 (by kernel_rfl) (by kernel_rfl) h _ _).trans (e49 _ x0 x1 H0)
theorem r50 (E : FuncId → Option (List Value → Hp → Option (Value × Hp))) (h : E 50 = none) (x0 : Value) (H0 : Hp) : run Go.Proofs.Try.prog orc E 50 [x0] H0 = m50 (run Go.Proofs.Try.prog orc E) x0 H0 := (run_fn Go.Proofs.Try.func50 (by kernel_rfl) (by kernel_rfl) h _ _).trans (e50 _ x0 H0)
theorem r51 (E : FuncId → Option (List Value → Hp → Option (Value × Hp))) (h : E 51 = none) (x0 x1 : Value) (H0 : Hp) : run Go.Proofs.Try.prog orc E 51 [x0, x1] H0 = m51 (run Go.Proofs.Try.prog orc E) x0 x1 H0 := (run_fn Go.Proofs.Try.func51 (by kernel_rfl) (by kernel_rfl) h _ _).trans (e51 _ x0 x1 H0)
theorem r52 (E : FuncId → Option (List Value → Hp → Option (Value × Hp))) (h : E 52 = none) (x0 x1 : Value) (H0 : Hp) : run Go.Proofs.Try.prog orc E 52 [x0, x1] H0 = m52 (run Go.Proofs.Try.prog orc E) x0 x1 H0 := (run_fn Go.Proofs.Try.func52 (by kernel_rfl) (by kernel_rfl) h _ _).trans (e52 _ x0 x1 H0)
theorem r53 (E : FuncId → Option (List Value → Hp → Option (Value × Hp))) (h : E 53 = none) (x0 : Value) (H0 : Hp) : run Go.Proofs.Try.prog orc E 53 [x0] H0 = m53 (run Go.Proofs.Try.prog orc E) x0 H0 := (run_fn Go.Proofs.Try.func53 (by kernel_rfl) (by kernel_rfl) h _ _).trans (e53 _ x0 H0)
theorem r54 (E : FuncId → Option (List Value → Hp → Option (Value × Hp))) (h : E 54 = none) (x0 x1 : Value) (H0 : Hp) : run Go.Proofs.Try.prog orc E 54 [x0, x1] H0 = m54 (run Go.Proofs.Try.prog orc E) x0 x1 H0 := (run_fn Go.Proofs.Try.func54 (by kernel_rfl) (by kernel_rfl) h _ _).trans (e54 _ x0 x1 H0)
theorem r55 (E : FuncId → Option (List Value → Hp → Option (Value × Hp))) (h : E 55 = none) (x0 : Value) (H0 : Hp) : run Go.Proofs.Try.prog orc E 55 [x0] H0 = m55 (run Go.Proofs.Try.prog orc E) x0 H0 := (run_fn Go.Proofs.Try.func55 (by kernel_rfl) (by kernel_rfl) h _ _).trans (e55 _ x0 H0)
theorem r56 (E : FuncId → Option (List Value → Hp → Option (Value × Hp))) (h : E 56 = none) (x0 : Value) (H0 : Hp) : run Go.Proofs.Try.prog orc E 56 [x0] H0 = m56 (run Go.Proofs.Try.prog orc E) x0 H0 := (run_fn Go.Proofs.Try.func56 (by kernel_rfl) (by kernel_rfl) h _ _).trans (e56 _ x0 H0)
theorem r58 (E : FuncId → Option (List Value → Hp → Option (Value × Hp))) (h : E 58 = none) (x0 : Value) (H0 : Hp) : run Go.Proofs.Try.prog orc E 58 [x0] H0 = m58 (run Go.Proofs.Try.prog orc E) x0 H0 := (run_fn Go.Proofs.Try.func58 (by kernel_rfl) (by kernel_rfl) h _ _).trans (e58 _ x0 H0)
end Go.AM
