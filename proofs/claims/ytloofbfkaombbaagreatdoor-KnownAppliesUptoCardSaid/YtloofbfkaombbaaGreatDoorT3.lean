/- Part of the proof of KnownAppliesUptoCardSaid: see the last file.  -/
import Derived.Laws.Bits64
import Derived.KernelRfl
import Derived.Laws.RangeString
import Derived.Laws.RangeAny
import Derived.Test.YtloofbfkaombbaaGreatDoorT0
import Derived.Test.YtloofbfkaombbaaGreatDoorT2
set_option linter.unusedSimpArgs false
set_option linter.unusedVariables false
set_option linter.unusedSectionVars false
set_option maxRecDepth 100000
namespace Go.AM
open Go Go.AM
noncomputable def zbp (R : zaj) (r23 : Value) (c21 : List Value) (l34 : List Value) (H35 : Hp) : Option Outc :=
 pBin PP .lss T.int (l34.getD 1 undef) r23 fun v36 =>
 zad v36 fun b37 => br b37
 (zad (l34.getD 0 undef) fun b38 => br b38
 (pBin PP .add T.int (l34.getD 1 undef) (.int .i64 1) fun v39 =>
 some (.next, [(.bool true), v39], H35))
 (zaS 3 (l34.getD 1 undef) fun j40 =>
 zab 5 true c21 (0 + j40 * 5) fun v41 =>
 zaf R F.a37 [v41] H35 fun r42 H43 =>
 pUn .not r42 fun v44 =>
 pBin PP .add T.int (l34.getD 1 undef) (.int .i64 1) fun v45 =>
 some (.next, [v44, v45], H43)))
 (some (.exit 0, [(l34.getD 0 undef), (l34.getD 1 undef)], H35))
noncomputable def zbi (R : zaj) (r23 : Value) (l54 : List Value) (H55 : Hp) : Option Outc :=
 pBin PP .lss T.int (l54.getD 1 undef) r23 fun v56 =>
 zad v56 fun b57 => br b57
 (zaS 3 (l54.getD 1 undef) fun j58 =>
 zab 5 true (zaa ((l54.drop 2).getD 1 undef)) (0 + j58 * 5) fun v59 =>
 zaf R F.a5 [v59] H55 fun r60 H61 =>
 zah r60 0 fun v62 =>
 zah r60 1 fun v63 =>
 zac 5 [.int .i64 0, .int .u64 0, .int .u64 0, .int .u64 0, .int .u64 0] 0 v62 fun c64 =>
 pUn .not v63 fun v65 =>
 zad v65 fun b66 => br b66
 (zar PP T.api_Fact [] fun v67 =>
 zac 5 (zaa ((l54.drop 2).getD 0 undef)) 0 v67 fun c68 =>
 zab 5 true c68 0 fun v69 =>
 some (.ret, [(.tuple #[v69, (.int .i64 1)])], H61))
 (zab 5 true c64 0 fun v70 =>
 zab 1 false c64 0 fun v71 =>
 zaS 3 (l54.getD 1 undef) fun j72 =>
 zac 5 (zaa ((l54.drop 2).getD 1 undef)) (0 + j72 * 5) v70 fun c73 =>
 zaS 3 (l54.getD 1 undef) fun j74 =>
 zac 1 (zaa ((l54.drop 2).getD 2 undef)) (0 + j74 * 1) v71 fun c75 =>
 zad (l54.getD 0 undef) fun b76 => br b76
 (zab 1 false c64 3 fun v77 =>
 zab 1 false c64 4 fun v78 =>
 pBin PP .eql T.uint64 v77 v78 fun v79 =>
 pBin PP .add T.int (l54.getD 1 undef) (.int .i64 1) fun v80 =>
 some (.next, [v79, v80, (.agg (zaa ((l54.drop 2).getD 0 undef)).toArray), (.agg c73.toArray), (.agg c75.toArray)], H61))
 (pBin PP .add T.int (l54.getD 1 undef) (.int .i64 1) fun v81 =>
 some (.next, [(.bool false), v81, (.agg (zaa ((l54.drop 2).getD 0 undef)).toArray), (.agg c73.toArray), (.agg c75.toArray)], H61))))
 (some (.exit 2, [(l54.getD 0 undef), (l54.getD 1 undef), (.agg (zaa ((l54.drop 2).getD 0 undef)).toArray), (.agg (zaa ((l54.drop 2).getD 1 undef)).toArray), (.agg (zaa ((l54.drop 2).getD 2 undef)).toArray)], H55))
theorem zlO (R : zaj) (x0 x1 x2 x3 : Value) (H0 : Hp) : zhw R x0 x1 x2 x3 H0 =
zaC (
 zab 1 false (zaa x0) 0 fun v1 =>
 pBin PP .lss T.int v1 (.int .i64 1) fun v2 =>
 zad v2 fun b3 => br b3
 (zar PP T.api_Fact [] fun v4 =>
 zac 5 [.int .i64 0, .int .u64 0, .int .u64 0, .int .u64 0, .int .u64 0] 0 v4 fun c5 =>
 zab 5 true c5 0 fun v6 =>
 some (.ret, [(.tuple #[v6, (.int .i64 73)])], H0))
 (zab 1 false (zaa x0) 0 fun v7 =>
 pBin PP .gtr T.int v7 (.int .i64 33) fun v8 =>
 zad v8 fun b9 => br b9
 (zar PP T.api_Fact [] fun v10 =>
 zac 5 [.int .i64 0, .int .u64 0, .int .u64 0, .int .u64 0, .int .u64 0] 0 v10 fun c11 =>
 zab 5 true c11 0 fun v12 =>
 some (.ret, [(.tuple #[v12, (.int .i64 73)])], H0))
 (some (.next, [(.agg [.int .i64 0, .int .u64 0, .int .u64 0, .int .u64 0, .int .u64 0].toArray)], H0)))) fun q13 l14 H15 => zaJ q13
 (zab 5 true (zaa x1) 0 fun v17 =>
 zab 5 true (zaa x2) 0 fun v18 =>
 zab 5 true (zaa x3) 0 fun v19 =>
 zar PP T.a3_api_Fact [(0, v17), (1, v18), (2, v19)] fun v20 =>
 zac 15 [.int .i64 0, .int .u64 0, .int .u64 0, .int .u64 0, .int .u64 0, .int .i64 0, .int .u64 0, .int .u64 0, .int .u64 0, .int .u64 0, .int .i64 0, .int .u64 0, .int .u64 0, .int .u64 0, .int .u64 0] 0 v20 fun c21 =>
 zab 1 false (zaa x0) 0 fun v22 =>
 zaf R F.a52 [v22] H15 fun r23 H24 =>
 zaC (
 zab 1 false (zaa x0) 1 fun v25 =>
 pBin PP .lss T.int v25 (.int .i64 0) fun v26 =>
 zad v26 fun b27 => br b27
 (some (.next, [(.bool true)], H24))
 (zab 1 false (zaa x0) 1 fun v28 =>
 pBin PP .gtr T.int v28 (.int .i64 64) fun v29 =>
 some (.next, [v29], H24))) fun q30 l31 H32 => zaJ q30
 (zaC (zaA (zbp R r23 c21) [(l31.getD 0 undef), (.int .i64 0)] H32) fun q46 l47 H48 => zaJ q46 none
 (fun i49 => zaE i49 0 (
 zad (l47.getD 0 undef) fun b50 => br b50
 (zar PP T.api_Fact [] fun v51 =>
 zac 5 (zaa ((l14.drop 0).getD 0 undef)) 0 v51 fun c52 =>
 zab 5 true c52 0 fun v53 =>
 some ((.tuple #[v53, (.int .i64 5)]), H48))
 (zaC (zaA (zbi R r23) [(.bool true), (.int .i64 0), (.agg (zaa ((l14.drop 0).getD 0 undef)).toArray), (.agg c21.toArray), (.agg [.int .i64 0, .int .i64 0, .int .i64 0].toArray)] H48) fun q82 l83 H84 => zaJ q82 none
 (fun i85 => zaE i85 2 (
 zab 7 true (zaa x0) 0 fun v86 =>
 zab 3 true (zaa ((l83.drop 2).getD 2 undef)) 0 fun v87 =>
 zaf R F.a53 [v86, v87] H84 fun r88 H89 =>
 pUn .not r88 fun v90 =>
 zad v90 fun b91 => br b91
 (zar PP T.api_Fact [] fun v92 =>
 zac 5 (zaa ((l83.drop 2).getD 0 undef)) 0 v92 fun c93 =>
 zab 5 true c93 0 fun v94 =>
 some ((.tuple #[v94, (.int .i64 71)]), H89))
 (zab 1 false (zaa x0) 0 fun v95 =>
 pBin PP .eql T.int v95 (.int .i64 4) fun v96 =>
 zad v96 fun b97 => br b97
 (zab 1 false (zaa x0) 1 fun v98 =>
 zaf R F.a38 [v98] H89 fun r99 H100 =>
 zac 5 (zaa ((l83.drop 2).getD 0 undef)) 0 r99 fun c101 =>
 zab 5 true c101 0 fun v102 =>
 some ((.tuple #[v102, (.int .i64 0)]), H100))
 (zad (l83.getD 0 undef) fun b103 => br b103
 (zab 1 false (zaa x0) 1 fun v104 =>
 zab 7 true (zaa x0) 0 fun v105 =>
 zab 15 true (zaa ((l83.drop 2).getD 1 undef)) 0 fun v106 =>
 zaf R F.a56 [v105, v106] H89 fun r107 H108 =>
 zaf R F.a16 [v104, r107] H108 fun r109 H110 =>
 zac 5 (zaa ((l83.drop 2).getD 0 undef)) 0 r109 fun c111 =>
 zab 5 true c111 0 fun v112 =>
 some ((.tuple #[v112, (.int .i64 0)]), H110))
 (zab 7 true (zaa x0) 0 fun v113 =>
 zab 5 true (zaa ((l83.drop 2).getD 1 undef)) 0 fun v114 =>
 zab 5 true (zaa ((l83.drop 2).getD 1 undef)) 5 fun v115 =>
 zab 5 true (zaa ((l83.drop 2).getD 1 undef)) 10 fun v116 =>
 zaf R F.a113 [v113, v114, v115, v116] H89 fun r117 H118 =>
 zaf R F.a5 [r117] H118 fun r119 H120 =>
 zah r119 0 fun v121 =>
 zah r119 1 fun v122 =>
 zac 5 [.int .i64 0, .int .u64 0, .int .u64 0, .int .u64 0, .int .u64 0] 0 v121 fun c123 =>
 pUn .not v122 fun v124 =>
 zad v124 fun b125 => br b125
 (zar PP T.api_Fact [] fun v126 =>
 zac 5 (zaa ((l83.drop 2).getD 0 undef)) 0 v126 fun c127 =>
 zab 5 true c127 0 fun v128 =>
 some ((.tuple #[v128, (.int .i64 1)]), H120))
 (zab 5 true c123 0 fun v129 =>
 zac 5 (zaa ((l83.drop 2).getD 0 undef)) 0 v129 fun c130 =>
 zab 5 true c130 0 fun v131 =>
 some ((.tuple #[v131, (.int .i64 0)]), H120)))))) (
 none))
 (some ((l83.headD undef), H84)))) (
 none))
 (some ((l47.headD undef), H48)))
 (fun i33 => none)
 (some ((l31.headD undef), H32)))
 (fun i16 => none)
 (some ((l14.headD undef), H15)) := by kernel_rfl
noncomputable def zaO (R : zaj) (r34 : Value) (c40 : List Value) (l41 : List Value) (H42 : Hp) : Option Outc :=
 pBin PP .lss T.int (l41.getD 0 undef) r34 fun v43 =>
 zad v43 fun b44 => br b44
 (zaS 3 (l41.getD 0 undef) fun j45 =>
 zab 5 true c40 (0 + j45 * 5) fun v46 =>
 zaf R F.a33 [v46] H42 fun r47 H48 =>
 pUn .not r47 fun v49 =>
 zad v49 fun b50 => br b50
 (zar PP T.api_Fact [] fun v51 =>
 zac 5 (zaa ((l41.drop 1).getD 0 undef)) 0 v51 fun c52 =>
 zab 5 true c52 0 fun v53 =>
 some (.ret, [(.tuple #[v53, (.int .i64 5)])], H48))
 (pBin PP .add T.int (l41.getD 0 undef) (.int .i64 1) fun v54 =>
 some (.next, [v54, (.agg (zaa ((l41.drop 1).getD 0 undef)).toArray)], H48)))
 (some (.exit 0, [(l41.getD 0 undef), (.agg (zaa ((l41.drop 1).getD 0 undef)).toArray)], H42))
noncomputable def zaN (R : zaj) (r34 : Value) (l59 : List Value) (H60 : Hp) : Option Outc :=
 pBin PP .lss T.int (l59.getD 1 undef) (.int .i64 3) fun v61 =>
 zad v61 fun b62 => br b62
 (pBin PP .geq T.int (l59.getD 1 undef) r34 fun v63 =>
 zad v63 fun b64 => br b64
 (zar PP T.api_Fact [] fun v65 =>
 zaS 3 (l59.getD 1 undef) fun j66 =>
 zac 5 (zaa ((l59.drop 2).getD 1 undef)) (0 + j66 * 5) v65 fun c67 =>
 pBin PP .add T.int (l59.getD 1 undef) (.int .i64 1) fun v68 =>
 some (.next, [(l59.getD 0 undef), v68, (.agg (zaa ((l59.drop 2).getD 0 undef)).toArray), (.agg c67.toArray)], H60))
 (zaS 3 (l59.getD 1 undef) fun j69 =>
 zab 5 true (zaa ((l59.drop 2).getD 1 undef)) (0 + j69 * 5) fun v70 =>
 zaf R F.a2 [v70] H60 fun r71 H72 =>
 zah r71 0 fun v73 =>
 zah r71 1 fun v74 =>
 zac 5 [.int .i64 0, .int .u64 0, .int .u64 0, .int .u64 0, .int .u64 0] 0 v73 fun c75 =>
 pBin PP .neq T.int v74 (.int .i64 0) fun v76 =>
 zad v76 fun b77 => br b77
 (zar PP T.api_Fact [] fun v78 =>
 zac 5 (zaa ((l59.drop 2).getD 0 undef)) 0 v78 fun c79 =>
 zab 5 true c79 0 fun v80 =>
 some (.ret, [(.tuple #[v80, v74])], H72))
 (zab 5 true c75 0 fun v81 =>
 zaS 3 (l59.getD 1 undef) fun j82 =>
 zac 5 (zaa ((l59.drop 2).getD 1 undef)) (0 + j82 * 5) v81 fun c83 =>
 zad (l59.getD 0 undef) fun b84 => br b84
 (zab 5 true c75 0 fun v85 =>
 zaf R F.a34 [v85] H72 fun r86 H87 =>
 pBin PP .add T.int (l59.getD 1 undef) (.int .i64 1) fun v88 =>
 some (.next, [r86, v88, (.agg (zaa ((l59.drop 2).getD 0 undef)).toArray), (.agg c83.toArray)], H87))
 (pBin PP .add T.int (l59.getD 1 undef) (.int .i64 1) fun v89 =>
 some (.next, [(.bool false), v89, (.agg (zaa ((l59.drop 2).getD 0 undef)).toArray), (.agg c83.toArray)], H72)))))
 (some (.exit 2, [(l59.getD 0 undef), (l59.getD 1 undef), (.agg (zaa ((l59.drop 2).getD 0 undef)).toArray), (.agg (zaa ((l59.drop 2).getD 1 undef)).toArray)], H60))
theorem zf8 (R : zaj) (x0 x1 x2 x3 : Value) (H0 : Hp) : zdi R x0 x1 x2 x3 H0 =
zaC (
 zab 1 false (zaa x0) 0 fun v1 =>
 pBin PP .lss T.int v1 (.int .i64 1) fun v2 =>
 zad v2 fun b3 => br b3
 (zar PP T.api_Fact [] fun v4 =>
 zac 5 [.int .i64 0, .int .u64 0, .int .u64 0, .int .u64 0, .int .u64 0] 0 v4 fun c5 =>
 zab 5 true c5 0 fun v6 =>
 some (.ret, [(.tuple #[v6, (.int .i64 73)])], H0))
 (zab 1 false (zaa x0) 0 fun v7 =>
 pBin PP .gtr T.int v7 (.int .i64 33) fun v8 =>
 zad v8 fun b9 => br b9
 (zar PP T.api_Fact [] fun v10 =>
 zac 5 [.int .i64 0, .int .u64 0, .int .u64 0, .int .u64 0, .int .u64 0] 0 v10 fun c11 =>
 zab 5 true c11 0 fun v12 =>
 some (.ret, [(.tuple #[v12, (.int .i64 73)])], H0))
 (some (.next, [(.agg [.int .i64 0, .int .u64 0, .int .u64 0, .int .u64 0, .int .u64 0].toArray)], H0)))) fun q13 l14 H15 => zaJ q13
 (zaC (
 zab 1 false (zaa x0) 1 fun v17 =>
 pBin PP .lss T.int v17 (.int .i64 0) fun v18 =>
 zad v18 fun b19 => br b19
 (zar PP T.api_Fact [] fun v20 =>
 zac 5 (zaa ((l14.drop 0).getD 0 undef)) 0 v20 fun c21 =>
 zab 5 true c21 0 fun v22 =>
 some (.ret, [(.tuple #[v22, (.int .i64 5)])], H15))
 (zab 1 false (zaa x0) 1 fun v23 =>
 pBin PP .gtr T.int v23 (.int .i64 64) fun v24 =>
 zad v24 fun b25 => br b25
 (zar PP T.api_Fact [] fun v26 =>
 zac 5 (zaa ((l14.drop 0).getD 0 undef)) 0 v26 fun c27 =>
 zab 5 true c27 0 fun v28 =>
 some (.ret, [(.tuple #[v28, (.int .i64 5)])], H15))
 (some (.next, [(.agg (zaa ((l14.drop 0).getD 0 undef)).toArray)], H15)))) fun q29 l30 H31 => zaJ q29
 (zab 1 false (zaa x0) 0 fun v33 =>
 zaf R F.a99 [v33] H31 fun r34 H35 =>
 zab 5 true (zaa x1) 0 fun v36 =>
 zab 5 true (zaa x2) 0 fun v37 =>
 zab 5 true (zaa x3) 0 fun v38 =>
 zar PP T.a3_api_Fact [(0, v36), (1, v37), (2, v38)] fun v39 =>
 zac 15 [.int .i64 0, .int .u64 0, .int .u64 0, .int .u64 0, .int .u64 0, .int .i64 0, .int .u64 0, .int .u64 0, .int .u64 0, .int .u64 0, .int .i64 0, .int .u64 0, .int .u64 0, .int .u64 0, .int .u64 0] 0 v39 fun c40 =>
 zaC (zaA (zaO R r34 c40) [(.int .i64 0), (.agg (zaa ((l30.drop 0).getD 0 undef)).toArray)] H35) fun q55 l56 H57 => zaJ q55 none
 (fun i58 => zaE i58 0 (
 zaC (zaA (zaN R r34) [(.bool true), (.int .i64 0), (.agg (zaa ((l56.drop 1).getD 0 undef)).toArray), (.agg c40.toArray)] H57) fun q90 l91 H92 => zaJ q90 none
 (fun i93 => zaE i93 2 (
 zab 7 true (zaa x0) 0 fun v94 =>
 zab 1 false (zaa ((l91.drop 2).getD 1 undef)) 0 fun v95 =>
 zab 1 false (zaa ((l91.drop 2).getD 1 undef)) 5 fun v96 =>
 zab 1 false (zaa ((l91.drop 2).getD 1 undef)) 10 fun v97 =>
 zaf R F.a107 [v94, v95, v96, v97] H92 fun r98 H99 =>
 pUn .not r98 fun v100 =>
 zad v100 fun b101 => br b101
 (zar PP T.api_Fact [] fun v102 =>
 zac 5 (zaa ((l91.drop 2).getD 0 undef)) 0 v102 fun c103 =>
 zab 5 true c103 0 fun v104 =>
 some ((.tuple #[v104, (.int .i64 71)]), H99))
 (zab 1 false (zaa x0) 0 fun v105 =>
 pBin PP .eql T.int v105 (.int .i64 4) fun v106 =>
 zad v106 fun b107 => br b107
 (zab 1 false (zaa x0) 1 fun v108 =>
 zaf R F.a100 [v108] H99 fun r109 H110 =>
 zah r109 0 fun v111 =>
 zah r109 1 fun v112 =>
 zac 5 (zaa ((l91.drop 2).getD 0 undef)) 0 v111 fun c113 =>
 zab 5 true c113 0 fun v114 =>
 some ((.tuple #[v114, v112]), H110))
 (zad (l91.getD 0 undef) fun b115 => br b115
 (zab 1 false (zaa x0) 1 fun v116 =>
 zab 7 true (zaa x0) 0 fun v117 =>
 zab 1 false (zaa ((l91.drop 2).getD 1 undef)) 3 fun v118 =>
 zab 1 false (zaa ((l91.drop 2).getD 1 undef)) 8 fun v119 =>
 zab 1 false (zaa ((l91.drop 2).getD 1 undef)) 13 fun v120 =>
 zab 1 false (zaa ((l91.drop 2).getD 1 undef)) 0 fun v121 =>
 zab 1 false (zaa ((l91.drop 2).getD 1 undef)) 5 fun v122 =>
 zaf R F.a63 [v117, v118, v119, v120, v121, v122] H99 fun r123 H124 =>
 zaf R F.a46 [v116, r123] H124 fun r125 H126 =>
 zah r125 0 fun v127 =>
 zah r125 1 fun v128 =>
 zac 5 (zaa ((l91.drop 2).getD 0 undef)) 0 v127 fun c129 =>
 zab 5 true c129 0 fun v130 =>
 some ((.tuple #[v130, v128]), H126))
 (zab 7 true (zaa x0) 0 fun v131 =>
 zab 5 true (zaa ((l91.drop 2).getD 1 undef)) 0 fun v132 =>
 zab 5 true (zaa ((l91.drop 2).getD 1 undef)) 5 fun v133 =>
 zab 5 true (zaa ((l91.drop 2).getD 1 undef)) 10 fun v134 =>
 zaf R F.a109 [v131, v132, v133, v134] H99 fun r135 H136 =>
 zaf R F.a2 [r135] H136 fun r137 H138 =>
 zah r137 0 fun v139 =>
 zah r137 1 fun v140 =>
 zac 5 (zaa ((l91.drop 2).getD 0 undef)) 0 v139 fun c141 =>
 zab 5 true c141 0 fun v142 =>
 some ((.tuple #[v142, v140]), H138))))) (
 none))
 (some ((l91.headD undef), H92))) (
 none))
 (some ((l56.headD undef), H57)))
 (fun i32 => none)
 (some ((l30.headD undef), H31)))
 (fun i16 => none)
 (some ((l14.headD undef), H15)) := by kernel_rfl
noncomputable def zbk (R : zaj) (x0 : Value) (v5 : Value) (v11 : Value) (r46 : Value) (l48 : List Value) (H49 : Hp) : Option Outc :=
 pBin PP .lss T.int (l48.getD 0 undef) r46 fun v50 =>
 zad v50 fun b51 => br b51
 (zal .u64 (l48.getD 0 undef) fun v52 =>
 pBin PP .shl T.uint64 (.int .u64 1) v52 fun v53 =>
 zab 1 false (zaa x0) 1 fun v54 =>
 pBin PP .and T.uint64 v54 v53 fun v55 =>
 pBin PP .neq T.uint64 v55 (.int .u64 0) fun v56 =>
 zad v56 fun b57 => br b57
 (zab 1 false (zaa ((l48.drop 1).getD 0 undef)) 1 fun v58 =>
 pBin PP .or T.uint64 v58 v53 fun v59 =>
 zac 1 (zaa ((l48.drop 1).getD 0 undef)) 1 v59 fun c60 =>
 pBin PP .add T.int (l48.getD 0 undef) (.int .i64 1) fun v61 =>
 some (.next, [v61, (.agg c60.toArray)], H49))
 (zab 1 false (zaa x0) 2 fun v62 =>
 pBin PP .and T.uint64 v62 v53 fun v63 =>
 pBin PP .neq T.uint64 v63 (.int .u64 0) fun v64 =>
 zad v64 fun b65 => br b65
 (zab 1 false (zaa ((l48.drop 1).getD 0 undef)) 2 fun v66 =>
 pBin PP .or T.uint64 v66 v53 fun v67 =>
 zac 1 (zaa ((l48.drop 1).getD 0 undef)) 2 v67 fun c68 =>
 pBin PP .add T.int (l48.getD 0 undef) (.int .i64 1) fun v69 =>
 some (.next, [v69, (.agg c68.toArray)], H49))
 (zab 1 false (zaa x0) 0 fun v70 =>
 zab 1 false (zaa x0) 1 fun v71 =>
 pBin PP .or T.uint64 v71 v53 fun v72 =>
 zab 1 false (zaa x0) 2 fun v73 =>
 zar PP T.api_Fact [(0, v70), (1, v72), (2, v73)] fun v74 =>
 zaf R F.a78 [v74, v5, v11] H49 fun r75 H76 =>
 pUn .not r75 fun v77 =>
 zad v77 fun b78 => br b78
 (zab 1 false (zaa ((l48.drop 1).getD 0 undef)) 2 fun v79 =>
 pBin PP .or T.uint64 v79 v53 fun v80 =>
 zac 1 (zaa ((l48.drop 1).getD 0 undef)) 2 v80 fun c81 =>
 pBin PP .add T.int (l48.getD 0 undef) (.int .i64 1) fun v82 =>
 some (.next, [v82, (.agg c81.toArray)], H76))
 (zab 1 false (zaa x0) 0 fun v83 =>
 zab 1 false (zaa x0) 1 fun v84 =>
 zab 1 false (zaa x0) 2 fun v85 =>
 pBin PP .or T.uint64 v85 v53 fun v86 =>
 zar PP T.api_Fact [(0, v83), (1, v84), (2, v86)] fun v87 =>
 zaf R F.a78 [v87, v5, v11] H76 fun r88 H89 =>
 pUn .not r88 fun v90 =>
 zad v90 fun b91 => br b91
 (zab 1 false (zaa ((l48.drop 1).getD 0 undef)) 1 fun v92 =>
 pBin PP .or T.uint64 v92 v53 fun v93 =>
 zac 1 (zaa ((l48.drop 1).getD 0 undef)) 1 v93 fun c94 =>
 pBin PP .add T.int (l48.getD 0 undef) (.int .i64 1) fun v95 =>
 some (.next, [v95, (.agg c94.toArray)], H89))
 (pBin PP .add T.int (l48.getD 0 undef) (.int .i64 1) fun v96 =>
 some (.next, [v96, (.agg (zaa ((l48.drop 1).getD 0 undef)).toArray)], H89))))))
 (some (.exit 0, [(l48.getD 0 undef), (.agg (zaa ((l48.drop 1).getD 0 undef)).toArray)], H49))
theorem zkp (R : zaj) (x0 : Value) (H0 : Hp) : zgk R x0 H0 =
zab 5 true (zaa x0) 0 fun v1 =>
 zab 1 false (zaa x0) 3 fun v2 =>
 zaf R F.a40 [v1, v2] H0 fun r3 H4 =>
 zah r3 0 fun v5 =>
 zah r3 1 fun v6 =>
 zab 5 true (zaa x0) 0 fun v7 =>
 zab 1 false (zaa x0) 4 fun v8 =>
 zaf R F.a115 [v7, v8] H4 fun r9 H10 =>
 zah r9 0 fun v11 =>
 zah r9 1 fun v12 =>
 zaC (
 pUn .not v6 fun v13 =>
 zad v13 fun b14 => br b14
 (zar PP T.api_Fact [] fun v15 =>
 zac 5 [.int .i64 0, .int .u64 0, .int .u64 0, .int .u64 0, .int .u64 0] 0 v15 fun c16 =>
 zab 5 true c16 0 fun v17 =>
 some (.ret, [(.tuple #[v17, (.bool false)])], H10))
 (pUn .not v12 fun v18 =>
 zad v18 fun b19 => br b19
 (zar PP T.api_Fact [] fun v20 =>
 zac 5 [.int .i64 0, .int .u64 0, .int .u64 0, .int .u64 0, .int .u64 0] 0 v20 fun c21 =>
 zab 5 true c21 0 fun v22 =>
 some (.ret, [(.tuple #[v22, (.bool false)])], H10))
 (pBin PP .gtr T.uint64 v5 v11 fun v23 =>
 zad v23 fun b24 => br b24
 (zar PP T.api_Fact [] fun v25 =>
 zac 5 [.int .i64 0, .int .u64 0, .int .u64 0, .int .u64 0, .int .u64 0] 0 v25 fun c26 =>
 zab 5 true c26 0 fun v27 =>
 some (.ret, [(.tuple #[v27, (.bool false)])], H10))
 (zab 1 false (zaa x0) 3 fun v28 =>
 zab 1 false (zaa x0) 4 fun v29 =>
 pBin PP .gtr T.uint64 v28 v29 fun v30 =>
 zad v30 fun b31 => br b31
 (zar PP T.api_Fact [] fun v32 =>
 zac 5 [.int .i64 0, .int .u64 0, .int .u64 0, .int .u64 0, .int .u64 0] 0 v32 fun c33 =>
 zab 5 true c33 0 fun v34 =>
 some (.ret, [(.tuple #[v34, (.bool false)])], H10))
 (some (.next, [(.agg [.int .i64 0, .int .u64 0, .int .u64 0, .int .u64 0, .int .u64 0].toArray)], H10)))))) fun q35 l36 H37 => zaJ q35
 (zab 1 false (zaa x0) 0 fun v39 =>
 zar PP T.api_Fact [(0, v39), (3, v5), (4, v11)] fun v40 =>
 zac 5 [.int .i64 0, .int .u64 0, .int .u64 0, .int .u64 0, .int .u64 0] 0 v40 fun c41 =>
 zab 1 false (zaa x0) 0 fun v42 =>
 zaf R F.a3 [v42] H37 fun r43 H44 =>
 zab 1 false (zaa x0) 0 fun v45 =>
 zaf R F.a41 [v45] H44 fun r46 H47 =>
 zaC (zaA (zbk R x0 v5 v11 r46) [(.int .i64 0), (.agg c41.toArray)] H47) fun q97 l98 H99 => zaJ q97 none
 (fun i100 => zaE i100 0 (
 zab 1 false (zaa ((l98.drop 1).getD 0 undef)) 1 fun v101 =>
 pBin PP .and T.uint64 v101 r43 fun v102 =>
 zac 1 (zaa ((l98.drop 1).getD 0 undef)) 1 v102 fun c103 =>
 zab 5 true c103 0 fun v104 =>
 zac 5 (zaa ((l36.drop 0).getD 0 undef)) 0 v104 fun c105 =>
 zab 5 true c105 0 fun v106 =>
 some ((.tuple #[v106, (.bool true)]), H99)) (
 none))
 (some ((l98.headD undef), H99)))
 (fun i38 => none)
 (some ((l36.headD undef), H37)) := by kernel_rfl
noncomputable def zbv (R : zaj) (x1 : Value) (v3 : Value) (r8 : Value) (c6 : List Value) (l10 : List Value) (H11 : Hp) : Option Outc :=
 pBin PP .lss T.int (l10.getD 0 undef) r8 fun v12 =>
 zad v12 fun b13 => br b13
 (zaS 3 (l10.getD 0 undef) fun j14 =>
 zab 1 false c6 (0 + j14 * 1) fun v15 =>
 zaS 3 (l10.getD 0 undef) fun j16 =>
 zab 1 false (zaa x1) (0 + j16 * 1) fun v17 =>
 zaf R F.a124 [v3, v15, v17] H11 fun r18 H19 =>
 zah r18 0 fun v20 =>
 zah r18 1 fun v21 =>
 zaS 3 (l10.getD 0 undef) fun j22 =>
 zac 1 (zaa ((l10.drop 1).getD 0 undef)) (0 + j22 * 1) v20 fun c23 =>
 pBin PP .add T.int (l10.getD 0 undef) (.int .i64 1) fun v24 =>
 some (.next, [v24, (.agg c23.toArray)], H19))
 (some (.exit 0, [(l10.getD 0 undef), (.agg (zaa ((l10.drop 1).getD 0 undef)).toArray)], H11))
theorem zlN (R : zaj) (x0 x1 : Value) (H0 : Hp) : zht R x0 x1 H0 =
zaf R F.a80 [(.int .i64 0)] H0 fun r1 H2 =>
 zah r1 0 fun v3 =>
 zah r1 1 fun v4 =>
 zar PP T.a3_string [(0, (.string ⟨#[97]⟩)), (1, (.string ⟨#[98]⟩)), (2, (.string ⟨#[99]⟩))] fun v5 =>
 zac 3 [.string ⟨#[]⟩, .string ⟨#[]⟩, .string ⟨#[]⟩] 0 v5 fun c6 =>
 zab 1 false (zaa x0) 0 fun v7 =>
 zaf R F.a52 [v7] H2 fun r8 H9 =>
 zaC (zaA (zbv R x1 v3 r8 c6) [(.int .i64 0), (.agg [.int .i64 0, .int .i64 0, .int .i64 0].toArray)] H9) fun q25 l26 H27 => zaJ q25 none
 (fun i28 => zaE i28 0 (
 zab 1 false (zaa x0) 0 fun v29 =>
 pBin PP .eql T.int v29 (.int .i64 4) fun v30 =>
 zad v30 fun b31 => br b31
 (zab 1 false (zaa x0) 5 fun v32 =>
 pBin PP .eql T.uint64 v32 (.int .u64 0) fun v33 =>
 some (v33, H27))
 (zab 1 false (zaa x0) 0 fun v34 =>
 zab 1 false (zaa x0) 1 fun v35 =>
 zab 1 false (zaa ((l26.drop 1).getD 0 undef)) 0 fun v36 =>
 zab 1 false (zaa ((l26.drop 1).getD 0 undef)) 1 fun v37 =>
 zab 1 false (zaa ((l26.drop 1).getD 0 undef)) 2 fun v38 =>
 zab 1 false (zaa x0) 5 fun v39 =>
 zar PP T.api_Node [(0, v34), (1, v35), (2, v36), (3, v37), (4, v38), (5, v39)] fun v40 =>
 zaf R F.a12 [v3, v40] H27 fun r41 H42 =>
 zah r41 0 fun v43 =>
 zah r41 1 fun v44 =>
 pBin PP .eql T.api_Errno v44 (.int .i64 0) fun v45 =>
 some (v45, H42))) (
 none))
 (some ((l26.headD undef), H27)) := by kernel_rfl
noncomputable def zbh (R : zaj) (x1 : Value) (v3 : Value) (r6 : Value) (l8 : List Value) (H9 : Hp) : Option Outc :=
 pBin PP .lss T.int (l8.getD 0 undef) r6 fun v10 =>
 zad v10 fun b11 => br b11
 (zaS 3 (l8.getD 0 undef) fun j12 =>
 zab 1 false (zaa x1) ((0 + j12 * 5) + 0) fun v13 =>
 pBin PP .eql T.int v13 (.int .i64 0) fun v14 =>
 zad v14 fun b15 => br b15
 (zaS 3 (l8.getD 0 undef) fun j16 =>
 zab 1 false (zaa x1) ((0 + j16 * 5) + 3) fun v17 =>
 pBin PP .eql T.uint64 v17 (.int .u64 1) fun v18 =>
 zaf R F.a123 [v3, v18] H9 fun r19 H20 =>
 zah r19 0 fun v21 =>
 zah r19 1 fun v22 =>
 zaS 3 (l8.getD 0 undef) fun j23 =>
 zac 1 (zaa ((l8.drop 1).getD 0 undef)) (0 + j23 * 1) v21 fun c24 =>
 pBin PP .add T.int (l8.getD 0 undef) (.int .i64 1) fun v25 =>
 some (.next, [v25, (.agg c24.toArray)], H20))
 (zaS 3 (l8.getD 0 undef) fun j26 =>
 zab 1 false (zaa x1) ((0 + j26 * 5) + 0) fun v27 =>
 zaS 3 (l8.getD 0 undef) fun j28 =>
 zab 1 false (zaa x1) ((0 + j28 * 5) + 3) fun v29 =>
 zaf R F.a81 [v3, v27, v29] H9 fun r30 H31 =>
 zah r30 0 fun v32 =>
 zah r30 1 fun v33 =>
 zaS 3 (l8.getD 0 undef) fun j34 =>
 zac 1 (zaa ((l8.drop 1).getD 0 undef)) (0 + j34 * 1) v32 fun c35 =>
 pBin PP .add T.int (l8.getD 0 undef) (.int .i64 1) fun v36 =>
 some (.next, [v36, (.agg c35.toArray)], H31)))
 (some (.exit 0, [(l8.getD 0 undef), (.agg (zaa ((l8.drop 1).getD 0 undef)).toArray)], H9))
theorem zlM (R : zaj) (x0 x1 : Value) (H0 : Hp) : zhr R x0 x1 H0 =
zaf R F.a80 [(.int .i64 0)] H0 fun r1 H2 =>
 zah r1 0 fun v3 =>
 zah r1 1 fun v4 =>
 zab 1 false (zaa x0) 0 fun v5 =>
 zaf R F.a52 [v5] H2 fun r6 H7 =>
 zaC (zaA (zbh R x1 v3 r6) [(.int .i64 0), (.agg [.int .i64 0, .int .i64 0, .int .i64 0].toArray)] H7) fun q37 l38 H39 => zaJ q37 none
 (fun i40 => zaE i40 0 (
 zab 1 false (zaa x0) 0 fun v41 =>
 zab 1 false (zaa x0) 1 fun v42 =>
 zab 1 false (zaa ((l38.drop 1).getD 0 undef)) 0 fun v43 =>
 zab 1 false (zaa ((l38.drop 1).getD 0 undef)) 1 fun v44 =>
 zab 1 false (zaa ((l38.drop 1).getD 0 undef)) 2 fun v45 =>
 zab 1 false (zaa x0) 5 fun v46 =>
 zar PP T.api_Node [(0, v41), (1, v42), (2, v43), (3, v44), (4, v45), (5, v46)] fun v47 =>
 zaf R F.a12 [v3, v47] H39 fun r48 H49 =>
 zah r48 0 fun v50 =>
 zah r48 1 fun v51 =>
 zaf R F.a110 [v3, v50, (.slice none 0 0)] H49 fun r52 H53 =>
 zah r52 0 fun v54 =>
 zah r52 1 fun v55 =>
 some (v54, H53)) (
 none))
 (some ((l38.headD undef), H39)) := by kernel_rfl
noncomputable def zaW (R : zaj) (x0 : Value) (l25 : List Value) (H26 : Hp) : Option Outc :=
 zab 1 false (zaa x0) 0 fun v27 =>
 zaf R F.a26 [v27] H26 fun r28 H29 =>
 pBin PP .lss T.int (l25.getD 0 undef) r28 fun v30 =>
 zad v30 fun b31 => br b31
 (zal .u64 (l25.getD 0 undef) fun v32 =>
 pBin PP .shl T.uint64 (.int .u64 1) v32 fun v33 =>
 zab 5 true (zaa x0) 0 fun v34 =>
 zac 5 [.int .i64 0, .int .u64 0, .int .u64 0, .int .u64 0, .int .u64 0] 0 v34 fun c35 =>
 zab 1 false (zaa x0) 2 fun v36 =>
 pBin PP .or T.uint64 v36 v33 fun v37 =>
 zac 1 c35 2 v37 fun c38 =>
 zab 5 true c38 0 fun v39 =>
 zaf R F.a14 [v39] H29 fun r40 H41 =>
 zah r40 0 fun v42 =>
 zah r40 1 fun v43 =>
 zab 5 true (zaa x0) 0 fun v44 =>
 zac 5 c38 0 v44 fun c45 =>
 zab 1 false (zaa x0) 1 fun v46 =>
 pBin PP .or T.uint64 v46 v33 fun v47 =>
 zac 1 c45 1 v47 fun c48 =>
 zab 5 true c48 0 fun v49 =>
 zaf R F.a14 [v49] H41 fun r50 H51 =>
 zah r50 0 fun v52 =>
 zah r50 1 fun v53 =>
 pUn .not v43 fun v54 =>
 zad v54 fun b55 => br b55
 (zab 1 false (zaa ((l25.drop 1).getD 0 undef)) 1 fun v56 =>
 pBin PP .or T.uint64 v56 v33 fun v57 =>
 zac 1 (zaa ((l25.drop 1).getD 0 undef)) 1 v57 fun c58 =>
 pUn .not v53 fun v59 =>
 zad v59 fun b60 => br b60
 (zab 1 false c58 2 fun v61 =>
 pBin PP .or T.uint64 v61 v33 fun v62 =>
 zac 1 c58 2 v62 fun c63 =>
 pBin PP .add T.int (l25.getD 0 undef) (.int .i64 1) fun v64 =>
 some (.next, [v64, (.agg c63.toArray)], H51))
 (pBin PP .add T.int (l25.getD 0 undef) (.int .i64 1) fun v65 =>
 some (.next, [v65, (.agg c58.toArray)], H51)))
 (pUn .not v53 fun v66 =>
 zad v66 fun b67 => br b67
 (zab 1 false (zaa ((l25.drop 1).getD 0 undef)) 2 fun v68 =>
 pBin PP .or T.uint64 v68 v33 fun v69 =>
 zac 1 (zaa ((l25.drop 1).getD 0 undef)) 2 v69 fun c70 =>
 pBin PP .add T.int (l25.getD 0 undef) (.int .i64 1) fun v71 =>
 some (.next, [v71, (.agg c70.toArray)], H51))
 (pBin PP .add T.int (l25.getD 0 undef) (.int .i64 1) fun v72 =>
 some (.next, [v72, (.agg (zaa ((l25.drop 1).getD 0 undef)).toArray)], H51))))
 (some (.exit 0, [(l25.getD 0 undef), (.agg (zaa ((l25.drop 1).getD 0 undef)).toArray)], H29))
theorem zfB (R : zaj) (x0 : Value) (H0 : Hp) : zcU R x0 H0 =
zab 5 true (zaa x0) 0 fun v1 =>
 zaf R F.a33 [v1] H0 fun r2 H3 =>
 pUn .not r2 fun v4 =>
 zad v4 fun b5 => br b5
 (zar PP T.api_Fact [] fun v6 =>
 zac 5 [.int .i64 0, .int .u64 0, .int .u64 0, .int .u64 0, .int .u64 0] 0 v6 fun c7 =>
 zab 5 true c7 0 fun v8 =>
 some ((.tuple #[v8, (.int .i64 5)]), H3))
 (zab 5 true (zaa x0) 0 fun v9 =>
 zaf R F.a14 [v9] H3 fun r10 H11 =>
 zah r10 0 fun v12 =>
 zah r10 1 fun v13 =>
 pUn .not v13 fun v14 =>
 zad v14 fun b15 => br b15
 (zar PP T.api_Fact [] fun v16 =>
 zac 5 [.int .i64 0, .int .u64 0, .int .u64 0, .int .u64 0, .int .u64 0] 0 v16 fun c17 =>
 zab 5 true c17 0 fun v18 =>
 some ((.tuple #[v18, (.int .i64 1)]), H11))
 (zab 1 false (zaa x0) 0 fun v19 =>
 zab 5 true (zaa x0) 0 fun v20 =>
 zaf R F.a47 [v20] H11 fun r21 H22 =>
 zar PP T.api_Fact [(0, v19), (3, v12), (4, r21)] fun v23 =>
 zac 5 [.int .i64 0, .int .u64 0, .int .u64 0, .int .u64 0, .int .u64 0] 0 v23 fun c24 =>
 zaC (zaA (zaW R x0) [(.int .i64 0), (.agg c24.toArray)] H22) fun q73 l74 H75 => zaJ q73 none
 (fun i76 => zaE i76 0 (
 zab 5 true (zaa ((l74.drop 1).getD 0 undef)) 0 fun v77 =>
 zac 5 [.int .i64 0, .int .u64 0, .int .u64 0, .int .u64 0, .int .u64 0] 0 v77 fun c78 =>
 zab 5 true c78 0 fun v79 =>
 some ((.tuple #[v79, (.int .i64 0)]), H75)) (
 none))
 (some ((l74.headD undef), H75)))) := by kernel_rfl
noncomputable def zca (R : zaj) (x0 : Value) (x1 : Value) (l39 : List Value) (H40 : Hp) : Option Outc :=
 zab 1 false (zaa x0) 0 fun v41 =>
 zaf R F.a41 [v41] H40 fun r42 H43 =>
 pBin PP .lss T.int (l39.getD 0 undef) r42 fun v44 =>
 zad v44 fun b45 => br b45
 (zaC (
 zal .u64 (l39.getD 0 undef) fun v46 =>
 pBin PP .shr T.uint64 x1 v46 fun v47 =>
 pBin PP .and T.uint64 v47 (.int .u64 1) fun v48 =>
 pBin PP .eql T.uint64 v48 (.int .u64 0) fun v49 =>
 zad v49 fun b50 => br b50
 (zab 1 false (zaa x0) 2 fun v51 =>
 zal .u64 (l39.getD 0 undef) fun v52 =>
 pBin PP .shr T.uint64 v51 v52 fun v53 =>
 pBin PP .and T.uint64 v53 (.int .u64 1) fun v54 =>
 pBin PP .eql T.uint64 v54 (.int .u64 0) fun v55 =>
 some (.next, [v55], H43))
 (some (.next, [(.bool false)], H43))) fun q56 l57 H58 => zaJ q56
 (zad (l57.getD 0 undef) fun b60 => br b60
 (zal .u64 (l39.getD 0 undef) fun v61 =>
 pBin PP .shr T.uint64 x1 v61 fun v62 =>
 zal .u64 (l39.getD 0 undef) fun v63 =>
 pBin PP .shl T.uint64 v62 v63 fun v64 =>
 zal .u64 (l39.getD 0 undef) fun v65 =>
 pBin PP .shl T.uint64 (.int .u64 1) v65 fun v66 =>
 pBin PP .or T.uint64 v64 v66 fun v67 =>
 zab 1 false (zaa x0) 1 fun v68 =>
 zal .u64 (l39.getD 0 undef) fun v69 =>
 pBin PP .shl T.uint64 (.int .u64 1) v69 fun v70 =>
 pBin PP .sub T.uint64 v70 (.int .u64 1) fun v71 =>
 pBin PP .and T.uint64 v68 v71 fun v72 =>
 pBin PP .or T.uint64 v67 v72 fun v73 =>
 some (.ret, [(.tuple #[v73, (.bool true)])], H58))
 (pBin PP .add T.int (l39.getD 0 undef) (.int .i64 1) fun v74 =>
 some (.next, [v74], H58)))
 (fun i59 => zaE i59 1 (
 pBin PP .add T.int (l39.getD 0 undef) (.int .i64 1) fun v75 =>
 some (.next, [v75], H58)) (
 some (.exit i59, [(l39.getD 0 undef)], H58)))
 (some (.ret, [(l57.headD undef)], H58)))
 (some (.exit 0, [(l39.getD 0 undef)], H43))
theorem zpJ (R : zaj) (x0 x1 : Value) (H0 : Hp) : zkS R x0 x1 H0 =
zab 1 false (zaa x0) 1 fun v1 =>
 zab 1 false (zaa x0) 2 fun v2 =>
 pBin PP .and T.uint64 v1 v2 fun v3 =>
 pBin PP .neq T.uint64 v3 (.int .u64 0) fun v4 =>
 zad v4 fun b5 => br b5
 (some ((.tuple #[(.int .u64 0), (.bool false)]), H0))
 (zab 5 true (zaa x0) 0 fun v6 =>
 zaf R F.a116 [v6, x1] H0 fun r7 H8 =>
 zad r7 fun b9 => br b9
 (some ((.tuple #[x1, (.bool true)]), H8))
 (zab 1 false (zaa x0) 2 fun v10 =>
 pBin PP .and T.uint64 x1 v10 fun v11 =>
 pUn .xor x1 fun v12 =>
 zab 1 false (zaa x0) 1 fun v13 =>
 pBin PP .and T.uint64 v12 v13 fun v14 =>
 pBin PP .or T.uint64 v11 v14 fun v15 =>
 zaf R F.a87 [v15] H8 fun r16 H17 =>
 pBin PP .sub T.int (.int .i64 63) r16 fun v18 =>
 zab 1 false (zaa x0) 1 fun v19 =>
 zal .u64 v18 fun v20 =>
 pBin PP .shr T.uint64 v19 v20 fun v21 =>
 pBin PP .and T.uint64 v21 (.int .u64 1) fun v22 =>
 pBin PP .eql T.uint64 v22 (.int .u64 1) fun v23 =>
 zad v23 fun b24 => br b24
 (zal .u64 v18 fun v25 =>
 pBin PP .shr T.uint64 x1 v25 fun v26 =>
 zal .u64 v18 fun v27 =>
 pBin PP .shl T.uint64 v26 v27 fun v28 =>
 zal .u64 v18 fun v29 =>
 pBin PP .shl T.uint64 (.int .u64 1) v29 fun v30 =>
 pBin PP .or T.uint64 v28 v30 fun v31 =>
 zab 1 false (zaa x0) 1 fun v32 =>
 zal .u64 v18 fun v33 =>
 pBin PP .shl T.uint64 (.int .u64 1) v33 fun v34 =>
 pBin PP .sub T.uint64 v34 (.int .u64 1) fun v35 =>
 pBin PP .and T.uint64 v32 v35 fun v36 =>
 pBin PP .or T.uint64 v31 v36 fun v37 =>
 some ((.tuple #[v37, (.bool true)]), H17))
 (pBin PP .add T.int v18 (.int .i64 1) fun v38 =>
 zaC (zaA (zca R x0 x1) [v38] H17) fun q76 l77 H78 => zaJ q76 none
 (fun i79 => zaE i79 0 (
 some ((.tuple #[(.int .u64 0), (.bool false)]), H78)) (
 none))
 (some ((l77.headD undef), H78))))) := by kernel_rfl
noncomputable def zbd (R : zaj) (x0 : Value) (x1 : Value) (x2 : Value) (v1 : Value) (l4 : List Value) (H5 : Hp) : Option Outc :=
 pBin PP .lss T.int (l4.getD 1 undef) v1 fun v6 =>
 zad v6 fun b7 => br b7
 (zab 5 true (zaa x2) 0 fun v8 =>
 zaf R F.a112 [v8, (l4.getD 1 undef)] H5 fun r9 H10 =>
 pUn .not r9 fun v11 =>
 zad v11 fun b12 => br b12
 (pBin PP .add T.int (l4.getD 1 undef) (.int .i64 1) fun v13 =>
 some (.next, [(l4.getD 0 undef), v13, (.agg (zaa ((l4.drop 2).getD 0 undef)).toArray)], H10))
 (zab 5 true (zaa x1) 0 fun v14 =>
 zaf R F.a119 [x0, v14, (l4.getD 1 undef)] H10 fun r15 H16 =>
 zaf R F.a5 [r15] H16 fun r17 H18 =>
 zah r17 0 fun v19 =>
 zah r17 1 fun v20 =>
 zac 5 [.int .i64 0, .int .u64 0, .int .u64 0, .int .u64 0, .int .u64 0] 0 v19 fun c21 =>
 pUn .not v20 fun v22 =>
 zad v22 fun b23 => br b23
 (pBin PP .add T.int (l4.getD 1 undef) (.int .i64 1) fun v24 =>
 some (.next, [(l4.getD 0 undef), v24, (.agg (zaa ((l4.drop 2).getD 0 undef)).toArray)], H18))
 (zad (l4.getD 0 undef) fun b25 => br b25
 (zab 5 true (zaa ((l4.drop 2).getD 0 undef)) 0 fun v26 =>
 zab 5 true c21 0 fun v27 =>
 zaf R F.a51 [v26, v27] H18 fun r28 H29 =>
 zac 5 c21 0 r28 fun c30 =>
 zab 5 true c30 0 fun v31 =>
 zac 5 (zaa ((l4.drop 2).getD 0 undef)) 0 v31 fun c32 =>
 pBin PP .add T.int (l4.getD 1 undef) (.int .i64 1) fun v33 =>
 some (.next, [(.bool true), v33, (.agg c32.toArray)], H29))
 (zab 5 true c21 0 fun v34 =>
 zac 5 (zaa ((l4.drop 2).getD 0 undef)) 0 v34 fun c35 =>
 pBin PP .add T.int (l4.getD 1 undef) (.int .i64 1) fun v36 =>
 some (.next, [(.bool true), v36, (.agg c35.toArray)], H18)))))
 (some (.exit 0, [(l4.getD 0 undef), (l4.getD 1 undef), (.agg (zaa ((l4.drop 2).getD 0 undef)).toArray)], H5))
theorem zko (R : zaj) (x0 x1 x2 : Value) (H0 : Hp) : zgj R x0 x1 x2 H0 =
zab 1 false (zaa x1) 0 fun v1 =>
 zar PP T.api_Fact [] fun v2 =>
 zac 5 [.int .i64 0, .int .u64 0, .int .u64 0, .int .u64 0, .int .u64 0] 0 v2 fun c3 =>
 zaC (zaA (zbd R x0 x1 x2 v1) [(.bool false), (.int .i64 0), (.agg c3.toArray)] H0) fun q37 l38 H39 => zaJ q37 none
 (fun i40 => zaE i40 0 (
 zab 5 true (zaa ((l38.drop 2).getD 0 undef)) 0 fun v41 =>
 zac 5 [.int .i64 0, .int .u64 0, .int .u64 0, .int .u64 0, .int .u64 0] 0 v41 fun c42 =>
 zab 5 true c42 0 fun v43 =>
 some (v43, H39)) (
 none))
 (some ((l38.headD undef), H39)) := by kernel_rfl
noncomputable def zaM (R : zaj) (x0 : Value) (l1 : List Value) (H2 : Hp) : Option Outc :=
 zab 1 false (zaa x0) 0 fun v3 =>
 zaf R F.a26 [v3] H2 fun r4 H5 =>
 pBin PP .lss T.int (l1.getD 0 undef) r4 fun v6 =>
 zad v6 fun b7 => br b7
 (zab 1 false (zaa x0) 3 fun v8 =>
 pBin PP .geq T.int (l1.getD 0 undef) (.int .i64 0) fun v9 =>
 zad v9 fun b10 => br b10
 (zaf R F.a35 [v8, (l1.getD 0 undef)] H5 fun r11 H12 =>
 zad r11 fun b13 => br b13
 (pBin PP .add T.int (l1.getD 0 undef) (.int .i64 1) fun v14 =>
 some (.next, [v14], H12))
 (pBin PP .add T.int (l1.getD 0 undef) (.int .i64 1) fun v15 =>
 zaf R F.a17 [v15] H12 fun r16 H17 =>
 pBin PP .andNot T.uint64 v8 r16 fun v18 =>
 zal .u64 (l1.getD 0 undef) fun v19 =>
 pBin PP .shl T.uint64 (.int .u64 1) v19 fun v20 =>
 pBin PP .or T.uint64 v18 v20 fun v21 =>
 zab 1 false (zaa x0) 1 fun v22 =>
 zaf R F.a17 [(l1.getD 0 undef)] H17 fun r23 H24 =>
 pBin PP .and T.uint64 v22 r23 fun v25 =>
 pBin PP .or T.uint64 v21 v25 fun v26 =>
 zab 5 true (zaa x0) 0 fun v27 =>
 zaf R F.a36 [v27, v26] H24 fun r28 H29 =>
 zad r28 fun b30 => br b30
 (zab 1 false (zaa x0) 4 fun v31 =>
 pBin PP .leq T.uint64 v26 v31 fun v32 =>
 some (.ret, [(.tuple #[v26, v32])], H29))
 (pBin PP .add T.int (l1.getD 0 undef) (.int .i64 1) fun v33 =>
 some (.next, [v33], H29))))
 (zab 5 true (zaa x0) 0 fun v34 =>
 zaf R F.a36 [v34, v8] H5 fun r35 H36 =>
 zad r35 fun b37 => br b37
 (zab 1 false (zaa x0) 4 fun v38 =>
 pBin PP .leq T.uint64 v8 v38 fun v39 =>
 some (.ret, [(.tuple #[v8, v39])], H36))
 (pBin PP .add T.int (l1.getD 0 undef) (.int .i64 1) fun v40 =>
 some (.next, [v40], H36))))
 (some (.exit 0, [(l1.getD 0 undef)], H5))
theorem zf6 (R : zaj) (x0 : Value) (H0 : Hp) : zdf R x0 H0 =
zaC (zaA (zaM R x0) [(.int .i64 (-1))] H0) fun q41 l42 H43 => zaJ q41 none
 (fun i44 => zaE i44 0 (
 some ((.tuple #[(.int .u64 0), (.bool false)]), H43)) (
 none))
 (some ((l42.headD undef), H43)) := by kernel_rfl
noncomputable def zaH (R : zaj) (x0 : Value) (l1 : List Value) (H2 : Hp) : Option Outc :=
 zab 1 false (zaa x0) 0 fun v3 =>
 zaf R F.a26 [v3] H2 fun r4 H5 =>
 pBin PP .lss T.int (l1.getD 0 undef) r4 fun v6 =>
 zad v6 fun b7 => br b7
 (zab 1 false (zaa x0) 4 fun v8 =>
 pBin PP .geq T.int (l1.getD 0 undef) (.int .i64 0) fun v9 =>
 zad v9 fun b10 => br b10
 (zaf R F.a35 [v8, (l1.getD 0 undef)] H5 fun r11 H12 =>
 pUn .not r11 fun v13 =>
 zad v13 fun b14 => br b14
 (pBin PP .add T.int (l1.getD 0 undef) (.int .i64 1) fun v15 =>
 some (.next, [v15], H12))
 (pBin PP .add T.int (l1.getD 0 undef) (.int .i64 1) fun v16 =>
 zaf R F.a17 [v16] H12 fun r17 H18 =>
 pBin PP .andNot T.uint64 v8 r17 fun v19 =>
 zaf R F.a17 [(l1.getD 0 undef)] H18 fun r20 H21 =>
 zab 1 false (zaa x0) 2 fun v22 =>
 pBin PP .andNot T.uint64 r20 v22 fun v23 =>
 pBin PP .or T.uint64 v19 v23 fun v24 =>
 zab 5 true (zaa x0) 0 fun v25 =>
 zaf R F.a36 [v25, v24] H21 fun r26 H27 =>
 zad r26 fun b28 => br b28
 (some (.ret, [v24], H27))
 (pBin PP .add T.int (l1.getD 0 undef) (.int .i64 1) fun v29 =>
 some (.next, [v29], H27))))
 (zab 5 true (zaa x0) 0 fun v30 =>
 zaf R F.a36 [v30, v8] H5 fun r31 H32 =>
 zad r31 fun b33 => br b33
 (some (.ret, [v8], H32))
 (pBin PP .add T.int (l1.getD 0 undef) (.int .i64 1) fun v34 =>
 some (.next, [v34], H32))))
 (some (.exit 0, [(l1.getD 0 undef)], H5))
theorem zeS (R : zaj) (x0 : Value) (H0 : Hp) : zch R x0 H0 =
zaC (zaA (zaH R x0) [(.int .i64 (-1))] H0) fun q35 l36 H37 => zaJ q35 none
 (fun i38 => zaE i38 0 (
 some ((.int .u64 0), H37)) (
 none))
 (some ((l36.headD undef), H37)) := by kernel_rfl
noncomputable def zaP (R : zaj) (x0 : Value) (x1 : Value) (x2 : Value) (l1 : List Value) (H2 : Hp) : Option Outc :=
 zab 1 false (zaa x1) 0 fun v3 =>
 pBin PP .lss T.int (l1.getD 1 undef) v3 fun v4 =>
 zad v4 fun b5 => br b5
 (zab 5 true (zaa x2) 0 fun v6 =>
 zac 5 [.int .i64 0, .int .u64 0, .int .u64 0, .int .u64 0, .int .u64 0] 0 v6 fun c7 =>
 zab 1 false (zaa x2) 1 fun v8 =>
 zal .u64 (l1.getD 1 undef) fun v9 =>
 pBin PP .or T.uint64 v8 v9 fun v10 =>
 zac 1 c7 1 v10 fun c11 =>
 zab 1 false (zaa x2) 2 fun v12 =>
 zab 1 false (zaa x1) 0 fun v13 =>
 pBin PP .sub T.int v13 (.int .i64 1) fun v14 =>
 zal .u64 v14 fun v15 =>
 zal .u64 (l1.getD 1 undef) fun v16 =>
 pBin PP .andNot T.uint64 v15 v16 fun v17 =>
 pBin PP .or T.uint64 v12 v17 fun v18 =>
 zac 1 c11 2 v18 fun c19 =>
 zab 5 true c19 0 fun v20 =>
 zaf R F.a2 [v20] H2 fun r21 H22 =>
 zah r21 0 fun v23 =>
 zah r21 1 fun v24 =>
 zac 5 [.int .i64 0, .int .u64 0, .int .u64 0, .int .u64 0, .int .u64 0] 0 v23 fun c25 =>
 pBin PP .neq T.int v24 (.int .i64 0) fun v26 =>
 zad v26 fun b27 => br b27
 (pBin PP .add T.int (l1.getD 1 undef) (.int .i64 1) fun v28 =>
 some (.next, [(l1.getD 0 undef), v28, (.agg (zaa ((l1.drop 2).getD 0 undef)).toArray)], H22))
 (zab 5 true (zaa x1) 0 fun v29 =>
 zaf R F.a49 [x0, v29, (l1.getD 1 undef)] H22 fun r30 H31 =>
 zaf R F.a2 [r30] H31 fun r32 H33 =>
 zah r32 0 fun v34 =>
 zah r32 1 fun v35 =>
 zac 5 [.int .i64 0, .int .u64 0, .int .u64 0, .int .u64 0, .int .u64 0] 0 v34 fun c36 =>
 zad (l1.getD 0 undef) fun b37 => br b37
 (zab 5 true (zaa ((l1.drop 2).getD 0 undef)) 0 fun v38 =>
 zab 5 true c36 0 fun v39 =>
 zaf R F.a48 [v38, v39] H33 fun r40 H41 =>
 zac 5 c36 0 r40 fun c42 =>
 zab 5 true c42 0 fun v43 =>
 zac 5 (zaa ((l1.drop 2).getD 0 undef)) 0 v43 fun c44 =>
 pBin PP .add T.int (l1.getD 1 undef) (.int .i64 1) fun v45 =>
 some (.next, [(.bool true), v45, (.agg c44.toArray)], H41))
 (zab 5 true c36 0 fun v46 =>
 zac 5 (zaa ((l1.drop 2).getD 0 undef)) 0 v46 fun c47 =>
 pBin PP .add T.int (l1.getD 1 undef) (.int .i64 1) fun v48 =>
 some (.next, [(.bool true), v48, (.agg c47.toArray)], H33))))
 (some (.exit 0, [(l1.getD 0 undef), (l1.getD 1 undef), (.agg (zaa ((l1.drop 2).getD 0 undef)).toArray)], H2))
theorem zfd (R : zaj) (x0 x1 x2 : Value) (H0 : Hp) : zco R x0 x1 x2 H0 =
zaC (zaA (zaP R x0 x1 x2) [(.bool false), (.int .i64 0), (.agg [.int .i64 0, .int .u64 0, .int .u64 0, .int .u64 0, .int .u64 0].toArray)] H0) fun q49 l50 H51 => zaJ q49 none
 (fun i52 => zaE i52 0 (
 zab 5 true (zaa ((l50.drop 2).getD 0 undef)) 0 fun v53 =>
 zac 5 [.int .i64 0, .int .u64 0, .int .u64 0, .int .u64 0, .int .u64 0] 0 v53 fun c54 =>
 zab 5 true c54 0 fun v55 =>
 some (v55, H51)) (
 none))
 (some ((l50.headD undef), H51)) := by kernel_rfl
noncomputable def zbx (R : zaj) (x0 : Value) (v5 : Value) (v11 : Value) (v16 : Value) (v19 : Value) (v21 : Value) (l22 : List Value) (H23 : Hp) : Option Outc :=
 pBin PP .lss T.int (l22.getD 0 undef) v21 fun v24 =>
 zad v24 fun b25 => br b25
 (pIdx 1 v5 (l22.getD 0 undef) fun p26 =>
 zaB 1 false H23 p26 fun v27 =>
 zaf R F.a122 [x0, v27] H23 fun r28 H29 =>
 zah r28 0 fun v30 =>
 zah r28 1 fun v31 =>
 zac 7 [.int .i64 0, .int .i64 0, .int .i64 0, .int .i64 0, .int .i64 0, .int .u64 0, .string ⟨#[]⟩] 0 v30 fun c32 =>
 zab 1 false c32 1 fun v33 =>
 pUpd PP T.int v19 v27 v33 H29 fun H34 =>
 zab 1 false c32 0 fun v35 =>
 pBin PP .neq T.int v35 (.int .i64 4) fun v36 =>
 zad v36 fun b37 => br b37
 (zab 7 true c32 0 fun v38 =>
 zab 1 false c32 2 fun v39 =>
 zcn PP T.int (.int .u64 0) v16 v39 false H34 fun v40 =>
 zab 1 false c32 3 fun v41 =>
 zcn PP T.int (.int .u64 0) v16 v41 false H34 fun v42 =>
 zab 1 false c32 4 fun v43 =>
 zcn PP T.int (.int .u64 0) v16 v43 false H34 fun v44 =>
 zab 1 false c32 2 fun v45 =>
 zcn PP T.int (.int .i64 0) v19 v45 false H34 fun v46 =>
 zab 1 false c32 3 fun v47 =>
 zcn PP T.int (.int .i64 0) v19 v47 false H34 fun v48 =>
 zaf R F.a111 [v38, v40, v42, v44, v46, v48] H34 fun r49 H50 =>
 pUpd PP T.int v16 v27 r49 H50 fun H51 =>
 pBin PP .add T.int (l22.getD 0 undef) (.int .i64 1) fun v52 =>
 some (.next, [v52], H51))
 (zab 1 false c32 6 fun v53 =>
 zcn PP T.string (.agg #[.string ⟨#[]⟩, .int .i64 0, .int .u64 0]) v11 v53 true H34 fun v54 =>
 zah v54 0 fun v55 =>
 zah v54 1 fun v56 =>
 zac 3 [.string ⟨#[]⟩, .int .i64 0, .int .u64 0] 0 v55 fun c57 =>
 zad v56 fun b58 => br b58
 (zab 1 false c57 1 fun v59 =>
 zab 1 false c32 1 fun v60 =>
 pBin PP .neq T.int v59 v60 fun v61 =>
 zad v61 fun b62 => br b62
 (some (.ret, [(.tuple #[(.slice none 0 0), (.int .i64 71)])], H34))
 (zab 1 false c57 2 fun v63 =>
 pUpd PP T.int v16 v27 v63 H34 fun H64 =>
 pBin PP .add T.int (l22.getD 0 undef) (.int .i64 1) fun v65 =>
 some (.next, [v65], H64)))
 (pBin PP .add T.int (l22.getD 0 undef) (.int .i64 1) fun v66 =>
 some (.next, [v66], H34))))
 (some (.exit 0, [(l22.getD 0 undef)], H23))
noncomputable def zbw (R : zaj) (x1 : Value) (v16 : Value) (v74 : Value) (l75 : List Value) (H76 : Hp) : Option Outc :=
 pBin PP .lss T.int (l75.getD 1 undef) v74 fun v77 =>
 zad v77 fun b78 => br b78
 (pIdx 1 x1 (l75.getD 1 undef) fun p79 =>
 zaB 1 false H76 p79 fun v80 =>
 zcn PP T.int (.int .u64 0) v16 v80 false H76 fun v81 =>
 zaR 1 [.int .u64 0] 1 [(0, v81)] H76 fun v82 H83 =>
 zby 1 8 (l75.getD 0 undef) v82 H83 fun v84 H85 =>
 pBin PP .add T.int (l75.getD 1 undef) (.int .i64 1) fun v86 =>
 some (.next, [v84, v86], H85))
 (some (.exit 2, [(l75.getD 0 undef), (l75.getD 1 undef)], H76))
theorem zlP (R : zaj) (x0 x1 x2 : Value) (H0 : Hp) : zhy R x0 x1 x2 H0 =
pBin PP .eql T.p_term_Store x0 (.pointer none) fun v1 =>
 zad v1 fun b2 => br b2
 (some ((.tuple #[(.slice none 0 0), (.int .i64 2)]), H0))
 (zaf R F.a82 [x0, x1] H0 fun r3 H4 =>
 zah r3 0 fun v5 =>
 zah r3 1 fun v6 =>
 pBin PP .neq T.api_Errno v6 (.int .i64 0) fun v7 =>
 zad v7 fun b8 => br b8
 (some ((.tuple #[(.slice none 0 0), v6]), H4))
 (zaf R F.a73 [x2] H4 fun r9 H10 =>
 zah r9 0 fun v11 =>
 zah r9 1 fun v12 =>
 pBin PP .neq T.api_Errno v12 (.int .i64 0) fun v13 =>
 zad v13 fun b14 => br b14
 (some ((.tuple #[(.slice none 0 0), v12]), H10))
 (pLen .sl v5 H10 fun v15 =>
 zkm v15 (
 zc4 H10 fun v16 H17 =>
 pLen .sl v5 H17 fun v18 =>
 zkm v18 (
 zc4 H17 fun v19 H20 =>
 pLen .sl v5 H20 fun v21 =>
 zaC (zaA (zbx R x0 v5 v11 v16 v19 v21) [(.int .i64 0)] H20) fun q67 l68 H69 => zaJ q67 none
 (fun i70 => zaE i70 0 (
 pLen .sl x1 H69 fun v71 =>
 zbK 1 8 [.int .u64 0] (.int .i64 0) v71 H69 fun v72 H73 =>
 pLen .sl x1 H73 fun v74 =>
 zaC (zaA (zbw R x1 v16 v74) [v72, (.int .i64 0)] H73) fun q87 l88 H89 => zaJ q87 none
 (fun i90 => zaE i90 2 (
 some ((.tuple #[(l88.getD 0 undef), (.int .i64 0)]), H89)) (
 none))
 (some ((l88.headD undef), H89))) (
 none))
 (some ((l68.headD undef), H69))))))) := by kernel_rfl
noncomputable def za9 (R : zaj) (v46 : Value) (l47 : List Value) (H48 : Hp) : Option Outc :=
 pBin PP .lss T.int (l47.getD 1 undef) (.int .i64 3) fun v49 =>
 zad v49 fun b50 => br b50
 (zcg 3 false 1 v46 (l47.getD 1 undef) fun v51 =>
 zad v51 fun b52 => br b52
 (pBin PP .add T.int (l47.getD 0 undef) (.int .i64 1) fun v53 =>
 pBin PP .add T.int (l47.getD 1 undef) (.int .i64 1) fun v54 =>
 some (.next, [v53, v54], H48))
 (pBin PP .add T.int (l47.getD 1 undef) (.int .i64 1) fun v55 =>
 some (.next, [(l47.getD 0 undef), v55], H48)))
 (some (.exit 2, [(l47.getD 0 undef), (l47.getD 1 undef)], H48))
noncomputable def za8 (R : zaj) (v60 : Value) (l61 : List Value) (H62 : Hp) : Option Outc :=
 pBin PP .lss T.int (l61.getD 1 undef) (.int .i64 3) fun v63 =>
 zad v63 fun b64 => br b64
 (zcg 3 false 1 v60 (l61.getD 1 undef) fun v65 =>
 zad v65 fun b66 => br b66
 (pBin PP .add T.int (l61.getD 0 undef) (.int .i64 1) fun v67 =>
 pBin PP .add T.int (l61.getD 1 undef) (.int .i64 1) fun v68 =>
 some (.next, [v67, v68], H62))
 (pBin PP .add T.int (l61.getD 1 undef) (.int .i64 1) fun v69 =>
 some (.next, [(l61.getD 0 undef), v69], H62)))
 (some (.exit 4, [(l61.getD 0 undef), (l61.getD 1 undef)], H62))
noncomputable def zbo (R : zaj) (x1 : Value) (x2 : Value) (r2 : Value) (l4 : List Value) (H5 : Hp) : Option Outc :=
 pBin PP .lss T.int (l4.getD 4 undef) r2 fun v6 =>
 zad v6 fun b7 => br b7
 (zal .u64 (l4.getD 4 undef) fun v8 =>
 pBin PP .shl T.uint64 (.int .u64 1) v8 fun v9 =>
 zab 1 false (zaa x1) 1 fun v10 =>
 pBin PP .and T.uint64 v10 v9 fun v11 =>
 pBin PP .neq T.uint64 v11 (.int .u64 0) fun v12 =>
 zab 1 false (zaa x1) 2 fun v13 =>
 pBin PP .and T.uint64 v13 v9 fun v14 =>
 pBin PP .neq T.uint64 v14 (.int .u64 0) fun v15 =>
 zab 1 false (zaa x2) 1 fun v16 =>
 pBin PP .and T.uint64 v16 v9 fun v17 =>
 pBin PP .neq T.uint64 v17 (.int .u64 0) fun v18 =>
 zab 1 false (zaa x2) 2 fun v19 =>
 pBin PP .and T.uint64 v19 v9 fun v20 =>
 pBin PP .neq T.uint64 v20 (.int .u64 0) fun v21 =>
 zaC (
 zaC (
 zad v12 fun b22 => br b22
 (zad v18 fun b23 => br b23
 (zad (l4.getD 2 undef) fun b24 => br b24
 (some (.next, [(.bool true)], H5))
 (some (.next, [(l4.getD 3 undef)], H5)))
 (zad v21 fun b25 => br b25
 (zad (l4.getD 2 undef) fun b26 => br b26
 (some (.next, [(.bool true)], H5))
 (some (.next, [(l4.getD 3 undef)], H5)))
 (some (.next, [(.bool false)], H5))))
 (zad v15 fun b27 => br b27
 (zad v18 fun b28 => br b28
 (zad (l4.getD 2 undef) fun b29 => br b29
 (some (.next, [(.bool true)], H5))
 (some (.next, [(l4.getD 3 undef)], H5)))
 (zad v21 fun b30 => br b30
 (zad (l4.getD 2 undef) fun b31 => br b31
 (some (.next, [(.bool true)], H5))
 (some (.next, [(l4.getD 3 undef)], H5)))
 (some (.next, [(.bool false)], H5))))
 (some (.next, [(.bool false)], H5)))) fun q32 l33 H34 => zaJ q32
 (zad (l33.getD 0 undef) fun b36 => br b36
 (pBin PP .neq T.bool v12 v18 fun v37 =>
 pBin PP .neq T.bool v37 (l4.getD 2 undef) fun v38 =>
 zad v38 fun b39 => br b39
 (pBin PP .or T.uint64 (l4.getD 0 undef) v9 fun v40 =>
 some (.next, [v40, (l4.getD 1 undef)], H34))
 (pBin PP .or T.uint64 (l4.getD 1 undef) v9 fun v41 =>
 some (.next, [(l4.getD 0 undef), v41], H34)))
 (some (.next, [(l4.getD 0 undef), (l4.getD 1 undef)], H34)))
 (fun i35 => some (.exit i35, [(l4.getD 0 undef), (l4.getD 1 undef)], H34))
 (some (.ret, [(l33.headD undef)], H34))) fun q42 l43 H44 => zaJ q42
 (zar PP T.a3_bool [(0, v12), (1, v18), (2, (l4.getD 2 undef))] fun v46 =>
 zaC (zaA (za9 R v46) [(.int .i64 0), (.int .i64 0)] H44) fun q56 l57 H58 => zaJ q56 none
 (fun i59 => zaE i59 2 (
 zar PP T.a3_bool [(0, v15), (1, v21), (2, (l4.getD 3 undef))] fun v60 =>
 zaC (zaA (za8 R v60) [(.int .i64 0), (.int .i64 0)] H58) fun q70 l71 H72 => zaJ q70 none
 (fun i73 => zaE i73 4 (
 pBin PP .geq T.int (l57.getD 0 undef) (.int .i64 2) fun v74 =>
 pBin PP .geq T.int (l71.getD 0 undef) (.int .i64 2) fun v75 =>
 pBin PP .add T.int (l4.getD 4 undef) (.int .i64 1) fun v76 =>
 some (.next, [(l43.getD 0 undef), (l43.getD 1 undef), v74, v75, v76], H72)) (
 zaE i73 1 (
 pBin PP .add T.int (l4.getD 4 undef) (.int .i64 1) fun v77 =>
 some (.next, [(l43.getD 0 undef), (l43.getD 1 undef), (l4.getD 2 undef), (l4.getD 3 undef), v77], H72)) (
 some (.exit i73, [(l43.getD 0 undef), (l43.getD 1 undef), (l4.getD 2 undef), (l4.getD 3 undef), (l4.getD 4 undef)], H72))))
 (some (.ret, [(l71.headD undef)], H72))) (
 zaE i59 1 (
 pBin PP .add T.int (l4.getD 4 undef) (.int .i64 1) fun v78 =>
 some (.next, [(l43.getD 0 undef), (l43.getD 1 undef), (l4.getD 2 undef), (l4.getD 3 undef), v78], H58)) (
 some (.exit i59, [(l43.getD 0 undef), (l43.getD 1 undef), (l4.getD 2 undef), (l4.getD 3 undef), (l4.getD 4 undef)], H58))))
 (some (.ret, [(l57.headD undef)], H58)))
 (fun i45 => zaE i45 1 (
 pBin PP .add T.int (l4.getD 4 undef) (.int .i64 1) fun v79 =>
 some (.next, [(l43.getD 0 undef), (l43.getD 1 undef), (l4.getD 2 undef), (l4.getD 3 undef), v79], H44)) (
 some (.exit i45, [(l43.getD 0 undef), (l43.getD 1 undef), (l4.getD 2 undef), (l4.getD 3 undef), (l4.getD 4 undef)], H44)))
 (some (.ret, [(l43.headD undef)], H44)))
 (some (.exit 0, [(l4.getD 0 undef), (l4.getD 1 undef), (l4.getD 2 undef), (l4.getD 3 undef), (l4.getD 4 undef)], H5))
theorem zjO (R : zaj) (x0 x1 x2 x3 : Value) (H0 : Hp) : zfy R x0 x1 x2 x3 H0 =
pUn .not x3 fun v1 =>
 zaf R F.a41 [x0] H0 fun r2 H3 =>
 zaC (zaA (zbo R x1 x2 r2) [(.int .u64 0), (.int .u64 0), x3, v1, (.int .i64 0)] H3) fun q80 l81 H82 => zaJ q80 none
 (fun i83 => zaE i83 0 (
 some ((.tuple #[(l81.getD 0 undef), (l81.getD 1 undef)]), H82)) (
 none))
 (some ((l81.headD undef), H82)) := by kernel_rfl
noncomputable def zbc (R : zaj) (x0 : Value) (x1 : Value) (x2 : Value) (x3 : Value) (l2 : List Value) (H3 : Hp) : Option Outc :=
 pBin PP .geq T.int (l2.getD 1 undef) (.int .i64 0) fun v4 =>
 zad v4 fun b5 => br b5
 (zaC (
 pBin PP .eql T.int x0 (.int .i64 25) fun v6 =>
 zad v6 fun b7 => br b7
 (pBin PP .sub T.int (l2.getD 1 undef) x3 fun v8 =>
 some (.next, [v8], H3))
 (pBin PP .eql T.int x0 (.int .i64 26) fun v9 =>
 zad v9 fun b10 => br b10
 (pBin PP .add T.int (l2.getD 1 undef) x3 fun v11 =>
 pBin PP .geq T.int v11 x1 fun v12 =>
 zad v12 fun b13 => br b13
 (some (.next, [(.int .i64 (-1))], H3))
 (some (.next, [v11], H3)))
 (pBin PP .eql T.int x0 (.int .i64 27) fun v14 =>
 zad v14 fun b15 => br b15
 (pBin PP .add T.int (l2.getD 1 undef) x3 fun v16 =>
 pBin PP .sub T.int x1 (.int .i64 1) fun v17 =>
 pMM false [v16, v17] fun v18 =>
 some (.next, [v18], H3))
 (pBin PP .eql T.int x0 (.int .i64 28) fun v19 =>
 zad v19 fun b20 => br b20
 (pBin PP .sub T.int (l2.getD 1 undef) x3 fun v21 =>
 pBin PP .add T.int v21 x1 fun v22 =>
 pBin PP .rem T.int v22 x1 fun v23 =>
 some (.next, [v23], H3))
 (pBin PP .eql T.int x0 (.int .i64 29) fun v24 =>
 zad v24 fun b25 => br b25
 (pBin PP .add T.int (l2.getD 1 undef) x3 fun v26 =>
 pBin PP .rem T.int v26 x1 fun v27 =>
 some (.next, [v27], H3))
 (some (.next, [(l2.getD 1 undef)], H3))))))) fun q28 l29 H30 => zaJ q28
 (pBin PP .mul T.uint64 (.int .u64 2) (l2.getD 0 undef) fun v32 =>
 pBin PP .geq T.int (l29.getD 0 undef) (.int .i64 0) fun v33 =>
 zad v33 fun b34 => br b34
 (zaf R F.a32 [x2, (l29.getD 0 undef)] H30 fun r35 H36 =>
 pBin PP .add T.uint64 v32 r35 fun v37 =>
 pBin PP .sub T.int (l2.getD 1 undef) (.int .i64 1) fun v38 =>
 some (.next, [v37, v38], H36))
 (pBin PP .sub T.int (l2.getD 1 undef) (.int .i64 1) fun v39 =>
 some (.next, [v32, v39], H30)))
 (fun i31 => zaE i31 1 (
 pBin PP .sub T.int (l2.getD 1 undef) (.int .i64 1) fun v40 =>
 some (.next, [(l2.getD 0 undef), v40], H30)) (
 some (.exit i31, [(l2.getD 0 undef), (l2.getD 1 undef)], H30)))
 (some (.ret, [(l29.headD undef)], H30)))
 (some (.exit 0, [(l2.getD 0 undef), (l2.getD 1 undef)], H3))
theorem zf9 (R : zaj) (x0 x1 x2 x3 : Value) (H0 : Hp) : zdl R x0 x1 x2 x3 H0 =
pBin PP .sub T.int x1 (.int .i64 1) fun v1 =>
 zaC (zaA (zbc R x0 x1 x2 x3) [(.int .u64 0), v1] H0) fun q41 l42 H43 => zaJ q41 none
 (fun i44 => zaE i44 0 (
 some ((l42.getD 0 undef), H43)) (
 none))
 (some ((l42.headD undef), H43)) := by kernel_rfl
noncomputable def zaV (R : zaj) (c19 : List Value) (l22 : List Value) (H23 : Hp) : Option Outc :=
 pBin PP .lss T.int (l22.getD 0 undef) (.int .i64 3) fun v24 =>
 zad v24 fun b25 => br b25
 (zaS 3 (l22.getD 0 undef) fun j26 =>
 zab 1 false c19 (0 + j26 * 1) fun v27 =>
 zaS 3 v27 fun j28 =>
 zab 1 false (zaa ((l22.drop 1).getD 0 undef)) (0 + j28 * 1) fun v29 =>
 pBin PP .add T.int v29 (.int .i64 1) fun v30 =>
 zaS 3 v27 fun j31 =>
 zac 1 (zaa ((l22.drop 1).getD 0 undef)) (0 + j31 * 1) v30 fun c32 =>
 pBin PP .add T.int (l22.getD 0 undef) (.int .i64 1) fun v33 =>
 some (.next, [v33, (.agg c32.toArray)], H23))
 (some (.exit 2, [(l22.getD 0 undef), (.agg (zaa ((l22.drop 1).getD 0 undef)).toArray)], H23))
noncomputable def zaU (R : zaj) (x0 : Value) (x1 : Value) (l7 : List Value) (H8 : Hp) : Option Outc :=
 zab 1 false (zaa x0) 0 fun v9 =>
 pBin PP .lss T.int (l7.getD 1 undef) v9 fun v10 =>
 zad v10 fun b11 => br b11
 (zab 5 true (zaa x0) 0 fun v12 =>
 zaf R F.a10 [v12, (l7.getD 1 undef)] H8 fun r13 H14 =>
 zab 5 true (zaa x1) 0 fun v15 =>
 zaf R F.a10 [v15, (l7.getD 1 undef)] H14 fun r16 H17 =>
 zar PP T.a3_int [(0, r13), (1, r16), (2, (l7.getD 0 undef))] fun v18 =>
 zac 3 [.int .i64 0, .int .i64 0, .int .i64 0] 0 v18 fun c19 =>
 zar PP T.a3_int [] fun v20 =>
 zac 3 [.int .i64 0, .int .i64 0, .int .i64 0] 0 v20 fun c21 =>
 zaC (zaA (zaV R c19) [(.int .i64 0), (.agg c21.toArray)] H17) fun q34 l35 H36 => zaJ q34 none
 (fun i37 => zaE i37 2 (
 zaC (
 zab 1 false (zaa ((l35.drop 1).getD 0 undef)) 2 fun v38 =>
 pBin PP .eql T.int v38 (.int .i64 0) fun v39 =>
 zad v39 fun b40 => br b40
 (zab 1 false (zaa ((l35.drop 1).getD 0 undef)) 1 fun v41 =>
 pBin PP .rem T.int v41 (.int .i64 2) fun v42 =>
 pBin PP .eql T.int v42 (.int .i64 1) fun v43 =>
 zad v43 fun b44 => br b44
 (zab 1 false (zaa ((l7.drop 2).getD 0 undef)) 1 fun v45 =>
 zal .u64 (l7.getD 1 undef) fun v46 =>
 pBin PP .shl T.uint64 (.int .u64 1) v46 fun v47 =>
 pBin PP .or T.uint64 v45 v47 fun v48 =>
 zac 1 (zaa ((l7.drop 2).getD 0 undef)) 1 v48 fun c49 =>
 some (.next, [(.agg c49.toArray)], H36))
 (some (.next, [(.agg (zaa ((l7.drop 2).getD 0 undef)).toArray)], H36)))
 (some (.next, [(.agg (zaa ((l7.drop 2).getD 0 undef)).toArray)], H36))) fun q50 l51 H52 => zaJ q50
 (zab 1 false (zaa ((l35.drop 1).getD 0 undef)) 2 fun v54 =>
 pBin PP .eql T.int v54 (.int .i64 0) fun v55 =>
 zad v55 fun b56 => br b56
 (zab 1 false (zaa ((l35.drop 1).getD 0 undef)) 1 fun v57 =>
 pBin PP .rem T.int v57 (.int .i64 2) fun v58 =>
 pBin PP .eql T.int v58 (.int .i64 0) fun v59 =>
 zad v59 fun b60 => br b60
 (zab 1 false (zaa ((l51.drop 0).getD 0 undef)) 2 fun v61 =>
 zal .u64 (l7.getD 1 undef) fun v62 =>
 pBin PP .shl T.uint64 (.int .u64 1) v62 fun v63 =>
 pBin PP .or T.uint64 v61 v63 fun v64 =>
 zac 1 (zaa ((l51.drop 0).getD 0 undef)) 2 v64 fun c65 =>
 zab 1 false (zaa ((l35.drop 1).getD 0 undef)) 1 fun v66 =>
 pBin PP .geq T.int v66 (.int .i64 2) fun v67 =>
 zad v67 fun b68 => br b68
 (zab 1 false (zaa ((l35.drop 1).getD 0 undef)) 0 fun v69 =>
 pBin PP .geq T.int v69 (.int .i64 2) fun v70 =>
 zad v70 fun b71 => br b71
 (pBin PP .add T.int (l7.getD 1 undef) (.int .i64 1) fun v72 =>
 some (.next, [(.int .i64 0), v72, (.agg c65.toArray)], H52))
 (pBin PP .add T.int (l7.getD 1 undef) (.int .i64 1) fun v73 =>
 some (.next, [(.int .i64 1), v73, (.agg c65.toArray)], H52)))
 (zab 1 false (zaa ((l35.drop 1).getD 0 undef)) 0 fun v74 =>
 pBin PP .geq T.int v74 (.int .i64 2) fun v75 =>
 zad v75 fun b76 => br b76
 (pBin PP .add T.int (l7.getD 1 undef) (.int .i64 1) fun v77 =>
 some (.next, [(.int .i64 0), v77, (.agg c65.toArray)], H52))
 (pBin PP .add T.int (l7.getD 1 undef) (.int .i64 1) fun v78 =>
 some (.next, [(.int .i64 2), v78, (.agg c65.toArray)], H52))))
 (zab 1 false (zaa ((l35.drop 1).getD 0 undef)) 1 fun v79 =>
 pBin PP .geq T.int v79 (.int .i64 2) fun v80 =>
 zad v80 fun b81 => br b81
 (zab 1 false (zaa ((l35.drop 1).getD 0 undef)) 0 fun v82 =>
 pBin PP .geq T.int v82 (.int .i64 2) fun v83 =>
 zad v83 fun b84 => br b84
 (pBin PP .add T.int (l7.getD 1 undef) (.int .i64 1) fun v85 =>
 some (.next, [(.int .i64 0), v85, (.agg (zaa ((l51.drop 0).getD 0 undef)).toArray)], H52))
 (pBin PP .add T.int (l7.getD 1 undef) (.int .i64 1) fun v86 =>
 some (.next, [(.int .i64 1), v86, (.agg (zaa ((l51.drop 0).getD 0 undef)).toArray)], H52)))
 (zab 1 false (zaa ((l35.drop 1).getD 0 undef)) 0 fun v87 =>
 pBin PP .geq T.int v87 (.int .i64 2) fun v88 =>
 zad v88 fun b89 => br b89
 (pBin PP .add T.int (l7.getD 1 undef) (.int .i64 1) fun v90 =>
 some (.next, [(.int .i64 0), v90, (.agg (zaa ((l51.drop 0).getD 0 undef)).toArray)], H52))
 (pBin PP .add T.int (l7.getD 1 undef) (.int .i64 1) fun v91 =>
 some (.next, [(.int .i64 2), v91, (.agg (zaa ((l51.drop 0).getD 0 undef)).toArray)], H52)))))
 (zab 1 false (zaa ((l35.drop 1).getD 0 undef)) 1 fun v92 =>
 pBin PP .geq T.int v92 (.int .i64 2) fun v93 =>
 zad v93 fun b94 => br b94
 (zab 1 false (zaa ((l35.drop 1).getD 0 undef)) 0 fun v95 =>
 pBin PP .geq T.int v95 (.int .i64 2) fun v96 =>
 zad v96 fun b97 => br b97
 (pBin PP .add T.int (l7.getD 1 undef) (.int .i64 1) fun v98 =>
 some (.next, [(.int .i64 0), v98, (.agg (zaa ((l51.drop 0).getD 0 undef)).toArray)], H52))
 (pBin PP .add T.int (l7.getD 1 undef) (.int .i64 1) fun v99 =>
 some (.next, [(.int .i64 1), v99, (.agg (zaa ((l51.drop 0).getD 0 undef)).toArray)], H52)))
 (zab 1 false (zaa ((l35.drop 1).getD 0 undef)) 0 fun v100 =>
 pBin PP .geq T.int v100 (.int .i64 2) fun v101 =>
 zad v101 fun b102 => br b102
 (pBin PP .add T.int (l7.getD 1 undef) (.int .i64 1) fun v103 =>
 some (.next, [(.int .i64 0), v103, (.agg (zaa ((l51.drop 0).getD 0 undef)).toArray)], H52))
 (pBin PP .add T.int (l7.getD 1 undef) (.int .i64 1) fun v104 =>
 some (.next, [(.int .i64 2), v104, (.agg (zaa ((l51.drop 0).getD 0 undef)).toArray)], H52)))))
 (fun i53 => zaE i53 1 (
 pBin PP .add T.int (l7.getD 1 undef) (.int .i64 1) fun v105 =>
 some (.next, [(l7.getD 0 undef), v105, (.agg (zaa ((l51.drop 0).getD 0 undef)).toArray)], H52)) (
 some (.exit i53, [(l7.getD 0 undef), (l7.getD 1 undef), (.agg (zaa ((l51.drop 0).getD 0 undef)).toArray)], H52)))
 (some (.ret, [(l51.headD undef)], H52))) (
 zaE i37 1 (
 pBin PP .add T.int (l7.getD 1 undef) (.int .i64 1) fun v106 =>
 some (.next, [(l7.getD 0 undef), v106, (.agg (zaa ((l7.drop 2).getD 0 undef)).toArray)], H36)) (
 some (.exit i37, [(l7.getD 0 undef), (l7.getD 1 undef), (.agg (zaa ((l7.drop 2).getD 0 undef)).toArray)], H36))))
 (some (.ret, [(l35.headD undef)], H36)))
 (some (.exit 0, [(l7.getD 0 undef), (l7.getD 1 undef), (.agg (zaa ((l7.drop 2).getD 0 undef)).toArray)], H8))
theorem zfA (R : zaj) (x0 x1 x2 : Value) (H0 : Hp) : zcR R x0 x1 x2 H0 =
zab 1 false (zaa x0) 0 fun v1 =>
 zab 1 false (zaa x0) 0 fun v2 =>
 zaf R F.a4 [v2] H0 fun r3 H4 =>
 zar PP T.api_Fact [(0, v1), (4, r3)] fun v5 =>
 zac 5 [.int .i64 0, .int .u64 0, .int .u64 0, .int .u64 0, .int .u64 0] 0 v5 fun c6 =>
 zaC (zaA (zaU R x0 x1) [x2, (.int .i64 0), (.agg c6.toArray)] H4) fun q107 l108 H109 => zaJ q107 none
 (fun i110 => zaE i110 0 (
 zab 5 true (zaa ((l108.drop 2).getD 0 undef)) 0 fun v111 =>
 zac 5 [.int .i64 0, .int .u64 0, .int .u64 0, .int .u64 0, .int .u64 0] 0 v111 fun c112 =>
 zab 5 true c112 0 fun v113 =>
 some (v113, H109)) (
 none))
 (some ((l108.headD undef), H109)) := by kernel_rfl
noncomputable def za3 (R : zaj) (x0 : Value) (l1 : List Value) (H2 : Hp) : Option Outc :=
 zab 1 false (zaa x0) 0 fun v3 =>
 pBin PP .lss T.int (l1.getD 0 undef) v3 fun v4 =>
 zad v4 fun b5 => br b5
 (zab 5 true (zaa x0) 0 fun v6 =>
 zaf R F.a10 [v6, (l1.getD 0 undef)] H2 fun r7 H8 =>
 pBin PP .neq T.int r7 (.int .i64 2) fun v9 =>
 zad v9 fun b10 => br b10
 (pBin PP .add T.int (l1.getD 0 undef) (.int .i64 1) fun v11 =>
 some (.next, [v11], H8))
 (some (.exit 0, [(l1.getD 0 undef)], H8)))
 (some (.exit 0, [(l1.getD 0 undef)], H2))
theorem zf7 (R : zaj) (x0 : Value) (H0 : Hp) : zdg R x0 H0 =
zaC (zaA (za3 R x0) [(.int .i64 0)] H0) fun q12 l13 H14 => zaJ q12 none
 (fun i15 => zaE i15 0 (
 some ((l13.getD 0 undef), H14)) (
 none))
 (some ((l13.headD undef), H14)) := by kernel_rfl
noncomputable def za1 (R : zaj) (x0 : Value) (l1 : List Value) (H2 : Hp) : Option Outc :=
 zab 1 false (zaa x0) 0 fun v3 =>
 pBin PP .lss T.int (l1.getD 0 undef) v3 fun v4 =>
 zad v4 fun b5 => br b5
 (zab 5 true (zaa x0) 0 fun v6 =>
 zaf R F.a10 [v6, (l1.getD 0 undef)] H2 fun r7 H8 =>
 pBin PP .eql T.int r7 (.int .i64 0) fun v9 =>
 zad v9 fun b10 => br b10
 (pBin PP .add T.int (l1.getD 0 undef) (.int .i64 1) fun v11 =>
 some (.next, [v11], H8))
 (some (.exit 0, [(l1.getD 0 undef)], H8)))
 (some (.exit 0, [(l1.getD 0 undef)], H2))
theorem zf4 (R : zaj) (x0 : Value) (H0 : Hp) : zdb R x0 H0 =
zaC (zaA (za1 R x0) [(.int .i64 0)] H0) fun q12 l13 H14 => zaJ q12 none
 (fun i15 => zaE i15 0 (
 some ((l13.getD 0 undef), H14)) (
 none))
 (some ((l13.headD undef), H14)) := by kernel_rfl
noncomputable def za2 (R : zaj) (x0 : Value) (x1 : Value) (x2 : Value) (v1 : Value) (l6 : List Value) (H7 : Hp) : Option Outc :=
 pBin PP .lss T.int (l6.getD 0 undef) v1 fun v8 =>
 zad v8 fun b9 => br b9
 (pBin PP .add T.int (l6.getD 0 undef) x2 fun v10 =>
 zaC (
 pBin PP .eql T.int x0 (.int .i64 25) fun v11 =>
 zad v11 fun b12 => br b12
 (pBin PP .sub T.int (l6.getD 0 undef) x2 fun v13 =>
 some (.next, [v13], H7))
 (pBin PP .eql T.int x0 (.int .i64 28) fun v14 =>
 zad v14 fun b15 => br b15
 (pBin PP .sub T.int (l6.getD 0 undef) x2 fun v16 =>
 some (.next, [v16], H7))
 (some (.next, [v10], H7)))) fun q17 l18 H19 => zaJ q17
 (zaC (
 zaC (
 pBin PP .eql T.int x0 (.int .i64 28) fun v21 =>
 zad v21 fun b22 => br b22
 (some (.next, [(.bool true)], H19))
 (pBin PP .eql T.int x0 (.int .i64 29) fun v23 =>
 some (.next, [v23], H19))) fun q24 l25 H26 => zaJ q24
 (zad (l25.getD 0 undef) fun b28 => br b28
 (zab 5 true (zaa x1) 0 fun v29 =>
 pBin PP .add T.int (l18.getD 0 undef) v1 fun v30 =>
 pBin PP .rem T.int v30 v1 fun v31 =>
 zaf R F.a10 [v29, v31] H26 fun r32 H33 =>
 some (.next, [r32], H33))
 (pBin PP .geq T.int (l18.getD 0 undef) (.int .i64 0) fun v34 =>
 zad v34 fun b35 => br b35
 (pBin PP .lss T.int (l18.getD 0 undef) v1 fun v36 =>
 zad v36 fun b37 => br b37
 (zab 5 true (zaa x1) 0 fun v38 =>
 zaf R F.a10 [v38, (l18.getD 0 undef)] H26 fun r39 H40 =>
 some (.next, [r39], H40))
 (pBin PP .eql T.int x0 (.int .i64 27) fun v41 =>
 zad v41 fun b42 => br b42
 (zab 5 true (zaa x1) 0 fun v43 =>
 pBin PP .sub T.int v1 (.int .i64 1) fun v44 =>
 zaf R F.a10 [v43, v44] H26 fun r45 H46 =>
 some (.next, [r45], H46))
 (some (.next, [(.int .i64 0)], H26))))
 (pBin PP .eql T.int x0 (.int .i64 27) fun v47 =>
 zad v47 fun b48 => br b48
 (zab 5 true (zaa x1) 0 fun v49 =>
 pBin PP .sub T.int v1 (.int .i64 1) fun v50 =>
 zaf R F.a10 [v49, v50] H26 fun r51 H52 =>
 some (.next, [r51], H52))
 (some (.next, [(.int .i64 0)], H26)))))
 (fun i27 => zaE i27 2 (
 some (.next, [(.int .i64 0)], H26)) (
 some (.exit i27, [(.int .i64 0)], H26)))
 (some (.ret, [(l25.headD undef)], H26))) fun q53 l54 H55 => zaJ q53
 (pBin PP .eql T.int (l54.getD 0 undef) (.int .i64 1) fun v57 =>
 zad v57 fun b58 => br b58
 (zab 1 false (zaa ((l6.drop 1).getD 0 undef)) 1 fun v59 =>
 zal .u64 (l6.getD 0 undef) fun v60 =>
 pBin PP .shl T.uint64 (.int .u64 1) v60 fun v61 =>
 pBin PP .or T.uint64 v59 v61 fun v62 =>
 zac 1 (zaa ((l6.drop 1).getD 0 undef)) 1 v62 fun c63 =>
 pBin PP .eql T.int (l54.getD 0 undef) (.int .i64 0) fun v64 =>
 zad v64 fun b65 => br b65
 (zab 1 false c63 2 fun v66 =>
 zal .u64 (l6.getD 0 undef) fun v67 =>
 pBin PP .shl T.uint64 (.int .u64 1) v67 fun v68 =>
 pBin PP .or T.uint64 v66 v68 fun v69 =>
 zac 1 c63 2 v69 fun c70 =>
 pBin PP .add T.int (l6.getD 0 undef) (.int .i64 1) fun v71 =>
 some (.next, [v71, (.agg c70.toArray)], H55))
 (pBin PP .add T.int (l6.getD 0 undef) (.int .i64 1) fun v72 =>
 some (.next, [v72, (.agg c63.toArray)], H55)))
 (pBin PP .eql T.int (l54.getD 0 undef) (.int .i64 0) fun v73 =>
 zad v73 fun b74 => br b74
 (zab 1 false (zaa ((l6.drop 1).getD 0 undef)) 2 fun v75 =>
 zal .u64 (l6.getD 0 undef) fun v76 =>
 pBin PP .shl T.uint64 (.int .u64 1) v76 fun v77 =>
 pBin PP .or T.uint64 v75 v77 fun v78 =>
 zac 1 (zaa ((l6.drop 1).getD 0 undef)) 2 v78 fun c79 =>
 pBin PP .add T.int (l6.getD 0 undef) (.int .i64 1) fun v80 =>
 some (.next, [v80, (.agg c79.toArray)], H55))
 (pBin PP .add T.int (l6.getD 0 undef) (.int .i64 1) fun v81 =>
 some (.next, [v81, (.agg (zaa ((l6.drop 1).getD 0 undef)).toArray)], H55))))
 (fun i56 => zaE i56 1 (
 pBin PP .add T.int (l6.getD 0 undef) (.int .i64 1) fun v82 =>
 some (.next, [v82, (.agg (zaa ((l6.drop 1).getD 0 undef)).toArray)], H55)) (
 some (.exit i56, [(l6.getD 0 undef), (.agg (zaa ((l6.drop 1).getD 0 undef)).toArray)], H55)))
 (some (.ret, [(l54.headD undef)], H55)))
 (fun i20 => zaE i20 1 (
 pBin PP .add T.int (l6.getD 0 undef) (.int .i64 1) fun v83 =>
 some (.next, [v83, (.agg (zaa ((l6.drop 1).getD 0 undef)).toArray)], H19)) (
 some (.exit i20, [(l6.getD 0 undef), (.agg (zaa ((l6.drop 1).getD 0 undef)).toArray)], H19)))
 (some (.ret, [(l18.headD undef)], H19)))
 (some (.exit 0, [(l6.getD 0 undef), (.agg (zaa ((l6.drop 1).getD 0 undef)).toArray)], H7))
theorem zf5 (R : zaj) (x0 x1 x2 : Value) (H0 : Hp) : zde R x0 x1 x2 H0 =
zab 1 false (zaa x1) 0 fun v1 =>
 zaf R F.a4 [v1] H0 fun r2 H3 =>
 zar PP T.api_Fact [(0, v1), (4, r2)] fun v4 =>
 zac 5 [.int .i64 0, .int .u64 0, .int .u64 0, .int .u64 0, .int .u64 0] 0 v4 fun c5 =>
 zaC (zaA (za2 R x0 x1 x2 v1) [(.int .i64 0), (.agg c5.toArray)] H3) fun q84 l85 H86 => zaJ q84 none
 (fun i87 => zaE i87 0 (
 zaC (
 pBin PP .eql T.int x0 (.int .i64 25) fun v88 =>
 zad v88 fun b89 => br b89
 (zab 1 false (zaa x1) 4 fun v90 =>
 zaf R F.a4 [v1] H86 fun r91 H92 =>
 zal .u64 x2 fun v93 =>
 pBin PP .shr T.uint64 r91 v93 fun v94 =>
 pBin PP .leq T.uint64 v90 v94 fun v95 =>
 zad v95 fun b96 => br b96
 (zab 1 false (zaa x1) 3 fun v97 =>
 zal .u64 x2 fun v98 =>
 pBin PP .shl T.uint64 v97 v98 fun v99 =>
 zac 1 (zaa ((l85.drop 1).getD 0 undef)) 3 v99 fun c100 =>
 zab 1 false (zaa x1) 4 fun v101 =>
 zal .u64 x2 fun v102 =>
 pBin PP .shl T.uint64 v101 v102 fun v103 =>
 zac 1 c100 4 v103 fun c104 =>
 some (.next, [(.agg c104.toArray)], H92))
 (some (.next, [(.agg (zaa ((l85.drop 1).getD 0 undef)).toArray)], H92)))
 (some (.next, [(.agg (zaa ((l85.drop 1).getD 0 undef)).toArray)], H86))) fun q105 l106 H107 => zaJ q105
 (pBin PP .eql T.int x0 (.int .i64 26) fun v109 =>
 zad v109 fun b110 => br b110
 (zab 1 false (zaa x1) 3 fun v111 =>
 zal .u64 x2 fun v112 =>
 pBin PP .shr T.uint64 v111 v112 fun v113 =>
 zac 1 (zaa ((l106.drop 0).getD 0 undef)) 3 v113 fun c114 =>
 zab 1 false (zaa x1) 4 fun v115 =>
 zal .u64 x2 fun v116 =>
 pBin PP .shr T.uint64 v115 v116 fun v117 =>
 zac 1 c114 4 v117 fun c118 =>
 zab 5 true c118 0 fun v119 =>
 zac 5 [.int .i64 0, .int .u64 0, .int .u64 0, .int .u64 0, .int .u64 0] 0 v119 fun c120 =>
 zab 5 true c120 0 fun v121 =>
 some (v121, H107))
 (zab 5 true (zaa ((l106.drop 0).getD 0 undef)) 0 fun v122 =>
 zac 5 [.int .i64 0, .int .u64 0, .int .u64 0, .int .u64 0, .int .u64 0] 0 v122 fun c123 =>
 zab 5 true c123 0 fun v124 =>
 some (v124, H107)))
 (fun i108 => none)
 (some ((l106.headD undef), H107))) (
 none))
 (some ((l85.headD undef), H86)) := by kernel_rfl
noncomputable def za0 (R : zaj) (x0 : Value) (x1 : Value) (v1 : Value) (l2 : List Value) (H3 : Hp) : Option Outc :=
 pBin PP .lss T.int (l2.getD 0 undef) v1 fun v4 =>
 zad v4 fun b5 => br b5
 (pIdx 1 x1 (l2.getD 0 undef) fun p6 =>
 zaB 1 false H3 p6 fun v7 =>
 zaf R F.a31 [x0, v7] H3 fun r8 H9 =>
 pUn .not r8 fun v10 =>
 zad v10 fun b11 => br b11
 (some (.ret, [(.tuple #[(.slice none 0 0), (.int .i64 70)])], H9))
 (pBin PP .add T.int (l2.getD 0 undef) (.int .i64 1) fun v12 =>
 some (.next, [v12], H9)))
 (some (.exit 0, [(l2.getD 0 undef)], H3))
noncomputable def zaG (R : zaj) (x0 : Value) (v21 : Value) (l41 : List Value) (H42 : Hp) : Option Outc :=
 pLen .sl (l41.getD 1 undef) H42 fun v43 =>
 pBin PP .gtr T.int v43 (.int .i64 0) fun v44 =>
 zad v44 fun b45 => br b45
 (pLen .sl (l41.getD 1 undef) H42 fun v46 =>
 pBin PP .sub T.int v46 (.int .i64 1) fun v47 =>
 pIdx 2 (l41.getD 1 undef) v47 fun p48 =>
 pNil x0 (
 za7 1 x0 fun p49 =>
 zaB 1 false H42 p49 fun v50 =>
 pNil p48 (
 za7 0 p48 fun p51 =>
 zaB 1 false H42 p51 fun v52 =>
 pBin PP .sub T.int v52 (.int .i64 1) fun v53 =>
 pIdx 7 v50 v53 fun p54 =>
 zaB 7 true H42 p54 fun v55 =>
 zac 7 [.int .i64 0, .int .i64 0, .int .i64 0, .int .i64 0, .int .i64 0, .int .u64 0, .string ⟨#[]⟩] 0 v55 fun c56 =>
 pNil p48 (
 za7 1 p48 fun p57 =>
 zaB 1 false H42 p57 fun v58 =>
 zab 1 false c56 0 fun v59 =>
 zaf R F.a24 [v59] H42 fun r60 H61 =>
 chk (Hp.rdP H61 p57 1 false = some v58) (
 pBin PP .eql T.int v58 r60 fun v62 =>
 zad v62 fun b63 => br b63
 (pNil p48 (
 za7 0 p48 fun p64 =>
 zaB 1 false H61 p64 fun v65 =>
 zaR 1 [.int .i64 0] 1 [(0, v65)] H61 fun v66 H67 =>
 zby 1 8 (l41.getD 0 undef) v66 H67 fun v68 H69 =>
 pLen .sl (l41.getD 1 undef) H69 fun v70 =>
 pBin PP .sub T.int v70 (.int .i64 1) fun v71 =>
 zgg 2 (l41.getD 1 undef) none (some v71) fun v72 =>
 some (.next, [v68, v72], H69)))
 (zab 1 false c56 2 fun v73 =>
 zab 1 false c56 3 fun v74 =>
 zab 1 false c56 4 fun v75 =>
 zar PP T.a3_int [(0, v73), (1, v74), (2, v75)] fun v76 =>
 pNil p48 (
 za7 1 p48 fun p77 =>
 zaB 1 false H61 p77 fun v78 =>
 zcg 3 false 1 v76 v78 fun v79 =>
 pNil p48 (
 za7 1 p48 fun p80 =>
 zaB 1 false H61 p80 fun v81 =>
 pBin PP .add T.int v81 (.int .i64 1) fun v82 =>
 pNil p48 (
 za7 1 p48 fun p83 =>
 zcc 1 H61 p83 v82 fun H84 =>
 pIdx 1 v21 v79 fun p85 =>
 zaB 1 false H84 p85 fun v86 =>
 pUn .not v86 fun v87 =>
 zad v87 fun b88 => br b88
 (pIdx 1 v21 v79 fun p89 =>
 zcc 1 H84 p89 (.bool true) fun H90 =>
 zar PP T.term_place [(0, v79), (1, (.int .i64 0))] fun v91 =>
 zaR 2 [.int .i64 0, .int .i64 0] 1 [(0, v91)] H90 fun v92 H93 =>
 zby 2 16 (l41.getD 1 undef) v92 H93 fun v94 H95 =>
 some (.next, [(l41.getD 0 undef), v94], H95))
 (some (.next, [(l41.getD 0 undef), (l41.getD 1 undef)], H84)))))))))))
 (some (.exit 4, [(l41.getD 0 undef), (l41.getD 1 undef)], H42))
noncomputable def zaZ (R : zaj) (x0 : Value) (x1 : Value) (v21 : Value) (v23 : Value) (l24 : List Value) (H25 : Hp) : Option Outc :=
 pBin PP .lss T.int (l24.getD 2 undef) v23 fun v26 =>
 zad v26 fun b27 => br b27
 (pIdx 1 x1 (l24.getD 2 undef) fun p28 =>
 zaB 1 false H25 p28 fun v29 =>
 pIdx 1 v21 v29 fun p30 =>
 zaB 1 false H25 p30 fun v31 =>
 zad v31 fun b32 => br b32
 (pBin PP .add T.int (l24.getD 2 undef) (.int .i64 1) fun v33 =>
 some (.next, [(l24.getD 0 undef), (l24.getD 1 undef), v33], H25))
 (pIdx 1 v21 v29 fun p34 =>
 zcc 1 H25 p34 (.bool true) fun H35 =>
 zar PP T.term_place [(0, v29), (1, (.int .i64 0))] fun v36 =>
 zaR 2 [.int .i64 0, .int .i64 0] 1 [(0, v36)] H35 fun v37 H38 =>
 zby 2 16 (l24.getD 1 undef) v37 H38 fun v39 H40 =>
 zaC (zaA (zaG R x0 v21) [(l24.getD 0 undef), v39] H40) fun q96 l97 H98 => zaJ q96 none
 (fun i99 => zaE i99 4 (
 pBin PP .add T.int (l24.getD 2 undef) (.int .i64 1) fun v100 =>
 some (.next, [(l97.getD 0 undef), (l97.getD 1 undef), v100], H98)) (
 zaE i99 3 (
 pBin PP .add T.int (l24.getD 2 undef) (.int .i64 1) fun v101 =>
 some (.next, [(l97.getD 0 undef), (l97.getD 1 undef), v101], H98)) (
 some (.exit i99, [(l97.getD 0 undef), (l97.getD 1 undef), (l24.getD 2 undef)], H98))))
 (some (.ret, [(l97.headD undef)], H98))))
 (some (.exit 2, [(l24.getD 0 undef), (l24.getD 1 undef), (l24.getD 2 undef)], H25))
theorem zhC (R : zaj) (x0 x1 : Value) (H0 : Hp) : zd3 R x0 x1 H0 =
pLen .sl x1 H0 fun v1 =>
 zaC (zaA (za0 R x0 x1 v1) [(.int .i64 0)] H0) fun q13 l14 H15 => zaJ q13 none
 (fun i16 => zaE i16 0 (
 pNil x0 (
 za7 1 x0 fun p17 =>
 zaB 1 false H15 p17 fun v18 =>
 pLen .sl v18 H15 fun v19 =>
 pBin PP .add T.int v19 (.int .i64 1) fun v20 =>
 zbK 1 1 [.bool false] v20 v20 H15 fun v21 H22 =>
 pLen .sl x1 H22 fun v23 =>
 zaC (zaA (zaZ R x0 x1 v21 v23) [(.slice none 0 0), (.slice none 0 0), (.int .i64 0)] H22) fun q102 l103 H104 => zaJ q102 none
 (fun i105 => zaE i105 2 (
 some ((.tuple #[(l103.getD 0 undef), (.int .i64 0)]), H104)) (
 none))
 (some ((l103.headD undef), H104)))) (
 none))
 (some ((l14.headD undef), H15)) := by kernel_rfl
noncomputable def zdp (R : zaj) (x0 : Value) (v2 : Value) (v4 : Value) (l5 : List Value) (H6 : Hp) : Option Outc :=
 pBin PP .lss T.int (l5.getD 0 undef) v4 fun v7 =>
 zad v7 fun b8 => br b8
 (pIdx 3 x0 (l5.getD 0 undef) fun p9 =>
 zaB 3 true H6 p9 fun v10 =>
 zac 3 [.string ⟨#[]⟩, .int .i64 0, .int .u64 0] 0 v10 fun c11 =>
 zab 1 false c11 0 fun v12 =>
 zcn PP T.string (.agg #[.string ⟨#[]⟩, .int .i64 0, .int .u64 0]) v2 v12 true H6 fun v13 =>
 zah v13 0 fun v14 =>
 zah v13 1 fun v15 =>
 zac 3 [.string ⟨#[]⟩, .int .i64 0, .int .u64 0] 0 v14 fun c16 =>
 zad v15 fun b17 => br b17
 (some (.ret, [(.tuple #[(.map none), (.int .i64 72)])], H6))
 (zab 1 false c11 0 fun v18 =>
 zaf R F.a59 [v18] H6 fun r19 H20 =>
 pUn .not r19 fun v21 =>
 zad v21 fun b22 => br b22
 (some (.ret, [(.tuple #[(.map none), (.int .i64 72)])], H20))
 (zab 1 false c11 0 fun v23 =>
 zab 3 true c11 0 fun v24 =>
 pUpd PP T.string v2 v23 v24 H20 fun H25 =>
 pBin PP .add T.int (l5.getD 0 undef) (.int .i64 1) fun v26 =>
 some (.next, [v26], H25))))
 (some (.exit 0, [(l5.getD 0 undef)], H6))
noncomputable def zdo (R : zaj) (x0 : Value) (v31 : Value) (l32 : List Value) (H33 : Hp) : Option Outc :=
 pBin PP .lss T.int (l32.getD 0 undef) v31 fun v34 =>
 zad v34 fun b35 => br b35
 (pIdx 3 x0 (l32.getD 0 undef) fun p36 =>
 zaB 3 true H33 p36 fun v37 =>
 zac 3 [.string ⟨#[]⟩, .int .i64 0, .int .u64 0] 0 v37 fun c38 =>
 zab 1 false c38 1 fun v39 =>
 pBin PP .lss T.int v39 (.int .i64 0) fun v40 =>
 zad v40 fun b41 => br b41
 (some (.ret, [(.tuple #[(.map none), (.int .i64 5)])], H33))
 (zab 1 false c38 1 fun v42 =>
 pBin PP .gtr T.int v42 (.int .i64 64) fun v43 =>
 zad v43 fun b44 => br b44
 (some (.ret, [(.tuple #[(.map none), (.int .i64 5)])], H33))
 (zab 1 false c38 1 fun v45 =>
 pMM true [v45, (.int .i64 1)] fun v46 =>
 zab 1 false c38 2 fun v47 =>
 zaf R F.a0 [v46, v47] H33 fun r48 H49 =>
 zab 1 false c38 2 fun v50 =>
 pBin PP .neq T.uint64 r48 v50 fun v51 =>
 zad v51 fun b52 => br b52
 (some (.ret, [(.tuple #[(.map none), (.int .i64 5)])], H49))
 (pBin PP .add T.int (l32.getD 0 undef) (.int .i64 1) fun v53 =>
 some (.next, [v53], H49)))))
 (some (.exit 2, [(l32.getD 0 undef)], H33))
theorem zn0 (R : zaj) (x0 : Value) (H0 : Hp) : zjJ R x0 H0 =
pLen .sl x0 H0 fun v1 =>
 zkm v1 (
 zc4 H0 fun v2 H3 =>
 pLen .sl x0 H3 fun v4 =>
 zaC (zaA (zdp R x0 v2 v4) [(.int .i64 0)] H3) fun q27 l28 H29 => zaJ q27 none
 (fun i30 => zaE i30 0 (
 pLen .sl x0 H29 fun v31 =>
 zaC (zaA (zdo R x0 v31) [(.int .i64 0)] H29) fun q54 l55 H56 => zaJ q54 none
 (fun i57 => zaE i57 2 (
 some ((.tuple #[v2, (.int .i64 0)]), H56)) (
 none))
 (some ((l55.headD undef), H56))) (
 none))
 (some ((l28.headD undef), H29))) := by kernel_rfl
end Go.AM
namespace Go.AM
open Go Go.ChangeShapes Go.WideShapes Go.ChangeAt Go.RowKit
inductive Sc where
  | bool | int (k : IntKind) | str
def okSc : Sc → Value → Prop
  | .bool, v => ∃ b, v = .bool b
  | .int k, v => ∃ n, v = .int k n ∧ k.min ≤ n ∧ n ≤ k.max
  | .str, v => ∃ s : ByteArray, v = .string s
def zo4 (P : Program) (c : TypeId → Option (List Sc)) : List Field → Nat → Option (List Sc)
  | [], _ => some []
  | f :: fs, off => match c f.type with
    | none => none
    | some ks => match Nat.beq f.offset off && Nat.beq ks.length (P.cellsOf f.type) with
      | true => match zo4 P c fs (off + ks.length) with
        | some r => some (ks ++ r)
        | none => none
      | false => none
def flat (P : Program) : Nat → TypeId → Option (List Sc)
  | 0, _ => none
  | d + 1, t => match P.underlying t with
    | some .bool => some [.bool]
    | some (.int k) => some [.int k]
    | some .string => some [.str]
    | some (.struct fs) => match zo4 P (flat P d) fs.toList 0 with
      | some ks => match Nat.beq ks.length (P.cellsOf t) with
        | true => some ks
        | false => none
      | none => none
    | _ => none
def OkL (ks : List Sc) (cs : List Value) : Prop := cs.length = ks.length ∧ ∀ (j : Nat) k, ks[j]? = some k → ∃ v, cs[j]? = some v ∧ okSc k v
theorem OkL.one {k : Sc} {v : Value} (h : okSc k v) : OkL [k] [v] := ⟨rfl, fun j k' hk => by
  cases j with
  | zero => cases hk; exact ⟨v, rfl, h⟩
  | succ j => cases hk⟩
variable {HH : Type} {enc : TypeId × Value → HH} {P : Program} {w : World} {base : Nat} {sp : Nat → Bool} {held : Bool}
theorem zm3 {n : Nat} {c : TypeId → Option (List Sc)} (hc : ∀ t ks cs x, c t = some ks → DataW.trod enc P w base sp held n t cs = some x → OkL ks cs) {cs : List Value} :
    ∀ (fs : List Field) (off : Nat) (ks : List Sc), zo4 P c fs off = some ks → (∀ f ∈ fs, ∃ x, DataW.trod enc P w base sp held n f.type ((cs.drop f.offset).take (P.cellsOf f.type)) = some x) → off + ks.length ≤ cs.length →
      ∀ (j : Nat) k, ks[j]? = some k → ∃ v, cs[off + j]? = some v ∧ okSc k v
  | [], off, ks, h, _, _, j, k, hk => by cases h; cases hk
  | f :: fs, off, ks, h, hx, hl, j, k, hk => by
    unfold zo4 at h
    split at h
    · cases h
    · rename_i k1 h1
      split at h
      · rename_i hb
        rw [Bool.and_eq_true] at hb
        have ho : f.offset = off := Nat.eq_of_beq_eq_true hb.1
        have hk1 : k1.length = P.cellsOf f.type := Nat.eq_of_beq_eq_true hb.2
        split at h
        · rename_i r hr
          cases h
          obtain ⟨x, hx1⟩ := hx f (List.mem_cons_self ..)
          have hok := hc _ _ _ _ h1 hx1
          rcases Nat.lt_or_ge j k1.length with q | q
          · rw [List.getElem?_append_left q] at hk
            obtain ⟨v, hv, hs⟩ := hok.2 j k hk
            rw [List.getElem?_take] at hv
            split at hv
            · rw [List.getElem?_drop, ho] at hv
              exact ⟨v, hv, hs⟩
            · cases hv
          · rw [List.getElem?_append_right q] at hk
            simp only [List.length_append] at hl
            obtain ⟨v, hv, hs⟩ := zm3 hc fs (off + k1.length) r hr (fun f hf => hx f (List.mem_cons_of_mem _ hf)) (by omega) (j - k1.length) k hk
            exact ⟨v, by rw [show off + j = off + k1.length + (j - k1.length) by omega]; exact hv, hs⟩
        · cases h
      · cases h
theorem zn4 : ∀ (d : Nat) (t : TypeId) (ks : List Sc), flat P d t = some ks → ∀ (fuel : Nat) (cs : List Value) (x : DataW HH × List MemPlace), DataW.trod enc P w base sp held fuel t cs = some x → OkL ks cs
  | 0, t, ks, h, _, _, _, _ => by cases h
  | d + 1, t, ks, h, fuel, cs, x, hx => by
    unfold flat at h
    split at h
    · rename_i hu
      cases h
      obtain ⟨b, rfl, _⟩ := DataW.trod_bool hu hx
      exact OkL.one ⟨b, rfl⟩
    · rename_i k hu
      cases h
      obtain ⟨n, rfl, _, hw⟩ := DataW.trod_int hu hx
      refine OkL.one ⟨n, rfl, ?_⟩
      simpa [Lit.wf] using hw
    · rename_i hu
      cases h
      obtain ⟨s, rfl, _⟩ := DataW.trod_string hu hx
      exact OkL.one ⟨s, rfl⟩
    · rename_i fs hu
      split at h
      · rename_i k1 hf
        split at h
        · rename_i hb
          cases h
          have hlen : ks.length = P.cellsOf t := Nat.eq_of_beq_eq_true hb
          obtain ⟨xs, n, rfl, _, hl, hxl, hall⟩ := DataW.trod_struct hu hx
          refine ⟨by omega, fun j k hk => ?_⟩
          obtain ⟨v, hv, hs⟩ := zm3 (n := n) (fun t ks cs x h1 h2 => zn4 d t ks h1 n cs x h2) (cs := cs) fs.toList 0 ks hf (fun f hf => by
            obtain ⟨i, hi, rfl⟩ := List.getElem_of_mem hf
            have hi' : i < fs.size := by simpa using hi
            have := hall i fs.toList[i] (by simp [hi'])
            rw [this]
            exact ⟨xs[i], by simp⟩) (by omega) j k hk
          exact ⟨v, by simpa using hv, hs⟩
        · cases h
      · cases h
    · cases h
def B00 (P : Program) : Bt := fun g => if g < P.globals.size then some ⟨g, 0, 0⟩ else none
end Go.AM
namespace Go.AM
open Go
def HS (P : Program) (F : Nat → Option AObj) : Hp := ⟨P.globals.size, fun i => if i < P.globals.size then F i else none, fun _ => none⟩
def isInt : Value → Bool
  | .int _ _ => true
  | _ => false
theorem isInt_rel {β : Bt} {v : Value} (h : isInt v = true) : VRel β v v := by
  unfold isInt at h
  split at h
  · exact .int _ _
  · cases h
theorem relStart {P : Program} {W : World} (h : P.globals.size ≤ W.heap.size) {F : Nat → Option AObj}
    (hF : ∀ i o, F i = some o → (∃ q, o = .fix q ∧ W.heap[i]? = some q) ∨ (∃ cs, o = .cells cs false ∧ ∀ (j : Nat) v, cs[j]? = some v → isInt v = true ∧ W.cell? ⟨i, j, none⟩ = some v)) :
    Rel P W (HS P F) (B00 P) ∧ (∀ i o, (HS P F).get i = some o → o.own = false) := by
  have key : ∀ i o, (HS P F).get i = some o → i < P.globals.size ∧ F i = some o := fun i o hi => by
    have hi : (if i < P.globals.size then F i else none) = some o := hi
    split at hi
    · exact ⟨by assumption, hi⟩
    · cases hi
  have hno : ∀ i o, (HS P F).get i = some o → o.own = false := fun i o hi => by
    rcases hF i o (key i o hi).2 with ⟨q, rfl, _⟩ | ⟨cs, rfl, _⟩ <;> rfl
  refine ⟨⟨fun i cs own hi => ?_, fun i kv hi => ?_, fun i j o o' x y _ hi _ ho => ?_, fun i hi => ⟨?_, by unfold B00; rw [if_neg (by have : P.globals.size ≤ i := hi; omega)]⟩,
    fun i x hx => (by unfold B00 at hx; split at hx <;> cases hx; show i < _; omega), fun g hg => ⟨0, by unfold B00; rw [if_pos hg]⟩, fun i o hi => ?_, fun i T hi => (by cases hi)⟩, hno⟩
  · obtain ⟨h1, h2⟩ := key i _ hi
    rcases hF i _ h2 with ⟨q, e, _⟩ | ⟨cs', e, hc⟩
    · cases e
    · cases e
      refine ⟨⟨i, 0, 0⟩, by unfold B00; rw [if_pos h1], fun j v hv => ?_, fun q => by cases q⟩
      obtain ⟨c1, c2⟩ := hc j v hv
      exact ⟨v, by rw [Nat.zero_add]; exact c2, isInt_rel c1⟩
  · obtain ⟨h1, h2⟩ := key i _ hi
    rcases hF i _ h2 with ⟨q, e, _⟩ | ⟨cs', e, hc⟩ <;> cases e
  · rw [hno i o hi] at ho; cases ho
  · show (if i < P.globals.size then F i else none) = none
    have : P.globals.size ≤ i := hi
    rw [if_neg (by omega)]
  · obtain ⟨h1, h2⟩ := key i _ hi
    rcases hF i _ h2 with ⟨q, e, hq⟩ | ⟨cs', e, hc⟩
    · cases e
      exact ⟨⟨i, 0, 0⟩, by unfold B00; rw [if_pos h1], rfl, hq⟩
    · cases e
end Go.AM
namespace Go.AM
open Go
def E0 : FuncId → Option (List Value → Hp → Option (Value × Hp)) := fun _ => none
noncomputable abbrev RR : zaj := run PP orc E0
theorem extE0 : ExtC PP E0 := fun f e h => by cases h
end Go.AM
namespace Go.AM.N14
open Go Go.AM
noncomputable abbrev R : zaj := RR
structure Fct where
  w : Int
  one : W64
  zero : W64
  least : W64
  top : W64
def Fct.val (f : Fct) : Value := .agg #[.int .i64 f.w, wv f.one, wv f.zero, wv f.least, wv f.top]
section
variable {α : Type}
theorem f_w (f : Fct) (k : Value → Option α) : zab 1 false (zaa f.val) 0 k = k (.int .i64 f.w) := rfl
theorem zaX (f : Fct) (k : Value → Option α) : zab 1 false (zaa f.val) 1 k = k (wv f.one) := rfl
theorem zaD (f : Fct) (k : Value → Option α) : zab 1 false (zaa f.val) 2 k = k (wv f.zero) := rfl
theorem zas (f : Fct) (k : Value → Option α) : zab 1 false (zaa f.val) 3 k = k (wv f.least) := rfl
theorem zaK (f : Fct) (k : Value → Option α) : zab 1 false (zaa f.val) 4 k = k (wv f.top) := rfl
theorem zak (f : Fct) (k : Value → Option α) : zab 5 true (zaa f.val) 0 k = k f.val := rfl
theorem b_5 (w : Int) (b c d e : W64) (k : Value → Option α) : zar PP T.api_Fact [(0, .int .i64 w), (1, wv b), (2, wv c), (3, wv d), (4, wv e)] k = k (Fct.val ⟨w, b, c, d, e⟩) := by kernel_rfl
theorem b_w3 (w : Int) (b c : W64) (k : Value → Option α) : zar PP T.api_Fact [(0, .int .i64 w), (1, wv b), (2, wv c)] k = k (Fct.val ⟨w, b, c, 0#64, 0#64⟩) := by kernel_rfl
theorem b_wt (w : Int) (b : W64) (k : Value → Option α) : zar PP T.api_Fact [(0, .int .i64 w), (4, wv b)] k = k (Fct.val ⟨w, 0#64, 0#64, 0#64, b⟩) := by kernel_rfl
theorem b_wlt (w : Int) (b c : W64) (k : Value → Option α) : zar PP T.api_Fact [(0, .int .i64 w), (3, wv b), (4, wv c)] k = k (Fct.val ⟨w, 0#64, 0#64, b, c⟩) := by kernel_rfl
theorem u_0 : Value.int .u64 0 = wv 0#64 := rfl
theorem u_1 : Value.int .u64 1 = wv 1#64 := rfl
theorem u_all : Value.int .u64 18446744073709551615 = wv (msk 64) := rfl
theorem cells_val (f : Fct) : [Value.int .i64 f.w, wv f.one, wv f.zero, wv f.least, wv f.top] = zaa f.val := rfl
theorem sp_all (f : Fct) (l : List Value) (hl : l.length = 5) (k : List Value → Option α) : zac 5 l 0 f.val k = k (zaa f.val) := by
  match l, hl with
  | [a, b, c, d, e], _ => rfl
theorem zb3 (f : Fct) (x : W64) (k : List Value → Option α) : zac 1 (zaa f.val) 1 (wv x) k = k (zaa { f with one := x }.val) := rfl
theorem zbs (f : Fct) (x : W64) (k : List Value → Option α) : zac 1 (zaa f.val) 2 (wv x) k = k (zaa { f with zero := x }.val) := rfl
theorem za5 (f : Fct) (x : W64) (k : List Value → Option α) : zac 1 (zaa f.val) 3 (wv x) k = k (zaa { f with least := x }.val) := rfl
theorem zbt (f : Fct) (x : W64) (k : List Value → Option α) : zac 1 (zaa f.val) 4 (wv x) k = k (zaa { f with top := x }.val) := rfl
theorem cu64 (n : Nat) (h : n < 18446744073709551616) (k : Value → Option α) : zal .u64 (.int .i64 (n : Int)) k = k (.int .u64 (n : Int)) := by
  rw [zoE, q_u64 (by omega) (by omega)]
end
def wd (w : Int) : Nat := (max w 1).toNat
theorem zbf {w : Int} (h : w ≤ 64) : wd w ≤ 64 := by unfold wd; omega
theorem zc9 (w : Int) : 1 ≤ wd w := by unfold wd; omega
theorem wd_max (w : Int) : (max w 1 : Int) = (wd w : Int) := by unfold wd; omega
theorem c43 (w : Int) (H : Hp) : R F.a41 [.int .i64 w] H = some (.int .i64 (wd w), H) := by
  refine (zmm E0 rfl _ H).trans ?_
  show some (Value.int .i64 (if (1 : Int) > w then 1 else w), H) = _
  rw [← wd_max]
  congr 3
  split <;> omega
theorem c42 (n : Nat) (hn : n ≤ 64) (x : W64) (H : Hp) : R F.a0 [.int .i64 (n : Int), wv x] H = some (wv (x &&& msk n), H) := by
  refine (zjg E0 rfl _ _ H).trans ?_
  unfold zgJ
  simp only [zbj, zbg, zag, s_br, decide_eq_true_eq, cu64 n (by omega), u_1, zb2, zc7, zba]
  by_cases h0 : n = 0
  · subst h0
    rw [if_pos (by omega)]
    have : x &&& msk 0 = 0#64 := zbL fun j => by rw [BitVec.getLsbD_and, zbe]; simp
    rw [this]; rfl
  · rw [if_neg (by omega)]
    by_cases h1 : n = 64
    · subst h1
      rw [if_pos (by decide), zlJ, BitVec.and_allOnes]
    · rw [if_neg (by omega), znT n (by omega)]
theorem c26 {w : Int} (hw : w ≤ 64) (H : Hp) : R F.a3 [.int .i64 w] H = some (wv (msk (wd w)), H) := by
  refine (zmp E0 rfl _ H).trans ?_
  unfold zio
  rw [zae (c43 w H), u_all, zae (c42 (wd w) (zbf hw) (msk 64) H)]
  have : msk 64 &&& msk (wd w) = msk (wd w) := by rw [zlJ, BitVec.allOnes_and]
  rw [this]
theorem c28 {w : Int} (hw : 0 ≤ w) (H : Hp) : R F.a26 [.int .i64 w] H = some (.int .i64 (wd w), H) := by
  refine (zfX E0 rfl _ H).trans ?_
  unfold zdh
  simp only [zay, zag, s_br, decide_eq_true_eq]
  by_cases h : w = 0
  · subst h; rw [if_pos rfl]; rfl
  · rw [if_neg h, ← wd_max]
    congr 3; omega
theorem low_of (n : Nat) (hn : n ≤ 64) (H : Hp) : (pBin PP .geq T.int (.int .i64 (n : Int)) (.int .i64 64) fun v3 => zad v3 fun b4 => br b4 (some ((.int .u64 18446744073709551615), H))
    (zal .u64 (.int .i64 (n : Int)) fun v5 => pBin PP .shl T.uint64 (.int .u64 1) v5 fun v6 => pBin PP .sub T.uint64 v6 (.int .u64 1) fun v7 => some (v7, H))) = some (wv (msk n), H) := by
  simp only [zbg, zag, s_br, decide_eq_true_eq, cu64 n (by omega), u_1, zb2, zc7]
  by_cases h : n = 64
  · subst h; rw [if_pos (by decide)]; rfl
  · rw [if_neg (by omega), znT n (by omega)]
theorem c11 {w : Int} (h0 : 0 ≤ w) (hw : w ≤ 64) (H : Hp) : R F.a4 [.int .i64 w] H = some (wv (msk (wd w)), H) := by
  refine (zgC E0 rfl _ H).trans ?_
  unfold zdL
  rw [zae (c28 h0 H)]
  exact low_of (wd w) (zbf hw) H
theorem c48 (n : Nat) (hn : n ≤ 64) (H : Hp) : R F.a17 [.int .i64 (n : Int)] H = some (wv (msk n), H) := (zg9 E0 rfl _ H).trans (low_of n hn H)
theorem c47 (x : W64) (n : Nat) (hn : n < 64) (H : Hp) : R F.a35 [wv x, .int .i64 (n : Int)] H = some (.bool (x.getLsbD n), H) := by
  refine (zha E0 rfl _ _ H).trans ?_
  unfold zd7
  simp only [cu64 n (by omega), u_1, zc8, zba, zdU]
  congr 3
  have e : ((x >>> n &&& 1#64) = 1#64) ↔ x.getLsbD n = true := by
    constructor
    · intro h
      have := congrArg (fun b => BitVec.getLsbD b 0) h
      simp only [BitVec.getLsbD_and, BitVec.getLsbD_ushiftRight] at this
      simpa using this
    · intro h
      refine zbL fun j => ?_
      rw [BitVec.getLsbD_and, BitVec.getLsbD_ushiftRight]
      have e1 : (1#64).getLsbD j = decide (j = 0) := by have := zbQ 0 j (by decide); rwa [BitVec.shiftLeft_zero] at this
      rw [e1]
      by_cases hj : j = 0
      · subst hj; simp [h]
      · simp [hj]
  rw [Bool.eq_iff_iff, decide_eq_true_eq, e]
instance (o z x : W64) : Decidable (Fit o z x) := decidable_of_iff _ zn5
theorem c27 (f : Fct) (x : W64) (H : Hp) : R F.a116 [f.val, wv x] H = some (.bool (decide (Fit f.one f.zero x)), H) := by
  refine (zie E0 rfl _ _ H).trans ?_
  unfold zir
  simp only [zaX, zaD, u_0, zba, zdU, zag, s_br, decide_eq_true_eq]
  by_cases h : x &&& f.one = f.one
  · rw [if_pos h]
    congr 3
    rw [decide_eq_decide, ← zn5]
    exact ⟨fun q => ⟨h, q⟩, fun q => q.2⟩
  · rw [if_neg h]
    have : ¬ Fit f.one f.zero x := fun q => h (zn5.2 q).1
    rw [decide_eq_false this]
theorem c25 (f : Fct) (x : W64) (H : Hp) : R F.a36 [f.val, wv x] H = some (.bool (decide (Fit f.one f.zero x)), H) := by
  refine (zgz E0 rfl _ _ H).trans ?_
  exact (zie E0 rfl _ _ H).symm.trans (c27 f x H)
end Go.AM.N14
namespace Go.AM
open Go
def zam (op : Int) : Int := if op = 1 ∨ op = 2 ∨ op = 3 ∨ op = 4 then 0 else if op = 5 ∨ op = 15 ∨ op = 16 ∨ op = 31 ∨ op = 32 ∨ op = 33 then 1 else if op = 14 then 3 else 2
theorem c29 (op : Int) (H : Hp) : RR F.a24 [.int .i64 op] H = some (.int .i64 (zam op), H) := by
  refine (zml E0 rfl _ _).trans ?_
  unfold zil
  simp only [zag, s_br, zay, zao, zcw, zai, zbq, zbM, zaT, decide_eq_true_eq, qg0]
  unfold zam
  by_cases h1 : op = 1
  · simp [h1]
  by_cases h2 : op = 2
  · simp [h2]
  by_cases h3 : op = 3
  · simp [h3]
  by_cases h4 : op = 4
  · simp [h4]
  simp only [h1, h2, h3, h4, if_false, zao, zai, zag, qg0, decide_false, Bool.false_eq_true, or_self, false_or]
  by_cases h5 : op = 5
  · simp [h5]
  by_cases h6 : op = 15
  · simp [h6]
  by_cases h7 : op = 16
  · simp [h7]
  by_cases h8 : op = 31
  · simp [h8]
  by_cases h9 : op = 32
  · simp [h9]
  by_cases h10 : op = 33
  · simp [h10]
  by_cases h11 : op = 14
  · simp [h11]
  simp [h5, h6, h7, h8, h9, h10, h11]
end Go.AM
namespace Go.AM
open Go
structure Nd where
  op : Int
  w : Int
  a : Int
  b : Int
  c : Int
  num : Int
  name : ByteArray
def Nd.cells (n : Nd) : List Value := [.int .i64 n.op, .int .i64 n.w, .int .i64 n.a, .int .i64 n.b, .int .i64 n.c, .int .u64 n.num, .string n.name]
def Nd.val (n : Nd) : Value := .agg n.cells.toArray
def SlR (H : Hp) (sl : Value) (L : List Nd) : Prop :=
  (L = [] ∧ sl = .slice none 0 0) ∨ ∃ i, sl = .slice (some ⟨i, 0, some 7⟩) L.length L.length ∧ H.get i = some (.cells (L.flatMap Nd.cells) true)
structure StR (H : Hp) (p : Nat) (lim : Int) (L : List Nd) (sl : Value) (f g : Nat) : Prop where
  obj : H.get p = some (.cells [.int .i64 lim, sl, .map (some f), .map (some g)] true)
  all : SlR H sl L
section
variable {H : Hp} {p f g : Nat} {lim : Int} {L : List Nd} {sl : Value} (hs : StR H p lim L sl f g) {α : Type} (k : Value → Option α)
include hs
theorem StR.l0 : zaB 1 false H (.pointer (some ⟨p, 0, none⟩)) k = k (.int .i64 lim) := zmg hs.obj 0 _ rfl k
theorem StR.l1 : zaB 1 false H (.pointer (some ⟨p, 1, none⟩)) k = k sl := zmg hs.obj 1 _ rfl k
theorem StR.l2 : zaB 1 false H (.pointer (some ⟨p, 2, none⟩)) k = k (.map (some f)) := zmg hs.obj 2 _ rfl k
theorem StR.l3 : zaB 1 false H (.pointer (some ⟨p, 3, none⟩)) k = k (.map (some g)) := zmg hs.obj 3 _ rfl k
end
theorem SlR.len {H : Hp} {sl : Value} {L : List Nd} (h : SlR H sl L) {α : Type} (k : Value → Option α) : pLen .sl sl H k = k (.int .i64 L.length) := by
  rcases h with ⟨rfl, rfl⟩ | ⟨i, rfl, _⟩ <;> rfl
theorem zpP (L : List Nd) (i j : Nat) (hj : j < 7) : (L.flatMap Nd.cells)[i * 7 + j]? = L[i]?.bind fun n => n.cells[j]? := by
  induction L generalizing i with
  | nil => simp
  | cons n L ih =>
    rw [List.flatMap_cons]
    cases i with
    | zero => rw [Nat.zero_mul, Nat.zero_add, List.getElem?_append_left (by simp [Nd.cells]; omega)]; rfl
    | succ i =>
      have h7 : n.cells.length = 7 := rfl
      rw [List.getElem?_append_right (by omega), h7, show (i + 1) * 7 + j - 7 = i * 7 + j by omega]
      exact ih i
theorem zlS (L : List Nd) : (L.flatMap Nd.cells).length = L.length * 7 := by
  induction L with
  | nil => rfl
  | cons n L ih =>
    have h7 : n.cells.length = 7 := rfl
    rw [List.flatMap_cons, List.length_append, ih, List.length_cons, h7]; omega
def isT (L : List Nd) (t : Int) : Bool := decide (t ≥ 1) && decide (t ≤ L.length)
theorem c19 {H : Hp} {p f g : Nat} {lim t : Int} {L : List Nd} {sl : Value} (hs : StR H p lim L sl f g) : RR F.a31 [.pointer (some ⟨p, 0, none⟩), .int .i64 t] H = some (.bool (isT L t), H) := by
  refine (zjb E0 rfl _ _ _).trans ?_
  unfold zfu
  simp only [zag, s_br, zbg, zeM, zb9, zbE, Nat.zero_add, hs.l1, hs.all.len, decide_eq_true_eq]
  unfold isT
  by_cases h : t ≥ 1 <;> simp [h]
theorem zeL {k : IntKind} {n : Int} (h1 : k.min ≤ n) (h2 : n ≤ k.max) : k.wrap n = n := by
  cases k <;> simp [IntKind.wrap, IntKind.min, IntKind.max, IntKind.signed, IntKind.bits] at * <;> omega
def wT (L : List Nd) (d t : Int) : Int := if isT L t then (L[(t - 1).toNat]?.map Nd.w).getD d else d
theorem zeU {L : List Nd} {t : Int} : isT L t = true ↔ 1 ≤ t ∧ t ≤ L.length := by unfold isT; simp
theorem s_idx {H : Hp} {L : List Nd} {sl : Value} (h : SlR H sl L) {t : Int} (ht : isT L t = true) (hL : (L.length : Int) ≤ 4611686018427387904) {α : Type} (k : Value → Option α) :
    ∃ i n, L[(t - 1).toNat]? = some n ∧ H.get i = some (.cells (L.flatMap Nd.cells) true) ∧ pIdx 7 sl (.int .i64 (IntKind.i64.wrap (t - 1))) k = k (.pointer (some ⟨i, (t - 1).toNat * 7, none⟩)) := by
  obtain ⟨h1, h2⟩ := zeU.1 ht
  have hw : IntKind.i64.wrap (t - 1) = t - 1 := zeL (by simp [IntKind.min, IntKind.signed, IntKind.bits]; omega) (by simp [IntKind.max, IntKind.signed, IntKind.bits]; omega)
  rcases h with ⟨rfl, rfl⟩ | ⟨i, rfl, hi⟩
  · simp at h2; omega
  · have hlt : (t - 1).toNat < L.length := by omega
    refine ⟨i, L[(t - 1).toNat], by simp [hlt], hi, ?_⟩
    rw [hw]
    unfold pIdx idxV
    have : (7 : Nat) = 7 ∧ 0 ≤ t - 1 ∧ t - 1 < (L.length : Int) := ⟨rfl, by omega, by omega⟩
    simp only [this, and_self, if_true, Nat.zero_add]
theorem c40 {H : Hp} {p f g : Nat} {lim t : Int} {L : List Nd} {sl : Value} (hs : StR H p lim L sl f g) (hL : (L.length : Int) ≤ 4611686018427387904) : RR F.a23 [.pointer (some ⟨p, 0, none⟩), .int .i64 t] H = some (.int .i64 (wT L (-1) t), H) := by
  refine (zkd E0 rfl _ _ _).trans ?_
  unfold zgh
  simp only [zae (c19 hs), zag, s_br, za4, zeM, zb9, zb0, Nat.zero_add, hs.l1]
  unfold wT
  cases ht : isT L t with
  | false => simp
  | true =>
    obtain ⟨i, n, hn, hi, hx⟩ := s_idx hs.all ht hL (fun p8 => za7 1 p8 fun p9 => zaB 1 false H p9 fun v10 => some (v10, H))
    simp only [Bool.not_true, Bool.false_eq_true, if_false, if_true]
    rw [hx, zb9, zmg hi _ (.int .i64 n.w) (by rw [zpP _ _ _ (by omega), hn]; rfl), hn]
    rfl
end Go.AM
namespace Go.AM
open Go
section
variable {α : Type} {P : Program} (n : Nd) (k : Value → Option α)
theorem n0 : zab 1 false (zaa n.val) 0 k = k (.int .i64 n.op) := ze1 _ 0 _ rfl k
theorem n1 : zab 1 false (zaa n.val) 1 k = k (.int .i64 n.w) := ze1 _ 1 _ rfl k
theorem n2 : zab 1 false (zaa n.val) 2 k = k (.int .i64 n.a) := ze1 _ 2 _ rfl k
theorem n3 : zab 1 false (zaa n.val) 3 k = k (.int .i64 n.b) := ze1 _ 3 _ rfl k
theorem n4 : zab 1 false (zaa n.val) 4 k = k (.int .i64 n.c) := ze1 _ 4 _ rfl k
theorem n5 : zab 1 false (zaa n.val) 5 k = k (.int .u64 n.num) := ze1 _ 5 _ rfl k
theorem n6 : zab 1 false (zaa n.val) 6 k = k (.string n.name) := ze1 _ 6 _ rfl k
theorem n07 : zab 7 true (zaa n.val) 0 k = k n.val := rfl
theorem s_sneq (T : TypeId) (a b : ByteArray) (k : Value → Option α) : pBin P .neq T (.string a) (.string b) k = k (.bool !(a.toList == b.toList)) := rfl
end
theorem s_ite (p : Prop) [Decidable p] (x y : Bool) (H : Hp) : (if p then some (Value.bool x, H) else some (Value.bool y, H)) = some (Value.bool (bif decide p then x else y), H) := by
  by_cases h : p <;> simp [h]
def zmQ (n : Nd) : Bool := !(n.name.toList == (⟨#[]⟩ : ByteArray).toList)
def zgZ (k : Int) (n : Nd) : Bool :=
  (decide (k < 1) && decide (n.a ≠ 0)) || (decide (k < 2) && decide (n.b ≠ 0)) || (decide (k < 3) && decide (n.c ≠ 0)) ||
  (decide (n.num ≠ 0) && decide (n.op ≠ 3) && decide (n.op ≠ 31)) || (zmQ n && decide (n.op ≠ 4))
theorem c41 (n : Nd) (H : Hp) : RR F.a127 [n.val] H = some (.bool (zgZ (zam n.op) n), H) := by
  refine (zmk E0 rfl _ _).trans ?_
  unfold zik
  simp only [n0, n2, n3, n4, n5, n6, zae (c29 _ _), zbj, zbY, s_sneq, zag, s_br, s_ite]
  unfold zgZ zmQ
  generalize zam n.op = k
  congr 2
  congr 1
  generalize decide (k < 1) = b1
  generalize decide (n.a ≠ 0) = b2
  generalize decide (k < 2) = b3
  generalize decide (n.b ≠ 0) = b4
  generalize decide (k < 3) = b5
  generalize decide (n.c ≠ 0) = b6
  generalize decide (n.num ≠ 0) = b7
  generalize decide (n.op ≠ 3) = b8
  generalize decide (n.op ≠ 31) = b9
  generalize (!(n.name.toList == (⟨#[]⟩ : ByteArray).toList)) = b10
  generalize decide (n.op ≠ 4) = b11
  simp only [Bool.decide_eq_true]
  cases b1 <;> cases b2 <;> cases b3 <;> cases b4 <;> cases b5 <;> cases b6 <;> simp <;> cases b7 <;> cases b8 <;> cases b9 <;> simp <;> cases b10 <;> simp
end Go.AM
namespace Go.AM
open Go
theorem zb4 (v : Value) (l : List Value) : (v :: l).headD undef = v := rfl
def zoK (op : Int) : Int := if op < 1 ∨ op > 33 then -1 else zam op
theorem s_iteI (p : Prop) [Decidable p] (x y : Int) (H : Hp) : (if p then some (Value.int .i64 x, H) else some (Value.int .i64 y, H)) = some (Value.int .i64 (if p then x else y), H) := by
  split <;> rfl
theorem c46 (op : Int) (H : Hp) : RR F.a99 [.int .i64 op] H = some (.int .i64 (zoK op), H) := by
  refine (zf0 E0 rfl _ _).trans ?_
  unfold zdk
  simp only [zbj, zbE, zbl, zbg, zay, zag, s_br, zao, zcw, zai, zbq, zbM, zaT, zb4, decide_eq_true_eq, qg0, s_iteI, if_true]
  congr 2
  congr 1
  unfold zoK zam
  by_cases h1 : op < 1
  · simp [h1]
  by_cases h2 : op > 33
  · simp [h1, h2]
  simp only [h1, h2, if_false, or_self]
  by_cases h3 : op ≤ 4
  · have : op = 1 ∨ op = 2 ∨ op = 3 ∨ op = 4 := by omega
    simp [h3, this]
  · have : ¬ (op = 1 ∨ op = 2 ∨ op = 3 ∨ op = 4) := by omega
    simp only [this, h3, if_false]
    by_cases h5 : op = 5
    · simp [h5]
    by_cases h6 : op = 15
    · simp [h6]
    by_cases h7 : op = 16
    · simp [h7]
    by_cases h8 : op ≥ 31
    · have : op = 5 ∨ op = 15 ∨ op = 16 ∨ op = 31 ∨ op = 32 ∨ op = 33 := by omega
      simp [h5, h6, h7, h8, this]
      intros; omega
    · have : ¬ (op = 5 ∨ op = 15 ∨ op = 16 ∨ op = 31 ∨ op = 32 ∨ op = 33) := by omega
      simp [h5, h6, h7, h8, this]
      intros; omega
end Go.AM
namespace Go.AM
open Go
def zbH (op a b c : Int) : Bool :=
  if zam op = 0 then true
  else if op = 5 then decide (a = 0)
  else if op = 6 ∨ op = 7 ∨ op = 8 then decide (a = 0) && decide (b = 0)
  else if op = 9 then decide (a = b)
  else if op = 14 then decide (a = 0) && decide (b = c)
  else if op = 30 then decide (a > 0) && decide (b > 0)
  else if zam op = 1 then decide (a > 0)
  else decide (a > 0) && decide (a = b)
section
variable {H : Hp} {p f g : Nat} {lim : Int} {L : List Nd} {sl : Value}
theorem c42 (hs : StR H p lim L sl f g) (hL : (L.length : Int) ≤ 4611686018427387904) (n : Nd) :
    RR F.a125 [.pointer (some ⟨p, 0, none⟩), n.val] H = some (.bool (zbH n.op (wT L (-1) n.a) (wT L (-1) n.b) (wT L (-1) n.c)), H) := by
  refine (zgv E0 rfl _ _ _).trans ?_
  unfold zdF
  simp only [n0, n2, n3, n4, zae (c40 hs hL), zae (c29 _ _), zay, zbl, zag, s_br, zao, zcw, zai, zbq, zbM, zaT, zb4, qg0, decide_eq_true_eq, if_true]
  unfold zbH
  generalize wT L (-1) n.a = a
  generalize wT L (-1) n.b = b
  generalize wT L (-1) n.c = c
  generalize n.op = op
  by_cases h0 : zam op = 0
  · simp only [h0, if_true]
  simp only [h0, if_false]
  by_cases h5 : op = 5
  · simp only [h5, if_true]
  simp only [h5, if_false]
  by_cases h6 : op = 6
  · simp [h6, s_ite]
  by_cases h7 : op = 7
  · simp [h7, s_ite]
  by_cases h8 : op = 8
  · simp [h8, s_ite]
  simp only [h6, h7, h8, if_false, or_self]
  by_cases h9 : op = 9
  · simp [h9]
  simp only [h9, if_false]
  by_cases h14 : op = 14
  · simp [h14]; by_cases q : a = 0 <;> simp [q]
  simp only [h14, if_false]
  by_cases h30 : op = 30
  · simp [h30]; by_cases q : a > 0 <;> simp [q]
  simp only [h30, if_false]
  by_cases h1 : zam op = 1
  · simp [h1]
  simp only [h1, if_false]
  by_cases q : a > 0 <;> simp [q]
end
end Go.AM
namespace Go.AM
open Go
theorem zkc {α : Type} {P : Program} (T : TypeId) (kd : IntKind) (a b : Int) (hb : b ≠ 0) (k : Value → Option α) : pBin P .rem T (.int kd a) (.int kd b) k = k (.int kd (a.tmod b)) := by simp [pBin, binV, zfC, hb]
theorem zgd {α : Type} (kd k2 : IntKind) (a : Int) (k : Value → Option α) : zal kd (.int k2 a) k = k (.int kd (kd.wrap a)) := rfl
theorem s_and {α : Type} {P : Program} (T : TypeId) (kd : IntKind) (a b : Int) (k : Value → Option α) : pBin P .and T (.int kd a) (.int kd b) k = k (.int kd (kd.wrap (BitVec.ofInt kd.bits a &&& BitVec.ofInt kd.bits b).toNat)) := by simp [pBin, binV, zfC, bvOp]
theorem s_shl {α : Type} {P : Program} (T : TypeId) (kd k2 : IntKind) (a b : Int) (hb : 0 ≤ b) (k : Value → Option α) : pBin P .shl T (.int kd a) (.int k2 b) k = k (.int kd (kd.wrap (a * 2 ^ (min b.toNat kd.bits)))) := by
  have : ¬ b < 0 := by omega
  simp [pBin, binV, shOp, this]
def zfe (w x : Int) : Int := if w < 1 then 0 else if w ≥ 64 then x else x % 2 ^ w.toNat
theorem zlA {w : Int} (h1 : 1 ≤ w) (h2 : w < 64) : (2 : Int) ^ w.toNat < 18446744073709551616 ∧ (2 : Int) ≤ 2 ^ w.toNat := by
  have hw : w.toNat < 64 := by omega
  have hw1 : 1 ≤ w.toNat := by omega
  have h3 : (2 : Nat) ^ w.toNat < 2 ^ 64 := Nat.pow_lt_pow_right (by omega) hw
  have h4 : (2 : Nat) ^ 1 ≤ 2 ^ w.toNat := Nat.pow_le_pow_right (by omega) hw1
  constructor
  · have : ((2 ^ w.toNat : Nat) : Int) < ((2 ^ 64 : Nat) : Int) := Int.ofNat_lt.2 h3
    simpa using this
  · have : ((2 ^ 1 : Nat) : Int) ≤ ((2 ^ w.toNat : Nat) : Int) := Int.ofNat_le.2 h4
    simpa using this
theorem zok {w : Int} (h1 : 1 ≤ w) (h2 : w < 64) : IntKind.u64.wrap (1 * 2 ^ (min (IntKind.u64.wrap w).toNat IntKind.u64.bits)) = 2 ^ w.toNat := by
  have hw : IntKind.u64.wrap w = w := zeL (by simp [IntKind.min, IntKind.signed, IntKind.bits]; omega) (by simp [IntKind.max, IntKind.signed, IntKind.bits]; omega)
  rw [hw]
  have hb : IntKind.u64.bits = 64 := rfl
  rw [hb, Nat.min_eq_left (by omega), Int.one_mul]
  obtain ⟨p1, p2⟩ := zlA h1 h2
  exact zeL (by simp [IntKind.min, IntKind.signed, IntKind.bits]; omega) (by simp [IntKind.max, IntKind.signed, IntKind.bits]; omega)
theorem c51 (w x : Int) (hx : 0 ≤ x) (H : Hp) : RR F.a1 [.int .i64 w, .int .u64 x] H = some (.int .u64 (zfe w x), H) := by
  refine (zgE E0 rfl _ _ _).trans ?_
  unfold zdN zfe
  simp only [zbj, zbg, zag, s_br, decide_eq_true_eq, zgd]
  by_cases h1 : w < 1
  · simp [h1]
  by_cases h2 : w ≥ 64
  · simp [h1, h2]
  simp only [h1, h2, if_false]
  have hw : IntKind.u64.wrap w = w := zeL (by simp [IntKind.min, IntKind.signed, IntKind.bits]; omega) (by simp [IntKind.max, IntKind.signed, IntKind.bits]; omega)
  obtain ⟨p1, p2⟩ := zlA (w := w) (by omega) (by omega)
  rw [s_shl _ _ _ _ _ (by rw [hw]; omega), zok (by omega) (by omega), zkc _ _ _ _ (by omega), Int.tmod_eq_emod_of_nonneg hx]
theorem c45 (w x : Int) (hx : 0 ≤ x) (hx2 : x < 18446744073709551616) (H : Hp) : RR F.a0 [.int .i64 w, .int .u64 x] H = some (.int .u64 (zfe w x), H) := by
  refine (zjg E0 rfl _ _ _).trans ?_
  unfold zgJ zfe
  simp only [zbj, zbg, zag, s_br, decide_eq_true_eq, zgd]
  by_cases h1 : w < 1
  · simp [h1]
  by_cases h2 : w ≥ 64
  · simp [h1, h2]
  simp only [h1, h2, if_false]
  have hw : IntKind.u64.wrap w = w := zeL (by simp [IntKind.min, IntKind.signed, IntKind.bits]; omega) (by simp [IntKind.max, IntKind.signed, IntKind.bits]; omega)
  obtain ⟨p1, p2⟩ := zlA (w := w) (by omega) (by omega)
  rw [s_shl _ _ _ _ _ (by rw [hw]; omega), zok (by omega) (by omega), zb0, s_and]
  have hm : IntKind.u64.wrap (2 ^ w.toNat - 1) = 2 ^ w.toNat - 1 := zeL (by simp [IntKind.min, IntKind.signed, IntKind.bits]; omega) (by simp [IntKind.max, IntKind.signed, IntKind.bits]; omega)
  rw [hm]
  congr 3
  have hb : IntKind.u64.bits = 64 := rfl
  rw [hb]
  obtain ⟨X, rfl⟩ := Int.eq_ofNat_of_zero_le hx
  have e2 : (2 : Int) ^ w.toNat - 1 = ((2 ^ w.toNat - 1 : Nat) : Int) := by
    have : 1 ≤ (2 : Nat) ^ w.toNat := Nat.one_le_two_pow
    rw [Int.ofNat_sub this]; simp
  rw [e2]
  have e3 : BitVec.ofInt 64 ((X : Nat) : Int) = BitVec.ofNat 64 X := by simp
  have e4 : BitVec.ofInt 64 (((2 ^ w.toNat - 1 : Nat)) : Int) = BitVec.ofNat 64 (2 ^ w.toNat - 1) := by simp
  rw [e3, e4, BitVec.toNat_and, BitVec.toNat_ofNat, BitVec.toNat_ofNat]
  have hX : X < 2 ^ 64 := by have : (X : Int) < 18446744073709551616 := hx2; omega
  have h3 : (2 : Nat) ^ w.toNat < 2 ^ 64 := Nat.pow_lt_pow_right (by omega) (by omega)
  rw [Nat.mod_eq_of_lt hX, Nat.mod_eq_of_lt (by omega), Nat.and_two_pow_sub_one_eq_mod]
  have h4 : X % 2 ^ w.toNat ≤ X := Nat.mod_le _ _
  have h5 : ((X : Nat) : Int) % 2 ^ w.toNat = ((X % 2 ^ w.toNat : Nat) : Int) := by simp
  rw [h5]
  generalize X % 2 ^ w.toNat = Y at h4
  have m1 : IntKind.u64.min = 0 := rfl
  have m2 : IntKind.u64.max = 18446744073709551615 := rfl
  rw [zeL (by rw [m1]; omega) (by rw [m2]; omega)]
end Go.AM
namespace Go.AM
open Go
def ziG (w : Int) : Bool := decide (w = 1 ∨ w = 2 ∨ w = 4 ∨ w = 8 ∨ w = 16 ∨ w = 32 ∨ w = 64)
def pops : List Int := [0, 1, 1, 2, 1, 2, 2, 3, 1, 2, 2, 3, 2, 3, 3, 4, 1, 2, 2, 3, 2, 3, 3, 4, 2, 3, 3, 4, 3, 4, 4, 5, 1, 2, 2, 3, 2, 3, 3, 4, 2, 3, 3, 4, 3, 4, 4, 5, 2, 3, 3, 4, 3, 4, 4, 5, 3, 4, 4, 5, 4, 5, 5, 6, 1]
theorem all58 (H : Hp) : (i : Nat) → i < 65 → zeh RR (.int .u64 (i : Int)) H = some (.int .i64 (pops.getD i 0), H)
  | 0, _ => by kernel_rfl
  | 1, _ => by kernel_rfl
  | 2, _ => by kernel_rfl
  | 3, _ => by kernel_rfl
  | 4, _ => by kernel_rfl
  | 5, _ => by kernel_rfl
  | 6, _ => by kernel_rfl
  | 7, _ => by kernel_rfl
  | 8, _ => by kernel_rfl
  | 9, _ => by kernel_rfl
  | 10, _ => by kernel_rfl
  | 11, _ => by kernel_rfl
  | 12, _ => by kernel_rfl
  | 13, _ => by kernel_rfl
  | 14, _ => by kernel_rfl
  | 15, _ => by kernel_rfl
  | 16, _ => by kernel_rfl
  | 17, _ => by kernel_rfl
  | 18, _ => by kernel_rfl
  | 19, _ => by kernel_rfl
  | 20, _ => by kernel_rfl
  | 21, _ => by kernel_rfl
  | 22, _ => by kernel_rfl
  | 23, _ => by kernel_rfl
  | 24, _ => by kernel_rfl
  | 25, _ => by kernel_rfl
  | 26, _ => by kernel_rfl
  | 27, _ => by kernel_rfl
  | 28, _ => by kernel_rfl
  | 29, _ => by kernel_rfl
  | 30, _ => by kernel_rfl
  | 31, _ => by kernel_rfl
  | 32, _ => by kernel_rfl
  | 33, _ => by kernel_rfl
  | 34, _ => by kernel_rfl
  | 35, _ => by kernel_rfl
  | 36, _ => by kernel_rfl
  | 37, _ => by kernel_rfl
  | 38, _ => by kernel_rfl
  | 39, _ => by kernel_rfl
  | 40, _ => by kernel_rfl
  | 41, _ => by kernel_rfl
  | 42, _ => by kernel_rfl
  | 43, _ => by kernel_rfl
  | 44, _ => by kernel_rfl
  | 45, _ => by kernel_rfl
  | 46, _ => by kernel_rfl
  | 47, _ => by kernel_rfl
  | 48, _ => by kernel_rfl
  | 49, _ => by kernel_rfl
  | 50, _ => by kernel_rfl
  | 51, _ => by kernel_rfl
  | 52, _ => by kernel_rfl
  | 53, _ => by kernel_rfl
  | 54, _ => by kernel_rfl
  | 55, _ => by kernel_rfl
  | 56, _ => by kernel_rfl
  | 57, _ => by kernel_rfl
  | 58, _ => by kernel_rfl
  | 59, _ => by kernel_rfl
  | 60, _ => by kernel_rfl
  | 61, _ => by kernel_rfl
  | 62, _ => by kernel_rfl
  | 63, _ => by kernel_rfl
  | 64, _ => by kernel_rfl
  | n + 65, h => by omega
theorem c53 (w : Int) (h0 : 0 ≤ w) (h1 : w < 65) (H : Hp) : RR F.a42 [.int .u64 w] H = some (.int .i64 (pops.getD w.toNat 0), H) := by
  refine (ziE E0 rfl _ _).trans ?_
  unfold ze6
  have : RR F.a89 [.int .u64 w] H = some (.int .i64 (pops.getD w.toNat 0), H) := by
    refine (zhk E0 rfl _ _).trans ?_
    obtain ⟨n, rfl⟩ := Int.eq_ofNat_of_zero_le h0
    exact all58 H n (by omega)
  rw [zae this]
theorem zoJ : (i : Nat) → i < 65 → decide (pops.getD i 0 = 1) = ziG (i : Int)
  | 0, _ => by kernel_rfl
  | 1, _ => by kernel_rfl
  | 2, _ => by kernel_rfl
  | 3, _ => by kernel_rfl
  | 4, _ => by kernel_rfl
  | 5, _ => by kernel_rfl
  | 6, _ => by kernel_rfl
  | 7, _ => by kernel_rfl
  | 8, _ => by kernel_rfl
  | 9, _ => by kernel_rfl
  | 10, _ => by kernel_rfl
  | 11, _ => by kernel_rfl
  | 12, _ => by kernel_rfl
  | 13, _ => by kernel_rfl
  | 14, _ => by kernel_rfl
  | 15, _ => by kernel_rfl
  | 16, _ => by kernel_rfl
  | 17, _ => by kernel_rfl
  | 18, _ => by kernel_rfl
  | 19, _ => by kernel_rfl
  | 20, _ => by kernel_rfl
  | 21, _ => by kernel_rfl
  | 22, _ => by kernel_rfl
  | 23, _ => by kernel_rfl
  | 24, _ => by kernel_rfl
  | 25, _ => by kernel_rfl
  | 26, _ => by kernel_rfl
  | 27, _ => by kernel_rfl
  | 28, _ => by kernel_rfl
  | 29, _ => by kernel_rfl
  | 30, _ => by kernel_rfl
  | 31, _ => by kernel_rfl
  | 32, _ => by kernel_rfl
  | 33, _ => by kernel_rfl
  | 34, _ => by kernel_rfl
  | 35, _ => by kernel_rfl
  | 36, _ => by kernel_rfl
  | 37, _ => by kernel_rfl
  | 38, _ => by kernel_rfl
  | 39, _ => by kernel_rfl
  | 40, _ => by kernel_rfl
  | 41, _ => by kernel_rfl
  | 42, _ => by kernel_rfl
  | 43, _ => by kernel_rfl
  | 44, _ => by kernel_rfl
  | 45, _ => by kernel_rfl
  | 46, _ => by kernel_rfl
  | 47, _ => by kernel_rfl
  | 48, _ => by kernel_rfl
  | 49, _ => by kernel_rfl
  | 50, _ => by kernel_rfl
  | 51, _ => by kernel_rfl
  | 52, _ => by kernel_rfl
  | 53, _ => by kernel_rfl
  | 54, _ => by kernel_rfl
  | 55, _ => by kernel_rfl
  | 56, _ => by kernel_rfl
  | 57, _ => by kernel_rfl
  | 58, _ => by kernel_rfl
  | 59, _ => by kernel_rfl
  | 60, _ => by kernel_rfl
  | 61, _ => by kernel_rfl
  | 62, _ => by kernel_rfl
  | 63, _ => by kernel_rfl
  | 64, _ => by kernel_rfl
  | n + 65, h => by omega
theorem c55 (w : Int) (H : Hp) : RR F.a43 [.int .i64 w] H = some (.bool (ziG w), H) := by
  refine (zfn E0 rfl _ _).trans ?_
  unfold zcW
  generalize hS : (fun (l1 : List Value) (H2 : Hp) =>
    pBin PP .leq T.int (l1.getD 0 undef) (.int .i64 64) fun v3 =>
    zad v3 fun b4 => br b4
    (pBin PP .eql T.int (.int .i64 w) (l1.getD 0 undef) fun v5 =>
    zad v5 fun b6 => br b6
    (some (Ctl.ret, [(Value.bool true)], H2))
    (pBin PP .mul T.int (.int .i64 2) (l1.getD 0 undef) fun v7 =>
    some (.next, [v7], H2)))
    (some (.exit 0, [(l1.getD 0 undef)], H2))) = S
  have hL : ∀ k : Int, zaA S [.int .i64 k] H = if k ≤ 64 then (if w = k then some (.ret, [.bool true], H) else zaA S [.int .i64 (IntKind.i64.wrap (2 * k))] H) else some (.exit 0, [.int .i64 k], H) := by
    intro k
    rw [zaq]
    have : S [.int .i64 k] H = if k ≤ 64 then (if w = k then some (.ret, [.bool true], H) else some (.next, [.int .i64 (IntKind.i64.wrap (2 * k))], H)) else some (.exit 0, [.int .i64 k], H) := by
      rw [← hS]
      simp only [zbE, zay, s_mul, zag, s_br, qg0, decide_eq_true_eq]
    rw [this]
    split
    · split <;> rfl
    · rfl
  have w1 : IntKind.i64.wrap (2 * 1) = 2 := by decide
  have w2 : IntKind.i64.wrap (2 * 2) = 4 := by decide
  have w3 : IntKind.i64.wrap (2 * 4) = 8 := by decide
  have w4 : IntKind.i64.wrap (2 * 8) = 16 := by decide
  have w5 : IntKind.i64.wrap (2 * 16) = 32 := by decide
  have w6 : IntKind.i64.wrap (2 * 32) = 64 := by decide
  have w7 : IntKind.i64.wrap (2 * 64) = 128 := by decide
  have l1 := hL 1
  rw [if_pos (show (1 : Int) ≤ 64 by decide), w1] at l1
  have l2 := hL 2
  rw [if_pos (show (2 : Int) ≤ 64 by decide), w2] at l2
  have l4 := hL 4
  rw [if_pos (show (4 : Int) ≤ 64 by decide), w3] at l4
  have l8 := hL 8
  rw [if_pos (show (8 : Int) ≤ 64 by decide), w4] at l8
  have l16 := hL 16
  rw [if_pos (show (16 : Int) ≤ 64 by decide), w5] at l16
  have l32 := hL 32
  rw [if_pos (show (32 : Int) ≤ 64 by decide), w6] at l32
  have l64 := hL 64
  rw [if_pos (show (64 : Int) ≤ 64 by decide), w7] at l64
  have l128 := hL 128
  rw [if_neg (show ¬ (128 : Int) ≤ 64 by decide)] at l128
  rw [l1, l2, l4, l8, l16, l32, l64, l128]
  simp only [zcw, zao, zbM, zbq, zaT, zb4]
  unfold ziG
  by_cases h1 : w = 1
  · simp [h1]
  by_cases h2 : w = 2
  · simp [h2]
  by_cases h3 : w = 4
  · simp [h3]
  by_cases h4 : w = 8
  · simp [h4]
  by_cases h5 : w = 16
  · simp [h5]
  by_cases h6 : w = 32
  · simp [h6]
  by_cases h7 : w = 64
  · simp [h7]
  simp [h1, h2, h3, h4, h5, h6, h7]
end Go.AM
namespace Go.AM
open Go
def zbJ (n : Nd) (a b : Int) : Bool :=
  if n.op = 1 ∨ n.op = 2 ∨ (5 ≤ n.op ∧ n.op ≤ 13) then decide (n.w = 0)
  else if n.op = 3 then decide (n.w > 0) && decide (zfe n.w n.num = n.num)
  else if n.op = 4 then true
  else if n.op = 14 then decide (n.w = b)
  else if 25 ≤ n.op ∧ n.op ≤ 29 then decide (n.w = a) && ziG a
  else if n.op = 30 then decide (n.w = a + b)
  else if n.op = 31 then decide (n.w ≥ 1) && decide (n.w ≤ a) && decide (n.num ≤ a - n.w)
  else if n.op = 32 ∨ n.op = 33 then decide (n.w ≥ a)
  else decide (n.w = a)
structure Nd.Ok (n : Nd) : Prop where
  w0 : 0 ≤ n.w
  w1 : n.w ≤ 64
  o1 : 1 ≤ n.op
  o2 : n.op ≤ 33
  n0 : 0 ≤ n.num
  n1 : n.num < 18446744073709551616
theorem zax {x : Int} (h1 : -9223372036854775808 ≤ x) (h2 : x ≤ 9223372036854775807) : IntKind.i64.wrap x = x := zeL (by have : IntKind.i64.min = -9223372036854775808 := rfl; omega) (by have : IntKind.i64.max = 9223372036854775807 := rfl; omega)
theorem ziI {x : Int} (h1 : 0 ≤ x) (h2 : x ≤ 18446744073709551615) : IntKind.u64.wrap x = x := zeL (by have : IntKind.u64.min = 0 := rfl; omega) (by have : IntKind.u64.max = 18446744073709551615 := rfl; omega)
section
variable {H : Hp} {p f g : Nat} {lim : Int} {L : List Nd} {sl : Value}
theorem c43 (hs : StR H p lim L sl f g) (hL : (L.length : Int) ≤ 4611686018427387904) (n : Nd) (hn : n.Ok)
    (ha : -1 ≤ wT L (-1) n.a ∧ wT L (-1) n.a ≤ 64) (hb : -1 ≤ wT L (-1) n.b ∧ wT L (-1) n.b ≤ 64) (hsort : n.op ≥ 15 → wT L (-1) n.a > 0) :
    RR F.a126 [.pointer (some ⟨p, 0, none⟩), n.val] H = some (.bool (zbJ n (wT L (-1) n.a) (wT L (-1) n.b)), H) := by
  refine (zhQ E0 rfl _ _ _).trans ?_
  unfold zeB
  have ht := c45 n.w n.num hn.n0 hn.n1 H
  simp only [n0, n1, n2, n3, n5, zae (c40 hs hL), zay, zbl, zbg, zbE, zag, s_br, zao, zcw, zai, zbq, zbM, zaT, zb4, qg0, decide_eq_true_eq, if_true, zgd, zb0, za6, zae ht]
  unfold zbJ
  generalize wT L (-1) n.a = a at *
  generalize wT L (-1) n.b = b at *
  have o1 := hn.o1
  have o2 := hn.o2
  by_cases h1 : n.op = 1
  · simp [h1]
  by_cases h2 : n.op = 2
  · simp [h2]
  by_cases h5 : 5 ≤ n.op ∧ n.op ≤ 13
  · have q : n.op ≥ 5 := h5.1
    simp only [h1, h2, h5, q, if_true, if_false, and_self, or_true, decide_true]
  have hc : ¬ (n.op = 1 ∨ n.op = 2 ∨ 5 ≤ n.op ∧ n.op ≤ 13) := by omega
  simp only [hc, h1, h2, if_false]
  by_cases h3 : n.op = 3
  · have q : ¬ n.op ≥ 5 := by omega
    have q2 : ¬ (3 : Int) ≥ 5 := by decide
    simp only [h3, q2, if_true, if_false, Bool.false_eq_true]
    by_cases q : n.w > 0 <;> simp [q]
  by_cases h4 : n.op = 4
  · have q2 : ¬ (4 : Int) ≥ 5 := by decide
    have q3 : ¬ (4 : Int) = 3 := by decide
    simp only [h4, q2, q3, if_true, if_false, Bool.false_eq_true]
    simp
  have g5 : n.op ≥ 5 := by omega
  have g13 : ¬ n.op ≤ 13 := by omega
  simp only [g5, g13, h3, h4, if_true, if_false, decide_false, Bool.false_eq_true]
  by_cases h14 : n.op = 14
  · simp only [h14, if_true]
    simp
  simp only [h14, if_false]
  have hap := hsort (by omega)
  by_cases h25 : 25 ≤ n.op ∧ n.op ≤ 29
  · have q : n.op ≥ 25 := h25.1
    have e : RR F.a42 [.int .u64 (IntKind.u64.wrap a)] H = some (.int .i64 (pops.getD a.toNat 0), H) := by
      rw [ziI (by omega) (by omega)]
      exact c53 a (by omega) (by omega) H
    have e2 := zoJ a.toNat (by omega)
    have e3 : ((a.toNat : Nat) : Int) = a := Int.toNat_of_nonneg (by omega)
    rw [e3] at e2
    simp only [q, h25.2, if_true, decide_true, zae e, zay, e2, and_self]
    by_cases q : n.w = a <;> simp [q, h25.1]
  simp only [h25, if_false]
  have hA : (if n.op ≥ 25 then some (Ctl.next, [Value.bool (decide (n.op ≤ 29))], H) else some (Ctl.next, [Value.bool false], H)) = some (Ctl.next, [Value.bool false], H) := by
    by_cases q : n.op ≥ 25
    · have : ¬ n.op ≤ 29 := by omega
      simp [q, this]
    · simp [q]
  have w1 : IntKind.i64.wrap (a + b) = a + b := zax (by omega) (by omega)
  have w0 := hn.w0
  have w64 := hn.w1
  have w2 : IntKind.i64.wrap (a - n.w) = a - n.w := zax (by omega) (by omega)
  by_cases q25 : n.op ≥ 25
  · have q29 : ¬ n.op ≤ 29 := by omega
    simp only [q25, q29, if_true, if_false, decide_false, Bool.false_eq_true, w1, w2]
    by_cases h30 : n.op = 30
    · simp only [h30, if_true]
      try simp
    simp only [h30, if_false]
    by_cases h31 : n.op = 31
    · simp only [h31, if_true]
      by_cases k1 : n.w ≥ 1
      · by_cases k2 : n.w ≤ a
        · have k3 : IntKind.u64.wrap (a - n.w) = a - n.w := ziI (by omega) (by omega)
          simp [k1, k2, k3]
        · simp [k1, k2]
      · simp [k1]
    simp only [h31, if_false]
    by_cases h32 : n.op = 32
    · simp [h32]
    by_cases h33 : n.op = 33
    · simp [h33]
    omega
  · have h30 : ¬ n.op = 30 := by omega
    have h31 : ¬ n.op = 31 := by omega
    have h32 : ¬ n.op = 32 := by omega
    have h33 : ¬ n.op = 33 := by omega
    simp only [q25, h30, h31, h32, h33, if_false, or_self, Bool.false_eq_true]
    simp
end
end Go.AM
namespace Go.AM
open Go
section
variable {H : Hp} {p f g : Nat} {lim : Int} {L : List Nd} {sl : Value}
end
end Go.AM
namespace Go.AM
open Go
def zgq (x : Int) : Bool := (decide (x ≥ 97) && decide (x ≤ 122)) || (decide (x ≥ 65) && decide (x ≤ 90)) || decide (x = 95)
def zpN (x : Int) : Bool := !(decide (x < 48)) && !(decide (x > 57))
def zkN (b : UInt8) : Bool := zgq (b.toNat : Int) || zpN (b.toNat : Int)
def zij (s : ByteArray) : Bool := decide (s.size ≥ 1) && decide (s.size ≤ 24) && (s.data.toList.head?.any fun b => zgq (b.toNat : Int)) && (s.data.toList.drop 1).all zkN
theorem s_slen {α : Type} (s : ByteArray) (H : Hp) (k : Value → Option α) : pLen .str (.string s) H k = k (.int .i64 s.size) := rfl
end Go.AM
namespace Go.AM
open Go
theorem znZ {x : Int} (h : 128 ≤ x) : zgq x = false := by
  unfold zgq
  have h1 : ¬ x ≤ 122 := by omega
  have h2 : ¬ x ≤ 90 := by omega
  have h3 : ¬ x = 95 := by omega
  simp [h1, h2, h3]
theorem zpM {x : Int} (h : 128 ≤ x) : zpN x = false := by
  unfold zpN
  have h1 : x > 57 := by omega
  simp [h1]
theorem c44 (s : ByteArray) (H : Hp) : RR F.a59 [.string s] H = some (.bool (zij s), H) := by
  refine (znF E0 rfl _ _).trans ?_
  unfold zjL
  generalize hS : (fun (l12 : List Value) (H13 : Hp) =>
 br (Nat.blt (zbr ((l12.drop 0).getD 0 undef)) (zbu ((l12.drop 0).getD 0 undef)).size)
 (zaC (
 pBin PP .geq T.int32 (.int .i32 (Utf8.decode (zbu ((l12.drop 0).getD 0 undef)) (zbr ((l12.drop 0).getD 0 undef))).1) (.int .i32 97) fun v14 =>
 zad v14 fun b15 => br b15
 (pBin PP .leq T.int32 (.int .i32 (Utf8.decode (zbu ((l12.drop 0).getD 0 undef)) (zbr ((l12.drop 0).getD 0 undef))).1) (.int .i32 122) fun v16 =>
 zad v16 fun b17 => br b17
 (some (Ctl.next, [(.bool true)], H13))
 (pBin PP .geq T.int32 (.int .i32 (Utf8.decode (zbu ((l12.drop 0).getD 0 undef)) (zbr ((l12.drop 0).getD 0 undef))).1) (.int .i32 65) fun v18 =>
 zad v18 fun b19 => br b19
 (pBin PP .leq T.int32 (.int .i32 (Utf8.decode (zbu ((l12.drop 0).getD 0 undef)) (zbr ((l12.drop 0).getD 0 undef))).1) (.int .i32 90) fun v20 =>
 zad v20 fun b21 => br b21
 (some (Ctl.next, [(.bool true)], H13))
 (pBin PP .eql T.int32 (.int .i32 (Utf8.decode (zbu ((l12.drop 0).getD 0 undef)) (zbr ((l12.drop 0).getD 0 undef))).1) (.int .i32 95) fun v22 =>
 some (Ctl.next, [v22], H13)))
 (pBin PP .eql T.int32 (.int .i32 (Utf8.decode (zbu ((l12.drop 0).getD 0 undef)) (zbr ((l12.drop 0).getD 0 undef))).1) (.int .i32 95) fun v23 =>
 some (Ctl.next, [v23], H13))))
 (pBin PP .geq T.int32 (.int .i32 (Utf8.decode (zbu ((l12.drop 0).getD 0 undef)) (zbr ((l12.drop 0).getD 0 undef))).1) (.int .i32 65) fun v24 =>
 zad v24 fun b25 => br b25
 (pBin PP .leq T.int32 (.int .i32 (Utf8.decode (zbu ((l12.drop 0).getD 0 undef)) (zbr ((l12.drop 0).getD 0 undef))).1) (.int .i32 90) fun v26 =>
 zad v26 fun b27 => br b27
 (some (Ctl.next, [(.bool true)], H13))
 (pBin PP .eql T.int32 (.int .i32 (Utf8.decode (zbu ((l12.drop 0).getD 0 undef)) (zbr ((l12.drop 0).getD 0 undef))).1) (.int .i32 95) fun v28 =>
 some (Ctl.next, [v28], H13)))
 (pBin PP .eql T.int32 (.int .i32 (Utf8.decode (zbu ((l12.drop 0).getD 0 undef)) (zbr ((l12.drop 0).getD 0 undef))).1) (.int .i32 95) fun v29 =>
 some (Ctl.next, [v29], H13)))) fun q30 l31 H32 => zaJ q30
 (pUn .not (l31.getD 0 undef) fun v34 =>
 zad v34 fun b35 => br b35
 (pBin PP .eql T.int (.int .i64 ((zbr ((l12.drop 0).getD 0 undef)) : Nat)) (.int .i64 0) fun v36 =>
 zad v36 fun b37 => br b37
 (some (Ctl.ret, [(.bool false)], H32))
 (pBin PP .lss T.int32 (.int .i32 (Utf8.decode (zbu ((l12.drop 0).getD 0 undef)) (zbr ((l12.drop 0).getD 0 undef))).1) (.int .i32 48) fun v38 =>
 zad v38 fun b39 => br b39
 (some (Ctl.ret, [(.bool false)], H32))
 (pBin PP .gtr T.int32 (.int .i32 (Utf8.decode (zbu ((l12.drop 0).getD 0 undef)) (zbr ((l12.drop 0).getD 0 undef))).1) (.int .i32 57) fun v40 =>
 zad v40 fun b41 => br b41
 (some (Ctl.ret, [(.bool false)], H32))
 (some (Ctl.next, [(.tuple #[.string (zbu ((l12.drop 0).getD 0 undef)), .int .i64 (((zbr ((l12.drop 0).getD 0 undef)) + (Utf8.decode (zbu ((l12.drop 0).getD 0 undef)) (zbr ((l12.drop 0).getD 0 undef))).2) : Nat)])], H32)))))
 (some (Ctl.next, [(.tuple #[.string (zbu ((l12.drop 0).getD 0 undef)), .int .i64 (((zbr ((l12.drop 0).getD 0 undef)) + (Utf8.decode (zbu ((l12.drop 0).getD 0 undef)) (zbr ((l12.drop 0).getD 0 undef))).2) : Nat)])], H32)))
 (fun i33 => zaE i33 1 (
 some (Ctl.next, [(.tuple #[.string (zbu ((l12.drop 0).getD 0 undef)), .int .i64 (((zbr ((l12.drop 0).getD 0 undef)) + (Utf8.decode (zbu ((l12.drop 0).getD 0 undef)) (zbr ((l12.drop 0).getD 0 undef))).2) : Nat)])], H32)) (
 some (Ctl.exit i33, [(.tuple #[.string (zbu ((l12.drop 0).getD 0 undef)), .int .i64 (((zbr ((l12.drop 0).getD 0 undef)) + (Utf8.decode (zbu ((l12.drop 0).getD 0 undef)) (zbr ((l12.drop 0).getD 0 undef))).2) : Nat)])], H32)))
 (some (Ctl.ret, [(l31.headD undef)], H32)))
 (some (Ctl.exit 0, [(.tuple #[.string (zbu ((l12.drop 0).getD 0 undef)), .int .i64 ((zbr ((l12.drop 0).getD 0 undef)) : Nat)])], H13))) = S
  have hlen : s.data.toList.length = s.size := by simp
  have hstep : ∀ (i : Nat) (b : UInt8), s.data.toList[i]? = some b → S [.tuple #[.string s, .int .i64 (i : Nat)]] H =
      if (zgq (b.toNat : Int) || (decide (i ≠ 0) && zpN (b.toNat : Int))) = true then some (.next, [.tuple #[.string s, .int .i64 ((i + 1 : Nat))]], H) else some (.ret, [.bool false], H) := by
    intro i b hb
    have hl : i < s.data.toList.length := (List.getElem?_eq_some_iff.1 hb).1
    have hi : i < s.size := by omega
    have hsb : s[i]'hi = b := by
      have : s[i] = s.data[i]'(by simpa using hl) := rfl
      rw [this]
      rw [List.getElem?_eq_getElem hl] at hb
      simpa using hb
    have e1 : zbu (.tuple #[.string s, .int .i64 (i : Nat)]) = s := rfl
    have e2 : zbr (.tuple #[.string s, .int .i64 (i : Nat)]) = i := by simp [zbr]
    have e3 : Nat.blt i s.size = true := Nat.ble_eq_true_of_le hi
    have e4 : ((i : Nat) : Int) = 0 ↔ i = 0 := by omega
    rw [← hS]
    simp only [qd0, qg0, e1, e2, e3]
    simp only [zbg, zbE, zay, zbj, zbl, zag, s_br, zao, zcw, zai, za4, qg0, if_true, decide_eq_true_eq, e4]
    by_cases hasc : b.toNat < 128
    · have hd := decode_ascii s i hi (by rw [hsb]; exact hasc)
      rw [hsb] at hd
      simp only [hd]
      unfold zgq zpN
      generalize ((b.toNat : Nat) : Int) = x
      by_cases a1 : x ≥ 97 <;> by_cases a2 : x ≤ 122 <;> by_cases a3 : x ≥ 65 <;> by_cases a4 : x ≤ 90 <;> by_cases a5 : x = 95 <;> by_cases a6 : i = 0 <;> simp [a1, a2, a3, a4, a5, a6] <;>
        (by_cases a7 : x < 48 <;> by_cases a8 : x > 57 <;> simp [a7, a8])
    · have hd := decode_high s i hi (by rw [hsb]; omega)
      generalize Utf8.decode s i = q at hd ⊢
      obtain ⟨r, wd⟩ := q
      have k1 : ¬ ((r : Nat) : Int) ≤ 122 := by have := hd.1; dsimp only at this; omega
      have k2 : ¬ ((r : Nat) : Int) ≤ 90 := by omega
      have k3 : ¬ ((r : Nat) : Int) = 95 := by omega
      have k4 : ¬ ((r : Nat) : Int) < 48 := by omega
      have k5 : ((r : Nat) : Int) > 57 := by omega
      rw [znZ (by omega), zpM (by omega)]
      simp [k1, k2, k3, k4, k5]
  have hend : S [.tuple #[.string s, .int .i64 (s.size : Nat)]] H = some (.exit 0, [.tuple #[.string s, .int .i64 (s.size : Nat)]], H) := by
    have e1 : zbu (.tuple #[.string s, .int .i64 (s.size : Nat)]) = s := rfl
    have e2 : zbr (.tuple #[.string s, .int .i64 (s.size : Nat)]) = s.size := by simp [zbr]
    have e3 : Nat.blt s.size s.size = false := by
      cases hq : Nat.blt s.size s.size with
      | false => rfl
      | true => have := Nat.le_of_ble_eq_true hq; omega
    rw [← hS]
    simp only [qd0, qg0, e1, e2, e3]
    rfl
  have hloop : ∀ (r : List UInt8) (i : Nat), s.data.toList.drop i = r → i ≤ s.size → 1 ≤ i → zaA S [.tuple #[.string s, .int .i64 (i : Nat)]] H = if r.all zkN = true then some (.exit 0, [.tuple #[.string s, .int .i64 (s.size : Nat)]], H) else some (.ret, [.bool false], H) := by
    intro r
    induction r with
    | nil =>
      intro i hd hi h1
      have : s.data.toList.length ≤ i := by simpa using hd
      have : i = s.size := by omega
      subst this
      rw [zaq, hend]
      simp [zkn]
    | cons b r ih =>
      intro i hd hi h1
      have hb : s.data.toList[i]? = some b := by
        have : (s.data.toList.drop i)[0]? = some b := by rw [hd]; rfl
        rw [List.getElem?_drop] at this; simpa using this
      have hl : i < s.data.toList.length := (List.getElem?_eq_some_iff.1 hb).1
      have hd' : s.data.toList.drop (i + 1) = r := by rw [← List.drop_drop, hd]; rfl
      have hne : decide (i ≠ 0) = true := decide_eq_true (by omega)
      have hok : (zgq (b.toNat : Int) || (decide (i ≠ 0) && zpN (b.toNat : Int))) = zkN b := by rw [hne]; rfl
      rw [zaq, hstep i b hb, hok]
      cases hk : zkN b with
      | true =>
        simp only [if_true, Option.bind_some, zkn]
        rw [ih (i + 1) hd' (by omega) (by omega)]
        simp [hk]
      | false => simp [hk, zkn]
  simp only [s_slen, zbj, zbl, zag, s_br, decide_eq_true_eq]
  unfold zij
  by_cases h1 : (s.size : Int) < 1
  · have : ¬ s.size ≥ 1 := by omega
    simp [h1, this, zao, zbM]
  by_cases h2 : (s.size : Int) > 24
  · have : ¬ s.size ≤ 24 := by omega
    simp [h1, h2, this, zao, zbM]
  have g1 : s.size ≥ 1 := by omega
  have g2 : s.size ≤ 24 := by omega
  obtain ⟨c, r, hcr⟩ : ∃ c r, s.data.toList = c :: r := by
    cases hq : s.data.toList with
    | nil => rw [hq] at hlen; simp at hlen; omega
    | cons c r => exact ⟨c, r, rfl⟩
  simp only [h1, h2, if_false, zao, zai]
  have h0 : s.data.toList[0]? = some c := by rw [hcr]; rfl
  have hd1 : s.data.toList.drop 1 = r := by rw [hcr]; rfl
  have hlp := hloop r 1 hd1 g1 (Nat.le_refl _)
  have hst := hstep 0 c h0
  have hfirst : zaA S [.tuple #[.string s, .int .i64 ((0 : Nat) : Int)]] H = if zgq (c.toNat : Int) = true then (if r.all zkN = true then some (.exit 0, [.tuple #[.string s, .int .i64 (s.size : Nat)]], H) else some (.ret, [.bool false], H)) else some (.ret, [.bool false], H) := by
    rw [zaq, hst]
    cases hc : zgq (c.toNat : Int) with
    | false => simp [zkn]
    | true =>
      simp only [Bool.true_or, if_true, Option.bind_some, zkn]
      exact hlp
  show (zaC (zaA S [.tuple #[.string s, .int .i64 ((0 : Nat) : Int)]] H) _) = _
  rw [hfirst, hd1, hcr]
  cases hc : zgq (c.toNat : Int) with
  | false => simp [g1, g2, hc, zao, zbM]
  | true =>
    cases r.all zkN with
    | true => simp [g1, g2, hc, zao, zbq, zaT]
    | false => simp [g1, g2, hc, zao, zbM]
end Go.AM
namespace Go.AM
open Go
def znn (b : Bool) (k : Option Bool) : Option Bool := match some b with | some true => k | r => r
theorem eq36c (n m : Nd) : eqT PP 10000 T.api_Node n.val m.val =
    znn (n.op == m.op) (znn (n.w == m.w) (znn (n.a == m.a) (znn (n.b == m.b) (znn (n.c == m.c) (znn (n.num == m.num) (znn (n.name == m.name) (some true))))))) := by
  kernel_rfl
def zjz (n m : Nd) : Bool := n.op == m.op && (n.w == m.w && (n.a == m.a && (n.b == m.b && (n.c == m.c && (n.num == m.num && n.name == m.name)))))
theorem eq36 (n m : Nd) : eqT PP 10000 T.api_Node n.val m.val = some (zjz n m) := by
  rw [eq36c]
  unfold zjz
  cases n.op == m.op <;> cases n.w == m.w <;> cases n.a == m.a <;> cases n.b == m.b <;> cases n.c == m.c <;> cases n.num == m.num <;> cases n.name == m.name <;> rfl
theorem eq9 (s t : ByteArray) : eqT PP 10000 T.string (.string s) (.string t) = some (s == t) := by kernel_rfl
theorem shape36 (n : Nd) : zem PP 20 T.api_Node n.val = true := by kernel_rfl
theorem shape9 (s : ByteArray) : zem PP 20 T.string (.string s) = true := by kernel_rfl
def zek : Nat → List Nd → List (Value × Value)
  | _, [] => []
  | i, n :: r => (n.val, .int .i64 ((i + 1 : Nat) : Int)) :: zek (i + 1) r
def zbA (n : Nd) : Nat → List Nd → Option Nat
  | _, [] => none
  | i, m :: r => if zjz n m = true then some i else zbA n (i + 1) r
theorem find36 (n : Nd) : ∀ (L : List Nd) (i j : Nat), zfF PP T.api_Node n.val (zek i L) j = some ((zbA n i L).map fun q => (q - i + j, .int .i64 ((q + 1 : Nat) : Int)))
  | [], i, j => rfl
  | m :: r, i, j => by
    unfold zek zfF zbA
    rw [eq36]
    cases h : zjz n m with
    | true => simp
    | false =>
      simp only [Bool.false_eq_true, if_false]
      rw [find36 n r (i + 1) (j + 1)]
      cases hp : zbA n (i + 1) r with
      | none => rfl
      | some q =>
        have : i + 1 ≤ q := by
          have aux : ∀ (L : List Nd) (i q : Nat), zbA n i L = some q → i ≤ q := by
            intro L
            induction L with
            | nil => intro i q h; cases h
            | cons m L ih =>
              intro i q h
              unfold zbA at h
              split at h
              · cases h; exact Nat.le_refl _
              · have := ih (i + 1) q h; omega
          exact aux r (i + 1) q hp
        simp
        omega
theorem look36 {H : Hp} {f : Nat} {L : List Nd} (h : H.get f = some (.map (zek 0 L))) (n : Nd) : zjM PP T.api_Node (.int .i64 0) (.map (some f)) n.val H =
    some (match zbA n 0 L with | some q => (.int .i64 ((q + 1 : Nat) : Int), true) | none => (.int .i64 0, false)) := by
  unfold zjM
  rw [shape36]
  simp only [if_true, zpH, h, find36]
  cases zbA n 0 L <;> rfl
end Go.AM
namespace Go.AM
open Go
theorem ba_eq (s t : ByteArray) : (s == t) = true ↔ s = t := by
  obtain ⟨a⟩ := s
  obtain ⟨b⟩ := t
  show (a == b) = true ↔ _
  simp
theorem zk2 (n : Nd) : ∀ (L : List Nd) (i : Nat), zek i (L ++ [n]) = zek i L ++ [(n.val, .int .i64 ((i + L.length + 1 : Nat) : Int))]
  | [], i => rfl
  | m :: r, i => by
    show (m.val, _) :: zek (i + 1) (r ++ [n]) = _
    rw [zk2 n r (i + 1)]
    simp only [zek, List.cons_append, List.length_cons]
    rw [show i + 1 + r.length + 1 = i + (r.length + 1) + 1 by omega]
theorem upd36 {H : Hp} {f : Nat} {L : List Nd} (h : H.get f = some (.map (zek 0 L))) (n : Nd) (hn : zbA n 0 L = none) :
    updV PP T.api_Node (.map (some f)) n.val (.int .i64 ((L.length + 1 : Nat) : Int)) H = some (H.set f (some (.map (zek 0 (L ++ [n]))))) := by
  unfold updV
  rw [shape36]
  simp only [if_true, h, find36, hn, Option.map_none]
  rw [zk2, Nat.zero_add]
def zd1 (K : List (ByteArray × Int)) : List (Value × Value) := K.map fun x => (.string x.1, .int .i64 x.2)
def zce (s : ByteArray) : Nat → List (ByteArray × Int) → Option (Nat × Int)
  | _, [] => none
  | i, (t, w) :: r => if (s == t) = true then some (i, w) else zce s (i + 1) r
theorem find9 (s : ByteArray) : ∀ (K : List (ByteArray × Int)) (i : Nat), zfF PP T.string (.string s) (zd1 K) i = some ((zce s i K).map fun q => (q.1, .int .i64 q.2))
  | [], i => rfl
  | (t, w) :: r, i => by
    show (match eqT PP 10000 T.string (.string s) (.string t) with | some true => some (some (i, Value.int .i64 w)) | some false => zfF PP T.string (.string s) (zd1 r) (i + 1) | none => none) = _
    rw [eq9]
    unfold zce
    cases h : s == t with
    | true => simp
    | false =>
      simp only [Bool.false_eq_true, if_false]
      exact find9 s r (i + 1)
theorem look9 {H : Hp} {g : Nat} {K : List (ByteArray × Int)} (h : H.get g = some (.map (zd1 K))) (s : ByteArray) : zjM PP T.string (.int .i64 0) (.map (some g)) (.string s) H =
    some (match zce s 0 K with | some q => (.int .i64 q.2, true) | none => (.int .i64 0, false)) := by
  unfold zjM
  rw [shape9]
  simp only [if_true, zpH, h, find9]
  cases zce s 0 K <;> rfl
theorem zkQ (s : ByteArray) : ∀ (K : List (ByteArray × Int)) (i j : Nat) (w : Int), zce s i K = some (j, w) → i ≤ j ∧ K[j - i]? = some (s, w)
  | [], i, j, w, h => by cases h
  | (t, u) :: r, i, j, w, h => by
    unfold zce at h
    split at h
    · rename_i e
      cases h
      have : s = t := (ba_eq s t).1 e
      subst this
      exact ⟨Nat.le_refl _, by simp⟩
    · obtain ⟨h1, h2⟩ := zkQ s r (i + 1) j w h
      refine ⟨by omega, ?_⟩
      rw [show j - i = (j - (i + 1)) + 1 by omega]
      simpa using h2
def zeR (s : ByteArray) (w : Int) (K : List (ByteArray × Int)) : List (ByteArray × Int) := match zce s 0 K with | some _ => K | none => K ++ [(s, w)]
theorem upd9 {H : Hp} {g : Nat} {K : List (ByteArray × Int)} (h : H.get g = some (.map (zd1 K))) (s : ByteArray) (w : Int) (hw : ∀ j u, zce s 0 K = some (j, u) → u = w) :
    updV PP T.string (.map (some g)) (.string s) (.int .i64 w) H = some (H.set g (some (.map (zd1 (zeR s w K))))) := by
  unfold updV zeR
  rw [shape9]
  simp only [if_true, h, find9]
  cases hq : zce s 0 K with
  | none => simp [zd1]
  | some q =>
    obtain ⟨j, u⟩ := q
    have hu := hw j u hq
    subst hu
    obtain ⟨_, h2⟩ := zkQ s K 0 j u hq
    rw [Nat.sub_zero] at h2
    have hk : (zd1 K)[j]? = some (.string s, .int .i64 u) := by unfold zd1; rw [List.getElem?_map, h2]; rfl
    have hset : zka (zd1 K) j (.string s) (.int .i64 u) = zd1 K := by
      unfold zka
      apply List.ext_getElem?
      intro i
      rw [List.getElem?_set]
      split
      · rename_i e; subst e
        rw [if_pos (List.getElem?_eq_some_iff.1 hk).1, hk]
      · rfl
    have hsb : Instr.sameBits 10000 (.string s) (.string s) = true := by
      simp only [Instr.sameBits]
      exact (ba_eq s s).2 rfl
    simp only [Option.map_some, hk, hsb, if_true, hset]
end Go.AM
namespace Go.AM
open Go
def slId : Value → Option Nat
  | .slice (some a) _ _ => some a.block
  | _ => none
theorem zhE (H : Hp) (o : AObj) (i : Nat) : (H.new o).get i = if i = H.next then some o else H.get i := rfl
theorem zn1 (H : Hp) (j : Nat) (o : Option AObj) (i : Nat) : (H.set j o).get i = if i = j then o else H.get i := rfl
theorem zmY (H : Hp) (j : Nat) (o : Option AObj) : (H.set j o).next = H.next := rfl
theorem zjX (n : Nd) : n.cells.all one = true := rfl
theorem zoi {H : Hp} {sl : Value} {L : List Nd} (hsl : SlR H sl L) {y : Nat} {own : Bool} {n : Nd} (hy : H.get y = some (.cells n.cells own)) (hlt : ∀ i, slId sl = some i → i < H.next) (hb : (L.length + 1) * 64 ≤ 2 ^ 47) :
    ∃ sl' H', zcD 7 64 sl (.slice (some ⟨y, 0, some 7⟩) 1 1) H = some (sl', H') ∧ SlR H' sl' (L ++ [n]) ∧ slId sl' = some H.next ∧ H'.next = H.next + 1 ∧
      ∀ j, j < H.next → slId sl ≠ some j → H'.get j = H.get j := by
  have hsrc : zcE 7 (.slice (some ⟨y, 0, some 7⟩) 1 1) H = some (1, n.cells) := by
    simp [zcE, hy, Nd.cells]
  rcases hsl with ⟨rfl, rfl⟩ | ⟨i, rfl, hi⟩
  · refine ⟨.slice (some ⟨H.next, 0, some 7⟩) 1 1, H.new (.cells n.cells true), ?_, .inr ⟨H.next, rfl, ?_⟩, rfl, rfl, fun j hj _ => ?_⟩
    · unfold zcD
      rw [hsrc]
      simp [zjX]
    · rw [zhE, if_pos rfl]; simp
    · rw [zhE, if_neg (by omega)]
  · refine ⟨.slice (some ⟨H.next, 0, some 7⟩) (L.length + 1) (L.length + 1), (H.set i none).new (.cells (L.flatMap Nd.cells ++ n.cells) true), ?_, .inr ⟨H.next, by simp, ?_⟩, rfl, rfl, fun j hj hne => ?_⟩
    · unfold zcD
      rw [hsrc]
      have h1 : ¬ L.length + 1 ≤ L.length := by omega
      have h2 : (L.flatMap Nd.cells).take (L.length * 7) = L.flatMap Nd.cells := List.take_of_length_le (by rw [zlS]; omega)
      have h3 : 0 + L.length * 7 ≤ (L.flatMap Nd.cells).length := by rw [zlS]; omega
      simp only [ne_eq, not_true_eq_false, if_false, hi, h1, Nat.one_ne_zero, false_and, h3, hb, zjX, and_self, if_true, qd0, h2]
    · rw [zhE, if_pos (zmY _ _ _).symm]; simp [List.flatMap_append]
    · have : j ≠ i := fun e => hne (by rw [e]; rfl)
      rw [zhE, zmY, if_neg (by omega), zn1, if_neg this]
end Go.AM
namespace Go.AM
open Go
noncomputable def tailM (p : Nat) (n : Nd) (H : Hp) : Option (Value × Hp) :=
 (pNil (.pointer (some ⟨p, 0, none⟩)) (
  za7 1 (.pointer (some ⟨p, 0, none⟩)) fun p124 =>
  zaB 1 false H p124 fun v125 =>
  zab 7 true (zaa n.val) 0 fun v126 =>
  zaR 7 [.int .i64 0, .int .i64 0, .int .i64 0, .int .i64 0, .int .i64 0, .int .u64 0, .string ⟨#[]⟩] 1 [(0, v126)] H fun v127 H128 =>
  chk (Hp.rdP H128 p124 1 false = some v125) (
  zby 7 64 v125 v127 H128 fun v129 H130 =>
  pNil (.pointer (some ⟨p, 0, none⟩)) (
  za7 1 (.pointer (some ⟨p, 0, none⟩)) fun p131 =>
  zcc 1 H130 p131 v129 fun H132 =>
  pNil (.pointer (some ⟨p, 0, none⟩)) (
  za7 2 (.pointer (some ⟨p, 0, none⟩)) fun p133 =>
  zaB 1 false H132 p133 fun v134 =>
  zab 7 true (zaa n.val) 0 fun v135 =>
  pNil (.pointer (some ⟨p, 0, none⟩)) (
  za7 1 (.pointer (some ⟨p, 0, none⟩)) fun p136 =>
  zaB 1 false H132 p136 fun v137 =>
  pLen .sl v137 H132 fun v138 =>
  pUpd PP T.api_Node v134 v135 v138 H132 fun H139 =>
  zab 1 false (zaa n.val) 0 fun v140 =>
  pBin PP .eql T.int v140 (.int .i64 4) fun v141 =>
  zad v141 fun b142 => br b142
  (pNil (.pointer (some ⟨p, 0, none⟩)) (
  za7 3 (.pointer (some ⟨p, 0, none⟩)) fun p143 =>
  zaB 1 false H139 p143 fun v144 =>
  zab 1 false (zaa n.val) 6 fun v145 =>
  zab 1 false (zaa n.val) 1 fun v146 =>
  pUpd PP T.string v144 v145 v146 H139 fun H147 =>
  pNil (.pointer (some ⟨p, 0, none⟩)) (
  za7 1 (.pointer (some ⟨p, 0, none⟩)) fun p148 =>
  zaB 1 false H147 p148 fun v149 =>
  pLen .sl v149 H147 fun v150 =>
  some ((.tuple #[v150, (.int .i64 0)]), H147))))
  (pNil (.pointer (some ⟨p, 0, none⟩)) (
  za7 1 (.pointer (some ⟨p, 0, none⟩)) fun p151 =>
  zaB 1 false H139 p151 fun v152 =>
  pLen .sl v152 H139 fun v153 =>
  some ((.tuple #[v153, (.int .i64 0)]), H139)))))))))
theorem zk6 (n : Nd) (H : Hp) {α : Type} (k : Value → Hp → Option α) :
    zaR 7 [.int .i64 0, .int .i64 0, .int .i64 0, .int .i64 0, .int .i64 0, .int .u64 0, .string ⟨#[]⟩] 1 [(0, n.val)] H k = k (.slice (some ⟨H.next, 0, some 7⟩) 1 1) (H.new (.cells n.cells true)) := by
  have : zb8 7 [.int .i64 0, .int .i64 0, .int .i64 0, .int .i64 0, .int .i64 0, .int .u64 0, .string ⟨#[]⟩] 1 [(0, n.val)] H = some (.slice (some ⟨H.next, 0, some 7⟩) 1 1, H.new (.cells n.cells true)) := by
    have h1 : zaa n.val = n.cells := rfl
    have h2 : n.cells.length = 7 := rfl
    simp [zb8, repl, zjT, h1, h2, zjX, spl]
  unfold zaR
  rw [this]
theorem zfQ {α : Type} {q : Prop} (h : q) (k : Option α) : chk q k = k := by unfold chk; exact if_pos h
end Go.AM
namespace Go.AM
open Go
structure StF (H : Hp) (p : Nat) (lim : Int) (L : List Nd) (K : List (ByteArray × Int)) (sl : Value) (f g : Nat) : Prop where
  st : StR H p lim L sl f g
  fm : H.get f = some (.map (zek 0 L))
  gm : H.get g = some (.map (zd1 K))
  pf : p ≠ f
  pg : p ≠ g
  fg : f ≠ g
  lp : p < H.next
  lf : f < H.next
  lg : g < H.next
  sa : ∀ i, slId sl = some i → i ≠ p ∧ i ≠ f ∧ i ≠ g ∧ i < H.next
theorem store1 {α : Type} {H : Hp} {p f g : Nat} {lim : Int} {sl : Value} (hs : H.get p = some (.cells [.int .i64 lim, sl, .map (some f), .map (some g)] true)) (v : Value) (hv : zaa v = [v]) (h1 : one v = true) (k : Hp → Option α) :
    zcc 1 H (.pointer (some ⟨p, 1, none⟩)) v k = k (H.set p (some (.cells [.int .i64 lim, v, .map (some f), .map (some g)] true))) := by
  have : H.wr (.pointer (some ⟨p, 1, none⟩)) 1 v = some (H.set p (some (.cells [.int .i64 lim, v, .map (some f), .map (some g)] true))) := by
    simp [Hp.wr, hs, zdz, hv, h1, spl]
  unfold zcc
  rw [this]
theorem zou {α : Type} {n m : Nat} {s x : Value} {H : Hp} {v : Value} {H' : Hp} (h : zcD n m s x H = some (v, H')) (k : Value → Hp → Option α) : zby n m s x H k = k v H' := by unfold zby; rw [h]
theorem s_upd {α : Type} {P : Program} {kt : TypeId} {m key v : Value} {H H' : Hp} (h : updV P kt m key v H = some H') (k : Hp → Option α) : pUpd P kt m key v H k = k H' := by unfold pUpd; rw [h]
theorem tail_ok {H : Hp} {p f g : Nat} {lim : Int} {L : List Nd} {K : List (ByteArray × Int)} {sl : Value} (h : StF H p lim L K sl f g) (n : Nd) (hn : zbA n 0 L = none) (hw : n.op = 4 → ∀ j u, zce n.name 0 K = some (j, u) → u = n.w) (hb : (L.length + 1) * 64 ≤ 2 ^ 47) :
    ∃ H' sl', tailM p n H = some (.tuple #[.int .i64 ((L.length + 1 : Nat) : Int), .int .i64 0], H') ∧ StF H' p lim (L ++ [n]) (if n.op = 4 then zeR n.name n.w K else K) sl' f g ∧ H.next ≤ H'.next ∧
      (∀ j, j < H.next → j ≠ p → j ≠ f → j ≠ g → slId sl ≠ some j → H'.get j = H.get j) ∧ (∀ i, slId sl' = some i → H.next ≤ i) := by
  have hlp := h.lp
  have hlf := h.lf
  have hlg := h.lg
  have hH1 : ∀ j, j < H.next → (H.new (.cells n.cells true)).get j = H.get j := fun j hj => by rw [zhE, if_neg (by omega)]
  have hsl1 : SlR (H.new (.cells n.cells true)) sl L := by
    rcases h.st.all with ⟨e1, e2⟩ | ⟨i, e1, e2⟩
    · exact .inl ⟨e1, e2⟩
    · have := (h.sa i (by rw [e1]; rfl)).2.2.2
      exact .inr ⟨i, e1, by rw [hH1 i this]; exact e2⟩
  obtain ⟨sl', H2, ha, hsl2, hid, hnx, hfr⟩ := zoi hsl1 (y := H.next) (own := true) (n := n) (by rw [zhE, if_pos rfl]) (fun i hi => by have := (h.sa i hi).2.2.2; show i < H.next + 1; omega) hb
  have hnx1 : (H.new (.cells n.cells true)).next = H.next + 1 := rfl
  rw [hnx1] at hid hnx hfr
  have hg2 : ∀ j, j < H.next → slId sl ≠ some j → H2.get j = H.get j := fun j hj hne => by rw [hfr j (by omega) hne, hH1 j hj]
  have sp : slId sl ≠ some p := fun e => (h.sa p e).1 rfl
  have sf : slId sl ≠ some f := fun e => (h.sa f e).2.1 rfl
  have sg : slId sl ≠ some g := fun e => (h.sa g e).2.2.1 rfl
  have hsl' : ∃ c, sl' = .slice (some ⟨H.next + 1, 0, some 7⟩) (L ++ [n]).length c := by
    rcases hsl2 with ⟨e1, _⟩ | ⟨i, e1, _⟩
    · simp at e1
    · rw [e1] at hid
      have : i = H.next + 1 := by simpa [slId] using hid
      subst this
      exact ⟨_, e1⟩
  obtain ⟨c, hslc⟩ := hsl'
  have hobj2 : H2.get p = some (.cells [.int .i64 lim, sl, .map (some f), .map (some g)] true) := by rw [hg2 p hlp sp]; exact h.st.obj
  have hcl : zaa sl' = [sl'] := by rw [hslc]; rfl
  have hone : one sl' = true := by rw [hslc]; rfl
  generalize hH3 : H2.set p (some (.cells [.int .i64 lim, sl', .map (some f), .map (some g)] true)) = H3
  have g3 : ∀ j, j ≠ p → H3.get j = H2.get j := fun j hj => by rw [← hH3, zn1, if_neg hj]
  have obj3 : H3.get p = some (.cells [.int .i64 lim, sl', .map (some f), .map (some g)] true) := by rw [← hH3, zn1, if_pos rfl]
  have n3 : H3.next = H.next + 2 := by rw [← hH3, zmY, hnx]
  have hsl3 : SlR H3 sl' (L ++ [n]) := by
    rcases hsl2 with ⟨e1, _⟩ | ⟨i, e1, e2⟩
    · simp at e1
    · have : i = H.next + 1 := by rw [e1] at hid; simpa [slId] using hid
      exact .inr ⟨i, e1, by rw [g3 i (by omega)]; exact e2⟩
  have hf3 : H3.get f = some (.map (zek 0 L)) := by rw [g3 f (Ne.symm h.pf), hg2 f hlf sf]; exact h.fm
  have hg3 : H3.get g = some (.map (zd1 K)) := by rw [g3 g (Ne.symm h.pg), hg2 g hlg sg]; exact h.gm
  have st3 : StR H3 p lim (L ++ [n]) sl' f g := ⟨obj3, hsl3⟩
  have hu := upd36 hf3 n hn
  generalize hH4 : H3.set f (some (.map (zek 0 (L ++ [n])))) = H4 at hu
  have g4 : ∀ j, j ≠ f → H4.get j = H3.get j := fun j hj => by rw [← hH4, zn1, if_neg hj]
  have n4 : H4.next = H.next + 2 := by rw [← hH4, zmY, n3]
  have obj4 : H4.get p = some (.cells [.int .i64 lim, sl', .map (some f), .map (some g)] true) := by rw [g4 p h.pf]; exact obj3
  have hf4 : H4.get f = some (.map (zek 0 (L ++ [n]))) := by rw [← hH4, zn1, if_pos rfl]
  have hg4 : H4.get g = some (.map (zd1 K)) := by rw [g4 g (Ne.symm h.fg)]; exact hg3
  have hslk : ∀ {Hx : Hp}, (∀ j, j ≠ p → j ≠ f → j ≠ g → Hx.get j = H3.get j) → SlR Hx sl' (L ++ [n]) := fun hx => by
    rcases hsl3 with ⟨e1, _⟩ | ⟨i, e1, e2⟩
    · simp at e1
    · have : i = H.next + 1 := by rw [e1] at hid; simpa [slId] using hid
      exact .inr ⟨i, e1, by rw [hx i (by omega) (by omega) (by omega)]; exact e2⟩
  have st4 : StR H4 p lim (L ++ [n]) sl' f g := ⟨obj4, hslk fun j _ hf _ => g4 j hf⟩
  have hlen : ((L ++ [n]).length : Int) = ((L.length + 1 : Nat) : Int) := by simp
  have hapart : ∀ i, slId sl' = some i → i ≠ p ∧ i ≠ f ∧ i ≠ g ∧ i < H.next + 2 := fun i hi => by
    rw [hid] at hi
    cases hi
    exact ⟨by omega, by omega, by omega, by omega⟩
  have hframe4 : ∀ j, j < H.next → j ≠ p → j ≠ f → j ≠ g → slId sl ≠ some j → H4.get j = H.get j := fun j a b c d e => by rw [g4 j c, g3 j b, hg2 j a e]
  have hge : ∀ i, slId sl' = some i → H.next ≤ i := fun i hi => by rw [hid] at hi; cases hi; omega
  have hchk : Hp.rdP (H.new (.cells n.cells true)) (.pointer (some ⟨p, 1, none⟩)) 1 false = some sl := by
    simp [Hp.rdP, Hp.rd, hH1 p hlp, h.st.obj, zcz]
  by_cases hop : n.op = 4
  · have hu9 := upd9 hg4 n.name n.w (hw hop)
    generalize hH5 : H4.set g (some (.map (zd1 (zeR n.name n.w K)))) = H5 at hu9
    have g5 : ∀ j, j ≠ g → H5.get j = H4.get j := fun j hj => by rw [← hH5, zn1, if_neg hj]
    have n5 : H5.next = H.next + 2 := by rw [← hH5, zmY, n4]
    have obj5 : H5.get p = some (.cells [.int .i64 lim, sl', .map (some f), .map (some g)] true) := by rw [g5 p h.pg]; exact obj4
    have st5 : StR H5 p lim (L ++ [n]) sl' f g := ⟨obj5, hslk fun j _ hf hg => by rw [g5 j hg, g4 j hf]⟩
    refine ⟨H5, sl', ?_, ⟨st5, ?_, ?_, h.pf, h.pg, h.fg, by omega, by omega, by omega, by rw [n5]; exact hapart⟩, by omega, fun j a b c d e => ?_, hge⟩
    · unfold tailM
      simp only [zeM, zb9, Nat.zero_add, h.st.l1, n07, zk6]
      rw [zfQ hchk, zou ha, store1 hobj2 sl' hcl hone, hH3]
      simp only [st3.l1, st3.l2, hsl3.len, hlen]
      rw [s_upd hu]
      simp only [n0, n1, n6, zay, hop, decide_true, zag, s_br, if_true, st4.l3]
      rw [s_upd hu9]
      simp only [st5.l1, st5.all.len, hlen]
    · rw [g5 f h.fg]; exact hf4
    · rw [if_pos hop, ← hH5, zn1, if_pos rfl]
    · rw [g5 j d]; exact hframe4 j a b c d e
  · refine ⟨H4, sl', ?_, ⟨st4, hf4, ?_, h.pf, h.pg, h.fg, by omega, by omega, by omega, by rw [n4]; exact hapart⟩, by omega, hframe4, hge⟩
    · unfold tailM
      simp only [zeM, zb9, Nat.zero_add, h.st.l1, n07, zk6]
      rw [zfQ hchk, zou ha, store1 hobj2 sl' hcl hone, hH3]
      simp only [st3.l1, st3.l2, hsl3.len, hlen]
      rw [s_upd hu]
      simp only [n0, zay, hop, decide_false, zag, s_br, Bool.false_eq_true, if_false, st4.l1, st4.all.len, hlen]
    · rw [if_neg hop]; exact hg4
end Go.AM
namespace Go.AM
open Go
def zb5 (L : List Nd) (n : Nd) : Bool := (decide (zam n.op ≥ 1) && !isT L n.a) || (decide (zam n.op ≥ 2) && !isT L n.b) || (decide (zam n.op ≥ 3) && !isT L n.c)
def zdT (K : List (ByteArray × Int)) (n : Nd) : Bool := !zij n.name || (match zce n.name 0 K with | some q => decide (q.2 ≠ n.w) | none => false)
def zdt (L : List Nd) (K : List (ByteArray × Int)) (n : Nd) : Int :=
  if n.op < 1 ∨ n.op > 33 then 73 else if n.w < 0 ∨ n.w > 64 then 5 else if zb5 L n = true then 70 else if zgZ (zam n.op) n = true then 1
  else if zbH n.op (wT L (-1) n.a) (wT L (-1) n.b) (wT L (-1) n.c) = false then 71 else if zbJ n (wT L (-1) n.a) (wT L (-1) n.b) = false then 5
  else if n.op = 4 ∧ zdT K n = true then 72 else 0
def mkR (lim : Int) (L : List Nd) (K : List (ByteArray × Int)) (n : Nd) : Int × Int × List Nd × List (ByteArray × Int) :=
  if zdt L K n ≠ 0 then (0, zdt L K n, L, K) else match zbA n 0 L with
    | some q => (((q + 1 : Nat) : Int), 0, L, K)
    | none => if lim > 0 ∧ (L.length : Int) ≥ lim then (0, 4, L, K) else (((L.length + 1 : Nat) : Int), 0, L ++ [n], if n.op = 4 then zeR n.name n.w K else K)
theorem wT_bd {L : List Nd} (h : ∀ m ∈ L, 0 ≤ m.w ∧ m.w ≤ 64) (t : Int) : -1 ≤ wT L (-1) t ∧ wT L (-1) t ≤ 64 := by
  unfold wT
  split
  · cases hq : L[(t - 1).toNat]? with
    | none => simp
    | some m =>
      have := h m (List.mem_of_getElem? hq)
      simp; omega
  · omega
end Go.AM
namespace Go.AM
open Go
theorem zi7 {α : Type} {P : Program} {kt : TypeId} {z m key v : Value} {b : Bool} {H : Hp} (h : zjM P kt z m key H = some (v, b)) (k : Value → Option α) : zcn P kt z m key true H k = k (.tuple #[v, .bool b]) := by unfold zcn; rw [h]
theorem zgc {α : Type} (x y : Value) (k : Value → Option α) : zah (.tuple #[x, y]) 0 k = k x := rfl
theorem zgb {α : Type} (x y : Value) (k : Value → Option α) : zah (.tuple #[x, y]) 1 k = k y := rfl
noncomputable def restM (p : Nat) (n : Nd) (H : Hp) : Option (Value × Hp) :=
 pNil (.pointer (some ⟨p, 0, none⟩)) (
 za7 2 (.pointer (some ⟨p, 0, none⟩)) fun p102 =>
 zaB 1 false H p102 fun v103 =>
 zab 7 true (zaa n.val) 0 fun v104 =>
 zcn PP T.api_Node (.int .i64 0) v103 v104 true H fun v105 =>
 zah v105 0 fun v106 =>
 zah v105 1 fun v107 =>
 zad v107 fun b108 => br b108
 (some ((.tuple #[v106, (.int .i64 0)]), H))
 (zaC (
 pNil (.pointer (some ⟨p, 0, none⟩)) (
 za7 0 (.pointer (some ⟨p, 0, none⟩)) fun p109 =>
 zaB 1 false H p109 fun v110 =>
 pBin PP .gtr T.int v110 (.int .i64 0) fun v111 =>
 zad v111 fun b112 => br b112
 (pNil (.pointer (some ⟨p, 0, none⟩)) (
 za7 1 (.pointer (some ⟨p, 0, none⟩)) fun p113 =>
 zaB 1 false H p113 fun v114 =>
 pLen .sl v114 H fun v115 =>
 pNil (.pointer (some ⟨p, 0, none⟩)) (
 za7 0 (.pointer (some ⟨p, 0, none⟩)) fun p116 =>
 zaB 1 false H p116 fun v117 =>
 pBin PP .geq T.int v115 v117 fun v118 =>
 zad v118 fun b119 => br b119
 (some (.ret, [(.tuple #[(.int .i64 0), (.int .i64 4)])], H))
 (some (.next, [], H)))))
 (some (.next, [], H)))) fun q120 l121 H122 => zaJ q120
 (pNil (.pointer (some ⟨p, 0, none⟩)) (
 za7 1 (.pointer (some ⟨p, 0, none⟩)) fun p124 =>
 zaB 1 false H122 p124 fun v125 =>
 zab 7 true (zaa n.val) 0 fun v126 =>
 zaR 7 [.int .i64 0, .int .i64 0, .int .i64 0, .int .i64 0, .int .i64 0, .int .u64 0, .string ⟨#[]⟩] 1 [(0, v126)] H122 fun v127 H128 =>
 chk (Hp.rdP H128 p124 1 false = some v125) (
 zby 7 64 v125 v127 H128 fun v129 H130 =>
 pNil (.pointer (some ⟨p, 0, none⟩)) (
 za7 1 (.pointer (some ⟨p, 0, none⟩)) fun p131 =>
 zcc 1 H130 p131 v129 fun H132 =>
 pNil (.pointer (some ⟨p, 0, none⟩)) (
 za7 2 (.pointer (some ⟨p, 0, none⟩)) fun p133 =>
 zaB 1 false H132 p133 fun v134 =>
 zab 7 true (zaa n.val) 0 fun v135 =>
 pNil (.pointer (some ⟨p, 0, none⟩)) (
 za7 1 (.pointer (some ⟨p, 0, none⟩)) fun p136 =>
 zaB 1 false H132 p136 fun v137 =>
 pLen .sl v137 H132 fun v138 =>
 pUpd PP T.api_Node v134 v135 v138 H132 fun H139 =>
 zab 1 false (zaa n.val) 0 fun v140 =>
 pBin PP .eql T.int v140 (.int .i64 4) fun v141 =>
 zad v141 fun b142 => br b142
 (pNil (.pointer (some ⟨p, 0, none⟩)) (
 za7 3 (.pointer (some ⟨p, 0, none⟩)) fun p143 =>
 zaB 1 false H139 p143 fun v144 =>
 zab 1 false (zaa n.val) 6 fun v145 =>
 zab 1 false (zaa n.val) 1 fun v146 =>
 pUpd PP T.string v144 v145 v146 H139 fun H147 =>
 pNil (.pointer (some ⟨p, 0, none⟩)) (
 za7 1 (.pointer (some ⟨p, 0, none⟩)) fun p148 =>
 zaB 1 false H147 p148 fun v149 =>
 pLen .sl v149 H147 fun v150 =>
 some ((.tuple #[v150, (.int .i64 0)]), H147))))
 (pNil (.pointer (some ⟨p, 0, none⟩)) (
 za7 1 (.pointer (some ⟨p, 0, none⟩)) fun p151 =>
 zaB 1 false H139 p151 fun v152 =>
 pLen .sl v152 H139 fun v153 =>
 some ((.tuple #[v153, (.int .i64 0)]), H139)))))))))
 (fun i123 => none)
 (some ((l121.headD undef), H122))))
def okR (lim : Int) (L : List Nd) (K : List (ByteArray × Int)) (n : Nd) : Int × Int × List Nd × List (ByteArray × Int) :=
  match zbA n 0 L with
    | some q => (((q + 1 : Nat) : Int), 0, L, K)
    | none => if lim > 0 ∧ (L.length : Int) ≥ lim then (0, 4, L, K) else (((L.length + 1 : Nat) : Int), 0, L ++ [n], if n.op = 4 then zeR n.name n.w K else K)
structure MkOk (H : Hp) (p : Nat) (lim : Int) (sl : Value) (f g : Nat) (r : Int × Int × List Nd × List (ByteArray × Int)) (H' : Hp) (sl' : Value) : Prop where
  st : StF H' p lim r.2.2.1 r.2.2.2 sl' f g
  next : H.next ≤ H'.next
  frame : ∀ j, j < H.next → j ≠ p → j ≠ f → j ≠ g → slId sl ≠ some j → H'.get j = H.get j
  own : ∀ i, slId sl' = some i → slId sl = some i ∨ H.next ≤ i
theorem MkOk.stay {H : Hp} {p f g : Nat} {lim : Int} {L : List Nd} {K : List (ByteArray × Int)} {sl : Value} (h : StF H p lim L K sl f g) {r : Int × Int × List Nd × List (ByteArray × Int)} (hr : r.2.2 = (L, K)) : MkOk H p lim sl f g r H sl :=
  ⟨by rw [hr]; exact h, Nat.le_refl _, fun _ _ _ _ _ _ => rfl, fun i hi => .inl hi⟩
theorem rest_ok {H : Hp} {p f g : Nat} {lim : Int} {L : List Nd} {K : List (ByteArray × Int)} {sl : Value} (h : StF H p lim L K sl f g) (n : Nd) (hw : n.op = 4 → ∀ j u, zce n.name 0 K = some (j, u) → u = n.w) (hb : (L.length + 1) * 64 ≤ 2 ^ 47) :
    ∃ H' sl', restM p n H = some (.tuple #[.int .i64 (okR lim L K n).1, .int .i64 (okR lim L K n).2.1], H') ∧ MkOk H p lim sl f g (okR lim L K n) H' sl' := by
  have hl36 := look36 h.fm n
  unfold okR
  cases hq : zbA n 0 L with
  | some q =>
    rw [hq] at hl36
    refine ⟨H, sl, ?_, MkOk.stay h rfl⟩
    unfold restM
    simp only [zeM, zb9, Nat.zero_add, h.st.l2, n07, zi7 hl36, x01, zag, s_br, if_true]
  | none =>
    rw [hq] at hl36
    by_cases hlim : lim > 0 ∧ (L.length : Int) ≥ lim
    · refine ⟨H, sl, ?_, MkOk.stay h (by simp only [if_pos hlim])⟩
      unfold restM
      simp only [zeM, zb9, Nat.zero_add, Nat.add_zero, h.st.l0, h.st.l1, h.st.l2, h.st.all.len, n07, zi7 hl36, x01, zag, s_br, zbl, zbg, hlim.1, hlim.2, decide_true, Bool.false_eq_true, if_false, if_true, zao, zbM, zb4, if_pos hlim, and_self]
    · obtain ⟨H', sl', h1, h2, h3, h4, h5⟩ := tail_ok h n hq hw hb
      rw [if_neg hlim]
      refine ⟨H', sl', ?_, ⟨h2, h3, h4, fun i hi => .inr (h5 i hi)⟩⟩
      rw [← h1]
      unfold restM
      by_cases l1 : lim > 0
      · have l2 : ¬ ((L.length : Int) ≥ lim) := fun q => hlim ⟨l1, q⟩
        simp only [zeM, zb9, Nat.zero_add, Nat.add_zero, h.st.l0, h.st.l1, h.st.l2, h.st.all.len, n07, zi7 hl36, x01, zag, s_br, zbl, zbg, l1, l2, decide_true, decide_false, Bool.false_eq_true, if_false, if_true, zao, zai, zb4]
        unfold tailM
        simp only [zeM, zb9, Nat.zero_add, Nat.add_zero, h.st.l0, h.st.l1, h.st.l2, h.st.all.len, n07, s_br]
      · simp only [zeM, zb9, Nat.zero_add, Nat.add_zero, h.st.l0, h.st.l1, h.st.l2, h.st.all.len, n07, zi7 hl36, x01, zag, s_br, zbl, zbg, l1, decide_true, decide_false, Bool.false_eq_true, if_false, if_true, zao, zai, zb4]
        unfold tailM
        simp only [zeM, zb9, Nat.zero_add, Nat.add_zero, h.st.l0, h.st.l1, h.st.l2, h.st.all.len, n07, s_br]
end Go.AM
namespace Go.AM
open Go
end Go.AM
namespace Go.AM
open Go
theorem ziJ {α : Type} (a b c : Int) (k : Value → Option α) : zar PP T.a3_int [(0, .int .i64 a), (1, .int .i64 b), (2, .int .i64 c)] k = k (.agg #[.int .i64 a, .int .i64 b, .int .i64 c]) := by
  have : znd PP T.a3_int [(0, .int .i64 a), (1, .int .i64 b), (2, .int .i64 c)] = some (.agg #[.int .i64 a, .int .i64 b, .int .i64 c]) := by kernel_rfl
  unfold zar; rw [this]
theorem s_arr0 {α : Type} (a b c : Value) (k : Value → Option α) : zcg 3 false 1 (.agg #[a, b, c]) (.int .i64 0) k = k a := rfl
theorem s_arr1 {α : Type} (a b c : Value) (k : Value → Option α) : zcg 3 false 1 (.agg #[a, b, c]) (.int .i64 1) k = k b := rfl
theorem s_arr2 {α : Type} (a b c : Value) (k : Value → Option α) : zcg 3 false 1 (.agg #[a, b, c]) (.int .i64 2) k = k c := rfl
theorem loop3 {H : Hp} {p f g : Nat} {lim : Int} {L : List Nd} {sl : Value} (hs : StR H p lim L sl f g) (n : Nd) (S : List Value → Hp → Option Outc)
    (hS : S = fun (l25 : List Value) (H26 : Hp) =>
 pBin PP .lss T.int (l25.getD 0 undef) (.int .i64 3) fun v27 =>
 zad v27 fun b28 => br b28
 (zcg 3 false 1 (.agg #[.int .i64 n.a, .int .i64 n.b, .int .i64 n.c]) (l25.getD 0 undef) fun v29 =>
 zaf RR F.a24 [.int .i64 n.op] H26 fun r31 H32 =>
 pBin PP .lss T.int (l25.getD 0 undef) r31 fun v33 =>
 zad v33 fun b34 => br b34
 (zaf RR F.a31 [.pointer (some ⟨p, 0, none⟩), v29] H32 fun r35 H36 =>
 pUn .not r35 fun v37 =>
 zad v37 fun b38 => br b38
 (some (.ret, [(.tuple #[(.int .i64 0), (.int .i64 70)])], H36))
 (pBin PP .add T.int (l25.getD 0 undef) (.int .i64 1) fun v39 =>
 some (.next, [v39], H36)))
 (pBin PP .add T.int (l25.getD 0 undef) (.int .i64 1) fun v40 =>
 some (.next, [v40], H32)))
 (some (.exit 0, [(l25.getD 0 undef)], H26))) :
    zaA S [.int .i64 0] H = if zb5 L n = true then some (.ret, [.tuple #[.int .i64 0, .int .i64 70]], H) else some (.exit 0, [.int .i64 3], H) := by
  have w1 : IntKind.i64.wrap (0 + 1) = 1 := by decide
  have w2 : IntKind.i64.wrap (1 + 1) = 2 := by decide
  have w3 : IntKind.i64.wrap (2 + 1) = 3 := by decide
  have e0 : zaA S [.int .i64 0] H = if (decide (zam n.op ≥ 1) && !isT L n.a) = true then some (.ret, [.tuple #[.int .i64 0, .int .i64 70]], H) else zaA S [.int .i64 1] H := by
    rw [zaq]
    have : S [.int .i64 0] H = if (decide (zam n.op ≥ 1) && !isT L n.a) = true then some (.ret, [.tuple #[.int .i64 0, .int .i64 70]], H) else some (.next, [.int .i64 1], H) := by
      rw [hS]
      simp only [zbj, zag, s_br, qg0, s_arr0, zae (c29 _ _), zae (c19 hs), za4, za6, w1, decide_eq_true_eq]
      by_cases q : 0 < zam n.op
      · have q2 : zam n.op ≥ 1 := by omega
        cases isT L n.a <;> simp [q, q2]
      · have q2 : ¬ zam n.op ≥ 1 := by omega
        simp [q, q2]
    rw [this]
    split <;> rfl
  have e1 : zaA S [.int .i64 1] H = if (decide (zam n.op ≥ 2) && !isT L n.b) = true then some (.ret, [.tuple #[.int .i64 0, .int .i64 70]], H) else zaA S [.int .i64 2] H := by
    rw [zaq]
    have : S [.int .i64 1] H = if (decide (zam n.op ≥ 2) && !isT L n.b) = true then some (.ret, [.tuple #[.int .i64 0, .int .i64 70]], H) else some (.next, [.int .i64 2], H) := by
      rw [hS]
      simp only [zbj, zag, s_br, qg0, s_arr1, zae (c29 _ _), zae (c19 hs), za4, za6, w2, decide_eq_true_eq]
      by_cases q : 1 < zam n.op
      · have q2 : zam n.op ≥ 2 := by omega
        cases isT L n.b <;> simp [q, q2]
      · have q2 : ¬ zam n.op ≥ 2 := by omega
        simp [q, q2]
    rw [this]
    split <;> rfl
  have e2 : zaA S [.int .i64 2] H = if (decide (zam n.op ≥ 3) && !isT L n.c) = true then some (.ret, [.tuple #[.int .i64 0, .int .i64 70]], H) else zaA S [.int .i64 3] H := by
    rw [zaq]
    have : S [.int .i64 2] H = if (decide (zam n.op ≥ 3) && !isT L n.c) = true then some (.ret, [.tuple #[.int .i64 0, .int .i64 70]], H) else some (.next, [.int .i64 3], H) := by
      rw [hS]
      simp only [zbj, zag, s_br, qg0, s_arr2, zae (c29 _ _), zae (c19 hs), za4, za6, w3, decide_eq_true_eq]
      by_cases q : 2 < zam n.op
      · have q2 : zam n.op ≥ 3 := by omega
        cases isT L n.c <;> simp [q, q2]
      · have q2 : ¬ zam n.op ≥ 3 := by omega
        simp [q, q2]
    rw [this]
    split <;> rfl
  have e3 : zaA S [.int .i64 3] H = some (.exit 0, [.int .i64 3], H) := by
    rw [zaq]
    have : S [.int .i64 3] H = some (.exit 0, [.int .i64 3], H) := by
      rw [hS]
      simp [zbj, zag, s_br]
    rw [this]; rfl
  rw [e0, e1, e2, e3]
  unfold zb5
  cases decide (zam n.op ≥ 1) && !isT L n.a <;> cases decide (zam n.op ≥ 2) && !isT L n.b <;> cases decide (zam n.op ≥ 3) && !isT L n.c <;> rfl
theorem c22 {H : Hp} {p f g : Nat} {lim : Int} {L : List Nd} {K : List (ByteArray × Int)} {sl : Value} (h : StF H p lim L K sl f g) (n : Nd) (hnum : 0 ≤ n.num ∧ n.num < 18446744073709551616)
    (hW : ∀ m ∈ L, 0 ≤ m.w ∧ m.w ≤ 64) (hb : (L.length + 1) * 64 ≤ 2 ^ 47) :
    ∃ H' sl', RR F.a12 [.pointer (some ⟨p, 0, none⟩), n.val] H = some (.tuple #[.int .i64 (mkR lim L K n).1, .int .i64 (mkR lim L K n).2.1], H') ∧ MkOk H p lim sl f g (mkR lim L K n) H' sl' := by
  have hL : (L.length : Int) ≤ 4611686018427387904 := by omega
  have ha := wT_bd hW n.a
  have hbd := wT_bd hW n.b
  have stay : ∀ e : Int, zdt L K n = e → e ≠ 0 → RR F.a12 [.pointer (some ⟨p, 0, none⟩), n.val] H = some (.tuple #[.int .i64 0, .int .i64 e], H) →
      ∃ H' sl', RR F.a12 [.pointer (some ⟨p, 0, none⟩), n.val] H = some (.tuple #[.int .i64 (mkR lim L K n).1, .int .i64 (mkR lim L K n).2.1], H') ∧ MkOk H p lim sl f g (mkR lim L K n) H' sl' := fun e he h0 hr => by
    have hm : mkR lim L K n = (0, e, L, K) := by unfold mkR; rw [he, if_pos h0]
    rw [hm]
    exact ⟨H, sl, hr, MkOk.stay h rfl⟩
  have hrun := zhS E0 rfl (.pointer (some ⟨p, 0, none⟩)) n.val H
  unfold zeD at hrun
  simp only [n0, n1, n2, n3, n4, zbj, zbl, zag, s_br, zao, zcw, zai, zbM, zb4, decide_eq_true_eq, ziJ] at hrun
  by_cases hop1 : n.op < 1
  · rw [if_pos hop1] at hrun
    exact stay 73 (by unfold zdt; rw [if_pos (.inl hop1)]) (by decide) hrun
  rw [if_neg hop1] at hrun
  by_cases hop2 : n.op > 33
  · rw [if_pos hop2] at hrun
    exact stay 73 (by unfold zdt; rw [if_pos (.inr hop2)]) (by decide) hrun
  rw [if_neg hop2] at hrun
  have hop : ¬ (n.op < 1 ∨ n.op > 33) := by omega
  by_cases hw1 : n.w < 0
  · rw [if_pos hw1] at hrun
    exact stay 5 (by unfold zdt; rw [if_neg hop, if_pos (.inl hw1)]) (by decide) hrun
  rw [if_neg hw1] at hrun
  by_cases hw2 : n.w > 64
  · rw [if_pos hw2] at hrun
    exact stay 5 (by unfold zdt; rw [if_neg hop, if_pos (.inr hw2)]) (by decide) hrun
  rw [if_neg hw2] at hrun
  have hww : ¬ (n.w < 0 ∨ n.w > 64) := by omega
  have hloop := loop3 h.st n _ rfl
  simp only [zbj, zag, s_br, za4, za6, decide_eq_true_eq] at hloop
  simp only [zbj, zag, s_br, za4, za6, decide_eq_true_eq, hloop] at hrun
  by_cases hpa : zb5 L n = true
  · rw [if_pos hpa] at hrun
    exact stay 70 (by unfold zdt; rw [if_neg hop, if_neg hww, if_pos hpa]) (by decide) hrun
  rw [if_neg hpa] at hrun
  simp only [zao, zbq, zaT] at hrun
  have pa : zam n.op ≥ 1 → isT L n.a = true := fun q => by
    cases e : isT L n.a with
    | true => rfl
    | false => exact absurd (by unfold zb5; simp [q, e]) hpa
  have hn : n.Ok := ⟨by omega, by omega, by omega, by omega, hnum.1, hnum.2⟩
  rw [n07, zae (c41 n H), zag] at hrun
  by_cases hsp : zgZ (zam n.op) n = true
  · rw [if_pos hsp] at hrun
    exact stay 1 (by unfold zdt; rw [if_neg hop, if_neg hww, if_neg hpa, if_pos hsp]) (by decide) hrun
  rw [if_neg hsp] at hrun
  rw [n07, zae (c42 h.st hL n), za4, zag] at hrun
  cases hso : zbH n.op (wT L (-1) n.a) (wT L (-1) n.b) (wT L (-1) n.c) with
  | false =>
    rw [hso] at hrun
    simp only [Bool.not_false, if_true] at hrun
    exact stay 71 (by unfold zdt; rw [if_neg hop, if_neg hww, if_neg hpa, if_neg hsp, if_pos hso]) (by decide) hrun
  | true =>
  have hsort : n.op ≥ 15 → wT L (-1) n.a > 0 := fun q => by
    have q0 : zam n.op ≠ 0 := by unfold zam; (repeat' split) <;> omega
    have := hso
    unfold zbH at this
    rw [if_neg q0, if_neg (by omega), if_neg (by omega), if_neg (by omega), if_neg (by omega)] at this
    split at this
    · simp at this; omega
    · split at this
      · simpa using this
      · simp at this; omega
  rw [hso] at hrun
  simp only [Bool.not_true, Bool.false_eq_true, if_false] at hrun
  rw [n07, zae (c43 h.st hL n hn ha hbd hsort), za4, zag] at hrun
  cases hwi : zbJ n (wT L (-1) n.a) (wT L (-1) n.b) with
  | false =>
    rw [hwi] at hrun
    simp only [Bool.not_false, if_true] at hrun
    exact stay 5 (by unfold zdt; rw [if_neg hop, if_neg hww, if_neg hpa, if_neg hsp, hso, if_neg (by decide), if_pos hwi]) (by decide) hrun
  | true =>
  rw [hwi] at hrun
  simp only [Bool.not_true, Bool.false_eq_true, if_false] at hrun
  have hl9 := look9 h.gm n.name
  have hnm : n.op = 4 → zdT K n = true → RR F.a12 [.pointer (some ⟨p, 0, none⟩), n.val] H = some (.tuple #[.int .i64 0, .int .i64 72], H) := by
    intro h4 hbad
    refine hrun.trans ?_
    simp only [h4, zay, decide_true, zag, s_br, if_true, zeM, zb9, Nat.zero_add, h.st.l3, n6, n1, zi7 hl9]
    unfold zdT at hbad
    cases hq : zce n.name 0 K with
    | none =>
      rw [hq] at hbad
      simp only [x01, zae (c44 n.name H), za4, zag, s_br]
      cases hno : zij n.name with
      | true => rw [hno] at hbad; cases hbad
      | false => simp [zao, zbM, zb4]
    | some q =>
      rw [hq] at hbad
      simp only [x01, zae (c44 n.name H), za4, zag, s_br, zbY]
      cases hno : zij n.name with
      | true =>
        rw [hno] at hbad
        have hne : q.2 ≠ n.w := by simpa using hbad
        simp [hne, zao, zbM, zb4]
      | false => simp [zao, zbM, zb4]
  by_cases hbad : n.op = 4 ∧ zdT K n = true
  · exact stay 72 (by unfold zdt; rw [if_neg hop, if_neg hww, if_neg hpa, if_neg hsp, hso, if_neg (by decide), hwi, if_neg (by decide), if_pos hbad]) (by decide) (hnm hbad.1 hbad.2)
  have herr : zdt L K n = 0 := by unfold zdt; rw [if_neg hop, if_neg hww, if_neg hpa, if_neg hsp, hso, if_neg (by decide), hwi, if_neg (by decide), if_neg hbad]
  have hmk : mkR lim L K n = okR lim L K n := by unfold mkR; rw [herr]; rfl
  rw [hmk]
  have hgood : n.op = 4 → zdT K n = false := fun h4 => by
    cases e : zdT K n with
    | true => exact absurd ⟨h4, e⟩ hbad
    | false => rfl
  obtain ⟨H', sl', hr, hm⟩ := rest_ok h n (fun h4 j u hq => by
    have hb := hgood h4
    unfold zdT at hb
    rw [hq] at hb
    simp at hb
    exact hb.2) hb
  refine ⟨H', sl', hrun.trans ?_, hm⟩
  rw [← hr]
  unfold restM
  by_cases h4 : n.op = 4
  · have hb := hgood h4
    unfold zdT at hb
    cases hq : zce n.name 0 K with
    | none =>
      rw [hq] at hb hl9
      have hno : zij n.name = true := by simpa using hb
      simp only [h4, zay, decide_true, zag, s_br, if_true, zeM, zb9, Nat.zero_add, h.st.l3, n0, n6, n1, zi7 hl9, x01, zae (c44 n.name H), za4, hno, Bool.not_true, Bool.false_eq_true, if_false, zao, zai]
    | some q =>
      rw [hq] at hb hl9
      have hno : zij n.name = true ∧ q.2 = n.w := by simpa using hb
      simp only [h4, zay, decide_true, zag, s_br, if_true, zeM, zb9, Nat.zero_add, h.st.l3, n0, n6, n1, zi7 hl9, x01, zae (c44 n.name H), za4, zbY, hno.1, hno.2, Bool.not_true, Bool.false_eq_true, if_false, zao, zai, ne_eq, not_true_eq_false, decide_false]
  · simp only [n0, n1, n6, zeM, zb9, Nat.zero_add, h4, zay, decide_false, zag, s_br, Bool.false_eq_true, if_false, zao, zai]
end Go.AM
namespace Go.AM
open Go
theorem bld {α : Type} {P : Program} {t : TypeId} {l : List (Nat × Value)} {v : Value} (h : znd P t l = some v) (k : Value → Option α) : zar P t l k = k v := by unfold zar; rw [h]
section
variable {α : Type} (k : Value → Option α)
theorem b0 (o : Int) : zar PP T.api_Node [(0, .int .i64 o)] k = k (Nd.val ⟨o, 0, 0, 0, 0, 0, ⟨#[]⟩⟩) := bld (by kernel_rfl) k
theorem b015 (o : Int) (w : Int) (x : Int) : zar PP T.api_Node [(0, .int .i64 o), (1, .int .i64 w), (5, .int .u64 x)] k = k (Nd.val ⟨o, w, 0, 0, 0, x, ⟨#[]⟩⟩) := bld (by kernel_rfl) k
theorem b016 (o : Int) (w : Int) (s : ByteArray) : zar PP T.api_Node [(0, .int .i64 o), (1, .int .i64 w), (6, .string s)] k = k (Nd.val ⟨o, w, 0, 0, 0, 0, s⟩) := bld (by kernel_rfl) k
end
abbrev Res := Int × Int × List Nd × List (ByteArray × Int)
def Does (H : Hp) (p : Nat) (lim : Int) (sl : Value) (f g : Nat) (fn : FuncId) (args : List Value) (r : Res) : Prop :=
  ∃ H' sl', RR fn (.pointer (some ⟨p, 0, none⟩) :: args) H = some (.tuple #[.int .i64 r.1, .int .i64 r.2.1], H') ∧ MkOk H p lim sl f g r H' sl'
theorem Does.wrap {H : Hp} {p : Nat} {lim : Int} {sl : Value} {f g : Nat} {fn fm : FuncId} {xs bs : List Value} {r : Res} (h : Does H p lim sl f g fn xs r)
    (e : RR fm (.pointer (some ⟨p, 0, none⟩) :: bs) H = zaf RR fn (.pointer (some ⟨p, 0, none⟩) :: xs) H fun r H' => zah r 0 fun a => zah r 1 fun b => some (.tuple #[a, b], H')) : Does H p lim sl f g fm bs r := by
  obtain ⟨H', sl', h1, h2⟩ := h
  refine ⟨H', sl', ?_, h2⟩
  rw [e, zae h1]; rfl
structure znl (L : List Nd) : Prop where
  w : ∀ m ∈ L, 0 ≤ m.w ∧ m.w ≤ 64
  l : (L.length + 1) * 64 ≤ 2 ^ 47
section
variable {H : Hp} {p f g : Nat} {lim : Int} {L : List Nd} {K : List (ByteArray × Int)} {sl : Value} (h : StF H p lim L K sl f g) (hR : znl L)
include h hR
theorem d22 (n : Nd) (hn : 0 ≤ n.num ∧ n.num < 18446744073709551616) : Does H p lim sl f g F.a12 [n.val] (mkR lim L K n) := c22 h n hn hR.w hR.l
def zkt (b : Bool) : Nd := ⟨if b then 1 else 2, 0, 0, 0, 0, 0, ⟨#[]⟩⟩
omit h hR in
theorem nz : (0 : Int) ≤ 0 ∧ (0 : Int) < 18446744073709551616 := by decide
theorem d23 (b : Bool) : Does H p lim sl f g F.a123 [.bool b] (mkR lim L K (zkt b)) :=
  (d22 h hR (zkt b) nz).wrap (by refine (zg4 E0 rfl _ _ _).trans ?_; unfold zd2; simp only [zag, b0]; cases b <;> rfl)
def zpa (w x : Int) : Nd := ⟨3, w, 0, 0, 0, zfe w x, ⟨#[]⟩⟩
omit h hR in
theorem trim_bd (w x : Int) (hx : 0 ≤ x ∧ x < 18446744073709551616) : 0 ≤ zfe w x ∧ zfe w x < 18446744073709551616 := by
  unfold zfe
  split
  · omega
  · split
    · omega
    · have h2 : (0 : Int) < 2 ^ w.toNat := Int.pow_pos (by decide)
      have := Int.emod_nonneg x (show (2 : Int) ^ w.toNat ≠ 0 by omega)
      have h3 : x % 2 ^ w.toNat ≤ x := by
        obtain ⟨n, rfl⟩ := Int.eq_ofNat_of_zero_le hx.1
        have e : ((n : Int) % 2 ^ w.toNat) = ((n % 2 ^ w.toNat : Nat) : Int) := by simp
        rw [e]
        exact Int.ofNat_le.2 (Nat.mod_le _ _)
      omega
theorem d24 (w x : Int) (hx : 0 ≤ x ∧ x < 18446744073709551616) : Does H p lim sl f g F.a81 [.int .i64 w, .int .u64 x] (mkR lim L K (zpa w x)) :=
  (d22 h hR (zpa w x) (trim_bd w x hx)).wrap (by refine (zg6 E0 rfl _ _ _ _).trans ?_; unfold zd4; simp only [zae (c45 w x hx.1 hx.2 H), b015]; rfl)
def varN (s : ByteArray) (w : Int) : Nd := ⟨4, w, 0, 0, 0, 0, s⟩
theorem d20 (s : ByteArray) (w : Int) : Does H p lim sl f g F.a124 [.string s, .int .i64 w] (mkR lim L K (varN s w)) :=
  (d22 h hR (varN s w) nz).wrap (by refine (ziC E0 rfl _ _ _ _).trans ?_; unfold ze4; simp only [b016]; rfl)
end
end Go.AM
namespace Go.AM
open Go
theorem spl7 {α : Type} (n : Nd) (k : List Value → Option α) : zac 7 [.int .i64 0, .int .i64 0, .int .i64 0, .int .i64 0, .int .i64 0, .int .u64 0, .string ⟨#[]⟩] 0 n.val k = k n.cells := by
  have : zdz 7 [.int .i64 0, .int .i64 0, .int .i64 0, .int .i64 0, .int .i64 0, .int .u64 0, .string ⟨#[]⟩] 0 n.val = some n.cells := by kernel_rfl
  unfold zac; rw [this]
theorem ncell1 {α : Type} (n : Nd) (k : Value → Option α) : zab 1 false n.cells 1 k = k (.int .i64 n.w) := ze1 _ 1 _ rfl k
section
variable {H : Hp} {p f g : Nat} {lim : Int} {L : List Nd} {K : List (ByteArray × Int)} {sl : Value} (h : StF H p lim L K sl f g) (hR : znl L)
include h hR
end
end Go.AM
namespace Go.AM
open Go
structure OpA where
  kind : Int
  o : Int
  a : Int
  b : Int
  c : Int
  w : Int
  t : Bool
  x : Int
  name : ByteArray
  n : Nd
section
variable {α : Type} (o : OpA) (k : Value → Option α)
end
section
variable {H : Hp} {p f g : Nat} {lim : Int} {L : List Nd} {K : List (ByteArray × Int)} {sl : Value} (h : StF H p lim L K sl f g) (hR : znl L)
include h hR
end
theorem new61 {α : Type} (lim : Int) (v w : Nat) (k : Value → Option α) : zar PP T.term_Store [(0, .int .i64 lim), (2, .map (some v)), (3, .map (some w))] k = k (.agg #[.int .i64 lim, .slice none 0 0, .map (some v), .map (some w)]) := bld (by kernel_rfl) k
def newH (lim : Int) (H : Hp) : Hp := ((H.new (.map [])).new (.map [])).new (.cells [.int .i64 lim, .slice none 0 0, .map (some H.next), .map (some (H.next + 1))] true)
theorem newH_st (lim : Int) (H : Hp) : StF (newH lim H) (H.next + 2) lim [] [] (.slice none 0 0) H.next (H.next + 1) := by
  refine ⟨⟨?_, .inl ⟨rfl, rfl⟩⟩, ?_, ?_, by omega, by omega, by omega, ?_, ?_, ?_, fun i hi => by cases hi⟩
  · exact if_pos rfl
  · unfold newH; rw [zhE, if_neg (by show ¬ H.next = H.next + 1 + 1; omega), zhE, if_neg (by show ¬ H.next = H.next + 1; omega), zhE, if_pos rfl]; rfl
  · unfold newH; rw [zhE, if_neg (by show ¬ H.next + 1 = H.next + 1 + 1; omega), zhE]; exact if_pos rfl
  · show H.next + 2 < H.next + 1 + 1 + 1; omega
  · show H.next < H.next + 1 + 1 + 1; omega
  · show H.next + 1 < H.next + 1 + 1 + 1; omega
theorem ziP (lim : Int) (H : Hp) (j : Nat) (hj : j < H.next) : (newH lim H).get j = H.get j := by
  unfold newH
  rw [zhE, if_neg (by show ¬ j = H.next + 1 + 1; omega), zhE, if_neg (by show ¬ j = H.next + 1; omega), zhE, if_neg (by omega)]
theorem zmN (lim : Int) (H : Hp) : (newH lim H).next = H.next + 3 := rfl
theorem c16 (lim : Int) (H : Hp) : RR F.a80 [.int .i64 lim] H = if lim < 0 then some (.tuple #[.pointer none, .int .i64 1], H) else some (.tuple #[.pointer (some ⟨H.next + 2, 0, none⟩), .int .i64 0], newH lim H) := by
  refine (zps E0 rfl _ _).trans ?_
  unfold zkR
  simp only [zbj, zag, s_br, decide_eq_true_eq, zc4, ze2, new61]
  rfl
end Go.AM
namespace Go.AM
open Go
def Foot (p f g : Nat) (sl : Value) (i : Nat) : Prop := i = p ∨ i = f ∨ i = g ∨ slId sl = some i
theorem StF.foot_lt {H : Hp} {p f g : Nat} {lim : Int} {L : List Nd} {K : List (ByteArray × Int)} {sl : Value} (h : StF H p lim L K sl f g) {i : Nat} (hi : Foot p f g sl i) : i < H.next := by
  rcases hi with rfl | rfl | rfl | hi
  · exact h.lp
  · exact h.lf
  · exact h.lg
  · exact (h.sa i hi).2.2.2
theorem StF.keep {H H' : Hp} {p f g : Nat} {lim : Int} {L : List Nd} {K : List (ByteArray × Int)} {sl : Value} (h : StF H p lim L K sl f g) (hg : ∀ i, Foot p f g sl i → H'.get i = H.get i) (hn : H.next ≤ H'.next) : StF H' p lim L K sl f g := by
  refine ⟨⟨?_, ?_⟩, ?_, ?_, h.pf, h.pg, h.fg, Nat.lt_of_lt_of_le h.lp hn, Nat.lt_of_lt_of_le h.lf hn, Nat.lt_of_lt_of_le h.lg hn, fun i hi => ?_⟩
  · rw [hg p (.inl rfl)]; exact h.st.obj
  · rcases h.st.all with e | ⟨j, e, hj⟩
    · exact .inl e
    · exact .inr ⟨j, e, by rw [hg j (.inr (.inr (.inr (by rw [e]; rfl))))]; exact hj⟩
  · rw [hg f (.inr (.inl rfl))]; exact h.fm
  · rw [hg g (.inr (.inr (.inl rfl)))]; exact h.gm
  · obtain ⟨a, b, c, d⟩ := h.sa i hi
    exact ⟨a, b, c, Nat.lt_of_lt_of_le d hn⟩
theorem MkOk.foot {H H' : Hp} {p f g : Nat} {lim : Int} {sl sl' : Value} {r : Res} (h : MkOk H p lim sl f g r H' sl') {i : Nat} (hi : Foot p f g sl' i) : Foot p f g sl i ∨ H.next ≤ i := by
  rcases hi with e | e | e | e
  · exact .inl (.inl e)
  · exact .inl (.inr (.inl e))
  · exact .inl (.inr (.inr (.inl e)))
  · exact (h.own i e).imp (fun q => .inr (.inr (.inr q))) id
theorem MkOk.same {H H' : Hp} {p f g : Nat} {lim : Int} {sl sl' : Value} {r : Res} (h : MkOk H p lim sl f g r H' sl') {i : Nat} (hl : i < H.next) (hi : ¬ Foot p f g sl i) : H'.get i = H.get i :=
  h.frame i hl (fun e => hi (.inl e)) (fun e => hi (.inr (.inl e))) (fun e => hi (.inr (.inr (.inl e)))) (fun e => hi (.inr (.inr (.inr e))))
end Go.AM
namespace Go.AM
open Go
theorem s_bneq {α : Type} {P : Program} (T : TypeId) (a b : Bool) (hT : P.underlying T = some .bool) (k : Value → Option α) : pBin P .neq T (.bool a) (.bool b) k = k (.bool (!(a == b))) := by
  have : eqT P Op.maxDepth T (.bool a) (.bool b) = some (a == b) := by
    unfold Op.maxDepth
    simp only [eqT, hT]
  simp only [pBin, binV, eqOp, this]
end Go.AM
namespace Go.AM
open Go
theorem und4 : Program.underlying PP T.bool = some .bool := by kernel_rfl
theorem zan {α : Type} (x y : Option α) : br false x y = y := rfl
theorem zap {α : Type} (x y : Option α) : br true x y = x := rfl
end Go.AM
namespace Go.AM.N14
open Go Go.AM
theorem zft {n : Nat} (hn : n ≤ 64) (x : W64) : (x &&& msk n).toNat = x.toNat % 2 ^ n := by
  rw [BitVec.toNat_and, zep n hn, Nat.and_two_pow_sub_one_eq_mod]
theorem zld {n : Nat} (h0 : 1 ≤ n) (hn : n ≤ 64) (x : W64) : zfe (n : Int) (x.toNat : Int) = ((x &&& msk n).toNat : Int) := by
  unfold zfe
  rw [if_neg (by omega), zft hn]
  by_cases h : n = 64
  · subst h
    rw [if_pos (by decide), Nat.mod_eq_of_lt x.isLt]
  · rw [if_neg (by omega), Int.toNat_natCast]
    simp
theorem zbG {n : Nat} (h0 : 1 ≤ n) (hn : n ≤ 64) (x : W64) (H : Hp) : RR F.a0 [.int .i64 (n : Int), wv x] H = some (wv (x &&& msk n), H) := by
  have := c45 (n : Int) (x.toNat : Int) (by omega) (by have := x.isLt; omega) H
  rw [zld h0 hn] at this
  exact this
theorem zcL {n : Nat} (h0 : 1 ≤ n) (hn : n ≤ 64) (x : W64) (H : Hp) : RR F.a1 [.int .i64 (n : Int), wv x] H = some (wv (x &&& msk n), H) := by
  have := c51 (n : Int) (x.toNat : Int) (by omega) H
  rw [zld h0 hn] at this
  exact this
theorem zc3 {n : Nat} (h0 : 1 ≤ n) (hn : n ≤ 64) (H : Hp) : RR F.a8 [.int .i64 (n : Int)] H = some (.bool true, H) := by
  refine (zmw E0 rfl _ _).trans ?_
  unfold zix
  rw [zbg, bT (by omega), zbE, decide_eq_true (by omega)]
theorem zc2 {n : Nat} (h0 : 1 ≤ n) (hn : n ≤ 64) (H : Hp) : RR F.a9 [.int .i64 (n : Int)] H = some (.bool true, H) := by
  refine (zf3 E0 rfl _ _).trans ?_
  unfold zdn
  rw [zbg, bT (by omega), zbE, decide_eq_true (by omega)]
def sg (n : Nat) (x : W64) : Int := (x.setWidth n).toInt
theorem sg_eq {n : Nat} (x : W64) : sg n x = if 2 * (x.toNat % 2 ^ n) < 2 ^ n then ((x.toNat % 2 ^ n : Nat) : Int) else ((x.toNat % 2 ^ n : Nat) : Int) - ((2 ^ n : Nat) : Int) := by
  unfold sg
  rw [BitVec.toInt_eq_toNat_cond, BitVec.toNat_setWidth]
theorem zo3 {α : Type} (y : W64) (k : Value → Option α) : zal .i64 (wv y) k = k (.int .i64 y.toInt) := by
  show k (.int .i64 (IntKind.i64.wrap (y.toNat : Int))) = _
  congr 2
  rw [BitVec.toInt_eq_toNat_cond]
  have := y.isLt
  simp only [IntKind.wrap, IntKind.signed, IntKind.bits]
  simp
  split <;> split <;> omega
theorem i_shr {α : Type} {P : Program} (T : TypeId) (a : Int) (kd : IntKind) (m : Nat) (hm : m ≤ 64) (k : Value → Option α) : pBin P .shr T (.int .i64 a) (.int kd (m : Int)) k = k (.int .i64 (a / (2 : Int) ^ m)) := by
  have : binV P .shr T (.int .i64 a) (.int kd (m : Int)) = some (.int .i64 (a / (2 : Int) ^ m)) := by
    show (if (m : Int) < 0 then none else some (Value.int .i64 (a.fdiv (2 ^ (min ((m : Int).toNat) 64))))) = _
    rw [if_neg (by omega), Int.toNat_natCast, Nat.min_eq_left hm, Int.fdiv_eq_ediv_of_nonneg _ (Int.le_of_lt (Int.pow_pos (by decide)))]
  unfold pBin; rw [this]
theorem sg_shift {n : Nat} (h0 : 1 ≤ n) (hn : n ≤ 64) (x : W64) : (x <<< (64 - n)).toInt / (2 : Int) ^ (64 - n) = sg n x := by
  rw [sg_eq, BitVec.toInt_eq_toNat_cond, BitVec.toNat_shiftLeft, Nat.shiftLeft_eq]
  have e : (2 : Nat) ^ 64 = 2 ^ n * 2 ^ (64 - n) := by rw [← Nat.pow_add]; congr 1; omega
  have e1 : x.toNat * 2 ^ (64 - n) % 2 ^ 64 = x.toNat % 2 ^ n * 2 ^ (64 - n) := by rw [e, Nat.mul_mod_mul_right]
  rw [e1]
  have hp : 0 < 2 ^ (64 - n) := Nat.two_pow_pos _
  have ep : ((2 : Int) ^ (64 - n)) = ((2 ^ (64 - n) : Nat) : Int) := by push_cast; rfl
  rw [ep]
  generalize x.toNat % 2 ^ n = t
  generalize hm : 2 ^ (64 - n) = m at *
  have e2 : (2 * (t * m) < 2 ^ 64) ↔ 2 * t < 2 ^ n := by
    rw [e, show 2 * (t * m) = 2 * t * m by rw [Nat.mul_assoc]]
    exact Nat.mul_lt_mul_right hp
  have hm0 : (m : Int) ≠ 0 := by omega
  by_cases h : 2 * t < 2 ^ n
  · rw [if_pos h, if_pos (e2.2 h)]
    push_cast
    rw [Int.mul_ediv_cancel _ hm0]
  · rw [if_neg h, if_neg (fun q => h (e2.1 q)), e]
    have : ((t * m : Nat) : Int) - ((2 ^ n * m : Nat) : Int) = (((t : Nat) : Int) - ((2 ^ n : Nat) : Int)) * (m : Int) := by
      rw [Int.natCast_mul, Int.natCast_mul, Int.sub_mul]
    rw [this, Int.mul_ediv_cancel _ hm0]
theorem zhn {n : Nat} (h0 : 1 ≤ n) (hn : n ≤ 64) (x : W64) (H : Hp) : RR F.a6 [.int .i64 (n : Int), wv x] H = some (.int .i64 (sg n x), H) := by
  refine (zlw E0 rfl _ _ _).trans ?_
  unfold zhB
  have e : IntKind.i64.wrap (64 - (n : Int)) = ((64 - n : Nat) : Int) := by rw [zax (by omega) (by omega)]; omega
  rw [zae (zc3 h0 hn H), za4, zag, show (!true) = false from rfl, zan, zb0, e, cu64 _ (by omega), zb2, zo3, i_shr _ _ _ _ (by omega), sg_shift h0 hn]
theorem q_bit {x : W64} {i : Nat} (hi : i < 2 ^ 60) (H : Hp) : RR F.a32 [wv x, .int .i64 (i : Int)] H = some (.int .u64 (if x.getLsbD i then 1 else 0), H) := by
  refine (zhf E0 rfl _ _ _).trans ?_
  unfold zec
  rw [cu64 _ (by omega), zc8]
  have : ∀ (k : Value → Option (Value × Hp)), pBin PP .rem T.uint64 (wv (x >>> i)) (.int .u64 2) k = k (.int .u64 (if x.getLsbD i then 1 else 0)) := fun k => by
    unfold wv
    rw [zkc _ _ _ _ (by decide)]
    congr 2
    rw [Int.tmod_eq_emod_of_nonneg (by omega), BitVec.toNat_ushiftRight]
    have hb : x.getLsbD i = x.toNat.testBit i := rfl
    rw [hb, Nat.testBit_eq_decide_div_mod_eq, Nat.shiftRight_eq_div_pow]
    have h2 : x.toNat / 2 ^ i % 2 < 2 := Nat.mod_lt _ (by decide)
    by_cases q : x.toNat / 2 ^ i % 2 = 1
    · rw [decide_eq_true q, if_pos rfl]; omega
    · rw [decide_eq_false q, if_neg (by decide)]; omega
  rw [this]
theorem zkv {n : Nat} (h0 : 1 ≤ n) (hn : n ≤ 64) (x : W64) : sg n x = if (x &&& msk n).getLsbD (n - 1) = true then ((x &&& msk n).toNat : Int) - ((2 ^ n : Nat) : Int) else ((x &&& msk n).toNat : Int) := by
  rw [sg_eq, zft hn]
  have hb : (x &&& msk n).getLsbD (n - 1) = (x &&& msk n).toNat.testBit (n - 1) := rfl
  rw [hb, zft hn, Nat.testBit_eq_decide_div_mod_eq]
  have ht : x.toNat % 2 ^ n < 2 ^ n := Nat.mod_lt _ (Nat.two_pow_pos _)
  generalize x.toNat % 2 ^ n = t at *
  have e : 2 ^ n = 2 * 2 ^ (n - 1) := by rw [← Nat.pow_succ']; congr 1; omega
  have hp : 0 < 2 ^ (n - 1) := Nat.two_pow_pos _
  have hd : t / 2 ^ (n - 1) < 2 := Nat.div_lt_of_lt_mul (by omega)
  by_cases h : 2 * t < 2 ^ n
  · have : t / 2 ^ (n - 1) = 0 := Nat.div_eq_of_lt (by omega)
    rw [if_pos h, this, if_neg (by decide)]
  · have : t / 2 ^ (n - 1) = 1 := by
      have : 1 ≤ t / 2 ^ (n - 1) := (Nat.le_div_iff_mul_le hp).2 (by omega)
      omega
    rw [if_neg h, this, if_pos (by decide)]
theorem zhl {n : Nat} (h0 : 1 ≤ n) (hn : n ≤ 64) (x : W64) (H : Hp) : RR F.a25 [.int .i64 (n : Int), wv x] H = some (.int .i64 (sg n x), H) := by
  refine (zfm E0 rfl _ _ _).trans ?_
  unfold zcV
  have e : IntKind.i64.wrap ((n : Int) - 1) = ((n - 1 : Nat) : Int) := by rw [zax (by omega) (by omega)]; omega
  rw [zae (zc2 h0 hn H), za4, zag, show (!true) = false from rfl, zan, zae (zcL h0 hn x H), zb0, e, zae (q_bit (by omega) H), zay, zag, zkv h0 hn]
  have hlt : (x &&& msk n).toNat < 2 ^ n := by rw [zft hn]; exact Nat.mod_lt _ (Nat.two_pow_pos _)
  by_cases hb : (x &&& msk n).getLsbD (n - 1) = true
  · rw [if_pos hb, if_pos hb, decide_eq_true rfl, zap, zbj, zag]
    by_cases h64 : n = 64
    · subst h64
      rw [decide_eq_false (by decide), zan, zo3, BitVec.toInt_eq_toNat_cond]
      have hb2 : (x &&& msk 64).toNat.testBit 63 = true := hb
      rw [Nat.testBit_eq_decide_div_mod_eq, decide_eq_true_eq] at hb2
      rw [if_neg (by omega)]
    · have hlt64 : (n : Int) < 64 := by omega
      rw [decide_eq_true hlt64, zap, zo3, cu64 _ (by omega)]
      have hp : 2 ^ n ≤ 2 ^ 63 := Nat.pow_le_pow_right (by decide) (by omega)
      have es : ∀ (k : Value → Option (Value × Hp)), pBin PP .shl T.int64 (.int .i64 1) (.int .u64 (n : Int)) k = k (.int .i64 (IntKind.i64.wrap ((2 ^ n : Nat) : Int))) := fun k => by
        rw [s_shl _ _ _ _ _ (by omega), Int.toNat_natCast, Nat.min_eq_left (by show n ≤ 64; omega), Int.one_mul]
        congr 3
      rw [es, zb0]
      congr 3
      have ei : (x &&& msk n).toInt = ((x &&& msk n).toNat : Int) := by
        rw [BitVec.toInt_eq_toNat_cond, if_pos (by omega)]
      rw [ei]
      have : ∀ a b : Int, IntKind.i64.wrap (a - IntKind.i64.wrap b) = IntKind.i64.wrap (a - b) := fun a b => by
        simp only [IntKind.wrap, IntKind.signed, IntKind.bits]
        simp
        split <;> split <;> split <;> omega
      rw [this, zax (by omega) (by omega)]
  · rw [if_neg hb, if_neg hb, decide_eq_false (by decide), zan, zo3, BitVec.toInt_eq_toNat_cond]
    have hb2 : ¬ (x &&& msk n).toNat.testBit (n - 1) = true := hb
    rw [Nat.testBit_eq_decide_div_mod_eq, decide_eq_true_eq] at hb2
    have e2 : 2 ^ n = 2 * 2 ^ (n - 1) := by rw [← Nat.pow_succ']; congr 1; omega
    have hp : 0 < 2 ^ (n - 1) := Nat.two_pow_pos _
    have hp63 : 2 ^ (n - 1) ≤ 2 ^ 63 := Nat.pow_le_pow_right (by decide) (by omega)
    have hd : (x &&& msk n).toNat / 2 ^ (n - 1) < 2 := Nat.div_lt_of_lt_mul (by omega)
    have hz : (x &&& msk n).toNat / 2 ^ (n - 1) = 0 := by
      generalize (x &&& msk n).toNat / 2 ^ (n - 1) = qq at hd hb2
      omega
    have : (x &&& msk n).toNat < 2 ^ (n - 1) := by
      rcases Nat.lt_or_ge (x &&& msk n).toNat (2 ^ (n - 1)) with q | q
      · exact q
      · have := Nat.div_pos q hp
        omega
    rw [if_pos (by omega)]
end Go.AM.N14
namespace Go.AM.N14
open Go Go.AM
def atM (op : Int) (n k j : Nat) : Option Nat :=
  if op = 25 then (if k ≤ j then some (j - k) else none) else if op = 26 then (if j + k < n then some (j + k) else none) else if op = 27 then some (min (j + k) (n - 1)) else if op = 28 then some ((j + n - k) % n) else some ((j + k) % n)
def zdS (x : W64) : Option Nat → Bool
  | some i => x.getLsbD i
  | none => false
def zhL (op : Int) (n : Nat) (x : W64) (k : Nat) (v : W64) : Prop := ∀ j, v.getLsbD j = (decide (j < n) && zdS x (atM op n k j))
theorem zhL.eq {op : Int} {n : Nat} {x : W64} {k : Nat} {v w : W64} (h1 : zhL op n x k v) (h2 : zhL op n x k w) : v = w := zbL fun j => by rw [h1 j, h2 j]
theorem bit_wv (c : Bool) : Value.int .u64 (if c = true then 1 else 0) = wv (if c = true then 1#64 else 0#64) := by cases c <;> rfl
theorem dbl_bit (v : W64) (c : Bool) (j : Nat) : (2#64 * v + (if c = true then 1#64 else 0#64)).getLsbD j = (decide (j < 64) && (if j = 0 then c else v.getLsbD (j - 1))) := by
  have e : 2#64 * v = v <<< 1 := BitVec.eq_of_toNat_eq (by rw [BitVec.toNat_mul, BitVec.toNat_shiftLeft, Nat.shiftLeft_eq, Nat.mul_comm]; rfl)
  have e2 : v <<< 1 + (if c = true then 1#64 else 0#64) = v <<< 1 ||| (if c = true then 1#64 else 0#64) := by
    apply BitVec.add_eq_or_of_and_eq_zero
    refine zbL fun i => ?_
    rw [BitVec.getLsbD_and, BitVec.getLsbD_shiftLeft]
    cases c with
    | false => simp
    | true =>
      simp only [if_true]
      by_cases hi : i = 0
      · subst hi; simp
      · have : (1#64).getLsbD i = false := by
          rw [BitVec.getLsbD_one]; simp [hi]
        rw [this]; simp
  rw [e, e2, BitVec.getLsbD_or, BitVec.getLsbD_shiftLeft]
  by_cases h64 : j < 64
  · by_cases hj : j = 0
    · subst hj; cases c <;> simp
    · have h1 : (if c = true then 1#64 else 0#64).getLsbD j = false := by
        cases c with
        | false => simp
        | true => simp only [if_true]; rw [BitVec.getLsbD_one]; simp [hj]
      rw [h1]
      have : ¬ j < 1 := by omega
      simp [h64, this, hj]
  · have h1 : (if c = true then 1#64 else 0#64).getLsbD j = false := BitVec.getLsbD_of_ge _ _ (by omega)
    rw [h1]
    simp [h64]
theorem q_step {op : Int} (hop : 25 ≤ op ∧ op ≤ 29) {n k i : Nat} (hn : n ≤ 64) (hk : k < n) (hi : i < n) (x v : W64) (H : Hp) :
    zbc RR (.int .i64 op) (.int .i64 (n : Int)) (wv x) (.int .i64 (k : Int)) [wv v, .int .i64 (i : Int)] H = some (.next, [wv (2#64 * v + (if zdS x (atM op n k i) = true then 1#64 else 0#64)), .int .i64 ((i : Int) - 1)], H) := by
  have g0 : decide ((i : Int) ≥ 0) = true := decide_eq_true (by omega)
  have w1 : IntKind.i64.wrap ((i : Int) - 1) = (i : Int) - 1 := zax (by omega) (by omega)
  have two : Value.int .u64 2 = wv 2#64 := rfl
  have some_case : ∀ t : Nat, atM op n k i = some t → t < 2 ^ 60 → (pBin PP .mul T.uint64 (.int .u64 2) (wv v) fun v32 =>
      pBin PP .geq T.int (.int .i64 (t : Int)) (.int .i64 0) fun v33 =>
      zad v33 fun b34 => br b34
      (zaf RR F.a32 [wv x, .int .i64 (t : Int)] H fun r35 H36 =>
      pBin PP .add T.uint64 v32 r35 fun v37 =>
      pBin PP .sub T.int (.int .i64 (i : Int)) (.int .i64 1) fun v38 =>
      some (Ctl.next, [v37, v38], H36))
      (pBin PP .sub T.int (.int .i64 (i : Int)) (.int .i64 1) fun v39 =>
      some (Ctl.next, [v32, v39], H))) = some (.next, [wv (2#64 * v + (if zdS x (atM op n k i) = true then 1#64 else 0#64)), .int .i64 ((i : Int) - 1)], H) := fun t ht hlt => by
    rw [two, zeY, zbg, bT (by omega), zae (q_bit hlt H), bit_wv, zgV, zb0, w1, ht]
    rfl
  have none_case : ∀ z : Int, atM op n k i = none → z < 0 → (pBin PP .mul T.uint64 (.int .u64 2) (wv v) fun v32 =>
      pBin PP .geq T.int (.int .i64 z) (.int .i64 0) fun v33 =>
      zad v33 fun b34 => br b34
      (zaf RR F.a32 [wv x, .int .i64 z] H fun r35 H36 =>
      pBin PP .add T.uint64 v32 r35 fun v37 =>
      pBin PP .sub T.int (.int .i64 (i : Int)) (.int .i64 1) fun v38 =>
      some (Ctl.next, [v37, v38], H36))
      (pBin PP .sub T.int (.int .i64 (i : Int)) (.int .i64 1) fun v39 =>
      some (Ctl.next, [v32, v39], H))) = some (.next, [wv (2#64 * v + (if zdS x (atM op n k i) = true then 1#64 else 0#64)), .int .i64 ((i : Int) - 1)], H) := fun z ht hlt => by
    rw [two, zeY, zbg, bF (by omega), zb0, w1, ht]
    show some (Ctl.next, [wv (2#64 * v), _], H) = some (Ctl.next, [wv (2#64 * v + 0#64), _], H)
    rw [BitVec.add_zero]
  unfold zbc
  simp only [qg0, qg1]
  rw [zbg, zag, g0, zap, zay, zag]
  by_cases h25 : op = 25
  · subst h25
    rw [decide_eq_true rfl, zap, zb0, zax (by omega) (by omega), zao, zai]
    simp only [qg0]
    by_cases hki : k ≤ i
    · rw [show (i : Int) - (k : Int) = ((i - k : Nat) : Int) by omega]
      exact some_case (i - k) (by unfold atM; rw [if_pos rfl, if_pos hki]) (by omega)
    · exact none_case _ (by unfold atM; rw [if_pos rfl, if_neg hki]) (by omega)
  rw [decide_eq_false h25, zan, zay, zag]
  by_cases h26 : op = 26
  · subst h26
    rw [decide_eq_true rfl, zap, za6, zax (by omega) (by omega), zbg, zag]
    by_cases hki : i + k < n
    · rw [decide_eq_false (by omega), zan, zao, zai]
      simp only [qg0]
      rw [show (i : Int) + (k : Int) = ((i + k : Nat) : Int) by omega]
      exact some_case (i + k) (by unfold atM; rw [if_neg (by decide), if_pos rfl, if_pos hki]) (by omega)
    · rw [decide_eq_true (by omega), zap, zao, zai]
      simp only [qg0]
      exact none_case _ (by unfold atM; rw [if_neg (by decide), if_pos rfl, if_neg hki]) (by omega)
  rw [decide_eq_false h26, zan, zay, zag]
  by_cases h27 : op = 27
  · subst h27
    rw [decide_eq_true rfl, zap, za6, zax (by omega) (by omega), zb0, zax (by omega) (by omega)]
    have hm : ∀ (f : Value → Option Outc), pMM false [.int .i64 ((i : Int) + (k : Int)), .int .i64 ((n : Int) - 1)] f = f (.int .i64 ((min (i + k) (n - 1) : Nat) : Int)) := fun f => by
      show f (.int .i64 (if (n : Int) - 1 < (i : Int) + (k : Int) then (n : Int) - 1 else (i : Int) + (k : Int))) = _
      congr 2
      split <;> omega
    rw [hm, zao, zai]
    simp only [qg0]
    exact some_case _ (by unfold atM; rw [if_neg (by decide), if_neg (by decide), if_pos rfl]) (by omega)
  rw [decide_eq_false h27, zan, zay, zag]
  by_cases h28 : op = 28
  · subst h28
    rw [decide_eq_true rfl, zap, zb0, zax (by omega) (by omega), za6, zax (by omega) (by omega), zkc _ _ _ _ (by omega), zao, zai]
    simp only [qg0]
    have e : ((i : Int) - (k : Int) + (n : Int)).tmod (n : Int) = (((i + n - k) % n : Nat) : Int) := by
      rw [show (i : Int) - (k : Int) + (n : Int) = ((i + n - k : Nat) : Int) by omega]
      rfl
    rw [e]
    have hlt : (i + n - k) % n < n := Nat.mod_lt _ (by omega)
    exact some_case _ (by unfold atM; rw [if_neg (by decide), if_neg (by decide), if_neg (by decide), if_pos rfl]) (by omega)
  rw [decide_eq_false h28, zan, eT (by omega), za6, zax (by omega) (by omega), zkc _ _ _ _ (by omega), zao, zai]
  simp only [qg0]
  have e : ((i : Int) + (k : Int)).tmod (n : Int) = (((i + k) % n : Nat) : Int) := by
    rw [show (i : Int) + (k : Int) = ((i + k : Nat) : Int) by omega]
    rfl
  rw [e]
  have hlt : (i + k) % n < n := Nat.mod_lt _ (by omega)
  exact some_case _ (by unfold atM; rw [if_neg h25, if_neg h26, if_neg h27, if_neg h28]) (by omega)
theorem q_loop {op : Int} (hop : 25 ≤ op ∧ op ≤ 29) {n k : Nat} (hn : n ≤ 64) (hk : k < n) (x : W64) (H : Hp) : ∀ (m : Nat) (v : W64), m ≤ n → (∀ j, v.getLsbD j = (decide (j + m < n) && zdS x (atM op n k (j + m)))) →
    ∃ v' : W64, zhL op n x k v' ∧ zaA (zbc RR (.int .i64 op) (.int .i64 (n : Int)) (wv x) (.int .i64 (k : Int))) [wv v, .int .i64 ((m : Int) - 1)] H = some (.exit 0, [wv v', .int .i64 (-1)], H)
  | 0, v, hm, hv => by
    refine ⟨v, fun j => by rw [hv j]; rfl, ?_⟩
    rw [zaq]
    have : zbc RR (.int .i64 op) (.int .i64 (n : Int)) (wv x) (.int .i64 (k : Int)) [wv v, .int .i64 (((0 : Nat) : Int) - 1)] H = some (.exit 0, [wv v, .int .i64 (-1)], H) := by
      unfold zbc
      simp only [qg0, qg1]
      rw [zbg, bF (by decide)]
      rfl
    rw [this]; rfl
  | m + 1, v, hm, hv => by
    obtain ⟨v', h1, h2⟩ := q_loop hop hn hk x H m (2#64 * v + (if zdS x (atM op n k m) = true then 1#64 else 0#64)) (by omega) (fun j => by
      rw [dbl_bit]
      by_cases hj : j = 0
      · subst hj
        rw [if_pos rfl, Nat.zero_add, decide_eq_true (by decide : 0 < 64), decide_eq_true (show m < n by omega)]
      · rw [if_neg hj, hv (j - 1), show j - 1 + (m + 1) = j + m by omega]
        by_cases h64 : j < 64
        · rw [decide_eq_true h64, Bool.true_and]
        · rw [decide_eq_false h64, decide_eq_false (show ¬ j + m < n by omega)]; rfl)
    refine ⟨v', h1, ?_⟩
    rw [zaq]
    have e : ((m + 1 : Nat) : Int) - 1 = ((m : Nat) : Int) := by omega
    rw [e, q_step hop hn hk (show m < n by omega) x v H]
    exact h2
theorem q_moved {op : Int} (hop : 25 ≤ op ∧ op ≤ 29) {n k : Nat} (hn : n ≤ 64) (hk : k < n) (x : W64) (H : Hp) : ∃ v : W64, zhL op n x k v ∧ RR F.a44 [.int .i64 op, .int .i64 (n : Int), wv x, .int .i64 (k : Int)] H = some (wv v, H) := by
  have hr := (zf1 E0 rfl (.int .i64 op) (.int .i64 (n : Int)) (wv x) (.int .i64 (k : Int)) H).trans (zf9 _ _ _ _ _ _)
  obtain ⟨v, h1, h2⟩ := q_loop hop hn hk x H n 0#64 (Nat.le_refl _) (fun j => by rw [decide_eq_false (by omega)]; simp)
  refine ⟨v, h1, hr.trans ?_⟩
  rw [zb0, zax (by omega) (by omega), show Value.int .u64 0 = wv 0#64 from rfl, h2, zao, zbq, zaT]
  rfl
end Go.AM.N14
namespace Go.AM.N14
open Go Go.AM
theorem znR {n k : Nat} (h0 : 1 ≤ n) (hn : n ≤ 64) (x : W64) : BitVec.ofInt 64 (sg n x / (2 : Int) ^ k) = ((x.setWidth n).signExtend 64).sshiftRight k := by
  have e1 : ((x.setWidth n).signExtend 64).toInt = sg n x := by
    rw [BitVec.toInt_signExtend_of_le hn]; rfl
  have e2 : (((x.setWidth n).signExtend 64).sshiftRight k).toInt = sg n x / (2 : Int) ^ k := by
    rw [BitVec.toInt_sshiftRight, e1, Int.shiftRight_eq_div_pow]
    norm_cast
  rw [← e2, BitVec.ofInt_toInt]
theorem sar_bits {n k : Nat} (h0 : 1 ≤ n) (hn : n ≤ 64) (hk : k < n) (x : W64) : zhL 27 n x k (((x.setWidth n).signExtend 64).sshiftRight k &&& msk n) := fun j => by
  rw [BitVec.getLsbD_and, zbe, BitVec.getLsbD_sshiftRight]
  have hat : atM 27 n k j = some (min (j + k) (n - 1)) := by
    unfold atM
    rw [if_neg (by decide), if_neg (by decide), if_pos rfl]
  rw [hat]
  show _ = (decide (j < n) && x.getLsbD (min (j + k) (n - 1)))
  by_cases hj : j < n
  · have h64 : j < 64 := by omega
    rw [decide_eq_true h64, decide_eq_true hj, decide_eq_false (show ¬ 64 ≤ j by omega)]
    have hs : ∀ i, i < 64 → ((x.setWidth n).signExtend 64).getLsbD i = x.getLsbD (min i (n - 1)) := fun i hi => by
      rw [BitVec.getLsbD_signExtend, BitVec.msb_eq_getLsbD_last, BitVec.getLsbD_setWidth, BitVec.getLsbD_setWidth]
      by_cases q : i < n
      · rw [if_pos q, Nat.min_eq_left (by omega)]; simp [hi, q]
      · rw [if_neg q, Nat.min_eq_right (by omega)]; simp [hi, show n - 1 < n by omega]
    have hm : ((x.setWidth n).signExtend 64).msb = x.getLsbD (n - 1) := by
      rw [BitVec.msb_eq_getLsbD_last, hs (64 - 1) (by decide), Nat.min_eq_right (by omega)]
    by_cases hjk : k + j < 64
    · rw [if_pos hjk, hs _ hjk, Nat.add_comm k j]; simp
    · rw [if_neg hjk, hm, Nat.min_eq_right (by omega)]; simp
  · rw [decide_eq_false hj]; simp
theorem zot {n k : Nat} (hn : n ≤ 64) (hk : k < n) {x : W64} : zhL 25 n x k (x <<< k &&& msk n) := fun j => by
  rw [BitVec.getLsbD_and, zbe, BitVec.getLsbD_shiftLeft]
  unfold atM zdS
  rw [if_pos rfl]
  by_cases hj : j < n
  · have h64 : j < 64 := by omega
    by_cases hk2 : k ≤ j
    · rw [if_pos hk2]; simp [hj, h64, show ¬ j < k by omega]
    · rw [if_neg hk2]; simp [show j < k by omega]
  · rw [decide_eq_false hj]; simp
theorem zos {n k : Nat} (hn : n ≤ 64) (hk : k < n) {x : W64} (hx : x.toNat ≤ (msk n).toNat) : zhL 26 n x k (x >>> k) := fun j => by
  have hz := (zaQ hn).1 hx
  rw [BitVec.getLsbD_ushiftRight]
  unfold atM zdS
  rw [if_neg (by decide), if_pos rfl]
  by_cases hj : j + k < n
  · rw [if_pos hj, Nat.add_comm k j]; simp [show j < n by omega]
  · rw [if_neg hj, hz _ (by omega)]; simp
theorem zow {n k : Nat} (hn : n ≤ 64) (hk : k < n) {x : W64} (hx : x.toNat ≤ (msk n).toNat) (j : Nat) : ((x <<< k ||| x >>> (n - k)) &&& msk n).getLsbD j = (decide (j < n) && x.getLsbD ((j + n - k) % n)) := by
  have hz := (zaQ hn).1 hx
  rw [BitVec.getLsbD_and, zbe, BitVec.getLsbD_or, BitVec.getLsbD_shiftLeft, BitVec.getLsbD_ushiftRight]
  by_cases hj : j < n
  · have h64 : j < 64 := by omega
    by_cases hk2 : k ≤ j
    · have : (j + n - k) % n = j - k := by
        rw [show j + n - k = (j - k) + n by omega, Nat.add_mod_right, Nat.mod_eq_of_lt (by omega)]
      rw [this, hz (n - k + j) (by omega)]
      simp [hj, h64, show ¬ j < k by omega]
    · have : (j + n - k) % n = n - k + j := by
        rw [Nat.mod_eq_of_lt (by omega)]; omega
      rw [this]
      simp [hj, h64, show j < k by omega]
  · rw [decide_eq_false hj]; simp
theorem p_moved {op : Int} (hop : 25 ≤ op ∧ op ≤ 29) {n k : Nat} (h0 : 1 ≤ n) (hn : n ≤ 64) (hk : k < n) {x : W64} (hx : x.toNat ≤ (msk n).toNat) (H : Hp) : ∃ v : W64, zhL op n x k v ∧ RR F.a60 [.int .i64 op, .int .i64 (n : Int), wv x, .int .i64 (k : Int)] H = some (wv v, H) := by
  have hr := zmu E0 rfl (.int .i64 op) (.int .i64 (n : Int)) (wv x) (.int .i64 (k : Int)) H
  unfold ziv at hr
  rw [zay, zag] at hr
  by_cases h25 : op = 25
  · subst h25
    rw [decide_eq_true rfl, zap, cu64 _ (by omega), zb2, zae (zbG h0 hn _ H)] at hr
    exact ⟨_, zot hn hk, hr⟩
  rw [decide_eq_false h25, zan, zay, zag] at hr
  by_cases h26 : op = 26
  · subst h26
    rw [decide_eq_true rfl, zap, cu64 _ (by omega), zc8] at hr
    exact ⟨_, zos hn hk hx, hr⟩
  rw [decide_eq_false h26, zan, zay, zag] at hr
  by_cases h27 : op = 27
  · subst h27
    have hc : ∀ (a : Int) (f : Value → Option (Value × Hp)), zal .u64 (.int .i64 a) f = f (wv (BitVec.ofInt 64 a)) := fun a f => by
      rw [zgd, zdu]
    rw [decide_eq_true rfl, zap, zae (zhn h0 hn x H), cu64 _ (by omega), i_shr _ _ _ _ (by omega), hc, znR h0 hn, zae (zbG h0 hn _ H)] at hr
    exact ⟨_, sar_bits h0 hn hk x, hr⟩
  rw [decide_eq_false h27, zan, zay, zag] at hr
  by_cases h29 : op = 29
  · subst h29
    have e1 : IntKind.i64.wrap ((n : Int) - (k : Int)) = ((n - k : Nat) : Int) := by rw [zax (by omega) (by omega)]; omega
    have e2 : (((n - k : Nat) : Int)).tmod (n : Int) = (((n - k) % n : Nat) : Int) := rfl
    have hlt : (n - k) % n < n := Nat.mod_lt _ (by omega)
    have e3 : IntKind.i64.wrap ((n : Int) - (((n - k) % n : Nat) : Int)) = ((n - (n - k) % n : Nat) : Int) := by rw [zax (by omega) (by omega)]; omega
    rw [decide_eq_true rfl, zap, zb0, e1, zkc _ _ _ _ (by omega), e2, cu64 _ (by omega), zb2, zb0, e3, cu64 _ (by omega), zc8, b_or, zae (zbG h0 hn _ H)] at hr
    refine ⟨_, fun j => ?_, hr⟩
    rw [zow hn hlt hx]
    unfold atM zdS
    rw [if_neg (by decide), if_neg (by decide), if_neg (by decide), if_neg (by decide)]
    dsimp only
    by_cases hj : j < n
    · have : (j + n - (n - k) % n) % n = (j + k) % n := by
        by_cases hk0 : k = 0
        · subst hk0
          rw [Nat.sub_zero, Nat.mod_self, Nat.sub_zero, Nat.add_mod_right, Nat.add_zero]
        · rw [Nat.mod_eq_of_lt (show n - k < n by omega), show j + n - (n - k) = j + k by omega]
      rw [this]
    · rw [decide_eq_false hj]; rfl
  have h28 : op = 28 := by omega
  subst h28
  have e1 : IntKind.i64.wrap ((n : Int) - (k : Int)) = ((n - k : Nat) : Int) := by rw [zax (by omega) (by omega)]; omega
  rw [decide_eq_false h29, zan, cu64 _ (by omega), zb2, zb0, e1, cu64 _ (by omega), zc8, b_or, zae (zbG h0 hn _ H)] at hr
  refine ⟨_, fun j => ?_, hr⟩
  rw [zow hn hk hx]
  unfold atM zdS
  rw [if_neg (by decide), if_neg (by decide), if_neg (by decide), if_pos rfl]
end Go.AM.N14
namespace Go.AM.N14
open Go Go.AM
open Classical in
noncomputable def movW (op : Int) (n : Nat) (x : W64) (k : Nat) : W64 := if h : ∃ v, zhL op n x k v then Classical.choose h else 0#64
theorem zjC {op : Int} {n : Nat} {x : W64} {k : Nat} {v : W64} (h : zhL op n x k v) : movW op n x k = v := by
  have hx : ∃ v, zhL op n x k v := ⟨v, h⟩
  unfold movW
  rw [dif_pos hx]
  exact zhL.eq (Classical.choose_spec hx) h
theorem p_mov {op : Int} (hop : 25 ≤ op ∧ op ≤ 29) {n k : Nat} (h0 : 1 ≤ n) (hn : n ≤ 64) (hk : k < n) {x : W64} (hx : x.toNat ≤ (msk n).toNat) (H : Hp) : RR F.a60 [.int .i64 op, .int .i64 (n : Int), wv x, .int .i64 (k : Int)] H = some (wv (movW op n x k), H) := by
  obtain ⟨v, h1, h2⟩ := p_moved hop h0 hn hk hx H
  rw [zjC h1]; exact h2
theorem q_mov {op : Int} (hop : 25 ≤ op ∧ op ≤ 29) {n k : Nat} (hn : n ≤ 64) (hk : k < n) (x : W64) (H : Hp) : RR F.a44 [.int .i64 op, .int .i64 (n : Int), wv x, .int .i64 (k : Int)] H = some (wv (movW op n x k), H) := by
  obtain ⟨v, h1, h2⟩ := q_moved hop hn hk x H
  rw [zjC h1]; exact h2
theorem zbz {n : Nat} (hn : n ≤ 64) (x : W64) : (x &&& msk n).toNat ≤ (msk n).toNat := (zaQ hn).2 fun j hj => by rw [BitVec.getLsbD_and, zbe]; simp [show ¬ j < n by omega]
theorem zbZ {n : Nat} (hn : n ≤ 64) {x : W64} (h : x.toNat ≤ (msk n).toNat) : x &&& msk n = x := zbL fun j => by
  rw [BitVec.getLsbD_and, zbe]
  by_cases hj : j < n
  · simp [hj, show j < 64 by omega]
  · rw [(zaQ hn).1 h j (by omega)]; rfl
theorem zog {α : Type} {P : Program} (T : TypeId) {a b : W64} (hb : b ≠ 0#64) (k : Value → Option α) : pBin P .quo T (wv a) (wv b) k = k (wv (a / b)) := by
  have hb2 : (b.toNat : Int) ≠ 0 := fun q => hb (BitVec.eq_of_toNat_eq (by simpa using q))
  have : binV P .quo T (wv a) (wv b) = some (wv (a / b)) := by
    show (if (b.toNat : Int) = 0 then none else some (Value.int .u64 (IntKind.u64.wrap ((a.toNat : Int).tdiv (b.toNat : Int))))) = _
    rw [if_neg hb2]
    have e : ((a.toNat : Int).tdiv (b.toNat : Int)) = (((a / b).toNat : Nat) : Int) := by rw [BitVec.toNat_udiv]; rfl
    rw [e, zh9]; rfl
  unfold pBin; rw [this]
theorem b_rem {α : Type} {P : Program} (T : TypeId) {a b : W64} (hb : b ≠ 0#64) (k : Value → Option α) : pBin P .rem T (wv a) (wv b) k = k (wv (a % b)) := by
  have hb2 : (b.toNat : Int) ≠ 0 := fun q => hb (BitVec.eq_of_toNat_eq (by simpa using q))
  have e : ((a.toNat : Int).tmod (b.toNat : Int)) = (((a % b).toNat : Nat) : Int) := by rw [BitVec.toNat_umod]; rfl
  show pBin P .rem T (.int .u64 (a.toNat : Int)) (.int .u64 (b.toNat : Int)) k = _
  rw [zkc _ _ _ _ hb2, e]; rfl
noncomputable def binW (op : Int) (n : Nat) (x y : W64) : W64 :=
  let X := x &&& msk n
  let Y := y &&& msk n
  if op = 17 then X &&& Y else if op = 18 then X ||| Y else if op = 19 then X ^^^ Y else if op = 20 then (X + Y) &&& msk n else if op = 21 then (X - Y) &&& msk n else if op = 22 then (X * Y) &&& msk n
  else if op = 23 then (if Y = 0#64 then msk n else X / Y) else if op = 24 then (if Y = 0#64 then X else X % Y) else movW op n X (Y.toNat % n)
theorem zlC {op : Int} (H : Hp) : RR F.a61 [.int .i64 op] H = some (.bool (decide (25 ≤ op ∧ op ≤ 29)), H) := by
  refine (zlv E0 rfl _ _).trans ?_
  unfold zhA
  rw [zbg, zag]
  by_cases h : op ≥ 25
  · rw [decide_eq_true h, zap, zbE]
    congr 3
    simp [show (25 : Int) ≤ op from h]
  · rw [decide_eq_false h, zan]
    congr 3
    simp [show ¬ (25 : Int) ≤ op from h]
theorem zoW {n : Nat} (hn : n ≤ 64) (h0 : 1 ≤ n) {α : Type} (Y : W64) (k : Value → Option α) : (pBin PP .rem T.uint64 (wv Y) (.int .u64 (n : Int)) fun v => zal .i64 v k) = k (.int .i64 ((Y.toNat % n : Nat) : Int)) := by
  unfold wv
  rw [zkc _ _ _ _ (by omega)]
  have e : ((Y.toNat : Int).tmod (n : Int)) = ((Y.toNat % n : Nat) : Int) := rfl
  have hlt : Y.toNat % n < n := Nat.mod_lt _ (by omega)
  rw [e, zgd, zax (by omega) (by omega)]
theorem p_bin {op : Int} (hop : 17 ≤ op ∧ op ≤ 29) {n : Nat} (h0 : 1 ≤ n) (hn : n ≤ 64) (hs : 25 ≤ op → ziG (n : Int) = true) (x y : W64) (H : Hp) : RR F.a57 [.int .i64 op, .int .i64 (n : Int), wv x, wv y] H = some (.tuple #[wv (binW op n x y), .int .i64 0], H) := by
  have hr := zpy E0 rfl (.int .i64 op) (.int .i64 (n : Int)) (wv x) (wv y) H
  unfold zkX at hr
  have hX := zbz hn x
  have hY := zbz hn y
  rw [lF (by omega), zbl, bF (by omega), zao, zai, zae (zc3 h0 hn H), za4, zag, show (!true) = false from rfl, zan, zae (zlC H), zag] at hr
  unfold binW
  dsimp only
  by_cases h25 : 25 ≤ op
  · have hsh : decide (25 ≤ op ∧ op ≤ 29) = true := decide_eq_true ⟨h25, hop.2⟩
    have hpop : decide (pops.getD n 0 = 1) = true := (zoJ n (by omega)).trans (hs h25)
    have hone : pops.getD n 0 = 1 := of_decide_eq_true hpop
    have e53 := c53 (n : Int) (by omega) (by omega) H
    rw [Int.toNat_natCast, hone] at e53
    have hlt : (y &&& msk n).toNat % n < n := Nat.mod_lt _ (by omega)
    rw [hsh, zap, cu64 _ (by omega), zae e53, zbY, bF (by decide), zao, zai, zae (zbG h0 hn x H), zae (zbG h0 hn y H), zae (zlC H), hsh, zag, zap, cu64 _ (by omega), zoW hn h0, zae (p_mov ⟨h25, hop.2⟩ h0 hn hlt hX H)] at hr
    rw [if_neg (by omega), if_neg (by omega), if_neg (by omega), if_neg (by omega), if_neg (by omega), if_neg (by omega), if_neg (by omega), if_neg (by omega)]
    exact hr
  have hsh : decide (25 ≤ op ∧ op ≤ 29) = false := decide_eq_false (by omega)
  rw [hsh, zan, zao, zai, zae (zbG h0 hn x H), zae (zbG h0 hn y H), zae (zlC H), hsh, zag, zan, zay, zag] at hr
  generalize x &&& msk n = X at *
  generalize y &&& msk n = Y at *
  by_cases h17 : op = 17
  · rw [decide_eq_true h17, zap, zba, zae (zbG h0 hn _ H)] at hr
    have e : (X &&& Y) &&& msk n = X &&& Y := zbZ hn ((zaQ hn).2 fun j hj => by simp only [BitVec.getLsbD_and, BitVec.getLsbD_or, BitVec.getLsbD_xor, (zaQ hn).1 hX j hj, (zaQ hn).1 hY j hj]; rfl)
    rw [e] at hr
    rw [if_pos h17]
    exact hr
  rw [decide_eq_false h17, zan, zay, zag] at hr
  by_cases h18 : op = 18
  · rw [decide_eq_true h18, zap, b_or, zae (zbG h0 hn _ H)] at hr
    have e : (X ||| Y) &&& msk n = X ||| Y := zbZ hn ((zaQ hn).2 fun j hj => by simp only [BitVec.getLsbD_and, BitVec.getLsbD_or, BitVec.getLsbD_xor, (zaQ hn).1 hX j hj, (zaQ hn).1 hY j hj]; rfl)
    rw [e] at hr
    rw [if_neg h17, if_pos h18]
    exact hr
  rw [decide_eq_false h18, zan, zay, zag] at hr
  by_cases h19 : op = 19
  · rw [decide_eq_true h19, zap, zl1, zae (zbG h0 hn _ H)] at hr
    have e : (X ^^^ Y) &&& msk n = X ^^^ Y := zbZ hn ((zaQ hn).2 fun j hj => by simp only [BitVec.getLsbD_and, BitVec.getLsbD_or, BitVec.getLsbD_xor, (zaQ hn).1 hX j hj, (zaQ hn).1 hY j hj]; rfl)
    rw [e] at hr
    rw [if_neg h17, if_neg h18, if_pos h19]
    exact hr
  rw [decide_eq_false h19, zan, zay, zag] at hr
  by_cases h20 : op = 20
  · rw [decide_eq_true h20, zap, zgV, zae (zbG h0 hn _ H)] at hr
    rw [if_neg h17, if_neg h18, if_neg h19, if_pos h20]
    exact hr
  rw [decide_eq_false h20, zan, zay, zag] at hr
  by_cases h21 : op = 21
  · rw [decide_eq_true h21, zap, zc7, zae (zbG h0 hn _ H)] at hr
    rw [if_neg h17, if_neg h18, if_neg h19, if_neg h20, if_pos h21]
    exact hr
  rw [decide_eq_false h21, zan, zay, zag] at hr
  by_cases h22 : op = 22
  · rw [decide_eq_true h22, zap, zeY, zae (zbG h0 hn _ H)] at hr
    rw [if_neg h17, if_neg h18, if_neg h19, if_neg h20, if_neg h21, if_pos h22]
    exact hr
  rw [decide_eq_false h22, zan, zay, zag] at hr
  have hz : ∀ (k : Value → Option (Value × Hp)), pBin PP .neq T.uint64 (wv Y) (.int .u64 0) k = k (.bool (!decide (Y = 0#64))) := fun k => b_neq _ _ 0#64 k
  by_cases h23 : op = 23
  · rw [decide_eq_true h23, zap, hz, zag] at hr
    rw [if_neg h17, if_neg h18, if_neg h19, if_neg h20, if_neg h21, if_neg h22, if_pos h23]
    by_cases hy : Y = 0#64
    · rw [decide_eq_true hy, show (!true) = false from rfl, zan, u_all, zae (zbG h0 hn _ H), show msk 64 &&& msk n = msk n by rw [zlJ, BitVec.allOnes_and]] at hr
      rw [if_pos hy]; exact hr
    · rw [decide_eq_false hy, show (!false) = true from rfl, zap, zog _ hy, zae (zbG h0 hn _ H), zbZ hn (by rw [BitVec.toNat_udiv]; exact Nat.le_trans (Nat.div_le_self _ _) hX)] at hr
      rw [if_neg hy]; exact hr
  rw [decide_eq_false h23, zan, zay, zag] at hr
  have h24 : op = 24 := by omega
  rw [decide_eq_true h24, zap, hz, zag] at hr
  rw [if_neg h17, if_neg h18, if_neg h19, if_neg h20, if_neg h21, if_neg h22, if_neg h23, if_pos h24]
  by_cases hy : Y = 0#64
  · rw [decide_eq_true hy, show (!true) = false from rfl, zan, zae (zbG h0 hn _ H), zbZ hn hX] at hr
    rw [if_pos hy]; exact hr
  · rw [decide_eq_false hy, show (!false) = true from rfl, zap, b_rem _ hy, zae (zbG h0 hn _ H), zbZ hn (by rw [BitVec.toNat_umod]; exact Nat.le_trans (Nat.mod_le _ _) hX)] at hr
    rw [if_neg hy]; exact hr
theorem q_bin {op : Int} (hop : 17 ≤ op ∧ op ≤ 29) {n : Nat} (h0 : 1 ≤ n) (hn : n ≤ 64) (hs : 25 ≤ op → ziG (n : Int) = true) (x y : W64) (H : Hp) : RR F.a94 [.int .i64 op, .int .i64 (n : Int), wv x, wv y] H = some (.tuple #[wv (binW op n x y), .int .i64 0], H) := by
  have hr := zhj E0 rfl (.int .i64 op) (.int .i64 (n : Int)) (wv x) (wv y) H
  unfold zeg at hr
  have hX := zbz hn x
  have hY := zbz hn y
  rw [lF (by omega), zbl, bF (by omega), zao, zai, zae (zc2 h0 hn H), za4, zag, show (!true) = false from rfl, zan, zbg, zag] at hr
  have hpre : ∀ {β : Type} (f : Ctl → List Value → Hp → Option β), zaC (br (decide (op ≥ 25)) (zaf RR F.a43 [.int .i64 (n : Int)] H fun r15 H16 => pUn .not r15 fun v17 => zad v17 fun b18 => br b18 (some (.ret, [(.tuple #[(.int .u64 0), (.int .i64 5)])], H16)) (some (.next, [], H16))) (some (.next, [], H))) f = f .next [] H := fun f => by
    by_cases h25 : op ≥ 25
    · rw [decide_eq_true h25, zap, zae (c55 _ H), hs h25, za4, zag, show (!true) = false from rfl, zan, zao]
    · rw [decide_eq_false h25, zan, zao]
  rw [hpre, zai, zae (zcL h0 hn x H), zae (zcL h0 hn y H), zay, zag] at hr
  unfold binW
  dsimp only
  generalize x &&& msk n = X at *
  generalize y &&& msk n = Y at *
  by_cases h17 : op = 17
  · rw [decide_eq_true h17, zap, zba] at hr
    rw [if_pos h17]
    exact hr
  rw [decide_eq_false h17, zan, zay, zag] at hr
  by_cases h18 : op = 18
  · rw [decide_eq_true h18, zap, b_or] at hr
    rw [if_neg h17, if_pos h18]
    exact hr
  rw [decide_eq_false h18, zan, zay, zag] at hr
  by_cases h19 : op = 19
  · rw [decide_eq_true h19, zap, zl1] at hr
    rw [if_neg h17, if_neg h18, if_pos h19]
    exact hr
  rw [decide_eq_false h19, zan, zay, zag] at hr
  by_cases h20 : op = 20
  · rw [decide_eq_true h20, zap, zgV, zae (zcL h0 hn _ H)] at hr
    rw [if_neg h17, if_neg h18, if_neg h19, if_pos h20]
    exact hr
  rw [decide_eq_false h20, zan, zay, zag] at hr
  by_cases h21 : op = 21
  · rw [decide_eq_true h21, zap, zc7, zae (zcL h0 hn _ H)] at hr
    rw [if_neg h17, if_neg h18, if_neg h19, if_neg h20, if_pos h21]
    exact hr
  rw [decide_eq_false h21, zan, zay, zag] at hr
  by_cases h22 : op = 22
  · rw [decide_eq_true h22, zap, zeY, zae (zcL h0 hn _ H)] at hr
    rw [if_neg h17, if_neg h18, if_neg h19, if_neg h20, if_neg h21, if_pos h22]
    exact hr
  rw [decide_eq_false h22, zan, zay, zag] at hr
  have hz : ∀ (k : Value → Option (Value × Hp)), pBin PP .eql T.uint64 (wv Y) (.int .u64 0) k = k (.bool (decide (Y = 0#64))) := fun k => zdU _ _ 0#64 k
  by_cases h23 : op = 23
  · rw [decide_eq_true h23, zap, hz, zag] at hr
    rw [if_neg h17, if_neg h18, if_neg h19, if_neg h20, if_neg h21, if_neg h22, if_pos h23]
    by_cases hy : Y = 0#64
    · rw [decide_eq_true hy, zap, u_all, zae (zcL h0 hn _ H), show msk 64 &&& msk n = msk n by rw [zlJ, BitVec.allOnes_and]] at hr
      rw [if_pos hy]; exact hr
    · rw [decide_eq_false hy, zan, zog _ hy] at hr
      rw [if_neg hy]; exact hr
  rw [decide_eq_false h23, zan, zay, zag] at hr
  by_cases h24 : op = 24
  · rw [decide_eq_true h24, zap, hz, zag] at hr
    rw [if_neg h17, if_neg h18, if_neg h19, if_neg h20, if_neg h21, if_neg h22, if_neg h23, if_pos h24]
    by_cases hy : Y = 0#64
    · rw [decide_eq_true hy, zap] at hr
      rw [if_pos hy]; exact hr
    · rw [decide_eq_false hy, zan, b_rem _ hy] at hr
      rw [if_neg hy]; exact hr
  have hlt : Y.toNat % n < n := Nat.mod_lt _ (by omega)
  rw [decide_eq_false h24, zan, cu64 _ (by omega), zoW hn h0, zae (q_mov ⟨by omega, hop.2⟩ hn hlt X H)] at hr
  rw [if_neg h17, if_neg h18, if_neg h19, if_neg h20, if_neg h21, if_neg h22, if_neg h23, if_neg h24]
  exact hr
end Go.AM.N14
namespace Go.AM.N14
open Go Go.AM
def unW (op : Int) (n : Nat) (x : W64) : W64 := if op = 15 then ~~~x &&& msk n else (0#64 - x) &&& msk n
def cmpW (op : Int) (n : Nat) (x y : W64) : Bool :=
  let X := x &&& msk n
  let Y := y &&& msk n
  if op = 9 then decide (X = Y) else if op = 10 then decide (X.toNat < Y.toNat) else if op = 11 then decide (X.toNat ≤ Y.toNat) else if op = 12 then decide (sg n X < sg n Y) else decide (sg n X ≤ sg n Y)
def catW (n : Nat) (x : W64) (m : Nat) (y : W64) : W64 := (x &&& msk n) <<< m ||| (y &&& msk m)
def zop (n : Nat) (x : W64) (i m : Nat) : W64 := (x &&& msk n) >>> i &&& msk m
def extW (op : Int) (n : Nat) (x : W64) (m : Nat) : W64 := if op = 32 then x &&& msk n else BitVec.ofInt 64 (sg n x) &&& msk m
theorem b_neg {α : Type} (x : W64) (k : Value → Option α) : pUn .neg (wv x) k = k (wv (0#64 - x)) := by
  show k (.int .u64 (IntKind.u64.wrap (0 - (x.toNat : Int)))) = _
  rw [zdu]
  congr 2
  rw [BitVec.zero_sub]
  apply BitVec.eq_of_toNat_eq
  rw [BitVec.toNat_ofInt, BitVec.toNat_neg]
  have := x.isLt
  omega
theorem ci_u64 {α : Type} (a : Int) (f : Value → Option α) : zal .u64 (.int .i64 a) f = f (wv (BitVec.ofInt 64 a)) := by
  rw [zgd, zdu]
theorem p_un {op : Int} (hop : op = 15 ∨ op = 16) {n : Nat} (h0 : 1 ≤ n) (hn : n ≤ 64) (x : W64) (H : Hp) : RR F.a92 [.int .i64 op, .int .i64 (n : Int), wv x] H = some (.tuple #[wv (unW op n x), .int .i64 0], H) := by
  have hr := r_bits_Un E0 rfl (.int .i64 op) (.int .i64 (n : Int)) (wv x) H
  unfold zmU at hr
  unfold unW
  rcases hop with rfl | rfl
  · rw [zbY, bF (by decide), zae (zc3 h0 hn H), za4, zag, show (!true) = false from rfl, zan, eT rfl, b_not, zae (zbG h0 hn _ H)] at hr
    rw [if_pos rfl]; exact hr
  · have hneg : ∀ (f : Value → Option (Value × Hp)), pUn .neg (wv x) f = f (wv (0#64 - x)) := fun f => b_neg x f
    rw [zbY, bT (by decide), zbY, bF (by decide), zae (zc3 h0 hn H), za4, zag, show (!true) = false from rfl, zan, eF (by decide), hneg, zae (zbG h0 hn _ H)] at hr
    rw [if_neg (by decide)]; exact hr
theorem p_cmp {op : Int} (hop : 9 ≤ op ∧ op ≤ 13) {n : Nat} (h0 : 1 ≤ n) (hn : n ≤ 64) (x y : W64) (H : Hp) : RR F.a85 [.int .i64 op, .int .i64 (n : Int), wv x, wv y] H = some (.tuple #[.bool (cmpW op n x y), .int .i64 0], H) := by
  have hr := zpw E0 rfl (.int .i64 op) (.int .i64 (n : Int)) (wv x) (wv y) H
  unfold zkV at hr
  rw [lF (by omega), zbl, bF (by omega), zao, zai, zae (zc3 h0 hn H), za4, zag, show (!true) = false from rfl, zan, zae (zbG h0 hn x H), zae (zbG h0 hn y H), zae (zhn h0 hn _ H), zae (zhn h0 hn _ H), zay, zag] at hr
  unfold cmpW
  dsimp only
  by_cases h9 : op = 9
  · rw [decide_eq_true h9, zap, zdU] at hr
    rw [if_pos h9]; exact hr
  rw [decide_eq_false h9, zan, zay, zag] at hr
  by_cases h10 : op = 10
  · rw [decide_eq_true h10, zap, zkr] at hr
    rw [if_neg h9, if_pos h10]; exact hr
  rw [decide_eq_false h10, zan, zay, zag] at hr
  by_cases h11 : op = 11
  · rw [decide_eq_true h11, zap, zhJ] at hr
    rw [if_neg h9, if_neg h10, if_pos h11]; exact hr
  rw [decide_eq_false h11, zan, zay, zag] at hr
  by_cases h12 : op = 12
  · rw [decide_eq_true h12, zap, zbj] at hr
    rw [if_neg h9, if_neg h10, if_neg h11, if_pos h12]; exact hr
  rw [decide_eq_false h12, zan, zbE] at hr
  rw [if_neg h9, if_neg h10, if_neg h11, if_neg h12]; exact hr
theorem p_cat {n m : Nat} (h0 : 1 ≤ n) (h1 : 1 ≤ m) (hs : n + m ≤ 64) (x y : W64) (H : Hp) : RR F.a84 [.int .i64 (n : Int), wv x, .int .i64 (m : Int), wv y] H = some (.tuple #[wv (catW n x m y), .int .i64 0], H) := by
  have hn : n ≤ 64 := by omega
  have hm : m ≤ 64 := by omega
  have hr := zpx E0 rfl (.int .i64 (n : Int)) (wv x) (.int .i64 (m : Int)) (wv y) H
  unfold zkW at hr
  rw [zae (zc3 h0 hn H), za4, zag, show (!true) = false from rfl, zan, zae (zc3 h1 hm H), za4, zag, show (!true) = false from rfl, zan, za6, zax (by omega) (by omega), zbl, bF (by omega), zae (zbG h0 hn x H), cu64 _ (by omega), zb2, zae (zbG h1 hm y H), b_or] at hr
  exact hr
theorem p_slice {n i m : Nat} (h0 : 1 ≤ n) (hn : n ≤ 64) (h1 : 1 ≤ m) (hs : i + m ≤ n) (x : W64) (H : Hp) : RR F.a90 [.int .i64 (n : Int), wv x, .int .i64 (i : Int), .int .i64 (m : Int)] H = some (.tuple #[wv (zop n x i m), .int .i64 0], H) := by
  have hm : m ≤ 64 := by omega
  have hr := zmv E0 rfl (.int .i64 (n : Int)) (wv x) (.int .i64 (i : Int)) (.int .i64 (m : Int)) H
  unfold ziw at hr
  rw [zae (zc3 h0 hn H), za4, zag, show (!true) = false from rfl, zan, lF (by omega), lF (by omega), zbl, bF (by omega), zb0, zax (by omega) (by omega), zbl, bF (by omega), zao, zai, zae (zbG h0 hn x H), cu64 _ (by omega), zc8, zae (zbG h1 hm _ H)] at hr
  exact hr
theorem p_ext {op : Int} (hop : op = 32 ∨ op = 33) {n m : Nat} (h0 : 1 ≤ n) (hs : n ≤ m) (hm : m ≤ 64) (x : W64) (H : Hp) : RR F.a86 [.int .i64 op, .int .i64 (n : Int), wv x, .int .i64 (m : Int)] H = some (.tuple #[wv (extW op n x m), .int .i64 0], H) := by
  have hn : n ≤ 64 := by omega
  have h1 : 1 ≤ m := by omega
  have hr := zpv E0 rfl (.int .i64 op) (.int .i64 (n : Int)) (wv x) (.int .i64 (m : Int)) H
  unfold zkU at hr
  unfold extW
  rcases hop with rfl | rfl
  · rw [zbY, bF (by decide), zao, zai, zae (zc3 h0 hn H), za4, zag, show (!true) = false from rfl, zan, zae (zc3 h1 hm H), za4, zag, show (!true) = false from rfl, zan, lF (by omega), zao, zai, eT rfl, zae (zbG h0 hn _ H)] at hr
    rw [if_pos rfl]; exact hr
  · rw [zbY, bT (by decide), zbY, bF (by decide), zao, zai, zae (zc3 h0 hn H), za4, zag, show (!true) = false from rfl, zan, zae (zc3 h1 hm H), za4, zag, show (!true) = false from rfl, zan, lF (by omega), zao, zai, eF (by decide), zae (zhn h0 hn _ H), ci_u64, zae (zbG h1 hm _ H)] at hr
    rw [if_neg (by decide)]; exact hr
theorem cat_or {m : Nat} (hm : m ≤ 64) {X y : W64} : X <<< m + (y &&& msk m) = X <<< m ||| (y &&& msk m) := by
  apply BitVec.add_eq_or_of_and_eq_zero
  refine zbL fun j => ?_
  rw [BitVec.getLsbD_and, BitVec.getLsbD_shiftLeft, BitVec.getLsbD_and, zbe]
  by_cases h : j < m <;> simp [h]
theorem q_un {op : Int} (hop : op = 15 ∨ op = 16) {n : Nat} (h0 : 1 ≤ n) (hn : n ≤ 64) (x : W64) (H : Hp) : RR F.a98 [.int .i64 op, .int .i64 (n : Int), wv x] H = some (.tuple #[wv (unW op n x), .int .i64 0], H) := by
  have hr := zhW E0 rfl (.int .i64 op) (.int .i64 (n : Int)) (wv x) H
  unfold zeH at hr
  unfold unW
  rcases hop with rfl | rfl
  · rw [zbY, bF (by decide), zae (zc2 h0 hn H), za4, zag, show (!true) = false from rfl, zan, eT rfl, b_not, zae (zcL h0 hn _ H)] at hr
    rw [if_pos rfl]; exact hr
  · have hneg : ∀ (f : Value → Option (Value × Hp)), pBin PP .sub T.uint64 (.int .u64 0) (wv x) f = f (wv (0#64 - x)) := fun f => zc7 _ 0#64 x f
    rw [zbY, bT (by decide), zbY, bF (by decide), zae (zc2 h0 hn H), za4, zag, show (!true) = false from rfl, zan, eF (by decide), hneg, zae (zcL h0 hn _ H)] at hr
    rw [if_neg (by decide)]; exact hr
theorem q_cmp {op : Int} (hop : 9 ≤ op ∧ op ≤ 13) {n : Nat} (h0 : 1 ≤ n) (hn : n ≤ 64) (x y : W64) (H : Hp) : RR F.a96 [.int .i64 op, .int .i64 (n : Int), wv x, wv y] H = some (.tuple #[.bool (cmpW op n x y), .int .i64 0], H) := by
  have hr := zhh E0 rfl (.int .i64 op) (.int .i64 (n : Int)) (wv x) (wv y) H
  unfold zee at hr
  rw [lF (by omega), zbl, bF (by omega), zao, zai, zae (zc2 h0 hn H), za4, zag, show (!true) = false from rfl, zan, zae (zcL h0 hn x H), zae (zcL h0 hn y H), zay, zag] at hr
  unfold cmpW
  dsimp only
  by_cases h9 : op = 9
  · rw [decide_eq_true h9, zap, zdU] at hr
    rw [if_pos h9]; exact hr
  rw [decide_eq_false h9, zan, zay, zag] at hr
  by_cases h10 : op = 10
  · rw [decide_eq_true h10, zap, zkr] at hr
    rw [if_neg h9, if_pos h10]; exact hr
  rw [decide_eq_false h10, zan, zay, zag] at hr
  by_cases h11 : op = 11
  · rw [decide_eq_true h11, zap, zhJ] at hr
    rw [if_neg h9, if_neg h10, if_pos h11]; exact hr
  rw [decide_eq_false h11, zan, zay, zag] at hr
  by_cases h12 : op = 12
  · rw [decide_eq_true h12, zap, zae (zhl h0 hn _ H), zae (zhl h0 hn _ H), zbj] at hr
    rw [if_neg h9, if_neg h10, if_neg h11, if_pos h12]; exact hr
  rw [decide_eq_false h12, zan, zae (zhl h0 hn _ H), zae (zhl h0 hn _ H), zbE] at hr
  rw [if_neg h9, if_neg h10, if_neg h11, if_neg h12]; exact hr
theorem q_cat {n m : Nat} (h0 : 1 ≤ n) (h1 : 1 ≤ m) (hs : n + m ≤ 64) (x y : W64) (H : Hp) : RR F.a95 [.int .i64 (n : Int), wv x, .int .i64 (m : Int), wv y] H = some (.tuple #[wv (catW n x m y), .int .i64 0], H) := by
  have hn : n ≤ 64 := by omega
  have hm : m ≤ 64 := by omega
  have hr := zhi E0 rfl (.int .i64 (n : Int)) (wv x) (.int .i64 (m : Int)) (wv y) H
  unfold zef at hr
  rw [zae (zc2 h0 hn H), za4, zag, show (!true) = false from rfl, zan, zae (zc2 h1 hm H), za4, zag, show (!true) = false from rfl, zan, za6, zax (by omega) (by omega), zbl, bF (by omega), zae (zcL h0 hn x H), cu64 _ (by omega), zb2, zae (zcL h1 hm y H), zgV] at hr
  rw [cat_or hm] at hr
  exact hr
theorem q_slice {n i m : Nat} (h0 : 1 ≤ n) (hn : n ≤ 64) (h1 : 1 ≤ m) (hs : i + m ≤ n) (x : W64) (H : Hp) : RR F.a97 [.int .i64 (n : Int), wv x, .int .i64 (i : Int), .int .i64 (m : Int)] H = some (.tuple #[wv (zop n x i m), .int .i64 0], H) := by
  have hm : m ≤ 64 := by omega
  have hr := zf2 E0 rfl (.int .i64 (n : Int)) (wv x) (.int .i64 (i : Int)) (.int .i64 (m : Int)) H
  unfold zdm at hr
  rw [zae (zc2 h0 hn H), za4, zag, show (!true) = false from rfl, zan, lF (by omega), zbl, bF (by omega), lF (by omega), zb0, zax (by omega) (by omega), zbl, bF (by omega), zao, zai, zae (zcL h0 hn x H), cu64 _ (by omega), zc8, zae (zcL h1 hm _ H)] at hr
  exact hr
theorem q_ext {op : Int} (hop : op = 32 ∨ op = 33) {n m : Nat} (h0 : 1 ≤ n) (hs : n ≤ m) (hm : m ≤ 64) (x : W64) (H : Hp) : RR F.a62 [.int .i64 op, .int .i64 (n : Int), wv x, .int .i64 (m : Int)] H = some (.tuple #[wv (extW op n x m), .int .i64 0], H) := by
  have hn : n ≤ 64 := by omega
  have h1 : 1 ≤ m := by omega
  have hr := zhg E0 rfl (.int .i64 op) (.int .i64 (n : Int)) (wv x) (.int .i64 (m : Int)) H
  unfold zed at hr
  unfold extW
  rcases hop with rfl | rfl
  · rw [zbY, bF (by decide), zao, zai, zae (zc2 h0 hn H), za4, zag, show (!true) = false from rfl, zan, zae (zc2 h1 hm H), za4, zag, show (!true) = false from rfl, zan, lF (by omega), zao, zai, eT rfl, zae (zcL h0 hn _ H)] at hr
    rw [if_pos rfl]; exact hr
  · rw [zbY, bT (by decide), zbY, bF (by decide), zao, zai, zae (zc2 h0 hn H), za4, zag, show (!true) = false from rfl, zan, zae (zc2 h1 hm H), za4, zag, show (!true) = false from rfl, zan, lF (by omega), zao, zai, eF (by decide), zae (zhl h0 hn _ H), ci_u64, zae (zcL h1 hm _ H)] at hr
    rw [if_neg (by decide)]; exact hr
end Go.AM.N14
namespace Go.AM.N14
open Go Go.AM
def b2w (c : Bool) : W64 := if c = true then 1#64 else 0#64
noncomputable def valW (n : Nd) (wa wb : Nat) (a b c : W64) : W64 :=
  if n.op = 1 then 1#64 else if n.op = 2 then 0#64 else if n.op = 3 then BitVec.ofInt 64 n.num else if n.op = 5 then 1#64 - a else if n.op = 6 then a &&& b else if n.op = 7 then a ||| b else if n.op = 8 then a ^^^ b else if n.op = 9 then b2w (decide (a = b))
  else if n.op ≤ 13 then b2w (cmpW n.op wa a b) else if n.op = 14 then (if a = 1#64 then b else c) else if n.op ≤ 16 then unW n.op wa a else if n.op ≤ 29 then binW n.op wa a b else if n.op = 30 then catW wa a wb b
  else if n.op = 31 then zop wa a n.num.toNat n.w.toNat else extW n.op wa a n.w.toNat
structure Vok (n : Nd) (wa wb : Nat) (a b : W64) : Prop where
  op : 1 ≤ n.op ∧ n.op ≤ 33 ∧ n.op ≠ 4
  num : 0 ≤ n.num ∧ n.num < 18446744073709551616
  t : 6 ≤ n.op → n.op ≤ 8 → a.toNat ≤ 1 ∧ b.toNat ≤ 1
  cmp : 10 ≤ n.op → n.op ≤ 13 → 1 ≤ wa ∧ wa ≤ 64
  un : 15 ≤ n.op → n.op ≤ 29 → n.w = wa ∧ 1 ≤ wa ∧ wa ≤ 64
  sh : 25 ≤ n.op → n.op ≤ 29 → ziG (wa : Int) = true
  cat : n.op = 30 → 1 ≤ wa ∧ 1 ≤ wb ∧ wa + wb ≤ 64
  sl : n.op = 31 → 1 ≤ wa ∧ wa ≤ 64 ∧ 1 ≤ n.w ∧ n.num + n.w ≤ wa
  ext : 32 ≤ n.op → 1 ≤ wa ∧ (wa : Int) ≤ n.w ∧ n.w ≤ 64
theorem p_one (c : Bool) (H : Hp) : RR F.a72 [.bool c] H = some (wv (b2w c), H) := by
  refine (zpu E0 rfl _ _).trans ?_
  unfold zkT
  rw [zag]
  cases c <;> rfl
theorem q_one (c : Bool) (H : Hp) : RR F.a45 [.bool c] H = some (wv (b2w c), H) := by
  refine (zhe E0 rfl _ _).trans ?_
  unfold zeb
  rw [zag]
  cases c <;> rfl
theorem num_wv {x : Int} (h : 0 ≤ x ∧ x < 18446744073709551616) : Value.int .u64 x = wv (BitVec.ofInt 64 x) := by
  rw [← zdu, ziI h.1 (by omega)]
theorem tr01 {a : W64} (h : a.toNat ≤ 1) : a = 0#64 ∨ a = 1#64 := by
  rcases (show a.toNat = 0 ∨ a.toNat = 1 by omega) with q | q
  · exact .inl (BitVec.eq_of_toNat_eq q)
  · exact .inr (BitVec.eq_of_toNat_eq q)
theorem one_sub {α : Type} (a : W64) (k : Value → Option α) : pBin PP .sub T.uint64 (.int .u64 1) (wv a) k = k (wv (1#64 - a)) := zc7 _ 1#64 a k
theorem p_node {n : Nd} {wa wb : Nat} {a b : W64} (h : Vok n wa wb a b) (c : W64) (H : Hp) : RR F.a111 [n.val, wv a, wv b, wv c, .int .i64 (wa : Int), .int .i64 (wb : Int)] H = some (wv (valW n wa wb a b c), H) := by
  have hr := znE E0 rfl n.val (wv a) (wv b) (wv c) (.int .i64 (wa : Int)) (.int .i64 (wb : Int)) H
  unfold zjK at hr
  have hop := h.op
  have hnum := h.num
  unfold valW
  rw [n0, zay, zag] at hr
  by_cases h1 : n.op = 1
  · rw [decide_eq_true h1, zap] at hr
    rw [if_pos h1]
    exact hr
  rw [decide_eq_false h1, zan, zay, zag] at hr
  by_cases h2 : n.op = 2
  · rw [decide_eq_true h2, zap] at hr
    rw [if_neg h1, if_pos h2]
    exact hr
  rw [decide_eq_false h2, zan, zay, zag] at hr
  by_cases h3 : n.op = 3
  · rw [decide_eq_true h3, zap, n5, num_wv hnum] at hr
    rw [if_neg h1, if_neg h2, if_pos h3]
    exact hr
  rw [decide_eq_false h3, zan, zay, zag] at hr
  by_cases h5 : n.op = 5
  · rw [decide_eq_true h5, zap, one_sub] at hr
    rw [if_neg h1, if_neg h2, if_neg h3, if_pos h5]
    exact hr
  rw [decide_eq_false h5, zan, zay, zag] at hr
  by_cases h6 : n.op = 6
  · rw [decide_eq_true h6, zap, zba] at hr
    rw [if_neg h1, if_neg h2, if_neg h3, if_neg h5, if_pos h6]
    exact hr
  rw [decide_eq_false h6, zan, zay, zag] at hr
  by_cases h7 : n.op = 7
  · rw [decide_eq_true h7, zap, b_or] at hr
    rw [if_neg h1, if_neg h2, if_neg h3, if_neg h5, if_neg h6, if_pos h7]
    exact hr
  rw [decide_eq_false h7, zan, zay, zag] at hr
  by_cases h8 : n.op = 8
  · rw [decide_eq_true h8, zap, zl1] at hr
    rw [if_neg h1, if_neg h2, if_neg h3, if_neg h5, if_neg h6, if_neg h7, if_pos h8]
    exact hr
  rw [decide_eq_false h8, zan, zay, zag] at hr
  by_cases h9 : n.op = 9
  · rw [decide_eq_true h9, zap, zdU, zae (p_one _ H)] at hr
    rw [if_neg h1, if_neg h2, if_neg h3, if_neg h5, if_neg h6, if_neg h7, if_neg h8, if_pos h9]
    exact hr
  rw [decide_eq_false h9, zan, zbE, zag] at hr
  by_cases h13 : n.op ≤ 13
  · rw [decide_eq_true h13, zap, zae (p_cmp ⟨by omega, h13⟩ (h.cmp (by omega) h13).1 (h.cmp (by omega) h13).2 a b H), x01, zae (p_one _ H)] at hr
    rw [if_neg h1, if_neg h2, if_neg h3, if_neg h5, if_neg h6, if_neg h7, if_neg h8, if_neg h9, if_pos h13]
    exact hr
  rw [decide_eq_false h13, zan, zay, zag] at hr
  by_cases h14 : n.op = 14
  · have hz : ∀ (k : Value → Option (Value × Hp)), pBin PP .eql T.uint64 (wv a) (.int .u64 1) k = k (.bool (decide (a = 1#64))) := fun k => zdU _ a 1#64 k
    rw [decide_eq_true h14, zap, hz, zag] at hr
    rw [if_neg h1, if_neg h2, if_neg h3, if_neg h5, if_neg h6, if_neg h7, if_neg h8, if_neg h9, if_neg h13, if_pos h14]
    by_cases q : a = 1#64
    · rw [decide_eq_true q, zap] at hr
      rw [if_pos q]; exact hr
    · rw [decide_eq_false q, zan] at hr
      rw [if_neg q]; exact hr
  rw [decide_eq_false h14, zan, zbE, zag] at hr
  by_cases h16 : n.op ≤ 16
  · obtain ⟨g1, g2, g3⟩ := h.un (by omega) (by omega)
    rw [decide_eq_true h16, zap, n1, g1, zae (p_un (by omega) g2 g3 a H), x01] at hr
    rw [if_neg h1, if_neg h2, if_neg h3, if_neg h5, if_neg h6, if_neg h7, if_neg h8, if_neg h9, if_neg h13, if_neg h14, if_pos h16]
    exact hr
  rw [decide_eq_false h16, zan, zbE, zag] at hr
  by_cases h29 : n.op ≤ 29
  · obtain ⟨g1, g2, g3⟩ := h.un (by omega) h29
    rw [decide_eq_true h29, zap, n1, g1, zae (p_bin ⟨by omega, h29⟩ g2 g3 (fun q => h.sh q h29) a b H), x01] at hr
    rw [if_neg h1, if_neg h2, if_neg h3, if_neg h5, if_neg h6, if_neg h7, if_neg h8, if_neg h9, if_neg h13, if_neg h14, if_neg h16, if_pos h29]
    exact hr
  rw [decide_eq_false h29, zan, zay, zag] at hr
  by_cases h30 : n.op = 30
  · obtain ⟨g1, g2, g3⟩ := h.cat h30
    rw [decide_eq_true h30, zap, zae (p_cat g1 g2 g3 a b H), x01] at hr
    rw [if_neg h1, if_neg h2, if_neg h3, if_neg h5, if_neg h6, if_neg h7, if_neg h8, if_neg h9, if_neg h13, if_neg h14, if_neg h16, if_neg h29, if_pos h30]
    exact hr
  rw [decide_eq_false h30, zan, zay, zag] at hr
  by_cases h31 : n.op = 31
  · obtain ⟨g1, g2, g3, g4⟩ := h.sl h31
    have e1 : n.num = ((n.num.toNat : Nat) : Int) := (Int.toNat_of_nonneg hnum.1).symm
    have e2 : n.w = ((n.w.toNat : Nat) : Int) := (Int.toNat_of_nonneg (by omega)).symm
    have g5 := p_slice (n := wa) (i := n.num.toNat) (m := n.w.toNat) g1 g2 (by omega) (by omega) a H
    rw [← e1, ← e2] at g5
    rw [decide_eq_true h31, zap, n5, zgd, zax (by omega) (by omega), n1, zae g5, x01] at hr
    rw [if_neg h1, if_neg h2, if_neg h3, if_neg h5, if_neg h6, if_neg h7, if_neg h8, if_neg h9, if_neg h13, if_neg h14, if_neg h16, if_neg h29, if_neg h30, if_pos h31]
    exact hr
  rw [decide_eq_false h31, zan, n0, n1] at hr
  obtain ⟨g1, g2, g3⟩ := h.ext (by omega)
  have e2 : n.w = ((n.w.toNat : Nat) : Int) := (Int.toNat_of_nonneg (by omega)).symm
  have g5 := p_ext (op := n.op) (n := wa) (m := n.w.toNat) (by omega) g1 (by omega) (by omega) a H
  rw [← e2] at g5
  rw [zae g5, x01] at hr
  rw [if_neg h1, if_neg h2, if_neg h3, if_neg h5, if_neg h6, if_neg h7, if_neg h8, if_neg h9, if_neg h13, if_neg h14, if_neg h16, if_neg h29, if_neg h30, if_neg h31]
  exact hr
theorem q_of {n : Nd} {wa wb : Nat} {a b : W64} (h : Vok n wa wb a b) (c : W64) (H : Hp) : RR F.a63 [n.val, wv a, wv b, wv c, .int .i64 (wa : Int), .int .i64 (wb : Int)] H = some (wv (valW n wa wb a b c), H) := by
  have hr := zhV E0 rfl n.val (wv a) (wv b) (wv c) (.int .i64 (wa : Int)) (.int .i64 (wb : Int)) H
  unfold zeG at hr
  have hop := h.op
  have hnum := h.num
  unfold valW
  rw [n0, zay, zag] at hr
  by_cases h1 : n.op = 1
  · rw [decide_eq_true h1, zap] at hr
    rw [if_pos h1]
    exact hr
  rw [decide_eq_false h1, zan, n0, zay, zag] at hr
  by_cases h3 : n.op = 3
  · rw [decide_eq_true h3, zap, n5, num_wv hnum] at hr
    rw [if_neg h1, if_neg (by omega), if_pos h3]
    exact hr
  rw [decide_eq_false h3, zan, n0, zay, zag] at hr
  by_cases h5 : n.op = 5
  · rw [decide_eq_true h5, zap, one_sub] at hr
    rw [if_neg h1, if_neg (by omega), if_neg h3, if_pos h5]
    exact hr
  rw [decide_eq_false h5, zan, n0, zay, zag] at hr
  by_cases h6 : n.op = 6
  · obtain ⟨t1, t2⟩ := h.t (by omega) (by omega)
    rw [decide_eq_true h6, zap, zeY] at hr
    rw [if_neg h1, if_neg (by omega), if_neg h3, if_neg h5, if_pos h6]
    rcases tr01 t1 with rfl | rfl <;> rcases tr01 t2 with rfl | rfl <;> exact hr
  rw [decide_eq_false h6, zan, n0, zay, zag] at hr
  by_cases h7 : n.op = 7
  · obtain ⟨t1, t2⟩ := h.t (by omega) (by omega)
    rw [decide_eq_true h7, zap, zgV, zeY, zc7] at hr
    rw [if_neg h1, if_neg (by omega), if_neg h3, if_neg h5, if_neg h6, if_pos h7]
    rcases tr01 t1 with rfl | rfl <;> rcases tr01 t2 with rfl | rfl <;> exact hr
  rw [decide_eq_false h7, zan, n0, zay, zag] at hr
  by_cases h8 : n.op = 8
  · obtain ⟨t1, t2⟩ := h.t (by omega) (by omega)
    rw [decide_eq_true h8, zap, b_neq, zae (q_one _ H)] at hr
    rw [if_neg h1, if_neg (by omega), if_neg h3, if_neg h5, if_neg h6, if_neg h7, if_pos h8]
    rcases tr01 t1 with rfl | rfl <;> rcases tr01 t2 with rfl | rfl <;> exact hr
  rw [decide_eq_false h8, zan, n0, zay, zag] at hr
  by_cases h9 : n.op = 9
  · rw [decide_eq_true h9, zap, zdU, zae (q_one _ H)] at hr
    rw [if_neg h1, if_neg (by omega), if_neg h3, if_neg h5, if_neg h6, if_neg h7, if_neg h8, if_pos h9]
    exact hr
  rw [decide_eq_false h9, zan, n0, zbg, zag] at hr
  by_cases h2 : n.op = 2
  · have f10 : decide (n.op ≥ 10) = false := decide_eq_false (by omega)
    have f14 : decide (n.op = 14) = false := decide_eq_false (by omega)
    have f15 : decide (n.op = 15) = false := decide_eq_false (by omega)
    have f16 : decide (n.op = 16) = false := decide_eq_false (by omega)
    have f17 : decide (n.op ≥ 17) = false := decide_eq_false (by omega)
    have f30 : decide (n.op = 30) = false := decide_eq_false (by omega)
    have f31 : decide (n.op = 31) = false := decide_eq_false (by omega)
    have f32 : decide (n.op = 32) = false := decide_eq_false (by omega)
    have f33 : decide (n.op = 33) = false := decide_eq_false (by omega)
    simp only [f10, zan, zao, zai, qg0, zag, n0, zay, zbg, f14, f15, f16, f17, f30, f31, f32, f33] at hr
    rw [if_neg h1, if_pos h2]
    exact hr
  have ht : ∀ {p : Prop} [Decidable p], p → decide p = true := fun h => decide_eq_true h
  have g10 : decide (n.op ≥ 10) = true := ht (by omega)
  rw [g10, zap, n0, zbE, zao, zai] at hr
  simp only [qg0] at hr
  rw [zag] at hr
  by_cases h13 : n.op ≤ 13
  · rw [decide_eq_true h13, zap, n0, zae (q_cmp ⟨by omega, h13⟩ (h.cmp (by omega) h13).1 (h.cmp (by omega) h13).2 a b H), x01, zae (q_one _ H)] at hr
    rw [if_neg h1, if_neg h2, if_neg h3, if_neg h5, if_neg h6, if_neg h7, if_neg h8, if_neg h9, if_pos h13]
    exact hr
  rw [decide_eq_false h13, zan, n0, zay, zag] at hr
  by_cases h14 : n.op = 14
  · have hz : ∀ (k : Value → Option (Value × Hp)), pBin PP .eql T.uint64 (wv a) (.int .u64 1) k = k (.bool (decide (a = 1#64))) := fun k => zdU _ a 1#64 k
    rw [decide_eq_true h14, zap, hz, zag] at hr
    rw [if_neg h1, if_neg h2, if_neg h3, if_neg h5, if_neg h6, if_neg h7, if_neg h8, if_neg h9, if_neg h13, if_pos h14]
    by_cases q : a = 1#64
    · rw [decide_eq_true q, zap] at hr
      rw [if_pos q]; exact hr
    · rw [decide_eq_false q, zan] at hr
      rw [if_neg q]; exact hr
  rw [decide_eq_false h14, zan] at hr
  by_cases h16 : n.op ≤ 16
  · obtain ⟨g1, g2, g3⟩ := h.un (by omega) (by omega)
    rw [n0, zay, zag] at hr
    by_cases q : n.op = 15
    · rw [decide_eq_true q, zap, zao, zai] at hr
      simp only [qg0] at hr
      rw [zag, zap, n0, zae (q_un (by omega) g2 g3 a H), x01] at hr
      rw [if_neg h1, if_neg h2, if_neg h3, if_neg h5, if_neg h6, if_neg h7, if_neg h8, if_neg h9, if_neg h13, if_neg h14, if_pos h16]
      exact hr
    · rw [decide_eq_false q, zan, n0, zay, decide_eq_true (show n.op = 16 by omega), zao, zai] at hr
      simp only [qg0] at hr
      rw [zag, zap, n0, zae (q_un (by omega) g2 g3 a H), x01] at hr
      rw [if_neg h1, if_neg h2, if_neg h3, if_neg h5, if_neg h6, if_neg h7, if_neg h8, if_neg h9, if_neg h13, if_neg h14, if_pos h16]
      exact hr
  rw [n0, eF (by omega), n0, zay, decide_eq_false (show ¬ n.op = 16 by omega), zao, zai] at hr
  simp only [qg0] at hr
  rw [zag, zan, n0, zbg, bT (by omega), n0, zbE, zao, zai] at hr
  simp only [qg0] at hr
  rw [zag] at hr
  by_cases h29 : n.op ≤ 29
  · obtain ⟨g1, g2, g3⟩ := h.un (by omega) h29
    rw [decide_eq_true h29, zap, n0, zae (q_bin ⟨by omega, h29⟩ g2 g3 (fun q => h.sh q h29) a b H), x01] at hr
    rw [if_neg h1, if_neg h2, if_neg h3, if_neg h5, if_neg h6, if_neg h7, if_neg h8, if_neg h9, if_neg h13, if_neg h14, if_neg h16, if_pos h29]
    exact hr
  rw [decide_eq_false h29, zan, n0, zay, zag] at hr
  by_cases h30 : n.op = 30
  · obtain ⟨g1, g2, g3⟩ := h.cat h30
    rw [decide_eq_true h30, zap, zae (q_cat g1 g2 g3 a b H), x01] at hr
    rw [if_neg h1, if_neg h2, if_neg h3, if_neg h5, if_neg h6, if_neg h7, if_neg h8, if_neg h9, if_neg h13, if_neg h14, if_neg h16, if_neg h29, if_pos h30]
    exact hr
  rw [decide_eq_false h30, zan, n0, zay, zag] at hr
  by_cases h31 : n.op = 31
  · obtain ⟨g1, g2, g3, g4⟩ := h.sl h31
    have e1 : n.num = ((n.num.toNat : Nat) : Int) := (Int.toNat_of_nonneg hnum.1).symm
    have e2 : n.w = ((n.w.toNat : Nat) : Int) := (Int.toNat_of_nonneg (by omega)).symm
    have g5 := q_slice (n := wa) (i := n.num.toNat) (m := n.w.toNat) g1 g2 (by omega) (by omega) a H
    rw [← e1, ← e2] at g5
    rw [decide_eq_true h31, zap, n5, zgd, zax (by omega) (by omega), n1, zae g5, x01] at hr
    rw [if_neg h1, if_neg h2, if_neg h3, if_neg h5, if_neg h6, if_neg h7, if_neg h8, if_neg h9, if_neg h13, if_neg h14, if_neg h16, if_neg h29, if_neg h30, if_pos h31]
    exact hr
  rw [decide_eq_false h31, zan, n0, zay, zag] at hr
  obtain ⟨g1, g2, g3⟩ := h.ext (by omega)
  have e2 : n.w = ((n.w.toNat : Nat) : Int) := (Int.toNat_of_nonneg (by omega)).symm
  have g5 := q_ext (op := n.op) (n := wa) (m := n.w.toNat) (by omega) g1 (by omega) (by omega) a H
  rw [← e2] at g5
  rw [if_neg h1, if_neg h2, if_neg h3, if_neg h5, if_neg h6, if_neg h7, if_neg h8, if_neg h9, if_neg h13, if_neg h14, if_neg h16, if_neg h29, if_neg h30, if_neg h31]
  by_cases h32 : n.op = 32
  · rw [decide_eq_true h32, zap, n0, n1, zae g5, x01] at hr
    exact hr
  · rw [decide_eq_false h32, zan, n0, eT (by omega), n0, n1, zae g5, x01] at hr
    exact hr
end Go.AM.N14
