/- The law FnExactTrailOf holds: it returns true, and the input reads as it did. No condition. This is part 5 of 6 of its proof. -/
import Derived.Test.YtkblkdnnncklgaaXFnExactTrailOf4

/- What each function owes, reckoned out, part 4. MADE BY PROGRAM (emit.py). -/
set_option linter.unusedVariables false
namespace Go.Proofs.Ytkblkdnnncklgaa
open Go Go.Av

/-- slices.pdqsortOrdered[string] -/
def kp_slices_pdqsortOrdered_string : Nat → Keep
  | 2 => ⟨[0, 1, 2, 3, 8, 9], [], [], .done, []⟩
  | 17 => ⟨[], [], [], .step 0 (.step 1 (.step 2 (.step 3 (.step 4 (.step 5 (.step 6 (.step 7 (.step 8 (.step 9 (.step 10 (.step 11 (.step 12 (.step 13 (.step 14 (.done))))))))))))))), [(1, [0]), (2, [0, 1]), (3, [0, 1, 2]), (4, [0, 1, 2]), (5, [0, 1, 2, 4]), (6, [0, 1, 2, 3, 4, 5]), (7, [0, 1, 2, 3, 4, 5, 6]), (8, [0, 1, 2]), (9, [0, 1, 2]), (10, [0, 1, 2, 8, 9]), (11, [0, 1, 2, 8, 9, 10]), (12, [0, 1, 2, 3, 4, 5, 6, 7, 8, 9, 10, 11]), (13, [0, 1, 2, 3, 4, 5, 6, 7, 8, 9, 10, 11, 12]), (14, [0, 1, 2, 3, 4, 5, 6, 7, 8, 9, 10, 11, 12, 13])]⟩
  | _ => ⟨[], [], [], .done, []⟩
def esc_slices_pdqsortOrdered_string : Nat → Bool
  | _ => false
def vc_slices_pdqsortOrdered_string (w0 : World) (a0 a1 a2 a3 : Value) (σ : Vw) (R : Value → Vw → Prop) : Prop :=
  pLoop (fun l0 K1 s2 => pBin Try.prog 3 BinOp.sub (vget l0 2) (vget l0 1) (fun v3 => pBin Try.prog 3 BinOp.leq v3 (Value.int IntKind.i64 12) (fun v4 => pIf v4 (AC Try.prog w0 n_slices_insertionSortOrdered_string [vget l0 0, vget l0 1, vget l0 2] s2 (fun v5 s6 => K1 AX.ret [vget l0 0, vget l0 1, vget l0 2, vget l0 3, vget l0 4, vget l0 5] s6)) (pBin Try.prog 3 BinOp.eql (vget l0 3) (Value.int IntKind.i64 0) (fun v7 => pIf v7 (AC Try.prog w0 n_slices_heapSortOrdered_string [vget l0 0, vget l0 1, vget l0 2] s2 (fun v8 s9 => K1 AX.ret [vget l0 0, vget l0 1, vget l0 2, vget l0 3, vget l0 4, vget l0 5] s9)) (pUn UnOp.not (vget l0 4) (fun v10 => pIf v10 (AC Try.prog w0 n_slices_breakPatternsOrdered_string [vget l0 0, vget l0 1, vget l0 2] s2 (fun v11 s12 => pBin Try.prog 3 BinOp.sub (vget l0 3) (Value.int IntKind.i64 1) (fun v13 => AC Try.prog w0 n_slices_choosePivotOrdered_string [vget l0 0, vget l0 1, vget l0 2] s12 (fun v14 s15 => pExtract v14 0 (fun v16 => pExtract v14 1 (fun v17 => pBin Try.prog 161 BinOp.eql v17 (Value.int IntKind.i64 2) (fun v18 => pIf v18 (AC Try.prog w0 n_slices_reverseRangeOrdered_string [vget l0 0, vget l0 1, vget l0 2] s15 (fun v19 s20 => pBin Try.prog 3 BinOp.sub (vget l0 2) (Value.int IntKind.i64 1) (fun v21 => pBin Try.prog 3 BinOp.sub v16 (vget l0 1) (fun v22 => pBin Try.prog 3 BinOp.sub v21 v22 (fun v23 => pIf (vget l0 4) (pIf (vget l0 5) (pBin Try.prog 161 BinOp.eql (Value.int IntKind.i64 1) (Value.int IntKind.i64 1) (fun v24 => pIf v24 (AC Try.prog w0 n_slices_partialInsertionSortOrdered_string [vget l0 0, vget l0 1, vget l0 2] s20 (fun v25 s26 => pIf v25 (K1 AX.ret [vget l0 0, vget l0 1, vget l0 2, v13, vget l0 4, vget l0 5] s26) (pBin Try.prog 3 BinOp.gtr (vget l0 1) (Value.int IntKind.i64 0) (fun v27 => pIf v27 (pBin Try.prog 3 BinOp.sub (vget l0 1) (Value.int IntKind.i64 1) (fun v28 => pIndexAddr 1 (vget l0 0) v28 (fun v29 => pLoad w0 1 v29 s26 (fun g30 => pIndexAddr 1 (vget l0 0) v23 (fun v31 => pLoad w0 1 v31 s26 (fun g32 => AC Try.prog w0 n_cmp_Less_string [g30 0, g32 0] s26 (fun v33 s34 => pUn UnOp.not v33 (fun v35 => pIf v35 (AC Try.prog w0 n_slices_partitionEqualOrdered_string [vget l0 0, vget l0 1, vget l0 2, v23] s34 (fun v36 s37 => K1 AX.normal [vget l0 0, v36, vget l0 2, v13, vget l0 4, vget l0 5] s37)) (AC Try.prog w0 n_slices_partitionOrdered_string [vget l0 0, vget l0 1, vget l0 2, v23] s34 (fun v38 s39 => pExtract v38 0 (fun v40 => pExtract v38 1 (fun v41 => pBin Try.prog 3 BinOp.sub v40 (vget l0 1) (fun v42 => pBin Try.prog 3 BinOp.sub (vget l0 2) v40 (fun v43 => pBin Try.prog 3 BinOp.quo v3 (Value.int IntKind.i64 8) (fun v44 => pBin Try.prog 3 BinOp.lss v42 v43 (fun v45 => pIf v45 (pBin Try.prog 3 BinOp.geq v42 v44 (fun v46 => AC Try.prog w0 n_slices_pdqsortOrdered_string [vget l0 0, vget l0 1, v40, v13] s39 (fun v47 s48 => pBin Try.prog 3 BinOp.add v40 (Value.int IntKind.i64 1) (fun v49 => K1 AX.normal [vget l0 0, v49, vget l0 2, v13, v46, v41] s48)))) (pBin Try.prog 3 BinOp.geq v43 v44 (fun v50 => pBin Try.prog 3 BinOp.add v40 (Value.int IntKind.i64 1) (fun v51 => AC Try.prog w0 n_slices_pdqsortOrdered_string [vget l0 0, v51, vget l0 2, v13] s39 (fun v52 s53 => K1 AX.normal [vget l0 0, vget l0 1, v40, v13, v50, v41] s53)))))))))))))))))))) (AC Try.prog w0 n_slices_partitionOrdered_string [vget l0 0, vget l0 1, vget l0 2, v23] s26 (fun v54 s55 => pExtract v54 0 (fun v56 => pExtract v54 1 (fun v57 => pBin Try.prog 3 BinOp.sub v56 (vget l0 1) (fun v58 => pBin Try.prog 3 BinOp.sub (vget l0 2) v56 (fun v59 => pBin Try.prog 3 BinOp.quo v3 (Value.int IntKind.i64 8) (fun v60 => pBin Try.prog 3 BinOp.lss v58 v59 (fun v61 => pIf v61 (pBin Try.prog 3 BinOp.geq v58 v60 (fun v62 => AC Try.prog w0 n_slices_pdqsortOrdered_string [vget l0 0, vget l0 1, v56, v13] s55 (fun v63 s64 => pBin Try.prog 3 BinOp.add v56 (Value.int IntKind.i64 1) (fun v65 => K1 AX.normal [vget l0 0, v65, vget l0 2, v13, v62, v57] s64)))) (pBin Try.prog 3 BinOp.geq v59 v60 (fun v66 => pBin Try.prog 3 BinOp.add v56 (Value.int IntKind.i64 1) (fun v67 => AC Try.prog w0 n_slices_pdqsortOrdered_string [vget l0 0, v67, vget l0 2, v13] s55 (fun v68 s69 => K1 AX.normal [vget l0 0, vget l0 1, v56, v13, v66, v57] s69)))))))))))))))) (pBin Try.prog 3 BinOp.gtr (vget l0 1) (Value.int IntKind.i64 0) (fun v70 => pIf v70 (pBin Try.prog 3 BinOp.sub (vget l0 1) (Value.int IntKind.i64 1) (fun v71 => pIndexAddr 1 (vget l0 0) v71 (fun v72 => pLoad w0 1 v72 s20 (fun g73 => pIndexAddr 1 (vget l0 0) v23 (fun v74 => pLoad w0 1 v74 s20 (fun g75 => AC Try.prog w0 n_cmp_Less_string [g73 0, g75 0] s20 (fun v76 s77 => pUn UnOp.not v76 (fun v78 => pIf v78 (AC Try.prog w0 n_slices_partitionEqualOrdered_string [vget l0 0, vget l0 1, vget l0 2, v23] s77 (fun v79 s80 => K1 AX.normal [vget l0 0, v79, vget l0 2, v13, vget l0 4, vget l0 5] s80)) (AC Try.prog w0 n_slices_partitionOrdered_string [vget l0 0, vget l0 1, vget l0 2, v23] s77 (fun v81 s82 => pExtract v81 0 (fun v83 => pExtract v81 1 (fun v84 => pBin Try.prog 3 BinOp.sub v83 (vget l0 1) (fun v85 => pBin Try.prog 3 BinOp.sub (vget l0 2) v83 (fun v86 => pBin Try.prog 3 BinOp.quo v3 (Value.int IntKind.i64 8) (fun v87 => pBin Try.prog 3 BinOp.lss v85 v86 (fun v88 => pIf v88 (pBin Try.prog 3 BinOp.geq v85 v87 (fun v89 => AC Try.prog w0 n_slices_pdqsortOrdered_string [vget l0 0, vget l0 1, v83, v13] s82 (fun v90 s91 => pBin Try.prog 3 BinOp.add v83 (Value.int IntKind.i64 1) (fun v92 => K1 AX.normal [vget l0 0, v92, vget l0 2, v13, v89, v84] s91)))) (pBin Try.prog 3 BinOp.geq v86 v87 (fun v93 => pBin Try.prog 3 BinOp.add v83 (Value.int IntKind.i64 1) (fun v94 => AC Try.prog w0 n_slices_pdqsortOrdered_string [vget l0 0, v94, vget l0 2, v13] s82 (fun v95 s96 => K1 AX.normal [vget l0 0, vget l0 1, v83, v13, v93, v84] s96)))))))))))))))))))) (AC Try.prog w0 n_slices_partitionOrdered_string [vget l0 0, vget l0 1, vget l0 2, v23] s20 (fun v97 s98 => pExtract v97 0 (fun v99 => pExtract v97 1 (fun v100 => pBin Try.prog 3 BinOp.sub v99 (vget l0 1) (fun v101 => pBin Try.prog 3 BinOp.sub (vget l0 2) v99 (fun v102 => pBin Try.prog 3 BinOp.quo v3 (Value.int IntKind.i64 8) (fun v103 => pBin Try.prog 3 BinOp.lss v101 v102 (fun v104 => pIf v104 (pBin Try.prog 3 BinOp.geq v101 v103 (fun v105 => AC Try.prog w0 n_slices_pdqsortOrdered_string [vget l0 0, vget l0 1, v99, v13] s98 (fun v106 s107 => pBin Try.prog 3 BinOp.add v99 (Value.int IntKind.i64 1) (fun v108 => K1 AX.normal [vget l0 0, v108, vget l0 2, v13, v105, v100] s107)))) (pBin Try.prog 3 BinOp.geq v102 v103 (fun v109 => pBin Try.prog 3 BinOp.add v99 (Value.int IntKind.i64 1) (fun v110 => AC Try.prog w0 n_slices_pdqsortOrdered_string [vget l0 0, v110, vget l0 2, v13] s98 (fun v111 s112 => K1 AX.normal [vget l0 0, vget l0 1, v99, v13, v109, v100] s112)))))))))))))))) (pBin Try.prog 3 BinOp.gtr (vget l0 1) (Value.int IntKind.i64 0) (fun v113 => pIf v113 (pBin Try.prog 3 BinOp.sub (vget l0 1) (Value.int IntKind.i64 1) (fun v114 => pIndexAddr 1 (vget l0 0) v114 (fun v115 => pLoad w0 1 v115 s20 (fun g116 => pIndexAddr 1 (vget l0 0) v23 (fun v117 => pLoad w0 1 v117 s20 (fun g118 => AC Try.prog w0 n_cmp_Less_string [g116 0, g118 0] s20 (fun v119 s120 => pUn UnOp.not v119 (fun v121 => pIf v121 (AC Try.prog w0 n_slices_partitionEqualOrdered_string [vget l0 0, vget l0 1, vget l0 2, v23] s120 (fun v122 s123 => K1 AX.normal [vget l0 0, v122, vget l0 2, v13, vget l0 4, vget l0 5] s123)) (AC Try.prog w0 n_slices_partitionOrdered_string [vget l0 0, vget l0 1, vget l0 2, v23] s120 (fun v124 s125 => pExtract v124 0 (fun v126 => pExtract v124 1 (fun v127 => pBin Try.prog 3 BinOp.sub v126 (vget l0 1) (fun v128 => pBin Try.prog 3 BinOp.sub (vget l0 2) v126 (fun v129 => pBin Try.prog 3 BinOp.quo v3 (Value.int IntKind.i64 8) (fun v130 => pBin Try.prog 3 BinOp.lss v128 v129 (fun v131 => pIf v131 (pBin Try.prog 3 BinOp.geq v128 v130 (fun v132 => AC Try.prog w0 n_slices_pdqsortOrdered_string [vget l0 0, vget l0 1, v126, v13] s125 (fun v133 s134 => pBin Try.prog 3 BinOp.add v126 (Value.int IntKind.i64 1) (fun v135 => K1 AX.normal [vget l0 0, v135, vget l0 2, v13, v132, v127] s134)))) (pBin Try.prog 3 BinOp.geq v129 v130 (fun v136 => pBin Try.prog 3 BinOp.add v126 (Value.int IntKind.i64 1) (fun v137 => AC Try.prog w0 n_slices_pdqsortOrdered_string [vget l0 0, v137, vget l0 2, v13] s125 (fun v138 s139 => K1 AX.normal [vget l0 0, vget l0 1, v126, v13, v136, v127] s139)))))))))))))))))))) (AC Try.prog w0 n_slices_partitionOrdered_string [vget l0 0, vget l0 1, vget l0 2, v23] s20 (fun v140 s141 => pExtract v140 0 (fun v142 => pExtract v140 1 (fun v143 => pBin Try.prog 3 BinOp.sub v142 (vget l0 1) (fun v144 => pBin Try.prog 3 BinOp.sub (vget l0 2) v142 (fun v145 => pBin Try.prog 3 BinOp.quo v3 (Value.int IntKind.i64 8) (fun v146 => pBin Try.prog 3 BinOp.lss v144 v145 (fun v147 => pIf v147 (pBin Try.prog 3 BinOp.geq v144 v146 (fun v148 => AC Try.prog w0 n_slices_pdqsortOrdered_string [vget l0 0, vget l0 1, v142, v13] s141 (fun v149 s150 => pBin Try.prog 3 BinOp.add v142 (Value.int IntKind.i64 1) (fun v151 => K1 AX.normal [vget l0 0, v151, vget l0 2, v13, v148, v143] s150)))) (pBin Try.prog 3 BinOp.geq v145 v146 (fun v152 => pBin Try.prog 3 BinOp.add v142 (Value.int IntKind.i64 1) (fun v153 => AC Try.prog w0 n_slices_pdqsortOrdered_string [vget l0 0, v153, vget l0 2, v13] s141 (fun v154 s155 => K1 AX.normal [vget l0 0, vget l0 1, v142, v13, v152, v143] s155))))))))))))))) (pBin Try.prog 3 BinOp.gtr (vget l0 1) (Value.int IntKind.i64 0) (fun v156 => pIf v156 (pBin Try.prog 3 BinOp.sub (vget l0 1) (Value.int IntKind.i64 1) (fun v157 => pIndexAddr 1 (vget l0 0) v157 (fun v158 => pLoad w0 1 v158 s20 (fun g159 => pIndexAddr 1 (vget l0 0) v23 (fun v160 => pLoad w0 1 v160 s20 (fun g161 => AC Try.prog w0 n_cmp_Less_string [g159 0, g161 0] s20 (fun v162 s163 => pUn UnOp.not v162 (fun v164 => pIf v164 (AC Try.prog w0 n_slices_partitionEqualOrdered_string [vget l0 0, vget l0 1, vget l0 2, v23] s163 (fun v165 s166 => K1 AX.normal [vget l0 0, v165, vget l0 2, v13, vget l0 4, vget l0 5] s166)) (AC Try.prog w0 n_slices_partitionOrdered_string [vget l0 0, vget l0 1, vget l0 2, v23] s163 (fun v167 s168 => pExtract v167 0 (fun v169 => pExtract v167 1 (fun v170 => pBin Try.prog 3 BinOp.sub v169 (vget l0 1) (fun v171 => pBin Try.prog 3 BinOp.sub (vget l0 2) v169 (fun v172 => pBin Try.prog 3 BinOp.quo v3 (Value.int IntKind.i64 8) (fun v173 => pBin Try.prog 3 BinOp.lss v171 v172 (fun v174 => pIf v174 (pBin Try.prog 3 BinOp.geq v171 v173 (fun v175 => AC Try.prog w0 n_slices_pdqsortOrdered_string [vget l0 0, vget l0 1, v169, v13] s168 (fun v176 s177 => pBin Try.prog 3 BinOp.add v169 (Value.int IntKind.i64 1) (fun v178 => K1 AX.normal [vget l0 0, v178, vget l0 2, v13, v175, v170] s177)))) (pBin Try.prog 3 BinOp.geq v172 v173 (fun v179 => pBin Try.prog 3 BinOp.add v169 (Value.int IntKind.i64 1) (fun v180 => AC Try.prog w0 n_slices_pdqsortOrdered_string [vget l0 0, v180, vget l0 2, v13] s168 (fun v181 s182 => K1 AX.normal [vget l0 0, vget l0 1, v169, v13, v179, v170] s182)))))))))))))))))))) (AC Try.prog w0 n_slices_partitionOrdered_string [vget l0 0, vget l0 1, vget l0 2, v23] s20 (fun v183 s184 => pExtract v183 0 (fun v185 => pExtract v183 1 (fun v186 => pBin Try.prog 3 BinOp.sub v185 (vget l0 1) (fun v187 => pBin Try.prog 3 BinOp.sub (vget l0 2) v185 (fun v188 => pBin Try.prog 3 BinOp.quo v3 (Value.int IntKind.i64 8) (fun v189 => pBin Try.prog 3 BinOp.lss v187 v188 (fun v190 => pIf v190 (pBin Try.prog 3 BinOp.geq v187 v189 (fun v191 => AC Try.prog w0 n_slices_pdqsortOrdered_string [vget l0 0, vget l0 1, v185, v13] s184 (fun v192 s193 => pBin Try.prog 3 BinOp.add v185 (Value.int IntKind.i64 1) (fun v194 => K1 AX.normal [vget l0 0, v194, vget l0 2, v13, v191, v186] s193)))) (pBin Try.prog 3 BinOp.geq v188 v189 (fun v195 => pBin Try.prog 3 BinOp.add v185 (Value.int IntKind.i64 1) (fun v196 => AC Try.prog w0 n_slices_pdqsortOrdered_string [vget l0 0, v196, vget l0 2, v13] s184 (fun v197 s198 => K1 AX.normal [vget l0 0, vget l0 1, v185, v13, v195, v186] s198))))))))))))))))))) (pIf (vget l0 4) (pIf (vget l0 5) (pBin Try.prog 161 BinOp.eql v17 (Value.int IntKind.i64 1) (fun v199 => pIf v199 (AC Try.prog w0 n_slices_partialInsertionSortOrdered_string [vget l0 0, vget l0 1, vget l0 2] s15 (fun v200 s201 => pIf v200 (K1 AX.ret [vget l0 0, vget l0 1, vget l0 2, v13, vget l0 4, vget l0 5] s201) (pBin Try.prog 3 BinOp.gtr (vget l0 1) (Value.int IntKind.i64 0) (fun v202 => pIf v202 (pBin Try.prog 3 BinOp.sub (vget l0 1) (Value.int IntKind.i64 1) (fun v203 => pIndexAddr 1 (vget l0 0) v203 (fun v204 => pLoad w0 1 v204 s201 (fun g205 => pIndexAddr 1 (vget l0 0) v16 (fun v206 => pLoad w0 1 v206 s201 (fun g207 => AC Try.prog w0 n_cmp_Less_string [g205 0, g207 0] s201 (fun v208 s209 => pUn UnOp.not v208 (fun v210 => pIf v210 (AC Try.prog w0 n_slices_partitionEqualOrdered_string [vget l0 0, vget l0 1, vget l0 2, v16] s209 (fun v211 s212 => K1 AX.normal [vget l0 0, v211, vget l0 2, v13, vget l0 4, vget l0 5] s212)) (AC Try.prog w0 n_slices_partitionOrdered_string [vget l0 0, vget l0 1, vget l0 2, v16] s209 (fun v213 s214 => pExtract v213 0 (fun v215 => pExtract v213 1 (fun v216 => pBin Try.prog 3 BinOp.sub v215 (vget l0 1) (fun v217 => pBin Try.prog 3 BinOp.sub (vget l0 2) v215 (fun v218 => pBin Try.prog 3 BinOp.quo v3 (Value.int IntKind.i64 8) (fun v219 => pBin Try.prog 3 BinOp.lss v217 v218 (fun v220 => pIf v220 (pBin Try.prog 3 BinOp.geq v217 v219 (fun v221 => AC Try.prog w0 n_slices_pdqsortOrdered_string [vget l0 0, vget l0 1, v215, v13] s214 (fun v222 s223 => pBin Try.prog 3 BinOp.add v215 (Value.int IntKind.i64 1) (fun v224 => K1 AX.normal [vget l0 0, v224, vget l0 2, v13, v221, v216] s223)))) (pBin Try.prog 3 BinOp.geq v218 v219 (fun v225 => pBin Try.prog 3 BinOp.add v215 (Value.int IntKind.i64 1) (fun v226 => AC Try.prog w0 n_slices_pdqsortOrdered_string [vget l0 0, v226, vget l0 2, v13] s214 (fun v227 s228 => K1 AX.normal [vget l0 0, vget l0 1, v215, v13, v225, v216] s228)))))))))))))))))))) (AC Try.prog w0 n_slices_partitionOrdered_string [vget l0 0, vget l0 1, vget l0 2, v16] s201 (fun v229 s230 => pExtract v229 0 (fun v231 => pExtract v229 1 (fun v232 => pBin Try.prog 3 BinOp.sub v231 (vget l0 1) (fun v233 => pBin Try.prog 3 BinOp.sub (vget l0 2) v231 (fun v234 => pBin Try.prog 3 BinOp.quo v3 (Value.int IntKind.i64 8) (fun v235 => pBin Try.prog 3 BinOp.lss v233 v234 (fun v236 => pIf v236 (pBin Try.prog 3 BinOp.geq v233 v235 (fun v237 => AC Try.prog w0 n_slices_pdqsortOrdered_string [vget l0 0, vget l0 1, v231, v13] s230 (fun v238 s239 => pBin Try.prog 3 BinOp.add v231 (Value.int IntKind.i64 1) (fun v240 => K1 AX.normal [vget l0 0, v240, vget l0 2, v13, v237, v232] s239)))) (pBin Try.prog 3 BinOp.geq v234 v235 (fun v241 => pBin Try.prog 3 BinOp.add v231 (Value.int IntKind.i64 1) (fun v242 => AC Try.prog w0 n_slices_pdqsortOrdered_string [vget l0 0, v242, vget l0 2, v13] s230 (fun v243 s244 => K1 AX.normal [vget l0 0, vget l0 1, v231, v13, v241, v232] s244)))))))))))))))) (pBin Try.prog 3 BinOp.gtr (vget l0 1) (Value.int IntKind.i64 0) (fun v245 => pIf v245 (pBin Try.prog 3 BinOp.sub (vget l0 1) (Value.int IntKind.i64 1) (fun v246 => pIndexAddr 1 (vget l0 0) v246 (fun v247 => pLoad w0 1 v247 s15 (fun g248 => pIndexAddr 1 (vget l0 0) v16 (fun v249 => pLoad w0 1 v249 s15 (fun g250 => AC Try.prog w0 n_cmp_Less_string [g248 0, g250 0] s15 (fun v251 s252 => pUn UnOp.not v251 (fun v253 => pIf v253 (AC Try.prog w0 n_slices_partitionEqualOrdered_string [vget l0 0, vget l0 1, vget l0 2, v16] s252 (fun v254 s255 => K1 AX.normal [vget l0 0, v254, vget l0 2, v13, vget l0 4, vget l0 5] s255)) (AC Try.prog w0 n_slices_partitionOrdered_string [vget l0 0, vget l0 1, vget l0 2, v16] s252 (fun v256 s257 => pExtract v256 0 (fun v258 => pExtract v256 1 (fun v259 => pBin Try.prog 3 BinOp.sub v258 (vget l0 1) (fun v260 => pBin Try.prog 3 BinOp.sub (vget l0 2) v258 (fun v261 => pBin Try.prog 3 BinOp.quo v3 (Value.int IntKind.i64 8) (fun v262 => pBin Try.prog 3 BinOp.lss v260 v261 (fun v263 => pIf v263 (pBin Try.prog 3 BinOp.geq v260 v262 (fun v264 => AC Try.prog w0 n_slices_pdqsortOrdered_string [vget l0 0, vget l0 1, v258, v13] s257 (fun v265 s266 => pBin Try.prog 3 BinOp.add v258 (Value.int IntKind.i64 1) (fun v267 => K1 AX.normal [vget l0 0, v267, vget l0 2, v13, v264, v259] s266)))) (pBin Try.prog 3 BinOp.geq v261 v262 (fun v268 => pBin Try.prog 3 BinOp.add v258 (Value.int IntKind.i64 1) (fun v269 => AC Try.prog w0 n_slices_pdqsortOrdered_string [vget l0 0, v269, vget l0 2, v13] s257 (fun v270 s271 => K1 AX.normal [vget l0 0, vget l0 1, v258, v13, v268, v259] s271)))))))))))))))))))) (AC Try.prog w0 n_slices_partitionOrdered_string [vget l0 0, vget l0 1, vget l0 2, v16] s15 (fun v272 s273 => pExtract v272 0 (fun v274 => pExtract v272 1 (fun v275 => pBin Try.prog 3 BinOp.sub v274 (vget l0 1) (fun v276 => pBin Try.prog 3 BinOp.sub (vget l0 2) v274 (fun v277 => pBin Try.prog 3 BinOp.quo v3 (Value.int IntKind.i64 8) (fun v278 => pBin Try.prog 3 BinOp.lss v276 v277 (fun v279 => pIf v279 (pBin Try.prog 3 BinOp.geq v276 v278 (fun v280 => AC Try.prog w0 n_slices_pdqsortOrdered_string [vget l0 0, vget l0 1, v274, v13] s273 (fun v281 s282 => pBin Try.prog 3 BinOp.add v274 (Value.int IntKind.i64 1) (fun v283 => K1 AX.normal [vget l0 0, v283, vget l0 2, v13, v280, v275] s282)))) (pBin Try.prog 3 BinOp.geq v277 v278 (fun v284 => pBin Try.prog 3 BinOp.add v274 (Value.int IntKind.i64 1) (fun v285 => AC Try.prog w0 n_slices_pdqsortOrdered_string [vget l0 0, v285, vget l0 2, v13] s273 (fun v286 s287 => K1 AX.normal [vget l0 0, vget l0 1, v274, v13, v284, v275] s287)))))))))))))))) (pBin Try.prog 3 BinOp.gtr (vget l0 1) (Value.int IntKind.i64 0) (fun v288 => pIf v288 (pBin Try.prog 3 BinOp.sub (vget l0 1) (Value.int IntKind.i64 1) (fun v289 => pIndexAddr 1 (vget l0 0) v289 (fun v290 => pLoad w0 1 v290 s15 (fun g291 => pIndexAddr 1 (vget l0 0) v16 (fun v292 => pLoad w0 1 v292 s15 (fun g293 => AC Try.prog w0 n_cmp_Less_string [g291 0, g293 0] s15 (fun v294 s295 => pUn UnOp.not v294 (fun v296 => pIf v296 (AC Try.prog w0 n_slices_partitionEqualOrdered_string [vget l0 0, vget l0 1, vget l0 2, v16] s295 (fun v297 s298 => K1 AX.normal [vget l0 0, v297, vget l0 2, v13, vget l0 4, vget l0 5] s298)) (AC Try.prog w0 n_slices_partitionOrdered_string [vget l0 0, vget l0 1, vget l0 2, v16] s295 (fun v299 s300 => pExtract v299 0 (fun v301 => pExtract v299 1 (fun v302 => pBin Try.prog 3 BinOp.sub v301 (vget l0 1) (fun v303 => pBin Try.prog 3 BinOp.sub (vget l0 2) v301 (fun v304 => pBin Try.prog 3 BinOp.quo v3 (Value.int IntKind.i64 8) (fun v305 => pBin Try.prog 3 BinOp.lss v303 v304 (fun v306 => pIf v306 (pBin Try.prog 3 BinOp.geq v303 v305 (fun v307 => AC Try.prog w0 n_slices_pdqsortOrdered_string [vget l0 0, vget l0 1, v301, v13] s300 (fun v308 s309 => pBin Try.prog 3 BinOp.add v301 (Value.int IntKind.i64 1) (fun v310 => K1 AX.normal [vget l0 0, v310, vget l0 2, v13, v307, v302] s309)))) (pBin Try.prog 3 BinOp.geq v304 v305 (fun v311 => pBin Try.prog 3 BinOp.add v301 (Value.int IntKind.i64 1) (fun v312 => AC Try.prog w0 n_slices_pdqsortOrdered_string [vget l0 0, v312, vget l0 2, v13] s300 (fun v313 s314 => K1 AX.normal [vget l0 0, vget l0 1, v301, v13, v311, v302] s314)))))))))))))))))))) (AC Try.prog w0 n_slices_partitionOrdered_string [vget l0 0, vget l0 1, vget l0 2, v16] s15 (fun v315 s316 => pExtract v315 0 (fun v317 => pExtract v315 1 (fun v318 => pBin Try.prog 3 BinOp.sub v317 (vget l0 1) (fun v319 => pBin Try.prog 3 BinOp.sub (vget l0 2) v317 (fun v320 => pBin Try.prog 3 BinOp.quo v3 (Value.int IntKind.i64 8) (fun v321 => pBin Try.prog 3 BinOp.lss v319 v320 (fun v322 => pIf v322 (pBin Try.prog 3 BinOp.geq v319 v321 (fun v323 => AC Try.prog w0 n_slices_pdqsortOrdered_string [vget l0 0, vget l0 1, v317, v13] s316 (fun v324 s325 => pBin Try.prog 3 BinOp.add v317 (Value.int IntKind.i64 1) (fun v326 => K1 AX.normal [vget l0 0, v326, vget l0 2, v13, v323, v318] s325)))) (pBin Try.prog 3 BinOp.geq v320 v321 (fun v327 => pBin Try.prog 3 BinOp.add v317 (Value.int IntKind.i64 1) (fun v328 => AC Try.prog w0 n_slices_pdqsortOrdered_string [vget l0 0, v328, vget l0 2, v13] s316 (fun v329 s330 => K1 AX.normal [vget l0 0, vget l0 1, v317, v13, v327, v318] s330))))))))))))))) (pBin Try.prog 3 BinOp.gtr (vget l0 1) (Value.int IntKind.i64 0) (fun v331 => pIf v331 (pBin Try.prog 3 BinOp.sub (vget l0 1) (Value.int IntKind.i64 1) (fun v332 => pIndexAddr 1 (vget l0 0) v332 (fun v333 => pLoad w0 1 v333 s15 (fun g334 => pIndexAddr 1 (vget l0 0) v16 (fun v335 => pLoad w0 1 v335 s15 (fun g336 => AC Try.prog w0 n_cmp_Less_string [g334 0, g336 0] s15 (fun v337 s338 => pUn UnOp.not v337 (fun v339 => pIf v339 (AC Try.prog w0 n_slices_partitionEqualOrdered_string [vget l0 0, vget l0 1, vget l0 2, v16] s338 (fun v340 s341 => K1 AX.normal [vget l0 0, v340, vget l0 2, v13, vget l0 4, vget l0 5] s341)) (AC Try.prog w0 n_slices_partitionOrdered_string [vget l0 0, vget l0 1, vget l0 2, v16] s338 (fun v342 s343 => pExtract v342 0 (fun v344 => pExtract v342 1 (fun v345 => pBin Try.prog 3 BinOp.sub v344 (vget l0 1) (fun v346 => pBin Try.prog 3 BinOp.sub (vget l0 2) v344 (fun v347 => pBin Try.prog 3 BinOp.quo v3 (Value.int IntKind.i64 8) (fun v348 => pBin Try.prog 3 BinOp.lss v346 v347 (fun v349 => pIf v349 (pBin Try.prog 3 BinOp.geq v346 v348 (fun v350 => AC Try.prog w0 n_slices_pdqsortOrdered_string [vget l0 0, vget l0 1, v344, v13] s343 (fun v351 s352 => pBin Try.prog 3 BinOp.add v344 (Value.int IntKind.i64 1) (fun v353 => K1 AX.normal [vget l0 0, v353, vget l0 2, v13, v350, v345] s352)))) (pBin Try.prog 3 BinOp.geq v347 v348 (fun v354 => pBin Try.prog 3 BinOp.add v344 (Value.int IntKind.i64 1) (fun v355 => AC Try.prog w0 n_slices_pdqsortOrdered_string [vget l0 0, v355, vget l0 2, v13] s343 (fun v356 s357 => K1 AX.normal [vget l0 0, vget l0 1, v344, v13, v354, v345] s357)))))))))))))))))))) (AC Try.prog w0 n_slices_partitionOrdered_string [vget l0 0, vget l0 1, vget l0 2, v16] s15 (fun v358 s359 => pExtract v358 0 (fun v360 => pExtract v358 1 (fun v361 => pBin Try.prog 3 BinOp.sub v360 (vget l0 1) (fun v362 => pBin Try.prog 3 BinOp.sub (vget l0 2) v360 (fun v363 => pBin Try.prog 3 BinOp.quo v3 (Value.int IntKind.i64 8) (fun v364 => pBin Try.prog 3 BinOp.lss v362 v363 (fun v365 => pIf v365 (pBin Try.prog 3 BinOp.geq v362 v364 (fun v366 => AC Try.prog w0 n_slices_pdqsortOrdered_string [vget l0 0, vget l0 1, v360, v13] s359 (fun v367 s368 => pBin Try.prog 3 BinOp.add v360 (Value.int IntKind.i64 1) (fun v369 => K1 AX.normal [vget l0 0, v369, vget l0 2, v13, v366, v361] s368)))) (pBin Try.prog 3 BinOp.geq v363 v364 (fun v370 => pBin Try.prog 3 BinOp.add v360 (Value.int IntKind.i64 1) (fun v371 => AC Try.prog w0 n_slices_pdqsortOrdered_string [vget l0 0, v371, vget l0 2, v13] s359 (fun v372 s373 => K1 AX.normal [vget l0 0, vget l0 1, v360, v13, v370, v361] s373)))))))))))))))))))))) (AC Try.prog w0 n_slices_choosePivotOrdered_string [vget l0 0, vget l0 1, vget l0 2] s2 (fun v374 s375 => pExtract v374 0 (fun v376 => pExtract v374 1 (fun v377 => pBin Try.prog 161 BinOp.eql v377 (Value.int IntKind.i64 2) (fun v378 => pIf v378 (AC Try.prog w0 n_slices_reverseRangeOrdered_string [vget l0 0, vget l0 1, vget l0 2] s375 (fun v379 s380 => pBin Try.prog 3 BinOp.sub (vget l0 2) (Value.int IntKind.i64 1) (fun v381 => pBin Try.prog 3 BinOp.sub v376 (vget l0 1) (fun v382 => pBin Try.prog 3 BinOp.sub v381 v382 (fun v383 => pIf (vget l0 4) (pIf (vget l0 5) (pBin Try.prog 161 BinOp.eql (Value.int IntKind.i64 1) (Value.int IntKind.i64 1) (fun v384 => pIf v384 (AC Try.prog w0 n_slices_partialInsertionSortOrdered_string [vget l0 0, vget l0 1, vget l0 2] s380 (fun v385 s386 => pIf v385 (K1 AX.ret [vget l0 0, vget l0 1, vget l0 2, vget l0 3, vget l0 4, vget l0 5] s386) (pBin Try.prog 3 BinOp.gtr (vget l0 1) (Value.int IntKind.i64 0) (fun v387 => pIf v387 (pBin Try.prog 3 BinOp.sub (vget l0 1) (Value.int IntKind.i64 1) (fun v388 => pIndexAddr 1 (vget l0 0) v388 (fun v389 => pLoad w0 1 v389 s386 (fun g390 => pIndexAddr 1 (vget l0 0) v383 (fun v391 => pLoad w0 1 v391 s386 (fun g392 => AC Try.prog w0 n_cmp_Less_string [g390 0, g392 0] s386 (fun v393 s394 => pUn UnOp.not v393 (fun v395 => pIf v395 (AC Try.prog w0 n_slices_partitionEqualOrdered_string [vget l0 0, vget l0 1, vget l0 2, v383] s394 (fun v396 s397 => K1 AX.normal [vget l0 0, v396, vget l0 2, vget l0 3, vget l0 4, vget l0 5] s397)) (AC Try.prog w0 n_slices_partitionOrdered_string [vget l0 0, vget l0 1, vget l0 2, v383] s394 (fun v398 s399 => pExtract v398 0 (fun v400 => pExtract v398 1 (fun v401 => pBin Try.prog 3 BinOp.sub v400 (vget l0 1) (fun v402 => pBin Try.prog 3 BinOp.sub (vget l0 2) v400 (fun v403 => pBin Try.prog 3 BinOp.quo v3 (Value.int IntKind.i64 8) (fun v404 => pBin Try.prog 3 BinOp.lss v402 v403 (fun v405 => pIf v405 (pBin Try.prog 3 BinOp.geq v402 v404 (fun v406 => AC Try.prog w0 n_slices_pdqsortOrdered_string [vget l0 0, vget l0 1, v400, vget l0 3] s399 (fun v407 s408 => pBin Try.prog 3 BinOp.add v400 (Value.int IntKind.i64 1) (fun v409 => K1 AX.normal [vget l0 0, v409, vget l0 2, vget l0 3, v406, v401] s408)))) (pBin Try.prog 3 BinOp.geq v403 v404 (fun v410 => pBin Try.prog 3 BinOp.add v400 (Value.int IntKind.i64 1) (fun v411 => AC Try.prog w0 n_slices_pdqsortOrdered_string [vget l0 0, v411, vget l0 2, vget l0 3] s399 (fun v412 s413 => K1 AX.normal [vget l0 0, vget l0 1, v400, vget l0 3, v410, v401] s413)))))))))))))))))))) (AC Try.prog w0 n_slices_partitionOrdered_string [vget l0 0, vget l0 1, vget l0 2, v383] s386 (fun v414 s415 => pExtract v414 0 (fun v416 => pExtract v414 1 (fun v417 => pBin Try.prog 3 BinOp.sub v416 (vget l0 1) (fun v418 => pBin Try.prog 3 BinOp.sub (vget l0 2) v416 (fun v419 => pBin Try.prog 3 BinOp.quo v3 (Value.int IntKind.i64 8) (fun v420 => pBin Try.prog 3 BinOp.lss v418 v419 (fun v421 => pIf v421 (pBin Try.prog 3 BinOp.geq v418 v420 (fun v422 => AC Try.prog w0 n_slices_pdqsortOrdered_string [vget l0 0, vget l0 1, v416, vget l0 3] s415 (fun v423 s424 => pBin Try.prog 3 BinOp.add v416 (Value.int IntKind.i64 1) (fun v425 => K1 AX.normal [vget l0 0, v425, vget l0 2, vget l0 3, v422, v417] s424)))) (pBin Try.prog 3 BinOp.geq v419 v420 (fun v426 => pBin Try.prog 3 BinOp.add v416 (Value.int IntKind.i64 1) (fun v427 => AC Try.prog w0 n_slices_pdqsortOrdered_string [vget l0 0, v427, vget l0 2, vget l0 3] s415 (fun v428 s429 => K1 AX.normal [vget l0 0, vget l0 1, v416, vget l0 3, v426, v417] s429)))))))))))))))) (pBin Try.prog 3 BinOp.gtr (vget l0 1) (Value.int IntKind.i64 0) (fun v430 => pIf v430 (pBin Try.prog 3 BinOp.sub (vget l0 1) (Value.int IntKind.i64 1) (fun v431 => pIndexAddr 1 (vget l0 0) v431 (fun v432 => pLoad w0 1 v432 s380 (fun g433 => pIndexAddr 1 (vget l0 0) v383 (fun v434 => pLoad w0 1 v434 s380 (fun g435 => AC Try.prog w0 n_cmp_Less_string [g433 0, g435 0] s380 (fun v436 s437 => pUn UnOp.not v436 (fun v438 => pIf v438 (AC Try.prog w0 n_slices_partitionEqualOrdered_string [vget l0 0, vget l0 1, vget l0 2, v383] s437 (fun v439 s440 => K1 AX.normal [vget l0 0, v439, vget l0 2, vget l0 3, vget l0 4, vget l0 5] s440)) (AC Try.prog w0 n_slices_partitionOrdered_string [vget l0 0, vget l0 1, vget l0 2, v383] s437 (fun v441 s442 => pExtract v441 0 (fun v443 => pExtract v441 1 (fun v444 => pBin Try.prog 3 BinOp.sub v443 (vget l0 1) (fun v445 => pBin Try.prog 3 BinOp.sub (vget l0 2) v443 (fun v446 => pBin Try.prog 3 BinOp.quo v3 (Value.int IntKind.i64 8) (fun v447 => pBin Try.prog 3 BinOp.lss v445 v446 (fun v448 => pIf v448 (pBin Try.prog 3 BinOp.geq v445 v447 (fun v449 => AC Try.prog w0 n_slices_pdqsortOrdered_string [vget l0 0, vget l0 1, v443, vget l0 3] s442 (fun v450 s451 => pBin Try.prog 3 BinOp.add v443 (Value.int IntKind.i64 1) (fun v452 => K1 AX.normal [vget l0 0, v452, vget l0 2, vget l0 3, v449, v444] s451)))) (pBin Try.prog 3 BinOp.geq v446 v447 (fun v453 => pBin Try.prog 3 BinOp.add v443 (Value.int IntKind.i64 1) (fun v454 => AC Try.prog w0 n_slices_pdqsortOrdered_string [vget l0 0, v454, vget l0 2, vget l0 3] s442 (fun v455 s456 => K1 AX.normal [vget l0 0, vget l0 1, v443, vget l0 3, v453, v444] s456)))))))))))))))))))) (AC Try.prog w0 n_slices_partitionOrdered_string [vget l0 0, vget l0 1, vget l0 2, v383] s380 (fun v457 s458 => pExtract v457 0 (fun v459 => pExtract v457 1 (fun v460 => pBin Try.prog 3 BinOp.sub v459 (vget l0 1) (fun v461 => pBin Try.prog 3 BinOp.sub (vget l0 2) v459 (fun v462 => pBin Try.prog 3 BinOp.quo v3 (Value.int IntKind.i64 8) (fun v463 => pBin Try.prog 3 BinOp.lss v461 v462 (fun v464 => pIf v464 (pBin Try.prog 3 BinOp.geq v461 v463 (fun v465 => AC Try.prog w0 n_slices_pdqsortOrdered_string [vget l0 0, vget l0 1, v459, vget l0 3] s458 (fun v466 s467 => pBin Try.prog 3 BinOp.add v459 (Value.int IntKind.i64 1) (fun v468 => K1 AX.normal [vget l0 0, v468, vget l0 2, vget l0 3, v465, v460] s467)))) (pBin Try.prog 3 BinOp.geq v462 v463 (fun v469 => pBin Try.prog 3 BinOp.add v459 (Value.int IntKind.i64 1) (fun v470 => AC Try.prog w0 n_slices_pdqsortOrdered_string [vget l0 0, v470, vget l0 2, vget l0 3] s458 (fun v471 s472 => K1 AX.normal [vget l0 0, vget l0 1, v459, vget l0 3, v469, v460] s472)))))))))))))))) (pBin Try.prog 3 BinOp.gtr (vget l0 1) (Value.int IntKind.i64 0) (fun v473 => pIf v473 (pBin Try.prog 3 BinOp.sub (vget l0 1) (Value.int IntKind.i64 1) (fun v474 => pIndexAddr 1 (vget l0 0) v474 (fun v475 => pLoad w0 1 v475 s380 (fun g476 => pIndexAddr 1 (vget l0 0) v383 (fun v477 => pLoad w0 1 v477 s380 (fun g478 => AC Try.prog w0 n_cmp_Less_string [g476 0, g478 0] s380 (fun v479 s480 => pUn UnOp.not v479 (fun v481 => pIf v481 (AC Try.prog w0 n_slices_partitionEqualOrdered_string [vget l0 0, vget l0 1, vget l0 2, v383] s480 (fun v482 s483 => K1 AX.normal [vget l0 0, v482, vget l0 2, vget l0 3, vget l0 4, vget l0 5] s483)) (AC Try.prog w0 n_slices_partitionOrdered_string [vget l0 0, vget l0 1, vget l0 2, v383] s480 (fun v484 s485 => pExtract v484 0 (fun v486 => pExtract v484 1 (fun v487 => pBin Try.prog 3 BinOp.sub v486 (vget l0 1) (fun v488 => pBin Try.prog 3 BinOp.sub (vget l0 2) v486 (fun v489 => pBin Try.prog 3 BinOp.quo v3 (Value.int IntKind.i64 8) (fun v490 => pBin Try.prog 3 BinOp.lss v488 v489 (fun v491 => pIf v491 (pBin Try.prog 3 BinOp.geq v488 v490 (fun v492 => AC Try.prog w0 n_slices_pdqsortOrdered_string [vget l0 0, vget l0 1, v486, vget l0 3] s485 (fun v493 s494 => pBin Try.prog 3 BinOp.add v486 (Value.int IntKind.i64 1) (fun v495 => K1 AX.normal [vget l0 0, v495, vget l0 2, vget l0 3, v492, v487] s494)))) (pBin Try.prog 3 BinOp.geq v489 v490 (fun v496 => pBin Try.prog 3 BinOp.add v486 (Value.int IntKind.i64 1) (fun v497 => AC Try.prog w0 n_slices_pdqsortOrdered_string [vget l0 0, v497, vget l0 2, vget l0 3] s485 (fun v498 s499 => K1 AX.normal [vget l0 0, vget l0 1, v486, vget l0 3, v496, v487] s499)))))))))))))))))))) (AC Try.prog w0 n_slices_partitionOrdered_string [vget l0 0, vget l0 1, vget l0 2, v383] s380 (fun v500 s501 => pExtract v500 0 (fun v502 => pExtract v500 1 (fun v503 => pBin Try.prog 3 BinOp.sub v502 (vget l0 1) (fun v504 => pBin Try.prog 3 BinOp.sub (vget l0 2) v502 (fun v505 => pBin Try.prog 3 BinOp.quo v3 (Value.int IntKind.i64 8) (fun v506 => pBin Try.prog 3 BinOp.lss v504 v505 (fun v507 => pIf v507 (pBin Try.prog 3 BinOp.geq v504 v506 (fun v508 => AC Try.prog w0 n_slices_pdqsortOrdered_string [vget l0 0, vget l0 1, v502, vget l0 3] s501 (fun v509 s510 => pBin Try.prog 3 BinOp.add v502 (Value.int IntKind.i64 1) (fun v511 => K1 AX.normal [vget l0 0, v511, vget l0 2, vget l0 3, v508, v503] s510)))) (pBin Try.prog 3 BinOp.geq v505 v506 (fun v512 => pBin Try.prog 3 BinOp.add v502 (Value.int IntKind.i64 1) (fun v513 => AC Try.prog w0 n_slices_pdqsortOrdered_string [vget l0 0, v513, vget l0 2, vget l0 3] s501 (fun v514 s515 => K1 AX.normal [vget l0 0, vget l0 1, v502, vget l0 3, v512, v503] s515))))))))))))))) (pBin Try.prog 3 BinOp.gtr (vget l0 1) (Value.int IntKind.i64 0) (fun v516 => pIf v516 (pBin Try.prog 3 BinOp.sub (vget l0 1) (Value.int IntKind.i64 1) (fun v517 => pIndexAddr 1 (vget l0 0) v517 (fun v518 => pLoad w0 1 v518 s380 (fun g519 => pIndexAddr 1 (vget l0 0) v383 (fun v520 => pLoad w0 1 v520 s380 (fun g521 => AC Try.prog w0 n_cmp_Less_string [g519 0, g521 0] s380 (fun v522 s523 => pUn UnOp.not v522 (fun v524 => pIf v524 (AC Try.prog w0 n_slices_partitionEqualOrdered_string [vget l0 0, vget l0 1, vget l0 2, v383] s523 (fun v525 s526 => K1 AX.normal [vget l0 0, v525, vget l0 2, vget l0 3, vget l0 4, vget l0 5] s526)) (AC Try.prog w0 n_slices_partitionOrdered_string [vget l0 0, vget l0 1, vget l0 2, v383] s523 (fun v527 s528 => pExtract v527 0 (fun v529 => pExtract v527 1 (fun v530 => pBin Try.prog 3 BinOp.sub v529 (vget l0 1) (fun v531 => pBin Try.prog 3 BinOp.sub (vget l0 2) v529 (fun v532 => pBin Try.prog 3 BinOp.quo v3 (Value.int IntKind.i64 8) (fun v533 => pBin Try.prog 3 BinOp.lss v531 v532 (fun v534 => pIf v534 (pBin Try.prog 3 BinOp.geq v531 v533 (fun v535 => AC Try.prog w0 n_slices_pdqsortOrdered_string [vget l0 0, vget l0 1, v529, vget l0 3] s528 (fun v536 s537 => pBin Try.prog 3 BinOp.add v529 (Value.int IntKind.i64 1) (fun v538 => K1 AX.normal [vget l0 0, v538, vget l0 2, vget l0 3, v535, v530] s537)))) (pBin Try.prog 3 BinOp.geq v532 v533 (fun v539 => pBin Try.prog 3 BinOp.add v529 (Value.int IntKind.i64 1) (fun v540 => AC Try.prog w0 n_slices_pdqsortOrdered_string [vget l0 0, v540, vget l0 2, vget l0 3] s528 (fun v541 s542 => K1 AX.normal [vget l0 0, vget l0 1, v529, vget l0 3, v539, v530] s542)))))))))))))))))))) (AC Try.prog w0 n_slices_partitionOrdered_string [vget l0 0, vget l0 1, vget l0 2, v383] s380 (fun v543 s544 => pExtract v543 0 (fun v545 => pExtract v543 1 (fun v546 => pBin Try.prog 3 BinOp.sub v545 (vget l0 1) (fun v547 => pBin Try.prog 3 BinOp.sub (vget l0 2) v545 (fun v548 => pBin Try.prog 3 BinOp.quo v3 (Value.int IntKind.i64 8) (fun v549 => pBin Try.prog 3 BinOp.lss v547 v548 (fun v550 => pIf v550 (pBin Try.prog 3 BinOp.geq v547 v549 (fun v551 => AC Try.prog w0 n_slices_pdqsortOrdered_string [vget l0 0, vget l0 1, v545, vget l0 3] s544 (fun v552 s553 => pBin Try.prog 3 BinOp.add v545 (Value.int IntKind.i64 1) (fun v554 => K1 AX.normal [vget l0 0, v554, vget l0 2, vget l0 3, v551, v546] s553)))) (pBin Try.prog 3 BinOp.geq v548 v549 (fun v555 => pBin Try.prog 3 BinOp.add v545 (Value.int IntKind.i64 1) (fun v556 => AC Try.prog w0 n_slices_pdqsortOrdered_string [vget l0 0, v556, vget l0 2, vget l0 3] s544 (fun v557 s558 => K1 AX.normal [vget l0 0, vget l0 1, v545, vget l0 3, v555, v546] s558))))))))))))))))))) (pIf (vget l0 4) (pIf (vget l0 5) (pBin Try.prog 161 BinOp.eql v377 (Value.int IntKind.i64 1) (fun v559 => pIf v559 (AC Try.prog w0 n_slices_partialInsertionSortOrdered_string [vget l0 0, vget l0 1, vget l0 2] s375 (fun v560 s561 => pIf v560 (K1 AX.ret [vget l0 0, vget l0 1, vget l0 2, vget l0 3, vget l0 4, vget l0 5] s561) (pBin Try.prog 3 BinOp.gtr (vget l0 1) (Value.int IntKind.i64 0) (fun v562 => pIf v562 (pBin Try.prog 3 BinOp.sub (vget l0 1) (Value.int IntKind.i64 1) (fun v563 => pIndexAddr 1 (vget l0 0) v563 (fun v564 => pLoad w0 1 v564 s561 (fun g565 => pIndexAddr 1 (vget l0 0) v376 (fun v566 => pLoad w0 1 v566 s561 (fun g567 => AC Try.prog w0 n_cmp_Less_string [g565 0, g567 0] s561 (fun v568 s569 => pUn UnOp.not v568 (fun v570 => pIf v570 (AC Try.prog w0 n_slices_partitionEqualOrdered_string [vget l0 0, vget l0 1, vget l0 2, v376] s569 (fun v571 s572 => K1 AX.normal [vget l0 0, v571, vget l0 2, vget l0 3, vget l0 4, vget l0 5] s572)) (AC Try.prog w0 n_slices_partitionOrdered_string [vget l0 0, vget l0 1, vget l0 2, v376] s569 (fun v573 s574 => pExtract v573 0 (fun v575 => pExtract v573 1 (fun v576 => pBin Try.prog 3 BinOp.sub v575 (vget l0 1) (fun v577 => pBin Try.prog 3 BinOp.sub (vget l0 2) v575 (fun v578 => pBin Try.prog 3 BinOp.quo v3 (Value.int IntKind.i64 8) (fun v579 => pBin Try.prog 3 BinOp.lss v577 v578 (fun v580 => pIf v580 (pBin Try.prog 3 BinOp.geq v577 v579 (fun v581 => AC Try.prog w0 n_slices_pdqsortOrdered_string [vget l0 0, vget l0 1, v575, vget l0 3] s574 (fun v582 s583 => pBin Try.prog 3 BinOp.add v575 (Value.int IntKind.i64 1) (fun v584 => K1 AX.normal [vget l0 0, v584, vget l0 2, vget l0 3, v581, v576] s583)))) (pBin Try.prog 3 BinOp.geq v578 v579 (fun v585 => pBin Try.prog 3 BinOp.add v575 (Value.int IntKind.i64 1) (fun v586 => AC Try.prog w0 n_slices_pdqsortOrdered_string [vget l0 0, v586, vget l0 2, vget l0 3] s574 (fun v587 s588 => K1 AX.normal [vget l0 0, vget l0 1, v575, vget l0 3, v585, v576] s588)))))))))))))))))))) (AC Try.prog w0 n_slices_partitionOrdered_string [vget l0 0, vget l0 1, vget l0 2, v376] s561 (fun v589 s590 => pExtract v589 0 (fun v591 => pExtract v589 1 (fun v592 => pBin Try.prog 3 BinOp.sub v591 (vget l0 1) (fun v593 => pBin Try.prog 3 BinOp.sub (vget l0 2) v591 (fun v594 => pBin Try.prog 3 BinOp.quo v3 (Value.int IntKind.i64 8) (fun v595 => pBin Try.prog 3 BinOp.lss v593 v594 (fun v596 => pIf v596 (pBin Try.prog 3 BinOp.geq v593 v595 (fun v597 => AC Try.prog w0 n_slices_pdqsortOrdered_string [vget l0 0, vget l0 1, v591, vget l0 3] s590 (fun v598 s599 => pBin Try.prog 3 BinOp.add v591 (Value.int IntKind.i64 1) (fun v600 => K1 AX.normal [vget l0 0, v600, vget l0 2, vget l0 3, v597, v592] s599)))) (pBin Try.prog 3 BinOp.geq v594 v595 (fun v601 => pBin Try.prog 3 BinOp.add v591 (Value.int IntKind.i64 1) (fun v602 => AC Try.prog w0 n_slices_pdqsortOrdered_string [vget l0 0, v602, vget l0 2, vget l0 3] s590 (fun v603 s604 => K1 AX.normal [vget l0 0, vget l0 1, v591, vget l0 3, v601, v592] s604)))))))))))))))) (pBin Try.prog 3 BinOp.gtr (vget l0 1) (Value.int IntKind.i64 0) (fun v605 => pIf v605 (pBin Try.prog 3 BinOp.sub (vget l0 1) (Value.int IntKind.i64 1) (fun v606 => pIndexAddr 1 (vget l0 0) v606 (fun v607 => pLoad w0 1 v607 s375 (fun g608 => pIndexAddr 1 (vget l0 0) v376 (fun v609 => pLoad w0 1 v609 s375 (fun g610 => AC Try.prog w0 n_cmp_Less_string [g608 0, g610 0] s375 (fun v611 s612 => pUn UnOp.not v611 (fun v613 => pIf v613 (AC Try.prog w0 n_slices_partitionEqualOrdered_string [vget l0 0, vget l0 1, vget l0 2, v376] s612 (fun v614 s615 => K1 AX.normal [vget l0 0, v614, vget l0 2, vget l0 3, vget l0 4, vget l0 5] s615)) (AC Try.prog w0 n_slices_partitionOrdered_string [vget l0 0, vget l0 1, vget l0 2, v376] s612 (fun v616 s617 => pExtract v616 0 (fun v618 => pExtract v616 1 (fun v619 => pBin Try.prog 3 BinOp.sub v618 (vget l0 1) (fun v620 => pBin Try.prog 3 BinOp.sub (vget l0 2) v618 (fun v621 => pBin Try.prog 3 BinOp.quo v3 (Value.int IntKind.i64 8) (fun v622 => pBin Try.prog 3 BinOp.lss v620 v621 (fun v623 => pIf v623 (pBin Try.prog 3 BinOp.geq v620 v622 (fun v624 => AC Try.prog w0 n_slices_pdqsortOrdered_string [vget l0 0, vget l0 1, v618, vget l0 3] s617 (fun v625 s626 => pBin Try.prog 3 BinOp.add v618 (Value.int IntKind.i64 1) (fun v627 => K1 AX.normal [vget l0 0, v627, vget l0 2, vget l0 3, v624, v619] s626)))) (pBin Try.prog 3 BinOp.geq v621 v622 (fun v628 => pBin Try.prog 3 BinOp.add v618 (Value.int IntKind.i64 1) (fun v629 => AC Try.prog w0 n_slices_pdqsortOrdered_string [vget l0 0, v629, vget l0 2, vget l0 3] s617 (fun v630 s631 => K1 AX.normal [vget l0 0, vget l0 1, v618, vget l0 3, v628, v619] s631)))))))))))))))))))) (AC Try.prog w0 n_slices_partitionOrdered_string [vget l0 0, vget l0 1, vget l0 2, v376] s375 (fun v632 s633 => pExtract v632 0 (fun v634 => pExtract v632 1 (fun v635 => pBin Try.prog 3 BinOp.sub v634 (vget l0 1) (fun v636 => pBin Try.prog 3 BinOp.sub (vget l0 2) v634 (fun v637 => pBin Try.prog 3 BinOp.quo v3 (Value.int IntKind.i64 8) (fun v638 => pBin Try.prog 3 BinOp.lss v636 v637 (fun v639 => pIf v639 (pBin Try.prog 3 BinOp.geq v636 v638 (fun v640 => AC Try.prog w0 n_slices_pdqsortOrdered_string [vget l0 0, vget l0 1, v634, vget l0 3] s633 (fun v641 s642 => pBin Try.prog 3 BinOp.add v634 (Value.int IntKind.i64 1) (fun v643 => K1 AX.normal [vget l0 0, v643, vget l0 2, vget l0 3, v640, v635] s642)))) (pBin Try.prog 3 BinOp.geq v637 v638 (fun v644 => pBin Try.prog 3 BinOp.add v634 (Value.int IntKind.i64 1) (fun v645 => AC Try.prog w0 n_slices_pdqsortOrdered_string [vget l0 0, v645, vget l0 2, vget l0 3] s633 (fun v646 s647 => K1 AX.normal [vget l0 0, vget l0 1, v634, vget l0 3, v644, v635] s647)))))))))))))))) (pBin Try.prog 3 BinOp.gtr (vget l0 1) (Value.int IntKind.i64 0) (fun v648 => pIf v648 (pBin Try.prog 3 BinOp.sub (vget l0 1) (Value.int IntKind.i64 1) (fun v649 => pIndexAddr 1 (vget l0 0) v649 (fun v650 => pLoad w0 1 v650 s375 (fun g651 => pIndexAddr 1 (vget l0 0) v376 (fun v652 => pLoad w0 1 v652 s375 (fun g653 => AC Try.prog w0 n_cmp_Less_string [g651 0, g653 0] s375 (fun v654 s655 => pUn UnOp.not v654 (fun v656 => pIf v656 (AC Try.prog w0 n_slices_partitionEqualOrdered_string [vget l0 0, vget l0 1, vget l0 2, v376] s655 (fun v657 s658 => K1 AX.normal [vget l0 0, v657, vget l0 2, vget l0 3, vget l0 4, vget l0 5] s658)) (AC Try.prog w0 n_slices_partitionOrdered_string [vget l0 0, vget l0 1, vget l0 2, v376] s655 (fun v659 s660 => pExtract v659 0 (fun v661 => pExtract v659 1 (fun v662 => pBin Try.prog 3 BinOp.sub v661 (vget l0 1) (fun v663 => pBin Try.prog 3 BinOp.sub (vget l0 2) v661 (fun v664 => pBin Try.prog 3 BinOp.quo v3 (Value.int IntKind.i64 8) (fun v665 => pBin Try.prog 3 BinOp.lss v663 v664 (fun v666 => pIf v666 (pBin Try.prog 3 BinOp.geq v663 v665 (fun v667 => AC Try.prog w0 n_slices_pdqsortOrdered_string [vget l0 0, vget l0 1, v661, vget l0 3] s660 (fun v668 s669 => pBin Try.prog 3 BinOp.add v661 (Value.int IntKind.i64 1) (fun v670 => K1 AX.normal [vget l0 0, v670, vget l0 2, vget l0 3, v667, v662] s669)))) (pBin Try.prog 3 BinOp.geq v664 v665 (fun v671 => pBin Try.prog 3 BinOp.add v661 (Value.int IntKind.i64 1) (fun v672 => AC Try.prog w0 n_slices_pdqsortOrdered_string [vget l0 0, v672, vget l0 2, vget l0 3] s660 (fun v673 s674 => K1 AX.normal [vget l0 0, vget l0 1, v661, vget l0 3, v671, v662] s674)))))))))))))))))))) (AC Try.prog w0 n_slices_partitionOrdered_string [vget l0 0, vget l0 1, vget l0 2, v376] s375 (fun v675 s676 => pExtract v675 0 (fun v677 => pExtract v675 1 (fun v678 => pBin Try.prog 3 BinOp.sub v677 (vget l0 1) (fun v679 => pBin Try.prog 3 BinOp.sub (vget l0 2) v677 (fun v680 => pBin Try.prog 3 BinOp.quo v3 (Value.int IntKind.i64 8) (fun v681 => pBin Try.prog 3 BinOp.lss v679 v680 (fun v682 => pIf v682 (pBin Try.prog 3 BinOp.geq v679 v681 (fun v683 => AC Try.prog w0 n_slices_pdqsortOrdered_string [vget l0 0, vget l0 1, v677, vget l0 3] s676 (fun v684 s685 => pBin Try.prog 3 BinOp.add v677 (Value.int IntKind.i64 1) (fun v686 => K1 AX.normal [vget l0 0, v686, vget l0 2, vget l0 3, v683, v678] s685)))) (pBin Try.prog 3 BinOp.geq v680 v681 (fun v687 => pBin Try.prog 3 BinOp.add v677 (Value.int IntKind.i64 1) (fun v688 => AC Try.prog w0 n_slices_pdqsortOrdered_string [vget l0 0, v688, vget l0 2, vget l0 3] s676 (fun v689 s690 => K1 AX.normal [vget l0 0, vget l0 1, v677, vget l0 3, v687, v678] s690))))))))))))))) (pBin Try.prog 3 BinOp.gtr (vget l0 1) (Value.int IntKind.i64 0) (fun v691 => pIf v691 (pBin Try.prog 3 BinOp.sub (vget l0 1) (Value.int IntKind.i64 1) (fun v692 => pIndexAddr 1 (vget l0 0) v692 (fun v693 => pLoad w0 1 v693 s375 (fun g694 => pIndexAddr 1 (vget l0 0) v376 (fun v695 => pLoad w0 1 v695 s375 (fun g696 => AC Try.prog w0 n_cmp_Less_string [g694 0, g696 0] s375 (fun v697 s698 => pUn UnOp.not v697 (fun v699 => pIf v699 (AC Try.prog w0 n_slices_partitionEqualOrdered_string [vget l0 0, vget l0 1, vget l0 2, v376] s698 (fun v700 s701 => K1 AX.normal [vget l0 0, v700, vget l0 2, vget l0 3, vget l0 4, vget l0 5] s701)) (AC Try.prog w0 n_slices_partitionOrdered_string [vget l0 0, vget l0 1, vget l0 2, v376] s698 (fun v702 s703 => pExtract v702 0 (fun v704 => pExtract v702 1 (fun v705 => pBin Try.prog 3 BinOp.sub v704 (vget l0 1) (fun v706 => pBin Try.prog 3 BinOp.sub (vget l0 2) v704 (fun v707 => pBin Try.prog 3 BinOp.quo v3 (Value.int IntKind.i64 8) (fun v708 => pBin Try.prog 3 BinOp.lss v706 v707 (fun v709 => pIf v709 (pBin Try.prog 3 BinOp.geq v706 v708 (fun v710 => AC Try.prog w0 n_slices_pdqsortOrdered_string [vget l0 0, vget l0 1, v704, vget l0 3] s703 (fun v711 s712 => pBin Try.prog 3 BinOp.add v704 (Value.int IntKind.i64 1) (fun v713 => K1 AX.normal [vget l0 0, v713, vget l0 2, vget l0 3, v710, v705] s712)))) (pBin Try.prog 3 BinOp.geq v707 v708 (fun v714 => pBin Try.prog 3 BinOp.add v704 (Value.int IntKind.i64 1) (fun v715 => AC Try.prog w0 n_slices_pdqsortOrdered_string [vget l0 0, v715, vget l0 2, vget l0 3] s703 (fun v716 s717 => K1 AX.normal [vget l0 0, vget l0 1, v704, vget l0 3, v714, v705] s717)))))))))))))))))))) (AC Try.prog w0 n_slices_partitionOrdered_string [vget l0 0, vget l0 1, vget l0 2, v376] s375 (fun v718 s719 => pExtract v718 0 (fun v720 => pExtract v718 1 (fun v721 => pBin Try.prog 3 BinOp.sub v720 (vget l0 1) (fun v722 => pBin Try.prog 3 BinOp.sub (vget l0 2) v720 (fun v723 => pBin Try.prog 3 BinOp.quo v3 (Value.int IntKind.i64 8) (fun v724 => pBin Try.prog 3 BinOp.lss v722 v723 (fun v725 => pIf v725 (pBin Try.prog 3 BinOp.geq v722 v724 (fun v726 => AC Try.prog w0 n_slices_pdqsortOrdered_string [vget l0 0, vget l0 1, v720, vget l0 3] s719 (fun v727 s728 => pBin Try.prog 3 BinOp.add v720 (Value.int IntKind.i64 1) (fun v729 => K1 AX.normal [vget l0 0, v729, vget l0 2, vget l0 3, v726, v721] s728)))) (pBin Try.prog 3 BinOp.geq v723 v724 (fun v730 => pBin Try.prog 3 BinOp.add v720 (Value.int IntKind.i64 1) (fun v731 => AC Try.prog w0 n_slices_pdqsortOrdered_string [vget l0 0, v731, vget l0 2, vget l0 3] s719 (fun v732 s733 => K1 AX.normal [vget l0 0, vget l0 1, v720, vget l0 3, v730, v721] s733))))))))))))))))))))))))))) [a0, a1, a2, a3, Value.bool true, Value.bool true] σ (fun x734 l735 s736 => match x734 with | .normal => R (Value.tuple ⟨[]⟩) s736 | .ret => R (Value.tuple ⟨[]⟩) s736 | .exit i737 => (match Nat.beq i737 0 with | true => R (Value.tuple ⟨[]⟩) s736 | false => False))
theorem vc_slices_pdqsortOrdered_string_eq (w0 : World) (a0 a1 a2 a3 : Value) (σ : Vw) (R : Value → Vw → Prop) : vc_slices_pdqsortOrdered_string w0 a0 a1 a2 a3 σ R = den Try.prog w0 kp_slices_pdqsortOrdered_string esc_slices_pdqsortOrdered_string (Try.f165.body.getD .skip) (entry Try.f165.ntmps [a0, a1, a2, a3]) σ (retK Try.prog Try.f165.results.toList R) := by kernel_rfl
theorem ac_slices_pdqsortOrdered_string {w0 : World} {a0 a1 a2 a3 : Value} {σ : Vw} {R : Value → Vw → Prop} (h : vc_slices_pdqsortOrdered_string w0 a0 a1 a2 a3 σ R) : AC Try.prog w0 n_slices_pdqsortOrdered_string [a0, a1, a2, a3] σ R := by
  refine ac_rule (fn := Try.f165) (c := Try.f165.body.getD .skip) kp_slices_pdqsortOrdered_string esc_slices_pdqsortOrdered_string Try.func165 (by kernel_rfl) (by kernel_rfl) ?_
  rw [← vc_slices_pdqsortOrdered_string_eq]
  exact h

/-- spec.l2Do -/
def kp_spec_l2Do : Nat → Keep
  | 9 => ⟨[], [], [], .step 0 (.step 1 (.step 2 (.step 3 (.step 4 (.step 5 (.step 7 (.step 6 (.step 8 (.step 9 (.step 10 (.step 11 (.step 12 (.done))))))))))))), [(2, [1]), (4, [3]), (5, [3, 4]), (6, [0, 1, 2, 3, 4, 5]), (8, [0, 1, 2, 3, 4, 5, 6, 7]), (9, [0, 1, 2, 3, 4, 5, 6, 7, 8]), (10, [0, 1, 2, 3, 4, 5, 6, 7, 8]), (11, [0, 1, 2, 3, 4, 5, 6, 7, 8, 9, 10]), (12, [0, 1, 2, 3, 4, 5, 6, 7, 8, 9, 10, 11])]⟩
  | _ => ⟨[], [], [], .done, []⟩
def esc_spec_l2Do : Nat → Bool
  | _ => false
def vc_spec_l2Do (w0 : World) (a0 a1 : Value) (σ : Vw) (R : Value → Vw → Prop) : Prop :=
  pVal true 5 a0 (pVal true 5 a1 (AC Try.prog w0 n_spec_l2Parent ([Value.agg (⟨[cellOf a0 0, cellOf a0 1, cellOf a0 2, cellOf a0 3, cellOf a0 4]⟩), cellOf a1 1]) σ (fun v0 s1 => pBin Try.prog 3 BinOp.neq v0 (Value.int IntKind.i64 0) (fun v2 => pIf v2 (pVal true 5 (Value.agg (⟨[cellOf a0 0, cellOf a0 1, cellOf a0 2, cellOf a0 3, cellOf a0 4]⟩)) (R (Value.tuple (⟨[Value.agg (⟨[cellOf a0 0, cellOf a0 1, cellOf a0 2, cellOf a0 3, cellOf a0 4]⟩), v0]⟩)) s1)) (AC Try.prog w0 n_spec_l1At ([Value.agg (⟨[cellOf a0 0, cellOf a0 1, cellOf a0 2, cellOf a0 3, cellOf a0 4]⟩), cellOf a1 1]) s1 (fun v3 s4 => pExtract v3 0 (fun v5 => pExtract v3 1 (fun v6 => pVal true 5 v5 (pBin Try.prog 3 BinOp.eql (cellOf a1 0) (Value.int IntKind.i64 1) (fun v7 => pIf v7 (pIf v6 (pVal true 5 (Value.agg (⟨[cellOf a0 0, cellOf a0 1, cellOf a0 2, cellOf a0 3, cellOf a0 4]⟩)) (R (Value.tuple (⟨[Value.agg (⟨[cellOf a0 0, cellOf a0 1, cellOf a0 2, cellOf a0 3, cellOf a0 4]⟩), Value.int IntKind.i64 5]⟩)) s4)) (pVal false 1 (Value.bool true) (pVal false 1 (cellOf a1 3) (AC Try.prog w0 n_spec_l2Set ([Value.agg (⟨[cellOf a0 0, cellOf a0 1, cellOf a0 2, cellOf a0 3, cellOf a0 4]⟩), cellOf a1 1, Value.agg (⟨[Value.bool true, cellOf a1 3, Value.string ({ data := #[] }), Value.slice Option.none 0 0, Value.slice Option.none 0 0]⟩), Value.bool false]) s4 (fun v8 s9 => AC Try.prog w0 n_spec_l2Fits ([v8, Value.agg (⟨[cellOf a0 0, cellOf a0 1, cellOf a0 2, cellOf a0 3, cellOf a0 4]⟩)]) s9 (fun v10 s11 => pExtract v10 0 (fun v12 => pExtract v10 1 (fun v13 => pVal true 5 v12 (R (Value.tuple (⟨[Value.agg (⟨[cellOf v12 0, cellOf v12 1, cellOf v12 2, cellOf v12 3, cellOf v12 4]⟩), v13]⟩)) s11))))))))) (pBin Try.prog 3 BinOp.eql (cellOf a1 0) (Value.int IntKind.i64 2) (fun v14 => pIf v14 (pIf v14 (AC Try.prog w0 n_spec_l2File ([Value.agg (⟨[cellOf a0 0, cellOf a0 1, cellOf a0 2, cellOf a0 3, cellOf a0 4]⟩), Value.agg (⟨[cellOf a1 0, cellOf a1 1, cellOf a1 2, cellOf a1 3, cellOf a1 4]⟩)]) s4 (fun v15 s16 => pExtract v15 0 (fun v17 => pExtract v15 1 (fun v18 => pVal true 5 v17 (R (Value.tuple (⟨[Value.agg (⟨[cellOf v17 0, cellOf v17 1, cellOf v17 2, cellOf v17 3, cellOf v17 4]⟩), v18]⟩)) s16))))) (pBin Try.prog 3 BinOp.eql (cellOf a1 0) (Value.int IntKind.i64 5) (fun v19 => pIf v19 (AC Try.prog w0 n_spec_l2Rename ([Value.agg (⟨[cellOf a0 0, cellOf a0 1, cellOf a0 2, cellOf a0 3, cellOf a0 4]⟩), Value.agg (⟨[cellOf a1 0, cellOf a1 1, cellOf a1 2, cellOf a1 3, cellOf a1 4]⟩)]) s4 (fun v20 s21 => pExtract v20 0 (fun v22 => pExtract v20 1 (fun v23 => pVal true 5 v22 (R (Value.tuple (⟨[Value.agg (⟨[cellOf v22 0, cellOf v22 1, cellOf v22 2, cellOf v22 3, cellOf v22 4]⟩), v23]⟩)) s21))))) (pUn UnOp.not v6 (fun v24 => pIf v24 (pVal true 5 (Value.agg (⟨[cellOf a0 0, cellOf a0 1, cellOf a0 2, cellOf a0 3, cellOf a0 4]⟩)) (R (Value.tuple (⟨[Value.agg (⟨[cellOf a0 0, cellOf a0 1, cellOf a0 2, cellOf a0 3, cellOf a0 4]⟩), Value.int IntKind.i64 3]⟩)) s4)) (pBin Try.prog 3 BinOp.eql (cellOf a1 0) (Value.int IntKind.i64 4) (fun v25 => pIf v25 (pLen (cellOf v5 3) (fun v26 => pBin Try.prog 3 BinOp.gtr v26 (Value.int IntKind.i64 0) (fun v27 => pIf v27 (pVal true 5 (Value.agg (⟨[cellOf a0 0, cellOf a0 1, cellOf a0 2, cellOf a0 3, cellOf a0 4]⟩)) (R (Value.tuple (⟨[Value.agg (⟨[cellOf a0 0, cellOf a0 1, cellOf a0 2, cellOf a0 3, cellOf a0 4]⟩), Value.int IntKind.i64 5]⟩)) s4)) (AC Try.prog w0 n_spec_l2Set ([Value.agg (⟨[cellOf a0 0, cellOf a0 1, cellOf a0 2, cellOf a0 3, cellOf a0 4]⟩), cellOf a1 1, Value.agg (⟨[Value.bool false, Value.int IntKind.i64 0, Value.string ({ data := #[] }), Value.slice Option.none 0 0, Value.slice Option.none 0 0]⟩), Value.bool true]) s4 (fun v28 s29 => pVal true 5 v28 (R (Value.tuple (⟨[Value.agg (⟨[cellOf v28 0, cellOf v28 1, cellOf v28 2, cellOf v28 3, cellOf v28 4]⟩), Value.int IntKind.i64 0]⟩)) s29)))))) (pVal false 1 (cellOf a1 3) (AC Try.prog w0 n_spec_l2Set ([Value.agg (⟨[cellOf a0 0, cellOf a0 1, cellOf a0 2, cellOf a0 3, cellOf a0 4]⟩), cellOf a1 1, Value.agg (⟨[cellOf v5 0, cellOf a1 3, cellOf v5 2, cellOf v5 3, cellOf v5 4]⟩), Value.bool false]) s4 (fun v30 s31 => pVal true 5 v30 (R (Value.tuple (⟨[Value.agg (⟨[cellOf v30 0, cellOf v30 1, cellOf v30 2, cellOf v30 3, cellOf v30 4]⟩), Value.int IntKind.i64 0]⟩)) s31))))))))))) (pBin Try.prog 3 BinOp.eql (cellOf a1 0) (Value.int IntKind.i64 3) (fun v32 => pIf v32 (AC Try.prog w0 n_spec_l2File ([Value.agg (⟨[cellOf a0 0, cellOf a0 1, cellOf a0 2, cellOf a0 3, cellOf a0 4]⟩), Value.agg (⟨[cellOf a1 0, cellOf a1 1, cellOf a1 2, cellOf a1 3, cellOf a1 4]⟩)]) s4 (fun v33 s34 => pExtract v33 0 (fun v35 => pExtract v33 1 (fun v36 => pVal true 5 v35 (R (Value.tuple (⟨[Value.agg (⟨[cellOf v35 0, cellOf v35 1, cellOf v35 2, cellOf v35 3, cellOf v35 4]⟩), v36]⟩)) s34))))) (pBin Try.prog 3 BinOp.eql (cellOf a1 0) (Value.int IntKind.i64 5) (fun v37 => pIf v37 (AC Try.prog w0 n_spec_l2Rename ([Value.agg (⟨[cellOf a0 0, cellOf a0 1, cellOf a0 2, cellOf a0 3, cellOf a0 4]⟩), Value.agg (⟨[cellOf a1 0, cellOf a1 1, cellOf a1 2, cellOf a1 3, cellOf a1 4]⟩)]) s4 (fun v38 s39 => pExtract v38 0 (fun v40 => pExtract v38 1 (fun v41 => pVal true 5 v40 (R (Value.tuple (⟨[Value.agg (⟨[cellOf v40 0, cellOf v40 1, cellOf v40 2, cellOf v40 3, cellOf v40 4]⟩), v41]⟩)) s39))))) (pUn UnOp.not v6 (fun v42 => pIf v42 (pVal true 5 (Value.agg (⟨[cellOf a0 0, cellOf a0 1, cellOf a0 2, cellOf a0 3, cellOf a0 4]⟩)) (R (Value.tuple (⟨[Value.agg (⟨[cellOf a0 0, cellOf a0 1, cellOf a0 2, cellOf a0 3, cellOf a0 4]⟩), Value.int IntKind.i64 3]⟩)) s4)) (pBin Try.prog 3 BinOp.eql (cellOf a1 0) (Value.int IntKind.i64 4) (fun v43 => pIf v43 (pLen (cellOf v5 3) (fun v44 => pBin Try.prog 3 BinOp.gtr v44 (Value.int IntKind.i64 0) (fun v45 => pIf v45 (pVal true 5 (Value.agg (⟨[cellOf a0 0, cellOf a0 1, cellOf a0 2, cellOf a0 3, cellOf a0 4]⟩)) (R (Value.tuple (⟨[Value.agg (⟨[cellOf a0 0, cellOf a0 1, cellOf a0 2, cellOf a0 3, cellOf a0 4]⟩), Value.int IntKind.i64 5]⟩)) s4)) (AC Try.prog w0 n_spec_l2Set ([Value.agg (⟨[cellOf a0 0, cellOf a0 1, cellOf a0 2, cellOf a0 3, cellOf a0 4]⟩), cellOf a1 1, Value.agg (⟨[Value.bool false, Value.int IntKind.i64 0, Value.string ({ data := #[] }), Value.slice Option.none 0 0, Value.slice Option.none 0 0]⟩), Value.bool true]) s4 (fun v46 s47 => pVal true 5 v46 (R (Value.tuple (⟨[Value.agg (⟨[cellOf v46 0, cellOf v46 1, cellOf v46 2, cellOf v46 3, cellOf v46 4]⟩), Value.int IntKind.i64 0]⟩)) s47)))))) (pVal false 1 (cellOf a1 3) (AC Try.prog w0 n_spec_l2Set ([Value.agg (⟨[cellOf a0 0, cellOf a0 1, cellOf a0 2, cellOf a0 3, cellOf a0 4]⟩), cellOf a1 1, Value.agg (⟨[cellOf v5 0, cellOf a1 3, cellOf v5 2, cellOf v5 3, cellOf v5 4]⟩), Value.bool false]) s4 (fun v48 s49 => pVal true 5 v48 (R (Value.tuple (⟨[Value.agg (⟨[cellOf v48 0, cellOf v48 1, cellOf v48 2, cellOf v48 3, cellOf v48 4]⟩), Value.int IntKind.i64 0]⟩)) s49))))))))))))))))))))))))
theorem vc_spec_l2Do_eq (w0 : World) (a0 a1 : Value) (σ : Vw) (R : Value → Vw → Prop) : vc_spec_l2Do w0 a0 a1 σ R = den Try.prog w0 kp_spec_l2Do esc_spec_l2Do (Try.f166.body.getD .skip) (entry Try.f166.ntmps [a0, a1]) σ (retK Try.prog Try.f166.results.toList R) := by kernel_rfl
theorem ac_spec_l2Do {w0 : World} {a0 a1 : Value} {σ : Vw} {R : Value → Vw → Prop} (h : vc_spec_l2Do w0 a0 a1 σ R) : AC Try.prog w0 n_spec_l2Do [a0, a1] σ R := by
  refine ac_rule (fn := Try.f166) (c := Try.f166.body.getD .skip) kp_spec_l2Do esc_spec_l2Do Try.func166 (by kernel_rfl) (by kernel_rfl) ?_
  rw [← vc_spec_l2Do_eq]
  exact h

/-- slices.siftDownCmpFunc[impl.Mark] -/
def kp_slices_siftDownCmpFunc_impl_Mark : Nat → Keep
  | 1 => ⟨[0, 2, 3, 4, 10], [], [], .done, []⟩
  | 3 => ⟨[], [], [], .step 0 (.step 1 (.step 2 (.step 3 (.step 4 (.step 5 (.step 6 (.step 7 (.step 8 (.step 9 (.step 10 (.step 11 (.step 12 (.step 13 (.step 14 (.step 15 (.step 16 (.step 17 (.step 18 (.step 19 (.step 20 (.step 21 (.done)))))))))))))))))))))), [(1, [0]), (3, [0, 1, 2]), (4, [0, 1, 2, 3]), (5, [0, 1, 2, 3, 4]), (6, [0, 1, 2, 3, 4]), (7, [0, 1, 2, 3, 4]), (8, [0, 1, 2, 3, 4]), (9, [0, 1, 2, 3, 4, 7, 8]), (10, [0, 1, 2, 3, 4, 6, 7, 8, 9]), (11, [0, 1, 2, 3, 4, 6, 7, 8, 9, 10]), (12, [0, 1, 2, 3, 4]), (13, [0, 1, 2, 3, 4]), (14, [0, 1, 2, 3, 4]), (15, [0, 1, 2, 3, 4, 13, 14]), (16, [0, 1, 2, 3, 4, 13, 14, 15]), (17, [0, 1, 2, 3, 4, 12, 13, 14, 15, 16]), (18, [0, 1, 2, 3, 4, 12, 13, 14, 15, 16, 17]), (19, [0, 1, 2, 3, 4, 5, 6, 7, 8, 9, 10, 11, 12, 13, 14, 15, 16, 17, 18]), (20, [0, 1, 2, 3, 4, 5, 6, 7, 8, 9, 10, 11, 12, 13, 14, 15, 16, 17, 18, 19]), (21, [0, 1, 2, 3, 4, 5, 6, 7, 8, 9, 10, 11, 12, 13, 14, 15, 16, 17, 18, 19, 20])]⟩
  | 5 => ⟨[], [], [], .step 0 (.step 1 (.step 2 (.step 3 (.step 4 (.step 5 (.step 6 (.step 7 (.step 8 (.step 9 (.step 10 (.step 11 (.step 12 (.step 13 (.step 14 (.step 15 (.done)))))))))))))))), [(4, [2, 3]), (5, [1, 2, 3, 4]), (6, [1, 2, 3, 4, 5]), (10, [8, 9]), (11, [7, 8, 9, 10]), (12, [7, 8, 9, 10, 11]), (13, [0, 1, 2, 3, 4, 5, 6, 7, 8, 9, 10, 11, 12]), (14, [0, 1, 2, 3, 4, 5, 6, 7, 8, 9, 10, 11, 12, 13]), (15, [0, 1, 2, 3, 4, 5, 6, 7, 8, 9, 10, 11, 12, 13, 14])]⟩
  | 6 => ⟨[], [], [], .step 0 (.step 1 (.step 2 (.step 3 (.step 4 (.step 5 (.step 6 (.step 7 (.step 8 (.step 9 (.step 10 (.step 11 (.step 12 (.step 13 (.step 14 (.step 15 (.step 16 (.step 17 (.step 18 (.step 19 (.step 20 (.step 21 (.step 22 (.step 23 (.done)))))))))))))))))))))))), [(3, [1, 2]), (7, [5, 6]), (11, [9, 10]), (12, [8, 9, 10, 11]), (13, [8, 9, 10, 11, 12]), (17, [15, 16]), (18, [14, 15, 16, 17]), (19, [14, 15, 16, 17, 18]), (20, [0, 1, 2, 3, 8, 9, 10, 11, 12, 13, 14, 15, 16, 17, 18, 19]), (21, [0, 1, 2, 3, 8, 9, 10, 11, 12, 13, 14, 15, 16, 17, 18, 19, 20]), (22, [0, 1, 2, 3, 4, 5, 6, 7, 8, 9, 10, 11, 12, 13, 14, 15, 16, 17, 18, 19, 20, 21]), (23, [0, 1, 2, 3, 4, 5, 6, 7, 8, 9, 10, 11, 12, 13, 14, 15, 16, 17, 18, 19, 20, 21, 22])]⟩
  | _ => ⟨[], [], [], .done, []⟩
def esc_slices_siftDownCmpFunc_impl_Mark : Nat → Bool
  | _ => false
def vc_slices_siftDownCmpFunc_impl_Mark (w0 : World) (a0 a1 a2 a3 a4 : Value) (σ : Vw) (R : Value → Vw → Prop) : Prop :=
  pLoop (fun l0 K1 s2 => pBin Try.prog 3 BinOp.mul (Value.int IntKind.i64 2) (vget l0 4) (fun v3 => pBin Try.prog 3 BinOp.add v3 (Value.int IntKind.i64 1) (fun v4 => pBin Try.prog 3 BinOp.geq v4 (vget l0 1) (fun v5 => pIf v5 (K1 (AX.exit 0) [vget l0 0, vget l0 1, vget l0 2, vget l0 3, vget l0 4] s2) (pBin Try.prog 3 BinOp.add v4 (Value.int IntKind.i64 1) (fun v6 => pBin Try.prog 3 BinOp.lss v6 (vget l0 1) (fun v7 => pIf v7 (pBin Try.prog 3 BinOp.add (vget l0 2) v4 (fun v8 => pIndexAddr 2 (vget l0 0) v8 (fun v9 => pLoad w0 2 v9 s2 (fun g10 => pBin Try.prog 3 BinOp.add (vget l0 2) v4 (fun v11 => pBin Try.prog 3 BinOp.add v11 (Value.int IntKind.i64 1) (fun v12 => pIndexAddr 2 (vget l0 0) v12 (fun v13 => pLoad w0 2 v13 s2 (fun g14 => pCallV (fun n15 l16 s17 K18 => AC Try.prog w0 n15 l16 s17 K18) (vget l0 3) ([Value.agg (⟨[g10 0, g10 1]⟩), Value.agg (⟨[g14 0, g14 1]⟩)]) s2 (fun v19 s20 => pBin Try.prog 3 BinOp.lss v19 (Value.int IntKind.i64 0) (fun v21 => pIf v21 (pBin Try.prog 3 BinOp.add v4 (Value.int IntKind.i64 1) (fun v22 => pBin Try.prog 3 BinOp.add (vget l0 2) (vget l0 4) (fun v23 => pIndexAddr 2 (vget l0 0) v23 (fun v24 => pLoad w0 2 v24 s20 (fun g25 => pBin Try.prog 3 BinOp.add (vget l0 2) v22 (fun v26 => pIndexAddr 2 (vget l0 0) v26 (fun v27 => pLoad w0 2 v27 s20 (fun g28 => pCallV (fun n29 l30 s31 K32 => AC Try.prog w0 n29 l30 s31 K32) (vget l0 3) ([Value.agg (⟨[g25 0, g25 1]⟩), Value.agg (⟨[g28 0, g28 1]⟩)]) s20 (fun v33 s34 => pBin Try.prog 3 BinOp.lss v33 (Value.int IntKind.i64 0) (fun v35 => pUn UnOp.not v35 (fun v36 => pIf v36 (K1 AX.ret [vget l0 0, vget l0 1, vget l0 2, vget l0 3, vget l0 4] s34) (pBin Try.prog 3 BinOp.add (vget l0 2) (vget l0 4) (fun v37 => pBin Try.prog 3 BinOp.add (vget l0 2) v22 (fun v38 => pBin Try.prog 3 BinOp.add (vget l0 2) v22 (fun v39 => pIndexAddr 2 (vget l0 0) v39 (fun v40 => pLoad w0 2 v40 s34 (fun g41 => pBin Try.prog 3 BinOp.add (vget l0 2) (vget l0 4) (fun v42 => pIndexAddr 2 (vget l0 0) v42 (fun v43 => pLoad w0 2 v43 s34 (fun g44 => pIndexAddr 2 (vget l0 0) v37 (fun v45 => pVal true 2 (Value.agg (⟨[g41 0, g41 1]⟩)) (pStore v45 [g41 0, g41 1] s34 (fun s46 => pIndexAddr 2 (vget l0 0) v38 (fun v47 => pVal true 2 (Value.agg (⟨[g44 0, g44 1]⟩)) (pStore v47 [g44 0, g44 1] s46 (fun s48 => K1 AX.normal [vget l0 0, vget l0 1, vget l0 2, vget l0 3, v22] s48)))))))))))))))))))))))))) (pBin Try.prog 3 BinOp.add (vget l0 2) (vget l0 4) (fun v49 => pIndexAddr 2 (vget l0 0) v49 (fun v50 => pLoad w0 2 v50 s20 (fun g51 => pBin Try.prog 3 BinOp.add (vget l0 2) v4 (fun v52 => pIndexAddr 2 (vget l0 0) v52 (fun v53 => pLoad w0 2 v53 s20 (fun g54 => pCallV (fun n55 l56 s57 K58 => AC Try.prog w0 n55 l56 s57 K58) (vget l0 3) ([Value.agg (⟨[g51 0, g51 1]⟩), Value.agg (⟨[g54 0, g54 1]⟩)]) s20 (fun v59 s60 => pBin Try.prog 3 BinOp.lss v59 (Value.int IntKind.i64 0) (fun v61 => pUn UnOp.not v61 (fun v62 => pIf v62 (K1 AX.ret [vget l0 0, vget l0 1, vget l0 2, vget l0 3, vget l0 4] s60) (pBin Try.prog 3 BinOp.add (vget l0 2) (vget l0 4) (fun v63 => pBin Try.prog 3 BinOp.add (vget l0 2) v4 (fun v64 => pBin Try.prog 3 BinOp.add (vget l0 2) v4 (fun v65 => pIndexAddr 2 (vget l0 0) v65 (fun v66 => pLoad w0 2 v66 s60 (fun g67 => pBin Try.prog 3 BinOp.add (vget l0 2) (vget l0 4) (fun v68 => pIndexAddr 2 (vget l0 0) v68 (fun v69 => pLoad w0 2 v69 s60 (fun g70 => pIndexAddr 2 (vget l0 0) v63 (fun v71 => pVal true 2 (Value.agg (⟨[g67 0, g67 1]⟩)) (pStore v71 [g67 0, g67 1] s60 (fun s72 => pIndexAddr 2 (vget l0 0) v64 (fun v73 => pVal true 2 (Value.agg (⟨[g70 0, g70 1]⟩)) (pStore v73 [g70 0, g70 1] s72 (fun s74 => K1 AX.normal [vget l0 0, vget l0 1, vget l0 2, vget l0 3, v4] s74))))))))))))))))))))))))))))))))))) (pBin Try.prog 3 BinOp.add (vget l0 2) (vget l0 4) (fun v75 => pIndexAddr 2 (vget l0 0) v75 (fun v76 => pLoad w0 2 v76 s2 (fun g77 => pBin Try.prog 3 BinOp.add (vget l0 2) v4 (fun v78 => pIndexAddr 2 (vget l0 0) v78 (fun v79 => pLoad w0 2 v79 s2 (fun g80 => pCallV (fun n81 l82 s83 K84 => AC Try.prog w0 n81 l82 s83 K84) (vget l0 3) ([Value.agg (⟨[g77 0, g77 1]⟩), Value.agg (⟨[g80 0, g80 1]⟩)]) s2 (fun v85 s86 => pBin Try.prog 3 BinOp.lss v85 (Value.int IntKind.i64 0) (fun v87 => pUn UnOp.not v87 (fun v88 => pIf v88 (K1 AX.ret [vget l0 0, vget l0 1, vget l0 2, vget l0 3, vget l0 4] s86) (pBin Try.prog 3 BinOp.add (vget l0 2) (vget l0 4) (fun v89 => pBin Try.prog 3 BinOp.add (vget l0 2) v4 (fun v90 => pBin Try.prog 3 BinOp.add (vget l0 2) v4 (fun v91 => pIndexAddr 2 (vget l0 0) v91 (fun v92 => pLoad w0 2 v92 s86 (fun g93 => pBin Try.prog 3 BinOp.add (vget l0 2) (vget l0 4) (fun v94 => pIndexAddr 2 (vget l0 0) v94 (fun v95 => pLoad w0 2 v95 s86 (fun g96 => pIndexAddr 2 (vget l0 0) v89 (fun v97 => pVal true 2 (Value.agg (⟨[g93 0, g93 1]⟩)) (pStore v97 [g93 0, g93 1] s86 (fun s98 => pIndexAddr 2 (vget l0 0) v90 (fun v99 => pVal true 2 (Value.agg (⟨[g96 0, g96 1]⟩)) (pStore v99 [g96 0, g96 1] s98 (fun s100 => K1 AX.normal [vget l0 0, vget l0 1, vget l0 2, vget l0 3, v4] s100)))))))))))))))))))))))))))))))) [a0, a2, a3, a4, a1] σ (fun x101 l102 s103 => match x101 with | .normal => R (Value.tuple ⟨[]⟩) s103 | .ret => R (Value.tuple ⟨[]⟩) s103 | .exit i104 => (match Nat.beq i104 0 with | true => R (Value.tuple ⟨[]⟩) s103 | false => False))
theorem vc_slices_siftDownCmpFunc_impl_Mark_eq (w0 : World) (a0 a1 a2 a3 a4 : Value) (σ : Vw) (R : Value → Vw → Prop) : vc_slices_siftDownCmpFunc_impl_Mark w0 a0 a1 a2 a3 a4 σ R = den Try.prog w0 kp_slices_siftDownCmpFunc_impl_Mark esc_slices_siftDownCmpFunc_impl_Mark (Try.f170.body.getD .skip) (entry Try.f170.ntmps [a0, a1, a2, a3, a4]) σ (retK Try.prog Try.f170.results.toList R) := by kernel_rfl
theorem ac_slices_siftDownCmpFunc_impl_Mark {w0 : World} {a0 a1 a2 a3 a4 : Value} {σ : Vw} {R : Value → Vw → Prop} (h : vc_slices_siftDownCmpFunc_impl_Mark w0 a0 a1 a2 a3 a4 σ R) : AC Try.prog w0 n_slices_siftDownCmpFunc_impl_Mark [a0, a1, a2, a3, a4] σ R := by
  refine ac_rule (fn := Try.f170) (c := Try.f170.body.getD .skip) kp_slices_siftDownCmpFunc_impl_Mark esc_slices_siftDownCmpFunc_impl_Mark Try.func170 (by kernel_rfl) (by kernel_rfl) ?_
  rw [← vc_slices_siftDownCmpFunc_impl_Mark_eq]
  exact h

/-- slices.nextPowerOfTwo -/
def kp_slices_nextPowerOfTwo : Nat → Keep
  | _ => ⟨[], [], [], .done, []⟩
def esc_slices_nextPowerOfTwo : Nat → Bool
  | _ => false
def vc_slices_nextPowerOfTwo (w0 : World) (a0 : Value) (σ : Vw) (R : Value → Vw → Prop) : Prop :=
  pConvInt IntKind.u64 a0 (fun v0 => AC Try.prog w0 n_math_bits_Len [v0] σ (fun v1 s2 => pBin Try.prog 150 BinOp.shl (Value.int IntKind.u64 1) v1 (fun v3 => R v3 s2)))
theorem vc_slices_nextPowerOfTwo_eq (w0 : World) (a0 : Value) (σ : Vw) (R : Value → Vw → Prop) : vc_slices_nextPowerOfTwo w0 a0 σ R = den Try.prog w0 kp_slices_nextPowerOfTwo esc_slices_nextPowerOfTwo (Try.f171.body.getD .skip) (entry Try.f171.ntmps [a0]) σ (retK Try.prog Try.f171.results.toList R) := by kernel_rfl
theorem ac_slices_nextPowerOfTwo {w0 : World} {a0 : Value} {σ : Vw} {R : Value → Vw → Prop} (h : vc_slices_nextPowerOfTwo w0 a0 σ R) : AC Try.prog w0 n_slices_nextPowerOfTwo [a0] σ R := by
  refine ac_rule (fn := Try.f171) (c := Try.f171.body.getD .skip) kp_slices_nextPowerOfTwo esc_slices_nextPowerOfTwo Try.func171 (by kernel_rfl) (by kernel_rfl) ?_
  rw [← vc_slices_nextPowerOfTwo_eq]
  exact h

/-- (*slices.xorshift).Next -/
def kp_p_slices_xorshift_Next : Nat → Keep
  | 1 => ⟨[], [], [], .step 0 (.step 1 (.step 2 (.step 3 (.step 4 (.step 5 (.step 6 (.step 7 (.step 8 (.step 9 (.done)))))))))), [(1, [0]), (2, [0, 1]), (4, [3]), (5, [3, 4]), (6, [3, 4, 5]), (7, [0, 1, 2, 3, 4, 5, 6]), (8, [0, 1, 2, 3, 4, 5, 6, 7]), (9, [0, 1, 2, 3, 4, 5, 6, 7, 8])]⟩
  | 2 => ⟨[], [], [], .step 0 (.step 1 (.step 2 (.step 3 (.step 4 (.step 5 (.step 6 (.step 7 (.step 8 (.step 9 (.done)))))))))), [(1, [0]), (2, [0, 1]), (4, [3]), (5, [3, 4]), (6, [3, 4, 5]), (7, [0, 1, 2, 3, 4, 5, 6]), (8, [0, 1, 2, 3, 4, 5, 6, 7]), (9, [0, 1, 2, 3, 4, 5, 6, 7, 8])]⟩
  | 3 => ⟨[], [], [], .step 0 (.step 1 (.step 2 (.step 3 (.step 4 (.step 5 (.step 6 (.step 7 (.step 8 (.step 9 (.done)))))))))), [(1, [0]), (2, [0, 1]), (4, [3]), (5, [3, 4]), (6, [3, 4, 5]), (7, [0, 1, 2, 3, 4, 5, 6]), (8, [0, 1, 2, 3, 4, 5, 6, 7]), (9, [0, 1, 2, 3, 4, 5, 6, 7, 8])]⟩
  | _ => ⟨[], [], [], .done, []⟩
def esc_p_slices_xorshift_Next : Nat → Bool
  | _ => false
def vc_p_slices_xorshift_Next (w0 : World) (a0 : Value) (σ : Vw) (R : Value → Vw → Prop) : Prop :=
  pNil a0 (pLoad w0 1 a0 σ (fun g0 => pNil a0 (pLoad w0 1 a0 σ (fun g1 => pBin Try.prog 177 BinOp.shl (g1 0) (Value.int IntKind.u64 13) (fun v2 => pBin Try.prog 177 BinOp.xor (g0 0) v2 (fun v3 => pNil a0 (pVal false 1 v3 (pStore a0 [v3] σ (fun s4 => pNil a0 (pLoad w0 1 a0 s4 (fun g5 => pNil a0 (pLoad w0 1 a0 s4 (fun g6 => pBin Try.prog 177 BinOp.shr (g6 0) (Value.int IntKind.u64 7) (fun v7 => pBin Try.prog 177 BinOp.xor (g5 0) v7 (fun v8 => pNil a0 (pVal false 1 v8 (pStore a0 [v8] s4 (fun s9 => pNil a0 (pLoad w0 1 a0 s9 (fun g10 => pNil a0 (pLoad w0 1 a0 s9 (fun g11 => pBin Try.prog 177 BinOp.shl (g11 0) (Value.int IntKind.u64 17) (fun v12 => pBin Try.prog 177 BinOp.xor (g10 0) v12 (fun v13 => pNil a0 (pVal false 1 v13 (pStore a0 [v13] s9 (fun s14 => pNil a0 (pLoad w0 1 a0 s14 (fun g15 => R (g15 0) s14)))))))))))))))))))))))))))))
theorem vc_p_slices_xorshift_Next_eq (w0 : World) (a0 : Value) (σ : Vw) (R : Value → Vw → Prop) : vc_p_slices_xorshift_Next w0 a0 σ R = den Try.prog w0 kp_p_slices_xorshift_Next esc_p_slices_xorshift_Next (Try.f172.body.getD .skip) (entry Try.f172.ntmps [a0]) σ (retK Try.prog Try.f172.results.toList R) := by kernel_rfl
theorem ac_p_slices_xorshift_Next {w0 : World} {a0 : Value} {σ : Vw} {R : Value → Vw → Prop} (h : vc_p_slices_xorshift_Next w0 a0 σ R) : AC Try.prog w0 n_p_slices_xorshift_Next [a0] σ R := by
  refine ac_rule (fn := Try.f172) (c := Try.f172.body.getD .skip) kp_p_slices_xorshift_Next esc_p_slices_xorshift_Next Try.func172 (by kernel_rfl) (by kernel_rfl) ?_
  rw [← vc_p_slices_xorshift_Next_eq]
  exact h

/-- slices.medianAdjacentCmpFunc[impl.Mark] -/
def kp_slices_medianAdjacentCmpFunc_impl_Mark : Nat → Keep
  | _ => ⟨[], [], [], .done, []⟩
def esc_slices_medianAdjacentCmpFunc_impl_Mark : Nat → Bool
  | _ => false
def vc_slices_medianAdjacentCmpFunc_impl_Mark (w0 : World) (a0 a1 a2 a3 : Value) (σ : Vw) (R : Value → Vw → Prop) : Prop :=
  pBin Try.prog 3 BinOp.sub a1 (Value.int IntKind.i64 1) (fun v0 => pBin Try.prog 3 BinOp.add a1 (Value.int IntKind.i64 1) (fun v1 => AC Try.prog w0 n_slices_medianCmpFunc_impl_Mark [a0, v0, a1, v1, a2, a3] σ (fun v2 s3 => R v2 s3)))
theorem vc_slices_medianAdjacentCmpFunc_impl_Mark_eq (w0 : World) (a0 a1 a2 a3 : Value) (σ : Vw) (R : Value → Vw → Prop) : vc_slices_medianAdjacentCmpFunc_impl_Mark w0 a0 a1 a2 a3 σ R = den Try.prog w0 kp_slices_medianAdjacentCmpFunc_impl_Mark esc_slices_medianAdjacentCmpFunc_impl_Mark (Try.f173.body.getD .skip) (entry Try.f173.ntmps [a0, a1, a2, a3]) σ (retK Try.prog Try.f173.results.toList R) := by kernel_rfl
theorem ac_slices_medianAdjacentCmpFunc_impl_Mark {w0 : World} {a0 a1 a2 a3 : Value} {σ : Vw} {R : Value → Vw → Prop} (h : vc_slices_medianAdjacentCmpFunc_impl_Mark w0 a0 a1 a2 a3 σ R) : AC Try.prog w0 n_slices_medianAdjacentCmpFunc_impl_Mark [a0, a1, a2, a3] σ R := by
  refine ac_rule (fn := Try.f173) (c := Try.f173.body.getD .skip) kp_slices_medianAdjacentCmpFunc_impl_Mark esc_slices_medianAdjacentCmpFunc_impl_Mark Try.func173 (by kernel_rfl) (by kernel_rfl) ?_
  rw [← vc_slices_medianAdjacentCmpFunc_impl_Mark_eq]
  exact h

/-- slices.medianCmpFunc[impl.Mark] -/
def kp_slices_medianCmpFunc_impl_Mark : Nat → Keep
  | _ => ⟨[], [], [], .done, []⟩
def esc_slices_medianCmpFunc_impl_Mark : Nat → Bool
  | _ => false
def vc_slices_medianCmpFunc_impl_Mark (w0 : World) (a0 a1 a2 a3 a4 a5 : Value) (σ : Vw) (R : Value → Vw → Prop) : Prop :=
  AC Try.prog w0 n_slices_order2CmpFunc_impl_Mark [a0, a1, a2, a4, a5] σ (fun v0 s1 => pExtract v0 0 (fun v2 => pExtract v0 1 (fun v3 => AC Try.prog w0 n_slices_order2CmpFunc_impl_Mark [a0, v3, a3, a4, a5] s1 (fun v4 s5 => pExtract v4 0 (fun v6 => pExtract v4 1 (fun v7 => AC Try.prog w0 n_slices_order2CmpFunc_impl_Mark [a0, v2, v6, a4, a5] s5 (fun v8 s9 => pExtract v8 0 (fun v10 => pExtract v8 1 (fun v11 => R v11 s9)))))))))
theorem vc_slices_medianCmpFunc_impl_Mark_eq (w0 : World) (a0 a1 a2 a3 a4 a5 : Value) (σ : Vw) (R : Value → Vw → Prop) : vc_slices_medianCmpFunc_impl_Mark w0 a0 a1 a2 a3 a4 a5 σ R = den Try.prog w0 kp_slices_medianCmpFunc_impl_Mark esc_slices_medianCmpFunc_impl_Mark (Try.f174.body.getD .skip) (entry Try.f174.ntmps [a0, a1, a2, a3, a4, a5]) σ (retK Try.prog Try.f174.results.toList R) := by kernel_rfl
theorem ac_slices_medianCmpFunc_impl_Mark {w0 : World} {a0 a1 a2 a3 a4 a5 : Value} {σ : Vw} {R : Value → Vw → Prop} (h : vc_slices_medianCmpFunc_impl_Mark w0 a0 a1 a2 a3 a4 a5 σ R) : AC Try.prog w0 n_slices_medianCmpFunc_impl_Mark [a0, a1, a2, a3, a4, a5] σ R := by
  refine ac_rule (fn := Try.f174) (c := Try.f174.body.getD .skip) kp_slices_medianCmpFunc_impl_Mark esc_slices_medianCmpFunc_impl_Mark Try.func174 (by kernel_rfl) (by kernel_rfl) ?_
  rw [← vc_slices_medianCmpFunc_impl_Mark_eq]
  exact h

/-- slices.insertionSortOrdered[string] -/
def kp_slices_insertionSortOrdered_string : Nat → Keep
  | 1 => ⟨[0, 1, 2, 6], [], [], .done, []⟩
  | 4 => ⟨[0, 1, 2, 6, 7], [], [], .step 0 (.step 1 (.step 2 (.step 3 (.step 4 (.step 5 (.step 6 (.step 7 (.step 8 (.step 9 (.step 10 (.step 11 (.step 12 (.step 13 (.step 14 (.done))))))))))))))), [(2, [0, 1]), (3, [0, 1, 2]), (4, [0, 1, 2, 3]), (5, [0, 1, 2, 3]), (6, [0, 1, 2, 3, 4, 5]), (7, [0, 1, 2, 3, 4, 5, 6]), (8, [0, 1, 2, 3]), (9, [0, 1, 2, 3]), (10, [0, 1, 2, 3, 9]), (11, [0, 1, 2, 3, 8, 9, 10]), (12, [0, 1, 2, 3, 8, 9, 10, 11]), (13, [0, 1, 2, 3, 4, 5, 6, 7, 8, 9, 10, 11, 12]), (14, [0, 1, 2, 3, 4, 5, 6, 7, 8, 9, 10, 11, 12, 13])]⟩
  | 6 => ⟨[], [], [], .step 0 (.step 1 (.step 2 (.step 3 (.step 4 (.step 5 (.step 6 (.step 7 (.step 8 (.step 9 (.step 10 (.step 11 (.step 12 (.step 13 (.step 14 (.step 15 (.step 16 (.step 17 (.done)))))))))))))))))), [(4, [3]), (7, [6]), (8, [5, 6, 7]), (9, [5, 6, 7, 8]), (12, [10, 11]), (13, [10, 11, 12]), (14, [0, 1, 5, 6, 7, 8, 9, 10, 11, 12, 13]), (15, [0, 1, 5, 6, 7, 8, 9, 10, 11, 12, 13, 14]), (16, [0, 1, 2, 3, 4, 5, 6, 7, 8, 9, 10, 11, 12, 13, 14, 15]), (17, [0, 1, 2, 3, 4, 5, 6, 7, 8, 9, 10, 11, 12, 13, 14, 15, 16])]⟩
  | _ => ⟨[], [], [], .done, []⟩
def esc_slices_insertionSortOrdered_string : Nat → Bool
  | _ => false
def vc_slices_insertionSortOrdered_string (w0 : World) (a0 a1 a2 : Value) (σ : Vw) (R : Value → Vw → Prop) : Prop :=
  pBin Try.prog 3 BinOp.add a1 (Value.int IntKind.i64 1) (fun v0 => pLoop (fun l1 K2 s3 => pBin Try.prog 3 BinOp.lss (vget l1 3) (vget l1 2) (fun v4 => pIf v4 (pLoop (fun l5 K6 s7 => pBin Try.prog 3 BinOp.gtr (vget l5 4) (vget l5 1) (fun v8 => pIf v8 (pIndexAddr 1 (vget l5 0) (vget l5 4) (fun v9 => pLoad w0 1 v9 s7 (fun g10 => pBin Try.prog 3 BinOp.sub (vget l5 4) (Value.int IntKind.i64 1) (fun v11 => pIndexAddr 1 (vget l5 0) v11 (fun v12 => pLoad w0 1 v12 s7 (fun g13 => AC Try.prog w0 n_cmp_Less_string [g10 0, g13 0] s7 (fun v14 s15 => pIf v14 (pBin Try.prog 3 BinOp.sub (vget l5 4) (Value.int IntKind.i64 1) (fun v16 => pBin Try.prog 3 BinOp.sub (vget l5 4) (Value.int IntKind.i64 1) (fun v17 => pIndexAddr 1 (vget l5 0) v17 (fun v18 => pLoad w0 1 v18 s15 (fun g19 => pIndexAddr 1 (vget l5 0) (vget l5 4) (fun v20 => pLoad w0 1 v20 s15 (fun g21 => pIndexAddr 1 (vget l5 0) (vget l5 4) (fun v22 => pVal false 1 (g19 0) (pStore v22 [g19 0] s15 (fun s23 => pIndexAddr 1 (vget l5 0) v16 (fun v24 => pVal false 1 (g21 0) (pStore v24 [g21 0] s23 (fun s25 => pBin Try.prog 3 BinOp.sub (vget l5 4) (Value.int IntKind.i64 1) (fun v26 => K6 AX.normal [vget l5 0, vget l5 1, vget l5 2, vget l5 3, v26] s25)))))))))))))) (K6 (AX.exit 2) [vget l5 0, vget l5 1, vget l5 2, vget l5 3, vget l5 4] s15)))))))) (K6 (AX.exit 2) [vget l5 0, vget l5 1, vget l5 2, vget l5 3, vget l5 4] s7))) [vget l1 0, vget l1 1, vget l1 2, vget l1 3, vget l1 3] s3 (fun x27 l28 s29 => match x27 with | .normal => pBin Try.prog 3 BinOp.add (vget l28 3) (Value.int IntKind.i64 1) (fun v30 => K2 AX.normal [vget l28 0, vget l28 1, vget l28 2, v30] s29) | .ret => K2 AX.ret [vget l28 0, vget l28 1, vget l28 2, vget l28 3] s29 | .exit i31 => (match Nat.beq i31 2 with | true => pBin Try.prog 3 BinOp.add (vget l28 3) (Value.int IntKind.i64 1) (fun v32 => K2 AX.normal [vget l28 0, vget l28 1, vget l28 2, v32] s29) | false => (match Nat.beq i31 1 with | true => pBin Try.prog 3 BinOp.add (vget l28 3) (Value.int IntKind.i64 1) (fun v33 => K2 AX.normal [vget l28 0, vget l28 1, vget l28 2, v33] s29) | false => K2 (AX.exit i31) [vget l28 0, vget l28 1, vget l28 2, vget l28 3] s29)))) (K2 (AX.exit 0) [vget l1 0, vget l1 1, vget l1 2, vget l1 3] s3))) [a0, a1, a2, v0] σ (fun x34 l35 s36 => match x34 with | .normal => R (Value.tuple ⟨[]⟩) s36 | .ret => R (Value.tuple ⟨[]⟩) s36 | .exit i37 => (match Nat.beq i37 0 with | true => R (Value.tuple ⟨[]⟩) s36 | false => False)))
theorem vc_slices_insertionSortOrdered_string_eq (w0 : World) (a0 a1 a2 : Value) (σ : Vw) (R : Value → Vw → Prop) : vc_slices_insertionSortOrdered_string w0 a0 a1 a2 σ R = den Try.prog w0 kp_slices_insertionSortOrdered_string esc_slices_insertionSortOrdered_string (Try.f175.body.getD .skip) (entry Try.f175.ntmps [a0, a1, a2]) σ (retK Try.prog Try.f175.results.toList R) := by kernel_rfl
theorem ac_slices_insertionSortOrdered_string {w0 : World} {a0 a1 a2 : Value} {σ : Vw} {R : Value → Vw → Prop} (h : vc_slices_insertionSortOrdered_string w0 a0 a1 a2 σ R) : AC Try.prog w0 n_slices_insertionSortOrdered_string [a0, a1, a2] σ R := by
  refine ac_rule (fn := Try.f175) (c := Try.f175.body.getD .skip) kp_slices_insertionSortOrdered_string esc_slices_insertionSortOrdered_string Try.func175 (by kernel_rfl) (by kernel_rfl) ?_
  rw [← vc_slices_insertionSortOrdered_string_eq]
  exact h

/-- slices.heapSortOrdered[string] -/
def kp_slices_heapSortOrdered_string : Nat → Keep
  | 4 => ⟨[0, 6, 7, 8, 9], [], [], .done, []⟩
  | 8 => ⟨[0, 6, 7, 10], [], [], .done, []⟩
  | 10 => ⟨[], [], [], .step 0 (.step 1 (.step 2 (.step 3 (.step 4 (.step 5 (.step 6 (.step 7 (.step 8 (.step 9 (.step 10 (.step 11 (.step 12 (.step 13 (.step 14 (.step 15 (.step 16 (.step 17 (.step 18 (.step 19 (.done)))))))))))))))))))), [(5, [3, 4]), (9, [7, 8]), (10, [6, 7, 8, 9]), (11, [6, 7, 8, 9, 10]), (14, [12, 13]), (15, [12, 13, 14]), (16, [0, 1, 6, 7, 8, 9, 10, 11, 12, 13, 14, 15]), (17, [0, 1, 6, 7, 8, 9, 10, 11, 12, 13, 14, 15, 16]), (18, [0, 1, 2, 3, 4, 5, 6, 7, 8, 9, 10, 11, 12, 13, 14, 15, 16, 17]), (19, [0, 1, 2, 3, 4, 5, 6, 7, 8, 9, 10, 11, 12, 13, 14, 15, 16, 17, 18])]⟩
  | _ => ⟨[], [], [], .done, []⟩
def esc_slices_heapSortOrdered_string : Nat → Bool
  | _ => false
def vc_slices_heapSortOrdered_string (w0 : World) (a0 a1 a2 : Value) (σ : Vw) (R : Value → Vw → Prop) : Prop :=
  pBin Try.prog 3 BinOp.sub a2 a1 (fun v0 => pBin Try.prog 3 BinOp.sub v0 (Value.int IntKind.i64 1) (fun v1 => pBin Try.prog 3 BinOp.quo v1 (Value.int IntKind.i64 2) (fun v2 => pLoop (fun l3 K4 s5 => pBin Try.prog 3 BinOp.geq (vget l3 4) (Value.int IntKind.i64 0) (fun v6 => pIf v6 (AC Try.prog w0 n_slices_siftDownOrdered_string [vget l3 0, vget l3 4, vget l3 3, vget l3 1] s5 (fun v7 s8 => pBin Try.prog 3 BinOp.sub (vget l3 4) (Value.int IntKind.i64 1) (fun v9 => K4 AX.normal [vget l3 0, vget l3 1, vget l3 2, vget l3 3, v9] s8))) (K4 (AX.exit 0) [vget l3 0, vget l3 1, vget l3 2, vget l3 3, vget l3 4] s5))) [a0, a1, Value.int IntKind.i64 0, v0, v2] σ (fun x10 l11 s12 => match x10 with | .normal => pBin Try.prog 3 BinOp.sub (vget l11 3) (Value.int IntKind.i64 1) (fun v13 => pLoop (fun l14 K15 s16 => pBin Try.prog 3 BinOp.geq (vget l14 3) (Value.int IntKind.i64 0) (fun v17 => pIf v17 (pBin Try.prog 3 BinOp.add (vget l14 1) (vget l14 3) (fun v18 => pBin Try.prog 3 BinOp.add (vget l14 1) (vget l14 3) (fun v19 => pIndexAddr 1 (vget l14 0) v19 (fun v20 => pLoad w0 1 v20 s16 (fun g21 => pIndexAddr 1 (vget l14 0) (vget l14 1) (fun v22 => pLoad w0 1 v22 s16 (fun g23 => pIndexAddr 1 (vget l14 0) (vget l14 1) (fun v24 => pVal false 1 (g21 0) (pStore v24 [g21 0] s16 (fun s25 => pIndexAddr 1 (vget l14 0) v18 (fun v26 => pVal false 1 (g23 0) (pStore v26 [g23 0] s25 (fun s27 => AC Try.prog w0 n_slices_siftDownOrdered_string [vget l14 0, vget l14 2, vget l14 3, vget l14 1] s27 (fun v28 s29 => pBin Try.prog 3 BinOp.sub (vget l14 3) (Value.int IntKind.i64 1) (fun v30 => K15 AX.normal [vget l14 0, vget l14 1, vget l14 2, v30] s29))))))))))))))) (K15 (AX.exit 2) [vget l14 0, vget l14 1, vget l14 2, vget l14 3] s16))) [vget l11 0, vget l11 1, vget l11 2, v13] s12 (fun x31 l32 s33 => match x31 with | .normal => R (Value.tuple ⟨[]⟩) s33 | .ret => R (Value.tuple ⟨[]⟩) s33 | .exit i34 => (match Nat.beq i34 2 with | true => R (Value.tuple ⟨[]⟩) s33 | false => False))) | .ret => R (Value.tuple ⟨[]⟩) s12 | .exit i35 => (match Nat.beq i35 0 with | true => pBin Try.prog 3 BinOp.sub (vget l11 3) (Value.int IntKind.i64 1) (fun v36 => pLoop (fun l37 K38 s39 => pBin Try.prog 3 BinOp.geq (vget l37 3) (Value.int IntKind.i64 0) (fun v40 => pIf v40 (pBin Try.prog 3 BinOp.add (vget l37 1) (vget l37 3) (fun v41 => pBin Try.prog 3 BinOp.add (vget l37 1) (vget l37 3) (fun v42 => pIndexAddr 1 (vget l37 0) v42 (fun v43 => pLoad w0 1 v43 s39 (fun g44 => pIndexAddr 1 (vget l37 0) (vget l37 1) (fun v45 => pLoad w0 1 v45 s39 (fun g46 => pIndexAddr 1 (vget l37 0) (vget l37 1) (fun v47 => pVal false 1 (g44 0) (pStore v47 [g44 0] s39 (fun s48 => pIndexAddr 1 (vget l37 0) v41 (fun v49 => pVal false 1 (g46 0) (pStore v49 [g46 0] s48 (fun s50 => AC Try.prog w0 n_slices_siftDownOrdered_string [vget l37 0, vget l37 2, vget l37 3, vget l37 1] s50 (fun v51 s52 => pBin Try.prog 3 BinOp.sub (vget l37 3) (Value.int IntKind.i64 1) (fun v53 => K38 AX.normal [vget l37 0, vget l37 1, vget l37 2, v53] s52))))))))))))))) (K38 (AX.exit 2) [vget l37 0, vget l37 1, vget l37 2, vget l37 3] s39))) [vget l11 0, vget l11 1, vget l11 2, v36] s12 (fun x54 l55 s56 => match x54 with | .normal => R (Value.tuple ⟨[]⟩) s56 | .ret => R (Value.tuple ⟨[]⟩) s56 | .exit i57 => (match Nat.beq i57 2 with | true => R (Value.tuple ⟨[]⟩) s56 | false => False))) | false => False)))))
theorem vc_slices_heapSortOrdered_string_eq (w0 : World) (a0 a1 a2 : Value) (σ : Vw) (R : Value → Vw → Prop) : vc_slices_heapSortOrdered_string w0 a0 a1 a2 σ R = den Try.prog w0 kp_slices_heapSortOrdered_string esc_slices_heapSortOrdered_string (Try.f176.body.getD .skip) (entry Try.f176.ntmps [a0, a1, a2]) σ (retK Try.prog Try.f176.results.toList R) := by kernel_rfl
theorem ac_slices_heapSortOrdered_string {w0 : World} {a0 a1 a2 : Value} {σ : Vw} {R : Value → Vw → Prop} (h : vc_slices_heapSortOrdered_string w0 a0 a1 a2 σ R) : AC Try.prog w0 n_slices_heapSortOrdered_string [a0, a1, a2] σ R := by
  refine ac_rule (fn := Try.f176) (c := Try.f176.body.getD .skip) kp_slices_heapSortOrdered_string esc_slices_heapSortOrdered_string Try.func176 (by kernel_rfl) (by kernel_rfl) ?_
  rw [← vc_slices_heapSortOrdered_string_eq]
  exact h

/-- slices.breakPatternsOrdered[string] -/
def kp_slices_breakPatternsOrdered_string : Nat → Keep
  | 5 => ⟨[0, 1, 6, 7, 8, 9], [], [], .done, []⟩
  | 10 => ⟨[], [], [], .step 0 (.step 1 (.step 2 (.step 3 (.step 4 (.step 5 (.step 6 (.step 7 (.step 8 (.step 9 (.step 10 (.step 11 (.step 12 (.step 13 (.step 14 (.step 15 (.step 16 (.step 17 (.step 18 (.step 19 (.done)))))))))))))))))))), [(5, [3, 4]), (9, [7, 8]), (10, [6, 7, 8, 9]), (11, [6, 7, 8, 9, 10]), (14, [12, 13]), (15, [12, 13, 14]), (16, [0, 1, 6, 7, 8, 9, 10, 11, 12, 13, 14, 15]), (17, [0, 1, 6, 7, 8, 9, 10, 11, 12, 13, 14, 15, 16]), (18, [0, 1, 2, 3, 4, 5, 6, 7, 8, 9, 10, 11, 12, 13, 14, 15, 16, 17]), (19, [0, 1, 2, 3, 4, 5, 6, 7, 8, 9, 10, 11, 12, 13, 14, 15, 16, 17, 18])]⟩
  | _ => ⟨[], [], [], .done, []⟩
def esc_slices_breakPatternsOrdered_string : Nat → Bool
  | 7 => true
  | _ => false
def vc_slices_breakPatternsOrdered_string (w0 : World) (a0 a1 a2 : Value) (σ : Vw) (R : Value → Vw → Prop) : Prop :=
  pBin Try.prog 3 BinOp.sub a2 a1 (fun v0 => pBin Try.prog 3 BinOp.geq v0 (Value.int IntKind.i64 8) (fun v1 => pIf v1 (pConvInt IntKind.u64 v0 (fun v2 => pNew w0 177 [Value.int IntKind.u64 0] σ (fun n3 s4 => pVal false 1 v2 (pStore (Value.pointer (Option.some (Addr.mk n3 0 Option.none))) [v2] s4 (fun s5 => AC Try.prog w0 n_slices_nextPowerOfTwo [v0] s5 (fun v6 s7 => pBin Try.prog 3 BinOp.quo v0 (Value.int IntKind.i64 4) (fun v8 => pBin Try.prog 3 BinOp.mul v8 (Value.int IntKind.i64 2) (fun v9 => pBin Try.prog 3 BinOp.add a1 v9 (fun v10 => pBin Try.prog 3 BinOp.sub v10 (Value.int IntKind.i64 1) (fun v11 => pLoop (fun l12 K13 s14 => pBin Try.prog 3 BinOp.quo (vget l12 2) (Value.int IntKind.i64 4) (fun v15 => pBin Try.prog 3 BinOp.mul v15 (Value.int IntKind.i64 2) (fun v16 => pBin Try.prog 3 BinOp.add (vget l12 1) v16 (fun v17 => pBin Try.prog 3 BinOp.add v17 (Value.int IntKind.i64 1) (fun v18 => pBin Try.prog 3 BinOp.leq (vget l12 5) v18 (fun v19 => pIf v19 (AC Try.prog w0 n_p_slices_xorshift_Next [vget l12 3] s14 (fun v20 s21 => pBin Try.prog 150 BinOp.sub (vget l12 4) (Value.int IntKind.u64 1) (fun v22 => pBin Try.prog 150 BinOp.and v20 v22 (fun v23 => pConvInt IntKind.i64 v23 (fun v24 => pBin Try.prog 3 BinOp.geq v24 (vget l12 2) (fun v25 => pIf v25 (pBin Try.prog 3 BinOp.sub v24 (vget l12 2) (fun v26 => pBin Try.prog 3 BinOp.add (vget l12 1) v26 (fun v27 => pBin Try.prog 3 BinOp.add (vget l12 1) v26 (fun v28 => pIndexAddr 1 (vget l12 0) v28 (fun v29 => pLoad w0 1 v29 s21 (fun g30 => pIndexAddr 1 (vget l12 0) (vget l12 5) (fun v31 => pLoad w0 1 v31 s21 (fun g32 => pIndexAddr 1 (vget l12 0) (vget l12 5) (fun v33 => pVal false 1 (g30 0) (pStore v33 [g30 0] s21 (fun s34 => pIndexAddr 1 (vget l12 0) v27 (fun v35 => pVal false 1 (g32 0) (pStore v35 [g32 0] s34 (fun s36 => pBin Try.prog 3 BinOp.add (vget l12 5) (Value.int IntKind.i64 1) (fun v37 => K13 AX.normal [vget l12 0, vget l12 1, vget l12 2, vget l12 3, vget l12 4, v37] s36))))))))))))))) (pBin Try.prog 3 BinOp.add (vget l12 1) v24 (fun v38 => pBin Try.prog 3 BinOp.add (vget l12 1) v24 (fun v39 => pIndexAddr 1 (vget l12 0) v39 (fun v40 => pLoad w0 1 v40 s21 (fun g41 => pIndexAddr 1 (vget l12 0) (vget l12 5) (fun v42 => pLoad w0 1 v42 s21 (fun g43 => pIndexAddr 1 (vget l12 0) (vget l12 5) (fun v44 => pVal false 1 (g41 0) (pStore v44 [g41 0] s21 (fun s45 => pIndexAddr 1 (vget l12 0) v38 (fun v46 => pVal false 1 (g43 0) (pStore v46 [g43 0] s45 (fun s47 => pBin Try.prog 3 BinOp.add (vget l12 5) (Value.int IntKind.i64 1) (fun v48 => K13 AX.normal [vget l12 0, vget l12 1, vget l12 2, vget l12 3, vget l12 4, v48] s47)))))))))))))))))))) (K13 (AX.exit 0) [vget l12 0, vget l12 1, vget l12 2, vget l12 3, vget l12 4, vget l12 5] s14))))))) [a0, a1, v0, Value.pointer (Option.some (Addr.mk n3 0 Option.none)), v6, v11] s7 (fun x49 l50 s51 => match x49 with | .normal => R (Value.tuple ⟨[]⟩) s51 | .ret => R (Value.tuple ⟨[]⟩) s51 | .exit i52 => (match Nat.beq i52 0 with | true => R (Value.tuple ⟨[]⟩) s51 | false => False)))))))))))) (R (Value.tuple ⟨[]⟩) σ)))
theorem vc_slices_breakPatternsOrdered_string_eq (w0 : World) (a0 a1 a2 : Value) (σ : Vw) (R : Value → Vw → Prop) : vc_slices_breakPatternsOrdered_string w0 a0 a1 a2 σ R = den Try.prog w0 kp_slices_breakPatternsOrdered_string esc_slices_breakPatternsOrdered_string (Try.f177.body.getD .skip) (entry Try.f177.ntmps [a0, a1, a2]) σ (retK Try.prog Try.f177.results.toList R) := by kernel_rfl
theorem ac_slices_breakPatternsOrdered_string {w0 : World} {a0 a1 a2 : Value} {σ : Vw} {R : Value → Vw → Prop} (h : vc_slices_breakPatternsOrdered_string w0 a0 a1 a2 σ R) : AC Try.prog w0 n_slices_breakPatternsOrdered_string [a0, a1, a2] σ R := by
  refine ac_rule (fn := Try.f177) (c := Try.f177.body.getD .skip) kp_slices_breakPatternsOrdered_string esc_slices_breakPatternsOrdered_string Try.func177 (by kernel_rfl) (by kernel_rfl) ?_
  rw [← vc_slices_breakPatternsOrdered_string_eq]
  exact h

/-- slices.choosePivotOrdered[string] -/
def kp_slices_choosePivotOrdered_string : Nat → Keep
  | _ => ⟨[], [], [], .done, []⟩
def esc_slices_choosePivotOrdered_string : Nat → Bool
  | 9 => true
  | _ => false
def vc_slices_choosePivotOrdered_string (w0 : World) (a0 a1 a2 : Value) (σ : Vw) (R : Value → Vw → Prop) : Prop :=
  pBin Try.prog 3 BinOp.sub a2 a1 (fun v0 => pNew w0 3 [Value.int IntKind.i64 0] σ (fun n1 s2 => pBin Try.prog 3 BinOp.quo v0 (Value.int IntKind.i64 4) (fun v3 => pBin Try.prog 3 BinOp.mul v3 (Value.int IntKind.i64 1) (fun v4 => pBin Try.prog 3 BinOp.add a1 v4 (fun v5 => pBin Try.prog 3 BinOp.quo v0 (Value.int IntKind.i64 4) (fun v6 => pBin Try.prog 3 BinOp.mul v6 (Value.int IntKind.i64 2) (fun v7 => pBin Try.prog 3 BinOp.add a1 v7 (fun v8 => pBin Try.prog 3 BinOp.quo v0 (Value.int IntKind.i64 4) (fun v9 => pBin Try.prog 3 BinOp.mul v9 (Value.int IntKind.i64 3) (fun v10 => pBin Try.prog 3 BinOp.add a1 v10 (fun v11 => pBin Try.prog 3 BinOp.geq v0 (Value.int IntKind.i64 8) (fun v12 => pIf v12 (pBin Try.prog 3 BinOp.geq v0 (Value.int IntKind.i64 50) (fun v13 => pIf v13 (AC Try.prog w0 n_slices_medianAdjacentOrdered_string [a0, v5, Value.pointer (Option.some (Addr.mk n1 0 Option.none))] s2 (fun v14 s15 => AC Try.prog w0 n_slices_medianAdjacentOrdered_string [a0, v8, Value.pointer (Option.some (Addr.mk n1 0 Option.none))] s15 (fun v16 s17 => AC Try.prog w0 n_slices_medianAdjacentOrdered_string [a0, v11, Value.pointer (Option.some (Addr.mk n1 0 Option.none))] s17 (fun v18 s19 => AC Try.prog w0 n_slices_medianOrdered_string [a0, v14, v16, v18, Value.pointer (Option.some (Addr.mk n1 0 Option.none))] s19 (fun v20 s21 => pLoad w0 1 (Value.pointer (Option.some (Addr.mk n1 0 Option.none))) s21 (fun g22 => pBin Try.prog 3 BinOp.eql (g22 0) (Value.int IntKind.i64 0) (fun v23 => pIf v23 (R (Value.tuple (⟨[v20, Value.int IntKind.i64 1]⟩)) s21) (pBin Try.prog 3 BinOp.eql (g22 0) (Value.int IntKind.i64 12) (fun v24 => pIf v24 (R (Value.tuple (⟨[v20, Value.int IntKind.i64 2]⟩)) s21) (R (Value.tuple (⟨[v20, Value.int IntKind.i64 0]⟩)) s21)))))))))) (AC Try.prog w0 n_slices_medianOrdered_string [a0, v5, v8, v11, Value.pointer (Option.some (Addr.mk n1 0 Option.none))] s2 (fun v25 s26 => pLoad w0 1 (Value.pointer (Option.some (Addr.mk n1 0 Option.none))) s26 (fun g27 => pBin Try.prog 3 BinOp.eql (g27 0) (Value.int IntKind.i64 0) (fun v28 => pIf v28 (R (Value.tuple (⟨[v25, Value.int IntKind.i64 1]⟩)) s26) (pBin Try.prog 3 BinOp.eql (g27 0) (Value.int IntKind.i64 12) (fun v29 => pIf v29 (R (Value.tuple (⟨[v25, Value.int IntKind.i64 2]⟩)) s26) (R (Value.tuple (⟨[v25, Value.int IntKind.i64 0]⟩)) s26))))))))) (pLoad w0 1 (Value.pointer (Option.some (Addr.mk n1 0 Option.none))) s2 (fun g30 => pBin Try.prog 3 BinOp.eql (g30 0) (Value.int IntKind.i64 0) (fun v31 => pIf v31 (R (Value.tuple (⟨[v8, Value.int IntKind.i64 1]⟩)) s2) (pBin Try.prog 3 BinOp.eql (g30 0) (Value.int IntKind.i64 12) (fun v32 => pIf v32 (R (Value.tuple (⟨[v8, Value.int IntKind.i64 2]⟩)) s2) (R (Value.tuple (⟨[v8, Value.int IntKind.i64 0]⟩)) s2))))))))))))))))))
theorem vc_slices_choosePivotOrdered_string_eq (w0 : World) (a0 a1 a2 : Value) (σ : Vw) (R : Value → Vw → Prop) : vc_slices_choosePivotOrdered_string w0 a0 a1 a2 σ R = den Try.prog w0 kp_slices_choosePivotOrdered_string esc_slices_choosePivotOrdered_string (Try.f178.body.getD .skip) (entry Try.f178.ntmps [a0, a1, a2]) σ (retK Try.prog Try.f178.results.toList R) := by kernel_rfl
theorem ac_slices_choosePivotOrdered_string {w0 : World} {a0 a1 a2 : Value} {σ : Vw} {R : Value → Vw → Prop} (h : vc_slices_choosePivotOrdered_string w0 a0 a1 a2 σ R) : AC Try.prog w0 n_slices_choosePivotOrdered_string [a0, a1, a2] σ R := by
  refine ac_rule (fn := Try.f178) (c := Try.f178.body.getD .skip) kp_slices_choosePivotOrdered_string esc_slices_choosePivotOrdered_string Try.func178 (by kernel_rfl) (by kernel_rfl) ?_
  rw [← vc_slices_choosePivotOrdered_string_eq]
  exact h

/-- slices.reverseRangeOrdered[string] -/
def kp_slices_reverseRangeOrdered_string : Nat → Keep
  | 2 => ⟨[0, 6, 7], [], [], .done, []⟩
  | 3 => ⟨[], [], [], .step 0 (.step 1 (.step 2 (.step 3 (.step 4 (.step 5 (.step 6 (.step 7 (.step 8 (.step 9 (.step 10 (.step 11 (.step 12 (.step 13 (.step 14 (.step 15 (.done)))))))))))))))), [(6, [4, 5]), (7, [4, 5, 6]), (10, [8, 9]), (11, [8, 9, 10]), (12, [0, 1, 4, 5, 6, 7, 8, 9, 10, 11]), (13, [0, 1, 4, 5, 6, 7, 8, 9, 10, 11, 12]), (14, [0, 1, 2, 3, 4, 5, 6, 7, 8, 9, 10, 11, 12, 13]), (15, [0, 1, 2, 3, 4, 5, 6, 7, 8, 9, 10, 11, 12, 13, 14])]⟩
  | _ => ⟨[], [], [], .done, []⟩
def esc_slices_reverseRangeOrdered_string : Nat → Bool
  | _ => false
def vc_slices_reverseRangeOrdered_string (w0 : World) (a0 a1 a2 : Value) (σ : Vw) (R : Value → Vw → Prop) : Prop :=
  pBin Try.prog 3 BinOp.sub a2 (Value.int IntKind.i64 1) (fun v0 => pLoop (fun l1 K2 s3 => pBin Try.prog 3 BinOp.lss (vget l1 1) (vget l1 2) (fun v4 => pIf v4 (pIndexAddr 1 (vget l1 0) (vget l1 2) (fun v5 => pLoad w0 1 v5 s3 (fun g6 => pIndexAddr 1 (vget l1 0) (vget l1 1) (fun v7 => pLoad w0 1 v7 s3 (fun g8 => pIndexAddr 1 (vget l1 0) (vget l1 1) (fun v9 => pVal false 1 (g6 0) (pStore v9 [g6 0] s3 (fun s10 => pIndexAddr 1 (vget l1 0) (vget l1 2) (fun v11 => pVal false 1 (g8 0) (pStore v11 [g8 0] s10 (fun s12 => pBin Try.prog 3 BinOp.add (vget l1 1) (Value.int IntKind.i64 1) (fun v13 => pBin Try.prog 3 BinOp.sub (vget l1 2) (Value.int IntKind.i64 1) (fun v14 => K2 AX.normal [vget l1 0, v13, v14] s12))))))))))))) (K2 (AX.exit 0) [vget l1 0, vget l1 1, vget l1 2] s3))) [a0, a1, v0] σ (fun x15 l16 s17 => match x15 with | .normal => R (Value.tuple ⟨[]⟩) s17 | .ret => R (Value.tuple ⟨[]⟩) s17 | .exit i18 => (match Nat.beq i18 0 with | true => R (Value.tuple ⟨[]⟩) s17 | false => False)))
theorem vc_slices_reverseRangeOrdered_string_eq (w0 : World) (a0 a1 a2 : Value) (σ : Vw) (R : Value → Vw → Prop) : vc_slices_reverseRangeOrdered_string w0 a0 a1 a2 σ R = den Try.prog w0 kp_slices_reverseRangeOrdered_string esc_slices_reverseRangeOrdered_string (Try.f179.body.getD .skip) (entry Try.f179.ntmps [a0, a1, a2]) σ (retK Try.prog Try.f179.results.toList R) := by kernel_rfl
theorem ac_slices_reverseRangeOrdered_string {w0 : World} {a0 a1 a2 : Value} {σ : Vw} {R : Value → Vw → Prop} (h : vc_slices_reverseRangeOrdered_string w0 a0 a1 a2 σ R) : AC Try.prog w0 n_slices_reverseRangeOrdered_string [a0, a1, a2] σ R := by
  refine ac_rule (fn := Try.f179) (c := Try.f179.body.getD .skip) kp_slices_reverseRangeOrdered_string esc_slices_reverseRangeOrdered_string Try.func179 (by kernel_rfl) (by kernel_rfl) ?_
  rw [← vc_slices_reverseRangeOrdered_string_eq]
  exact h

/-- slices.partialInsertionSortOrdered[string] -/
def kp_slices_partialInsertionSortOrdered_string : Nat → Keep
  | 3 => ⟨[0, 1, 2, 6, 7, 8], [], [], .done, []⟩
  | 5 => ⟨[0, 1, 2, 7, 8], [], [], .step 0 (.step 1 (.step 2 (.step 3 (.step 4 (.step 5 (.step 6 (.step 7 (.step 8 (.step 9 (.step 10 (.step 11 (.step 12 (.step 13 (.step 14 (.step 15 (.done)))))))))))))))), [(2, [0, 1]), (3, [0, 1, 2]), (4, [0, 1, 2, 3]), (5, [0, 1, 2, 3]), (6, [0, 1, 2, 3, 4, 5]), (7, [0, 1, 2, 3, 4, 5, 6]), (8, [0, 1, 2, 3]), (9, [0, 1, 2, 3]), (10, [0, 1, 2, 3, 9]), (11, [0, 1, 2, 3, 8, 9, 10]), (12, [0, 1, 2, 3, 8, 9, 10, 11]), (13, [0, 1, 2, 3, 4, 5, 6, 7, 8, 9, 10, 11, 12]), (14, [0, 1, 2, 3, 4, 5, 6, 7, 8, 9, 10, 11, 12, 13]), (15, [0, 1, 2, 3, 4, 5, 6, 7, 8, 9, 10, 11, 12, 13, 14])]⟩
  | 11 => ⟨[], [], [], .step 0 (.step 1 (.step 2 (.step 3 (.step 4 (.step 5 (.step 6 (.step 7 (.step 8 (.step 9 (.step 10 (.step 11 (.step 12 (.step 13 (.step 14 (.step 15 (.step 16 (.step 17 (.done)))))))))))))))))), [(4, [3]), (7, [6]), (8, [5, 6, 7]), (9, [5, 6, 7, 8]), (12, [10, 11]), (13, [10, 11, 12]), (14, [0, 1, 5, 6, 7, 8, 9, 10, 11, 12, 13]), (15, [0, 1, 5, 6, 7, 8, 9, 10, 11, 12, 13, 14]), (16, [0, 1, 2, 3, 4, 5, 6, 7, 8, 9, 10, 11, 12, 13, 14, 15]), (17, [0, 1, 2, 3, 4, 5, 6, 7, 8, 9, 10, 11, 12, 13, 14, 15, 16])]⟩
  | 14 => ⟨[0, 1, 2, 7, 8, 9], [], [], .done, []⟩
  | 16 => ⟨[], [], [], .step 0 (.step 1 (.step 2 (.step 3 (.step 4 (.step 5 (.step 6 (.step 7 (.step 8 (.step 9 (.step 10 (.done))))))))))), [(2, [0, 1]), (3, [0, 1, 2]), (6, [5]), (7, [4, 5, 6]), (8, [4, 5, 6, 7]), (9, [0, 1, 2, 3, 4, 5, 6, 7, 8]), (10, [0, 1, 2, 3, 4, 5, 6, 7, 8, 9])]⟩
  | 17 => ⟨[], [], [], .step 0 (.step 1 (.step 2 (.step 3 (.step 4 (.step 5 (.step 6 (.step 7 (.step 8 (.step 9 (.step 10 (.step 11 (.step 12 (.step 13 (.step 14 (.step 15 (.step 16 (.step 17 (.done)))))))))))))))))), [(4, [3]), (7, [6]), (8, [5, 6, 7]), (9, [5, 6, 7, 8]), (12, [10, 11]), (13, [10, 11, 12]), (14, [0, 1, 5, 6, 7, 8, 9, 10, 11, 12, 13]), (15, [0, 1, 5, 6, 7, 8, 9, 10, 11, 12, 13, 14]), (16, [0, 1, 2, 3, 4, 5, 6, 7, 8, 9, 10, 11, 12, 13, 14, 15]), (17, [0, 1, 2, 3, 4, 5, 6, 7, 8, 9, 10, 11, 12, 13, 14, 15, 16])]⟩
  | 20 => ⟨[0, 1, 2, 7, 8, 10], [], [], .done, []⟩
  | 22 => ⟨[], [], [], .step 0 (.step 1 (.step 2 (.step 3 (.step 4 (.step 5 (.step 6 (.step 7 (.step 8 (.step 9 (.step 10 (.done))))))))))), [(2, [0, 1]), (3, [0, 1, 2]), (6, [5]), (7, [4, 5, 6]), (8, [4, 5, 6, 7]), (9, [0, 1, 2, 3, 4, 5, 6, 7, 8]), (10, [0, 1, 2, 3, 4, 5, 6, 7, 8, 9])]⟩
  | 23 => ⟨[], [], [], .step 0 (.step 1 (.step 2 (.step 3 (.step 4 (.step 5 (.step 6 (.step 7 (.step 8 (.step 9 (.step 10 (.step 11 (.step 12 (.step 13 (.step 14 (.step 15 (.step 16 (.step 17 (.done)))))))))))))))))), [(4, [3]), (7, [6]), (8, [5, 6, 7]), (9, [5, 6, 7, 8]), (12, [10, 11]), (13, [10, 11, 12]), (14, [0, 1, 5, 6, 7, 8, 9, 10, 11, 12, 13]), (15, [0, 1, 5, 6, 7, 8, 9, 10, 11, 12, 13, 14]), (16, [0, 1, 2, 3, 4, 5, 6, 7, 8, 9, 10, 11, 12, 13, 14, 15]), (17, [0, 1, 2, 3, 4, 5, 6, 7, 8, 9, 10, 11, 12, 13, 14, 15, 16])]⟩
  | _ => ⟨[], [], [], .done, []⟩
def esc_slices_partialInsertionSortOrdered_string : Nat → Bool
  | _ => false
def vc_slices_partialInsertionSortOrdered_string (w0 : World) (a0 a1 a2 : Value) (σ : Vw) (R : Value → Vw → Prop) : Prop :=
  pBin Try.prog 3 BinOp.add a1 (Value.int IntKind.i64 1) (fun v0 => pLoop (fun l1 K2 s3 => pBin Try.prog 3 BinOp.lss (vget l1 5) (Value.int IntKind.i64 5) (fun v4 => pIf v4 (pLoop (fun l5 K6 s7 => pBin Try.prog 3 BinOp.lss (vget l5 3) (vget l5 2) (fun v8 => pIf v8 (pIndexAddr 1 (vget l5 0) (vget l5 3) (fun v9 => pLoad w0 1 v9 s7 (fun g10 => pBin Try.prog 3 BinOp.sub (vget l5 3) (Value.int IntKind.i64 1) (fun v11 => pIndexAddr 1 (vget l5 0) v11 (fun v12 => pLoad w0 1 v12 s7 (fun g13 => AC Try.prog w0 n_cmp_Less_string [g10 0, g13 0] s7 (fun v14 s15 => pUn UnOp.not v14 (fun v16 => pIf v16 (pBin Try.prog 3 BinOp.add (vget l5 3) (Value.int IntKind.i64 1) (fun v17 => K6 AX.normal [vget l5 0, vget l5 1, vget l5 2, v17, vget l5 4] s15)) (K6 (AX.exit 2) [vget l5 0, vget l5 1, vget l5 2, vget l5 3, vget l5 4] s15))))))))) (K6 (AX.exit 2) [vget l5 0, vget l5 1, vget l5 2, vget l5 3, vget l5 4] s7))) [vget l1 0, vget l1 1, vget l1 2, vget l1 4, vget l1 5] s3 (fun x18 l19 s20 => match x18 with | .normal => pBin Try.prog 3 BinOp.eql (vget l19 3) (vget l19 2) (fun v21 => pIf v21 (K2 AX.ret [vget l19 0, vget l19 1, vget l19 2, Value.bool true, vget l19 3, vget l19 4] s20) (pBin Try.prog 3 BinOp.sub (vget l19 2) (vget l19 1) (fun v22 => pBin Try.prog 3 BinOp.lss v22 (Value.int IntKind.i64 50) (fun v23 => pIf v23 (K2 AX.ret [vget l19 0, vget l19 1, vget l19 2, Value.bool false, vget l19 3, vget l19 4] s20) (pBin Try.prog 3 BinOp.sub (vget l19 3) (Value.int IntKind.i64 1) (fun v24 => pBin Try.prog 3 BinOp.sub (vget l19 3) (Value.int IntKind.i64 1) (fun v25 => pIndexAddr 1 (vget l19 0) v25 (fun v26 => pLoad w0 1 v26 s20 (fun g27 => pIndexAddr 1 (vget l19 0) (vget l19 3) (fun v28 => pLoad w0 1 v28 s20 (fun g29 => pIndexAddr 1 (vget l19 0) (vget l19 3) (fun v30 => pVal false 1 (g27 0) (pStore v30 [g27 0] s20 (fun s31 => pIndexAddr 1 (vget l19 0) v24 (fun v32 => pVal false 1 (g29 0) (pStore v32 [g29 0] s31 (fun s33 => pBin Try.prog 3 BinOp.sub (vget l19 3) (vget l19 1) (fun v34 => pBin Try.prog 3 BinOp.geq v34 (Value.int IntKind.i64 2) (fun v35 => pIf v35 (pBin Try.prog 3 BinOp.sub (vget l19 3) (Value.int IntKind.i64 1) (fun v36 => pLoop (fun l37 K38 s39 => pBin Try.prog 3 BinOp.geq (vget l37 5) (Value.int IntKind.i64 1) (fun v40 => pIf v40 (pIndexAddr 1 (vget l37 0) (vget l37 5) (fun v41 => pLoad w0 1 v41 s39 (fun g42 => pBin Try.prog 3 BinOp.sub (vget l37 5) (Value.int IntKind.i64 1) (fun v43 => pIndexAddr 1 (vget l37 0) v43 (fun v44 => pLoad w0 1 v44 s39 (fun g45 => AC Try.prog w0 n_cmp_Less_string [g42 0, g45 0] s39 (fun v46 s47 => pUn UnOp.not v46 (fun v48 => pIf v48 (K38 (AX.exit 4) [vget l37 0, vget l37 1, vget l37 2, vget l37 3, vget l37 4, vget l37 5] s47) (pBin Try.prog 3 BinOp.sub (vget l37 5) (Value.int IntKind.i64 1) (fun v49 => pBin Try.prog 3 BinOp.sub (vget l37 5) (Value.int IntKind.i64 1) (fun v50 => pIndexAddr 1 (vget l37 0) v50 (fun v51 => pLoad w0 1 v51 s47 (fun g52 => pIndexAddr 1 (vget l37 0) (vget l37 5) (fun v53 => pLoad w0 1 v53 s47 (fun g54 => pIndexAddr 1 (vget l37 0) (vget l37 5) (fun v55 => pVal false 1 (g52 0) (pStore v55 [g52 0] s47 (fun s56 => pIndexAddr 1 (vget l37 0) v49 (fun v57 => pVal false 1 (g54 0) (pStore v57 [g54 0] s56 (fun s58 => pBin Try.prog 3 BinOp.sub (vget l37 5) (Value.int IntKind.i64 1) (fun v59 => K38 AX.normal [vget l37 0, vget l37 1, vget l37 2, vget l37 3, vget l37 4, v59] s58)))))))))))))))))))))) (K38 (AX.exit 4) [vget l37 0, vget l37 1, vget l37 2, vget l37 3, vget l37 4, vget l37 5] s39))) [vget l19 0, vget l19 1, vget l19 2, vget l19 3, vget l19 4, v36] s33 (fun x60 l61 s62 => match x60 with | .normal => pBin Try.prog 3 BinOp.sub (vget l61 2) (vget l61 3) (fun v63 => pBin Try.prog 3 BinOp.geq v63 (Value.int IntKind.i64 2) (fun v64 => pIf v64 (pBin Try.prog 3 BinOp.add (vget l61 3) (Value.int IntKind.i64 1) (fun v65 => pLoop (fun l66 K67 s68 => pBin Try.prog 3 BinOp.lss (vget l66 5) (vget l66 2) (fun v69 => pIf v69 (pIndexAddr 1 (vget l66 0) (vget l66 5) (fun v70 => pLoad w0 1 v70 s68 (fun g71 => pBin Try.prog 3 BinOp.sub (vget l66 5) (Value.int IntKind.i64 1) (fun v72 => pIndexAddr 1 (vget l66 0) v72 (fun v73 => pLoad w0 1 v73 s68 (fun g74 => AC Try.prog w0 n_cmp_Less_string [g71 0, g74 0] s68 (fun v75 s76 => pUn UnOp.not v75 (fun v77 => pIf v77 (K67 (AX.exit 6) [vget l66 0, vget l66 1, vget l66 2, vget l66 3, vget l66 4, vget l66 5] s76) (pBin Try.prog 3 BinOp.sub (vget l66 5) (Value.int IntKind.i64 1) (fun v78 => pBin Try.prog 3 BinOp.sub (vget l66 5) (Value.int IntKind.i64 1) (fun v79 => pIndexAddr 1 (vget l66 0) v79 (fun v80 => pLoad w0 1 v80 s76 (fun g81 => pIndexAddr 1 (vget l66 0) (vget l66 5) (fun v82 => pLoad w0 1 v82 s76 (fun g83 => pIndexAddr 1 (vget l66 0) (vget l66 5) (fun v84 => pVal false 1 (g81 0) (pStore v84 [g81 0] s76 (fun s85 => pIndexAddr 1 (vget l66 0) v78 (fun v86 => pVal false 1 (g83 0) (pStore v86 [g83 0] s85 (fun s87 => pBin Try.prog 3 BinOp.add (vget l66 5) (Value.int IntKind.i64 1) (fun v88 => K67 AX.normal [vget l66 0, vget l66 1, vget l66 2, vget l66 3, vget l66 4, v88] s87)))))))))))))))))))))) (K67 (AX.exit 6) [vget l66 0, vget l66 1, vget l66 2, vget l66 3, vget l66 4, vget l66 5] s68))) [vget l61 0, vget l61 1, vget l61 2, vget l61 3, vget l61 4, v65] s62 (fun x89 l90 s91 => match x89 with | .normal => pBin Try.prog 3 BinOp.add (vget l90 4) (Value.int IntKind.i64 1) (fun v92 => False) | .ret => False | .exit i93 => (match Nat.beq i93 6 with | true => pBin Try.prog 3 BinOp.add (vget l90 4) (Value.int IntKind.i64 1) (fun v94 => False) | false => (match Nat.beq i93 1 with | true => pBin Try.prog 3 BinOp.add (vget l90 4) (Value.int IntKind.i64 1) (fun v95 => False) | false => False))))) (pBin Try.prog 3 BinOp.add (vget l61 4) (Value.int IntKind.i64 1) (fun v96 => False)))) | .ret => False | .exit i97 => (match Nat.beq i97 4 with | true => pBin Try.prog 3 BinOp.sub (vget l61 2) (vget l61 3) (fun v98 => pBin Try.prog 3 BinOp.geq v98 (Value.int IntKind.i64 2) (fun v99 => pIf v99 (pBin Try.prog 3 BinOp.add (vget l61 3) (Value.int IntKind.i64 1) (fun v100 => pLoop (fun l101 K102 s103 => pBin Try.prog 3 BinOp.lss (vget l101 5) (vget l101 2) (fun v104 => pIf v104 (pIndexAddr 1 (vget l101 0) (vget l101 5) (fun v105 => pLoad w0 1 v105 s103 (fun g106 => pBin Try.prog 3 BinOp.sub (vget l101 5) (Value.int IntKind.i64 1) (fun v107 => pIndexAddr 1 (vget l101 0) v107 (fun v108 => pLoad w0 1 v108 s103 (fun g109 => AC Try.prog w0 n_cmp_Less_string [g106 0, g109 0] s103 (fun v110 s111 => pUn UnOp.not v110 (fun v112 => pIf v112 (K102 (AX.exit 6) [vget l101 0, vget l101 1, vget l101 2, vget l101 3, vget l101 4, vget l101 5] s111) (pBin Try.prog 3 BinOp.sub (vget l101 5) (Value.int IntKind.i64 1) (fun v113 => pBin Try.prog 3 BinOp.sub (vget l101 5) (Value.int IntKind.i64 1) (fun v114 => pIndexAddr 1 (vget l101 0) v114 (fun v115 => pLoad w0 1 v115 s111 (fun g116 => pIndexAddr 1 (vget l101 0) (vget l101 5) (fun v117 => pLoad w0 1 v117 s111 (fun g118 => pIndexAddr 1 (vget l101 0) (vget l101 5) (fun v119 => pVal false 1 (g116 0) (pStore v119 [g116 0] s111 (fun s120 => pIndexAddr 1 (vget l101 0) v113 (fun v121 => pVal false 1 (g118 0) (pStore v121 [g118 0] s120 (fun s122 => pBin Try.prog 3 BinOp.add (vget l101 5) (Value.int IntKind.i64 1) (fun v123 => K102 AX.normal [vget l101 0, vget l101 1, vget l101 2, vget l101 3, vget l101 4, v123] s122)))))))))))))))))))))) (K102 (AX.exit 6) [vget l101 0, vget l101 1, vget l101 2, vget l101 3, vget l101 4, vget l101 5] s103))) [vget l61 0, vget l61 1, vget l61 2, vget l61 3, vget l61 4, v100] s62 (fun x124 l125 s126 => match x124 with | .normal => pBin Try.prog 3 BinOp.add (vget l125 4) (Value.int IntKind.i64 1) (fun v127 => False) | .ret => False | .exit i128 => (match Nat.beq i128 6 with | true => pBin Try.prog 3 BinOp.add (vget l125 4) (Value.int IntKind.i64 1) (fun v129 => False) | false => (match Nat.beq i128 1 with | true => pBin Try.prog 3 BinOp.add (vget l125 4) (Value.int IntKind.i64 1) (fun v130 => False) | false => False))))) (pBin Try.prog 3 BinOp.add (vget l61 4) (Value.int IntKind.i64 1) (fun v131 => False)))) | false => (match Nat.beq i97 1 with | true => pBin Try.prog 3 BinOp.add (vget l61 4) (Value.int IntKind.i64 1) (fun v132 => False) | false => False))))) (pBin Try.prog 3 BinOp.sub (vget l19 2) (vget l19 3) (fun v133 => pBin Try.prog 3 BinOp.geq v133 (Value.int IntKind.i64 2) (fun v134 => pIf v134 (pBin Try.prog 3 BinOp.add (vget l19 3) (Value.int IntKind.i64 1) (fun v135 => pLoop (fun l136 K137 s138 => pBin Try.prog 3 BinOp.lss (vget l136 5) (vget l136 2) (fun v139 => pIf v139 (pIndexAddr 1 (vget l136 0) (vget l136 5) (fun v140 => pLoad w0 1 v140 s138 (fun g141 => pBin Try.prog 3 BinOp.sub (vget l136 5) (Value.int IntKind.i64 1) (fun v142 => pIndexAddr 1 (vget l136 0) v142 (fun v143 => pLoad w0 1 v143 s138 (fun g144 => AC Try.prog w0 n_cmp_Less_string [g141 0, g144 0] s138 (fun v145 s146 => pUn UnOp.not v145 (fun v147 => pIf v147 (K137 (AX.exit 6) [vget l136 0, vget l136 1, vget l136 2, vget l136 3, vget l136 4, vget l136 5] s146) (pBin Try.prog 3 BinOp.sub (vget l136 5) (Value.int IntKind.i64 1) (fun v148 => pBin Try.prog 3 BinOp.sub (vget l136 5) (Value.int IntKind.i64 1) (fun v149 => pIndexAddr 1 (vget l136 0) v149 (fun v150 => pLoad w0 1 v150 s146 (fun g151 => pIndexAddr 1 (vget l136 0) (vget l136 5) (fun v152 => pLoad w0 1 v152 s146 (fun g153 => pIndexAddr 1 (vget l136 0) (vget l136 5) (fun v154 => pVal false 1 (g151 0) (pStore v154 [g151 0] s146 (fun s155 => pIndexAddr 1 (vget l136 0) v148 (fun v156 => pVal false 1 (g153 0) (pStore v156 [g153 0] s155 (fun s157 => pBin Try.prog 3 BinOp.add (vget l136 5) (Value.int IntKind.i64 1) (fun v158 => K137 AX.normal [vget l136 0, vget l136 1, vget l136 2, vget l136 3, vget l136 4, v158] s157)))))))))))))))))))))) (K137 (AX.exit 6) [vget l136 0, vget l136 1, vget l136 2, vget l136 3, vget l136 4, vget l136 5] s138))) [vget l19 0, vget l19 1, vget l19 2, vget l19 3, vget l19 4, v135] s33 (fun x159 l160 s161 => match x159 with | .normal => pBin Try.prog 3 BinOp.add (vget l160 4) (Value.int IntKind.i64 1) (fun v162 => False) | .ret => False | .exit i163 => (match Nat.beq i163 6 with | true => pBin Try.prog 3 BinOp.add (vget l160 4) (Value.int IntKind.i64 1) (fun v164 => False) | false => (match Nat.beq i163 1 with | true => pBin Try.prog 3 BinOp.add (vget l160 4) (Value.int IntKind.i64 1) (fun v165 => False) | false => False))))) (pBin Try.prog 3 BinOp.add (vget l19 4) (Value.int IntKind.i64 1) (fun v166 => False)))))))))))))))))))))))) | .ret => False | .exit i167 => (match Nat.beq i167 2 with | true => pBin Try.prog 3 BinOp.eql (vget l19 3) (vget l19 2) (fun v168 => pIf v168 (K2 AX.ret [vget l19 0, vget l19 1, vget l19 2, Value.bool true, vget l19 3, vget l19 4] s20) (pBin Try.prog 3 BinOp.sub (vget l19 2) (vget l19 1) (fun v169 => pBin Try.prog 3 BinOp.lss v169 (Value.int IntKind.i64 50) (fun v170 => pIf v170 (K2 AX.ret [vget l19 0, vget l19 1, vget l19 2, Value.bool false, vget l19 3, vget l19 4] s20) (pBin Try.prog 3 BinOp.sub (vget l19 3) (Value.int IntKind.i64 1) (fun v171 => pBin Try.prog 3 BinOp.sub (vget l19 3) (Value.int IntKind.i64 1) (fun v172 => pIndexAddr 1 (vget l19 0) v172 (fun v173 => pLoad w0 1 v173 s20 (fun g174 => pIndexAddr 1 (vget l19 0) (vget l19 3) (fun v175 => pLoad w0 1 v175 s20 (fun g176 => pIndexAddr 1 (vget l19 0) (vget l19 3) (fun v177 => pVal false 1 (g174 0) (pStore v177 [g174 0] s20 (fun s178 => pIndexAddr 1 (vget l19 0) v171 (fun v179 => pVal false 1 (g176 0) (pStore v179 [g176 0] s178 (fun s180 => pBin Try.prog 3 BinOp.sub (vget l19 3) (vget l19 1) (fun v181 => pBin Try.prog 3 BinOp.geq v181 (Value.int IntKind.i64 2) (fun v182 => pIf v182 (pBin Try.prog 3 BinOp.sub (vget l19 3) (Value.int IntKind.i64 1) (fun v183 => pLoop (fun l184 K185 s186 => pBin Try.prog 3 BinOp.geq (vget l184 5) (Value.int IntKind.i64 1) (fun v187 => pIf v187 (pIndexAddr 1 (vget l184 0) (vget l184 5) (fun v188 => pLoad w0 1 v188 s186 (fun g189 => pBin Try.prog 3 BinOp.sub (vget l184 5) (Value.int IntKind.i64 1) (fun v190 => pIndexAddr 1 (vget l184 0) v190 (fun v191 => pLoad w0 1 v191 s186 (fun g192 => AC Try.prog w0 n_cmp_Less_string [g189 0, g192 0] s186 (fun v193 s194 => pUn UnOp.not v193 (fun v195 => pIf v195 (K185 (AX.exit 4) [vget l184 0, vget l184 1, vget l184 2, vget l184 3, vget l184 4, vget l184 5] s194) (pBin Try.prog 3 BinOp.sub (vget l184 5) (Value.int IntKind.i64 1) (fun v196 => pBin Try.prog 3 BinOp.sub (vget l184 5) (Value.int IntKind.i64 1) (fun v197 => pIndexAddr 1 (vget l184 0) v197 (fun v198 => pLoad w0 1 v198 s194 (fun g199 => pIndexAddr 1 (vget l184 0) (vget l184 5) (fun v200 => pLoad w0 1 v200 s194 (fun g201 => pIndexAddr 1 (vget l184 0) (vget l184 5) (fun v202 => pVal false 1 (g199 0) (pStore v202 [g199 0] s194 (fun s203 => pIndexAddr 1 (vget l184 0) v196 (fun v204 => pVal false 1 (g201 0) (pStore v204 [g201 0] s203 (fun s205 => pBin Try.prog 3 BinOp.sub (vget l184 5) (Value.int IntKind.i64 1) (fun v206 => K185 AX.normal [vget l184 0, vget l184 1, vget l184 2, vget l184 3, vget l184 4, v206] s205)))))))))))))))))))))) (K185 (AX.exit 4) [vget l184 0, vget l184 1, vget l184 2, vget l184 3, vget l184 4, vget l184 5] s186))) [vget l19 0, vget l19 1, vget l19 2, vget l19 3, vget l19 4, v183] s180 (fun x207 l208 s209 => match x207 with | .normal => pBin Try.prog 3 BinOp.sub (vget l208 2) (vget l208 3) (fun v210 => pBin Try.prog 3 BinOp.geq v210 (Value.int IntKind.i64 2) (fun v211 => pIf v211 (pBin Try.prog 3 BinOp.add (vget l208 3) (Value.int IntKind.i64 1) (fun v212 => pLoop (fun l213 K214 s215 => pBin Try.prog 3 BinOp.lss (vget l213 5) (vget l213 2) (fun v216 => pIf v216 (pIndexAddr 1 (vget l213 0) (vget l213 5) (fun v217 => pLoad w0 1 v217 s215 (fun g218 => pBin Try.prog 3 BinOp.sub (vget l213 5) (Value.int IntKind.i64 1) (fun v219 => pIndexAddr 1 (vget l213 0) v219 (fun v220 => pLoad w0 1 v220 s215 (fun g221 => AC Try.prog w0 n_cmp_Less_string [g218 0, g221 0] s215 (fun v222 s223 => pUn UnOp.not v222 (fun v224 => pIf v224 (K214 (AX.exit 6) [vget l213 0, vget l213 1, vget l213 2, vget l213 3, vget l213 4, vget l213 5] s223) (pBin Try.prog 3 BinOp.sub (vget l213 5) (Value.int IntKind.i64 1) (fun v225 => pBin Try.prog 3 BinOp.sub (vget l213 5) (Value.int IntKind.i64 1) (fun v226 => pIndexAddr 1 (vget l213 0) v226 (fun v227 => pLoad w0 1 v227 s223 (fun g228 => pIndexAddr 1 (vget l213 0) (vget l213 5) (fun v229 => pLoad w0 1 v229 s223 (fun g230 => pIndexAddr 1 (vget l213 0) (vget l213 5) (fun v231 => pVal false 1 (g228 0) (pStore v231 [g228 0] s223 (fun s232 => pIndexAddr 1 (vget l213 0) v225 (fun v233 => pVal false 1 (g230 0) (pStore v233 [g230 0] s232 (fun s234 => pBin Try.prog 3 BinOp.add (vget l213 5) (Value.int IntKind.i64 1) (fun v235 => K214 AX.normal [vget l213 0, vget l213 1, vget l213 2, vget l213 3, vget l213 4, v235] s234)))))))))))))))))))))) (K214 (AX.exit 6) [vget l213 0, vget l213 1, vget l213 2, vget l213 3, vget l213 4, vget l213 5] s215))) [vget l208 0, vget l208 1, vget l208 2, vget l208 3, vget l208 4, v212] s209 (fun x236 l237 s238 => match x236 with | .normal => pBin Try.prog 3 BinOp.add (vget l237 4) (Value.int IntKind.i64 1) (fun v239 => False) | .ret => False | .exit i240 => (match Nat.beq i240 6 with | true => pBin Try.prog 3 BinOp.add (vget l237 4) (Value.int IntKind.i64 1) (fun v241 => False) | false => (match Nat.beq i240 1 with | true => pBin Try.prog 3 BinOp.add (vget l237 4) (Value.int IntKind.i64 1) (fun v242 => False) | false => False))))) (pBin Try.prog 3 BinOp.add (vget l208 4) (Value.int IntKind.i64 1) (fun v243 => False)))) | .ret => False | .exit i244 => (match Nat.beq i244 4 with | true => pBin Try.prog 3 BinOp.sub (vget l208 2) (vget l208 3) (fun v245 => pBin Try.prog 3 BinOp.geq v245 (Value.int IntKind.i64 2) (fun v246 => pIf v246 (pBin Try.prog 3 BinOp.add (vget l208 3) (Value.int IntKind.i64 1) (fun v247 => pLoop (fun l248 K249 s250 => pBin Try.prog 3 BinOp.lss (vget l248 5) (vget l248 2) (fun v251 => pIf v251 (pIndexAddr 1 (vget l248 0) (vget l248 5) (fun v252 => pLoad w0 1 v252 s250 (fun g253 => pBin Try.prog 3 BinOp.sub (vget l248 5) (Value.int IntKind.i64 1) (fun v254 => pIndexAddr 1 (vget l248 0) v254 (fun v255 => pLoad w0 1 v255 s250 (fun g256 => AC Try.prog w0 n_cmp_Less_string [g253 0, g256 0] s250 (fun v257 s258 => pUn UnOp.not v257 (fun v259 => pIf v259 (K249 (AX.exit 6) [vget l248 0, vget l248 1, vget l248 2, vget l248 3, vget l248 4, vget l248 5] s258) (pBin Try.prog 3 BinOp.sub (vget l248 5) (Value.int IntKind.i64 1) (fun v260 => pBin Try.prog 3 BinOp.sub (vget l248 5) (Value.int IntKind.i64 1) (fun v261 => pIndexAddr 1 (vget l248 0) v261 (fun v262 => pLoad w0 1 v262 s258 (fun g263 => pIndexAddr 1 (vget l248 0) (vget l248 5) (fun v264 => pLoad w0 1 v264 s258 (fun g265 => pIndexAddr 1 (vget l248 0) (vget l248 5) (fun v266 => pVal false 1 (g263 0) (pStore v266 [g263 0] s258 (fun s267 => pIndexAddr 1 (vget l248 0) v260 (fun v268 => pVal false 1 (g265 0) (pStore v268 [g265 0] s267 (fun s269 => pBin Try.prog 3 BinOp.add (vget l248 5) (Value.int IntKind.i64 1) (fun v270 => K249 AX.normal [vget l248 0, vget l248 1, vget l248 2, vget l248 3, vget l248 4, v270] s269)))))))))))))))))))))) (K249 (AX.exit 6) [vget l248 0, vget l248 1, vget l248 2, vget l248 3, vget l248 4, vget l248 5] s250))) [vget l208 0, vget l208 1, vget l208 2, vget l208 3, vget l208 4, v247] s209 (fun x271 l272 s273 => match x271 with | .normal => pBin Try.prog 3 BinOp.add (vget l272 4) (Value.int IntKind.i64 1) (fun v274 => False) | .ret => False | .exit i275 => (match Nat.beq i275 6 with | true => pBin Try.prog 3 BinOp.add (vget l272 4) (Value.int IntKind.i64 1) (fun v276 => False) | false => (match Nat.beq i275 1 with | true => pBin Try.prog 3 BinOp.add (vget l272 4) (Value.int IntKind.i64 1) (fun v277 => False) | false => False))))) (pBin Try.prog 3 BinOp.add (vget l208 4) (Value.int IntKind.i64 1) (fun v278 => False)))) | false => (match Nat.beq i244 1 with | true => pBin Try.prog 3 BinOp.add (vget l208 4) (Value.int IntKind.i64 1) (fun v279 => False) | false => False))))) (pBin Try.prog 3 BinOp.sub (vget l19 2) (vget l19 3) (fun v280 => pBin Try.prog 3 BinOp.geq v280 (Value.int IntKind.i64 2) (fun v281 => pIf v281 (pBin Try.prog 3 BinOp.add (vget l19 3) (Value.int IntKind.i64 1) (fun v282 => pLoop (fun l283 K284 s285 => pBin Try.prog 3 BinOp.lss (vget l283 5) (vget l283 2) (fun v286 => pIf v286 (pIndexAddr 1 (vget l283 0) (vget l283 5) (fun v287 => pLoad w0 1 v287 s285 (fun g288 => pBin Try.prog 3 BinOp.sub (vget l283 5) (Value.int IntKind.i64 1) (fun v289 => pIndexAddr 1 (vget l283 0) v289 (fun v290 => pLoad w0 1 v290 s285 (fun g291 => AC Try.prog w0 n_cmp_Less_string [g288 0, g291 0] s285 (fun v292 s293 => pUn UnOp.not v292 (fun v294 => pIf v294 (K284 (AX.exit 6) [vget l283 0, vget l283 1, vget l283 2, vget l283 3, vget l283 4, vget l283 5] s293) (pBin Try.prog 3 BinOp.sub (vget l283 5) (Value.int IntKind.i64 1) (fun v295 => pBin Try.prog 3 BinOp.sub (vget l283 5) (Value.int IntKind.i64 1) (fun v296 => pIndexAddr 1 (vget l283 0) v296 (fun v297 => pLoad w0 1 v297 s293 (fun g298 => pIndexAddr 1 (vget l283 0) (vget l283 5) (fun v299 => pLoad w0 1 v299 s293 (fun g300 => pIndexAddr 1 (vget l283 0) (vget l283 5) (fun v301 => pVal false 1 (g298 0) (pStore v301 [g298 0] s293 (fun s302 => pIndexAddr 1 (vget l283 0) v295 (fun v303 => pVal false 1 (g300 0) (pStore v303 [g300 0] s302 (fun s304 => pBin Try.prog 3 BinOp.add (vget l283 5) (Value.int IntKind.i64 1) (fun v305 => K284 AX.normal [vget l283 0, vget l283 1, vget l283 2, vget l283 3, vget l283 4, v305] s304)))))))))))))))))))))) (K284 (AX.exit 6) [vget l283 0, vget l283 1, vget l283 2, vget l283 3, vget l283 4, vget l283 5] s285))) [vget l19 0, vget l19 1, vget l19 2, vget l19 3, vget l19 4, v282] s180 (fun x306 l307 s308 => match x306 with | .normal => pBin Try.prog 3 BinOp.add (vget l307 4) (Value.int IntKind.i64 1) (fun v309 => False) | .ret => False | .exit i310 => (match Nat.beq i310 6 with | true => pBin Try.prog 3 BinOp.add (vget l307 4) (Value.int IntKind.i64 1) (fun v311 => False) | false => (match Nat.beq i310 1 with | true => pBin Try.prog 3 BinOp.add (vget l307 4) (Value.int IntKind.i64 1) (fun v312 => False) | false => False))))) (pBin Try.prog 3 BinOp.add (vget l19 4) (Value.int IntKind.i64 1) (fun v313 => False)))))))))))))))))))))))) | false => (match Nat.beq i167 1 with | true => pBin Try.prog 3 BinOp.add (vget l19 4) (Value.int IntKind.i64 1) (fun v314 => False) | false => False)))) (K2 (AX.exit 0) [vget l1 0, vget l1 1, vget l1 2, vget l1 3, vget l1 4, vget l1 5] s3))) [a0, a1, a2, Value.bool false, v0, Value.int IntKind.i64 0] σ (fun x315 l316 s317 => match x315 with | .normal => R (Value.bool false) s317 | .ret => R (vget l316 3) s317 | .exit i318 => (match Nat.beq i318 0 with | true => R (Value.bool false) s317 | false => False)))
theorem vc_slices_partialInsertionSortOrdered_string_eq (w0 : World) (a0 a1 a2 : Value) (σ : Vw) (R : Value → Vw → Prop) : vc_slices_partialInsertionSortOrdered_string w0 a0 a1 a2 σ R = den Try.prog w0 kp_slices_partialInsertionSortOrdered_string esc_slices_partialInsertionSortOrdered_string (Try.f180.body.getD .skip) (entry Try.f180.ntmps [a0, a1, a2]) σ (retK Try.prog Try.f180.results.toList R) := by kernel_rfl
theorem ac_slices_partialInsertionSortOrdered_string {w0 : World} {a0 a1 a2 : Value} {σ : Vw} {R : Value → Vw → Prop} (h : vc_slices_partialInsertionSortOrdered_string w0 a0 a1 a2 σ R) : AC Try.prog w0 n_slices_partialInsertionSortOrdered_string [a0, a1, a2] σ R := by
  refine ac_rule (fn := Try.f180) (c := Try.f180.body.getD .skip) kp_slices_partialInsertionSortOrdered_string esc_slices_partialInsertionSortOrdered_string Try.func180 (by kernel_rfl) (by kernel_rfl) ?_
  rw [← vc_slices_partialInsertionSortOrdered_string_eq]
  exact h

/-- cmp.Less[string] -/
def kp_cmp_Less_string : Nat → Keep
  | _ => ⟨[], [], [], .done, []⟩
def esc_cmp_Less_string : Nat → Bool
  | _ => false
def vc_cmp_Less_string (w0 : World) (a0 a1 : Value) (σ : Vw) (R : Value → Vw → Prop) : Prop :=
  AC Try.prog w0 n_cmp_isNaN_string [a0] σ (fun v0 s1 => pIf v0 (AC Try.prog w0 n_cmp_isNaN_string [a1] s1 (fun v2 s3 => pUn UnOp.not v2 (fun v4 => pIf v4 (R (Value.bool true) s3) (pBin Try.prog 9 BinOp.lss a0 a1 (fun v5 => R v5 s3))))) (pBin Try.prog 9 BinOp.lss a0 a1 (fun v6 => R v6 s1)))
theorem vc_cmp_Less_string_eq (w0 : World) (a0 a1 : Value) (σ : Vw) (R : Value → Vw → Prop) : vc_cmp_Less_string w0 a0 a1 σ R = den Try.prog w0 kp_cmp_Less_string esc_cmp_Less_string (Try.f181.body.getD .skip) (entry Try.f181.ntmps [a0, a1]) σ (retK Try.prog Try.f181.results.toList R) := by kernel_rfl
theorem ac_cmp_Less_string {w0 : World} {a0 a1 : Value} {σ : Vw} {R : Value → Vw → Prop} (h : vc_cmp_Less_string w0 a0 a1 σ R) : AC Try.prog w0 n_cmp_Less_string [a0, a1] σ R := by
  refine ac_rule (fn := Try.f181) (c := Try.f181.body.getD .skip) kp_cmp_Less_string esc_cmp_Less_string Try.func181 (by kernel_rfl) (by kernel_rfl) ?_
  rw [← vc_cmp_Less_string_eq]
  exact h

/-- spec.l2Parent -/
def kp_spec_l2Parent : Nat → Keep
  | 1 => ⟨[], [], [], .step 0 (.step 1 (.step 2 (.step 3 (.step 4 (.step 5 (.step 10 (.step 6 (.step 7 (.step 8 (.step 9 (.step 11 (.step 12 (.done))))))))))))), [(3, [2]), (4, [2, 3]), (5, [1, 2, 3, 4]), (6, [0, 1, 2, 3, 4, 5]), (7, [0, 1, 2, 3, 4, 5, 6]), (8, [0, 1, 2, 3, 4, 5, 6, 7]), (9, [0, 1, 2, 3, 4, 5, 6, 7]), (11, [0, 1, 2, 3, 4, 5, 6, 7, 8, 10]), (12, [0, 1, 2, 3, 4, 5, 6, 7, 8, 9, 10, 11])]⟩
  | _ => ⟨[], [], [], .done, []⟩
def esc_spec_l2Parent : Nat → Bool
  | _ => false
def vc_spec_l2Parent (w0 : World) (a0 a1 : Value) (σ : Vw) (R : Value → Vw → Prop) : Prop :=
  pVal true 5 a0 (pLen a1 (fun v0 => pBin Try.prog 3 BinOp.sub v0 (Value.int IntKind.i64 1) (fun v1 => pSlice 1 a1 Option.none (Option.some v1) (fun v2 => AC Try.prog w0 n_spec_l1At ([Value.agg (⟨[cellOf a0 0, cellOf a0 1, cellOf a0 2, cellOf a0 3, cellOf a0 4]⟩), v2]) σ (fun v3 s4 => pExtract v3 0 (fun v5 => pExtract v3 1 (fun v6 => pVal true 5 v5 (pUn UnOp.not v6 (fun v7 => pIf v7 (R (Value.int IntKind.i64 3) s4) (pUn UnOp.not (cellOf v5 0) (fun v8 => pIf v8 (R (Value.int IntKind.i64 4) s4) (R (Value.int IntKind.i64 0) s4))))))))))))
theorem vc_spec_l2Parent_eq (w0 : World) (a0 a1 : Value) (σ : Vw) (R : Value → Vw → Prop) : vc_spec_l2Parent w0 a0 a1 σ R = den Try.prog w0 kp_spec_l2Parent esc_spec_l2Parent (Try.f184.body.getD .skip) (entry Try.f184.ntmps [a0, a1]) σ (retK Try.prog Try.f184.results.toList R) := by kernel_rfl
theorem ac_spec_l2Parent {w0 : World} {a0 a1 : Value} {σ : Vw} {R : Value → Vw → Prop} (h : vc_spec_l2Parent w0 a0 a1 σ R) : AC Try.prog w0 n_spec_l2Parent [a0, a1] σ R := by
  refine ac_rule (fn := Try.f184) (c := Try.f184.body.getD .skip) kp_spec_l2Parent esc_spec_l2Parent Try.func184 (by kernel_rfl) (by kernel_rfl) ?_
  rw [← vc_spec_l2Parent_eq]
  exact h

/-- spec.l2Fits -/
def kp_spec_l2Fits : Nat → Keep
  | _ => ⟨[], [], [], .done, []⟩
def esc_spec_l2Fits : Nat → Bool
  | _ => false
def vc_spec_l2Fits (w0 : World) (a0 a1 : Value) (σ : Vw) (R : Value → Vw → Prop) : Prop :=
  pVal true 5 a0 (pVal true 5 a1 (AC Try.prog w0 n_spec_TreeOk ([Value.agg (⟨[cellOf a0 0, cellOf a0 1, cellOf a0 2, cellOf a0 3, cellOf a0 4]⟩)]) σ (fun v0 s1 => pUn UnOp.not v0 (fun v2 => pIf v2 (pVal true 5 (Value.agg (⟨[cellOf a1 0, cellOf a1 1, cellOf a1 2, cellOf a1 3, cellOf a1 4]⟩)) (R (Value.tuple (⟨[Value.agg (⟨[cellOf a1 0, cellOf a1 1, cellOf a1 2, cellOf a1 3, cellOf a1 4]⟩), Value.int IntKind.i64 6]⟩)) s1)) (pVal true 5 (Value.agg (⟨[cellOf a0 0, cellOf a0 1, cellOf a0 2, cellOf a0 3, cellOf a0 4]⟩)) (R (Value.tuple (⟨[Value.agg (⟨[cellOf a0 0, cellOf a0 1, cellOf a0 2, cellOf a0 3, cellOf a0 4]⟩), Value.int IntKind.i64 0]⟩)) s1))))))
theorem vc_spec_l2Fits_eq (w0 : World) (a0 a1 : Value) (σ : Vw) (R : Value → Vw → Prop) : vc_spec_l2Fits w0 a0 a1 σ R = den Try.prog w0 kp_spec_l2Fits esc_spec_l2Fits (Try.f185.body.getD .skip) (entry Try.f185.ntmps [a0, a1]) σ (retK Try.prog Try.f185.results.toList R) := by kernel_rfl
theorem ac_spec_l2Fits {w0 : World} {a0 a1 : Value} {σ : Vw} {R : Value → Vw → Prop} (h : vc_spec_l2Fits w0 a0 a1 σ R) : AC Try.prog w0 n_spec_l2Fits [a0, a1] σ R := by
  refine ac_rule (fn := Try.f185) (c := Try.f185.body.getD .skip) kp_spec_l2Fits esc_spec_l2Fits Try.func185 (by kernel_rfl) (by kernel_rfl) ?_
  rw [← vc_spec_l2Fits_eq]
  exact h

/-- spec.l2Set -/
def kp_spec_l2Set : Nat → Keep
  | 4 => ⟨[1, 3, 10, 11], [(4, 5), (6, 5), (8, 5), (9, 5)], [4, 6, 8, 9], .done, []⟩
  | 8 => ⟨[], [], [], .step 0 (.step 1 (.step 2 (.step 3 (.step 4 (.step 5 (.step 6 (.step 7 (.step 8 (.done))))))))), [(1, [0]), (3, [2]), (4, [2, 3]), (5, [2, 3, 4]), (6, [0, 1, 2, 3, 4, 5]), (7, [0, 1, 2, 3, 4, 5, 6]), (8, [0, 1, 2, 3, 4, 5, 6, 7])]⟩
  | 14 => ⟨[], [], [], .step 0 (.step 1 (.step 2 (.step 3 (.step 4 (.step 5 (.step 6 (.done))))))), [(2, [1]), (5, [0, 1, 2, 3, 4]), (6, [0, 1, 2, 3, 4, 5])]⟩
  | 18 => ⟨[], [], [], .step 0 (.step 1 (.step 2 (.step 3 (.step 4 (.step 5 (.step 6 (.step 7 (.step 8 (.done))))))))), [(1, [0]), (3, [2]), (4, [2, 3]), (5, [2, 3, 4]), (6, [0, 1, 2, 3, 4, 5]), (7, [0, 1, 2, 3, 4, 5, 6]), (8, [0, 1, 2, 3, 4, 5, 6, 7])]⟩
  | _ => ⟨[], [], [], .done, []⟩
def esc_spec_l2Set : Nat → Bool
  | _ => false
def vc_spec_l2Set (w0 : World) (a0 a1 a2 a3 : Value) (σ : Vw) (R : Value → Vw → Prop) : Prop :=
  pVal true 5 a0 (pVal true 5 a2 (pVal false 1 (cellOf a0 0) (pVal false 1 (cellOf a0 1) (pVal false 1 (cellOf a0 2) (pVal true 5 (Value.agg (⟨[cellOf a0 0, cellOf a0 1, cellOf a0 2, Value.slice Option.none 0 0, Value.slice Option.none 0 0]⟩)) (pLoop (fun l0 K1 s2 => pLen (vget l0 7) (fun v3 => pBin Try.prog 3 BinOp.lss (vget l0 3) v3 (fun v4 => pIf v4 (pIndexAddr 1 (vget l0 7) (vget l0 3) (fun v5 => pLoad w0 1 v5 s2 (fun g6 => pLen (vget l0 0) (fun v7 => pBin Try.prog 3 BinOp.eql v7 (Value.int IntKind.i64 1) (fun v8 => pIf v8 (pUn UnOp.not (vget l0 2) (fun v9 => pIf v9 (pUn UnOp.not (vget l0 1) (fun v10 => pIf v10 (pIndexAddr 1 (vget l0 0) (Value.int IntKind.i64 0) (fun v11 => pLoad w0 1 v11 s2 (fun g12 => pBin Try.prog 9 BinOp.geq (g6 0) (g12 0) (fun v13 => pIf v13 (pIndexAddr 1 (vget l0 0) (Value.int IntKind.i64 0) (fun v14 => pLoad w0 1 v14 s2 (fun g15 => pVal false 1 (g15 0) ((allOne [g15 0]) ∧ (pAppend w0 9 1 16 (vget l0 22) 1 [g15 0] s2 (fun v16 s17 => pVal false 1 v16 (pVal true 5 (Value.agg (⟨[vget l0 9, vget l0 10, vget l0 11, vget l0 12, vget l0 13]⟩)) ((allOne [vget l0 9, vget l0 10, vget l0 11, vget l0 12, vget l0 13]) ∧ (pAppend w0 37 5 80 (vget l0 23) 1 [vget l0 9, vget l0 10, vget l0 11, vget l0 12, vget l0 13] s17 (fun v18 s19 => pVal false 1 v18 (pIndexAddr 1 (vget l0 0) (Value.int IntKind.i64 0) (fun v20 => pLoad w0 1 v20 s19 (fun g21 => pBin Try.prog 9 BinOp.eql (g6 0) (g21 0) (fun v22 => pIf v22 (pLen (vget l0 0) (fun v23 => pBin Try.prog 3 BinOp.eql v23 (Value.int IntKind.i64 1) (fun v24 => pIf v24 (pBin Try.prog 3 BinOp.add (vget l0 3) (Value.int IntKind.i64 1) (fun v25 => K1 AX.normal [vget l0 0, vget l0 1, Value.bool true, v25, vget l0 4, vget l0 5, vget l0 6, vget l0 7, vget l0 8, vget l0 9, vget l0 10, vget l0 11, vget l0 12, vget l0 13, vget l0 14, vget l0 15, vget l0 16, vget l0 17, vget l0 18, vget l0 19, vget l0 20, vget l0 21, v16, v18] s19)) (pIndexAddr 5 (vget l0 8) (vget l0 3) (fun v26 => pLoad w0 5 v26 s19 (fun g27 => pVal true 5 (Value.agg (⟨[g27 0, g27 1, g27 2, g27 3, g27 4]⟩)) (pIndexAddr 1 (vget l0 0) (Value.int IntKind.i64 0) (fun v28 => pLoad w0 1 v28 s19 (fun g29 => pBin Try.prog 9 BinOp.eql (g6 0) (g29 0) (fun v30 => pIf v30 (pSlice 1 (vget l0 0) (Option.some (Value.int IntKind.i64 1)) Option.none (fun v31 => AC Try.prog w0 n_spec_l2Set ([Value.agg (⟨[g27 0, g27 1, g27 2, g27 3, g27 4]⟩), v31, Value.agg (⟨[vget l0 9, vget l0 10, vget l0 11, vget l0 12, vget l0 13]⟩), vget l0 1]) s19 (fun v32 s33 => pVal true 5 v32 (pVal false 1 (g6 0) ((allOne [g6 0]) ∧ (pAppend w0 9 1 16 v16 1 [g6 0] s33 (fun v34 s35 => pVal false 1 v34 (pVal true 5 (Value.agg (⟨[cellOf v32 0, cellOf v32 1, cellOf v32 2, cellOf v32 3, cellOf v32 4]⟩)) ((allOne [cellOf v32 0, cellOf v32 1, cellOf v32 2, cellOf v32 3, cellOf v32 4]) ∧ (pAppend w0 37 5 80 v18 1 [cellOf v32 0, cellOf v32 1, cellOf v32 2, cellOf v32 3, cellOf v32 4] s35 (fun v36 s37 => pVal false 1 v36 (pBin Try.prog 3 BinOp.add (vget l0 3) (Value.int IntKind.i64 1) (fun v38 => K1 AX.normal [vget l0 0, vget l0 1, Value.bool true, v38, vget l0 4, vget l0 5, vget l0 6, vget l0 7, vget l0 8, vget l0 9, vget l0 10, vget l0 11, vget l0 12, vget l0 13, vget l0 14, vget l0 15, vget l0 16, vget l0 17, vget l0 18, vget l0 19, vget l0 20, vget l0 21, v34, v36] s37))))))))))))) (pVal false 1 (g6 0) ((allOne [g6 0]) ∧ (pAppend w0 9 1 16 v16 1 [g6 0] s19 (fun v39 s40 => pVal false 1 v39 (pVal true 5 (Value.agg (⟨[g27 0, g27 1, g27 2, g27 3, g27 4]⟩)) ((allOne [g27 0, g27 1, g27 2, g27 3, g27 4]) ∧ (pAppend w0 37 5 80 v18 1 [g27 0, g27 1, g27 2, g27 3, g27 4] s40 (fun v41 s42 => pVal false 1 v41 (pBin Try.prog 3 BinOp.add (vget l0 3) (Value.int IntKind.i64 1) (fun v43 => K1 AX.normal [vget l0 0, vget l0 1, Value.bool true, v43, vget l0 4, vget l0 5, vget l0 6, vget l0 7, vget l0 8, vget l0 9, vget l0 10, vget l0 11, vget l0 12, vget l0 13, vget l0 14, vget l0 15, vget l0 16, vget l0 17, vget l0 18, vget l0 19, vget l0 20, vget l0 21, v39, v41] s42)))))))))))))))))))) (pIndexAddr 5 (vget l0 8) (vget l0 3) (fun v44 => pLoad w0 5 v44 s19 (fun g45 => pVal true 5 (Value.agg (⟨[g45 0, g45 1, g45 2, g45 3, g45 4]⟩)) (pIndexAddr 1 (vget l0 0) (Value.int IntKind.i64 0) (fun v46 => pLoad w0 1 v46 s19 (fun g47 => pBin Try.prog 9 BinOp.eql (g6 0) (g47 0) (fun v48 => pIf v48 (pSlice 1 (vget l0 0) (Option.some (Value.int IntKind.i64 1)) Option.none (fun v49 => AC Try.prog w0 n_spec_l2Set ([Value.agg (⟨[g45 0, g45 1, g45 2, g45 3, g45 4]⟩), v49, Value.agg (⟨[vget l0 9, vget l0 10, vget l0 11, vget l0 12, vget l0 13]⟩), vget l0 1]) s19 (fun v50 s51 => pVal true 5 v50 (pVal false 1 (g6 0) ((allOne [g6 0]) ∧ (pAppend w0 9 1 16 v16 1 [g6 0] s51 (fun v52 s53 => pVal false 1 v52 (pVal true 5 (Value.agg (⟨[cellOf v50 0, cellOf v50 1, cellOf v50 2, cellOf v50 3, cellOf v50 4]⟩)) ((allOne [cellOf v50 0, cellOf v50 1, cellOf v50 2, cellOf v50 3, cellOf v50 4]) ∧ (pAppend w0 37 5 80 v18 1 [cellOf v50 0, cellOf v50 1, cellOf v50 2, cellOf v50 3, cellOf v50 4] s53 (fun v54 s55 => pVal false 1 v54 (pBin Try.prog 3 BinOp.add (vget l0 3) (Value.int IntKind.i64 1) (fun v56 => K1 AX.normal [vget l0 0, vget l0 1, Value.bool true, v56, vget l0 4, vget l0 5, vget l0 6, vget l0 7, vget l0 8, vget l0 9, vget l0 10, vget l0 11, vget l0 12, vget l0 13, vget l0 14, vget l0 15, vget l0 16, vget l0 17, vget l0 18, vget l0 19, vget l0 20, vget l0 21, v52, v54] s55))))))))))))) (pVal false 1 (g6 0) ((allOne [g6 0]) ∧ (pAppend w0 9 1 16 v16 1 [g6 0] s19 (fun v57 s58 => pVal false 1 v57 (pVal true 5 (Value.agg (⟨[g45 0, g45 1, g45 2, g45 3, g45 4]⟩)) ((allOne [g45 0, g45 1, g45 2, g45 3, g45 4]) ∧ (pAppend w0 37 5 80 v18 1 [g45 0, g45 1, g45 2, g45 3, g45 4] s58 (fun v59 s60 => pVal false 1 v59 (pBin Try.prog 3 BinOp.add (vget l0 3) (Value.int IntKind.i64 1) (fun v61 => K1 AX.normal [vget l0 0, vget l0 1, Value.bool true, v61, vget l0 4, vget l0 5, vget l0 6, vget l0 7, vget l0 8, vget l0 9, vget l0 10, vget l0 11, vget l0 12, vget l0 13, vget l0 14, vget l0 15, vget l0 16, vget l0 17, vget l0 18, vget l0 19, vget l0 20, vget l0 21, v57, v59] s60))))))))))))))))))))))))))))))) (pIndexAddr 1 (vget l0 0) (Value.int IntKind.i64 0) (fun v62 => pLoad w0 1 v62 s2 (fun g63 => pBin Try.prog 9 BinOp.eql (g6 0) (g63 0) (fun v64 => pIf v64 (pLen (vget l0 0) (fun v65 => pBin Try.prog 3 BinOp.eql v65 (Value.int IntKind.i64 1) (fun v66 => pIf v66 (pBin Try.prog 3 BinOp.add (vget l0 3) (Value.int IntKind.i64 1) (fun v67 => K1 AX.normal [vget l0 0, vget l0 1, vget l0 2, v67, vget l0 4, vget l0 5, vget l0 6, vget l0 7, vget l0 8, vget l0 9, vget l0 10, vget l0 11, vget l0 12, vget l0 13, vget l0 14, vget l0 15, vget l0 16, vget l0 17, vget l0 18, vget l0 19, vget l0 20, vget l0 21, vget l0 22, vget l0 23] s2)) (pIndexAddr 5 (vget l0 8) (vget l0 3) (fun v68 => pLoad w0 5 v68 s2 (fun g69 => pVal true 5 (Value.agg (⟨[g69 0, g69 1, g69 2, g69 3, g69 4]⟩)) (pIndexAddr 1 (vget l0 0) (Value.int IntKind.i64 0) (fun v70 => pLoad w0 1 v70 s2 (fun g71 => pBin Try.prog 9 BinOp.eql (g6 0) (g71 0) (fun v72 => pIf v72 (pSlice 1 (vget l0 0) (Option.some (Value.int IntKind.i64 1)) Option.none (fun v73 => AC Try.prog w0 n_spec_l2Set ([Value.agg (⟨[g69 0, g69 1, g69 2, g69 3, g69 4]⟩), v73, Value.agg (⟨[vget l0 9, vget l0 10, vget l0 11, vget l0 12, vget l0 13]⟩), vget l0 1]) s2 (fun v74 s75 => pVal true 5 v74 (pVal false 1 (g6 0) ((allOne [g6 0]) ∧ (pAppend w0 9 1 16 (vget l0 22) 1 [g6 0] s75 (fun v76 s77 => pVal false 1 v76 (pVal true 5 (Value.agg (⟨[cellOf v74 0, cellOf v74 1, cellOf v74 2, cellOf v74 3, cellOf v74 4]⟩)) ((allOne [cellOf v74 0, cellOf v74 1, cellOf v74 2, cellOf v74 3, cellOf v74 4]) ∧ (pAppend w0 37 5 80 (vget l0 23) 1 [cellOf v74 0, cellOf v74 1, cellOf v74 2, cellOf v74 3, cellOf v74 4] s77 (fun v78 s79 => pVal false 1 v78 (pBin Try.prog 3 BinOp.add (vget l0 3) (Value.int IntKind.i64 1) (fun v80 => K1 AX.normal [vget l0 0, vget l0 1, vget l0 2, v80, vget l0 4, vget l0 5, vget l0 6, vget l0 7, vget l0 8, vget l0 9, vget l0 10, vget l0 11, vget l0 12, vget l0 13, vget l0 14, vget l0 15, vget l0 16, vget l0 17, vget l0 18, vget l0 19, vget l0 20, vget l0 21, v76, v78] s79))))))))))))) (pVal false 1 (g6 0) ((allOne [g6 0]) ∧ (pAppend w0 9 1 16 (vget l0 22) 1 [g6 0] s2 (fun v81 s82 => pVal false 1 v81 (pVal true 5 (Value.agg (⟨[g69 0, g69 1, g69 2, g69 3, g69 4]⟩)) ((allOne [g69 0, g69 1, g69 2, g69 3, g69 4]) ∧ (pAppend w0 37 5 80 (vget l0 23) 1 [g69 0, g69 1, g69 2, g69 3, g69 4] s82 (fun v83 s84 => pVal false 1 v83 (pBin Try.prog 3 BinOp.add (vget l0 3) (Value.int IntKind.i64 1) (fun v85 => K1 AX.normal [vget l0 0, vget l0 1, vget l0 2, v85, vget l0 4, vget l0 5, vget l0 6, vget l0 7, vget l0 8, vget l0 9, vget l0 10, vget l0 11, vget l0 12, vget l0 13, vget l0 14, vget l0 15, vget l0 16, vget l0 17, vget l0 18, vget l0 19, vget l0 20, vget l0 21, v81, v83] s84)))))))))))))))))))) (pIndexAddr 5 (vget l0 8) (vget l0 3) (fun v86 => pLoad w0 5 v86 s2 (fun g87 => pVal true 5 (Value.agg (⟨[g87 0, g87 1, g87 2, g87 3, g87 4]⟩)) (pIndexAddr 1 (vget l0 0) (Value.int IntKind.i64 0) (fun v88 => pLoad w0 1 v88 s2 (fun g89 => pBin Try.prog 9 BinOp.eql (g6 0) (g89 0) (fun v90 => pIf v90 (pSlice 1 (vget l0 0) (Option.some (Value.int IntKind.i64 1)) Option.none (fun v91 => AC Try.prog w0 n_spec_l2Set ([Value.agg (⟨[g87 0, g87 1, g87 2, g87 3, g87 4]⟩), v91, Value.agg (⟨[vget l0 9, vget l0 10, vget l0 11, vget l0 12, vget l0 13]⟩), vget l0 1]) s2 (fun v92 s93 => pVal true 5 v92 (pVal false 1 (g6 0) ((allOne [g6 0]) ∧ (pAppend w0 9 1 16 (vget l0 22) 1 [g6 0] s93 (fun v94 s95 => pVal false 1 v94 (pVal true 5 (Value.agg (⟨[cellOf v92 0, cellOf v92 1, cellOf v92 2, cellOf v92 3, cellOf v92 4]⟩)) ((allOne [cellOf v92 0, cellOf v92 1, cellOf v92 2, cellOf v92 3, cellOf v92 4]) ∧ (pAppend w0 37 5 80 (vget l0 23) 1 [cellOf v92 0, cellOf v92 1, cellOf v92 2, cellOf v92 3, cellOf v92 4] s95 (fun v96 s97 => pVal false 1 v96 (pBin Try.prog 3 BinOp.add (vget l0 3) (Value.int IntKind.i64 1) (fun v98 => K1 AX.normal [vget l0 0, vget l0 1, vget l0 2, v98, vget l0 4, vget l0 5, vget l0 6, vget l0 7, vget l0 8, vget l0 9, vget l0 10, vget l0 11, vget l0 12, vget l0 13, vget l0 14, vget l0 15, vget l0 16, vget l0 17, vget l0 18, vget l0 19, vget l0 20, vget l0 21, v94, v96] s97))))))))))))) (pVal false 1 (g6 0) ((allOne [g6 0]) ∧ (pAppend w0 9 1 16 (vget l0 22) 1 [g6 0] s2 (fun v99 s100 => pVal false 1 v99 (pVal true 5 (Value.agg (⟨[g87 0, g87 1, g87 2, g87 3, g87 4]⟩)) ((allOne [g87 0, g87 1, g87 2, g87 3, g87 4]) ∧ (pAppend w0 37 5 80 (vget l0 23) 1 [g87 0, g87 1, g87 2, g87 3, g87 4] s100 (fun v101 s102 => pVal false 1 v101 (pBin Try.prog 3 BinOp.add (vget l0 3) (Value.int IntKind.i64 1) (fun v103 => K1 AX.normal [vget l0 0, vget l0 1, vget l0 2, v103, vget l0 4, vget l0 5, vget l0 6, vget l0 7, vget l0 8, vget l0 9, vget l0 10, vget l0 11, vget l0 12, vget l0 13, vget l0 14, vget l0 15, vget l0 16, vget l0 17, vget l0 18, vget l0 19, vget l0 20, vget l0 21, v99, v101] s102))))))))))))))))))))))))) (pIndexAddr 1 (vget l0 0) (Value.int IntKind.i64 0) (fun v104 => pLoad w0 1 v104 s2 (fun g105 => pBin Try.prog 9 BinOp.eql (g6 0) (g105 0) (fun v106 => pIf v106 (pLen (vget l0 0) (fun v107 => pBin Try.prog 3 BinOp.eql v107 (Value.int IntKind.i64 1) (fun v108 => pIf v108 (pBin Try.prog 3 BinOp.add (vget l0 3) (Value.int IntKind.i64 1) (fun v109 => K1 AX.normal [vget l0 0, vget l0 1, vget l0 2, v109, vget l0 4, vget l0 5, vget l0 6, vget l0 7, vget l0 8, vget l0 9, vget l0 10, vget l0 11, vget l0 12, vget l0 13, vget l0 14, vget l0 15, vget l0 16, vget l0 17, vget l0 18, vget l0 19, vget l0 20, vget l0 21, vget l0 22, vget l0 23] s2)) (pIndexAddr 5 (vget l0 8) (vget l0 3) (fun v110 => pLoad w0 5 v110 s2 (fun g111 => pVal true 5 (Value.agg (⟨[g111 0, g111 1, g111 2, g111 3, g111 4]⟩)) (pIndexAddr 1 (vget l0 0) (Value.int IntKind.i64 0) (fun v112 => pLoad w0 1 v112 s2 (fun g113 => pBin Try.prog 9 BinOp.eql (g6 0) (g113 0) (fun v114 => pIf v114 (pSlice 1 (vget l0 0) (Option.some (Value.int IntKind.i64 1)) Option.none (fun v115 => AC Try.prog w0 n_spec_l2Set ([Value.agg (⟨[g111 0, g111 1, g111 2, g111 3, g111 4]⟩), v115, Value.agg (⟨[vget l0 9, vget l0 10, vget l0 11, vget l0 12, vget l0 13]⟩), vget l0 1]) s2 (fun v116 s117 => pVal true 5 v116 (pVal false 1 (g6 0) ((allOne [g6 0]) ∧ (pAppend w0 9 1 16 (vget l0 22) 1 [g6 0] s117 (fun v118 s119 => pVal false 1 v118 (pVal true 5 (Value.agg (⟨[cellOf v116 0, cellOf v116 1, cellOf v116 2, cellOf v116 3, cellOf v116 4]⟩)) ((allOne [cellOf v116 0, cellOf v116 1, cellOf v116 2, cellOf v116 3, cellOf v116 4]) ∧ (pAppend w0 37 5 80 (vget l0 23) 1 [cellOf v116 0, cellOf v116 1, cellOf v116 2, cellOf v116 3, cellOf v116 4] s119 (fun v120 s121 => pVal false 1 v120 (pBin Try.prog 3 BinOp.add (vget l0 3) (Value.int IntKind.i64 1) (fun v122 => K1 AX.normal [vget l0 0, vget l0 1, vget l0 2, v122, vget l0 4, vget l0 5, vget l0 6, vget l0 7, vget l0 8, vget l0 9, vget l0 10, vget l0 11, vget l0 12, vget l0 13, vget l0 14, vget l0 15, vget l0 16, vget l0 17, vget l0 18, vget l0 19, vget l0 20, vget l0 21, v118, v120] s121))))))))))))) (pVal false 1 (g6 0) ((allOne [g6 0]) ∧ (pAppend w0 9 1 16 (vget l0 22) 1 [g6 0] s2 (fun v123 s124 => pVal false 1 v123 (pVal true 5 (Value.agg (⟨[g111 0, g111 1, g111 2, g111 3, g111 4]⟩)) ((allOne [g111 0, g111 1, g111 2, g111 3, g111 4]) ∧ (pAppend w0 37 5 80 (vget l0 23) 1 [g111 0, g111 1, g111 2, g111 3, g111 4] s124 (fun v125 s126 => pVal false 1 v125 (pBin Try.prog 3 BinOp.add (vget l0 3) (Value.int IntKind.i64 1) (fun v127 => K1 AX.normal [vget l0 0, vget l0 1, vget l0 2, v127, vget l0 4, vget l0 5, vget l0 6, vget l0 7, vget l0 8, vget l0 9, vget l0 10, vget l0 11, vget l0 12, vget l0 13, vget l0 14, vget l0 15, vget l0 16, vget l0 17, vget l0 18, vget l0 19, vget l0 20, vget l0 21, v123, v125] s126)))))))))))))))))))) (pIndexAddr 5 (vget l0 8) (vget l0 3) (fun v128 => pLoad w0 5 v128 s2 (fun g129 => pVal true 5 (Value.agg (⟨[g129 0, g129 1, g129 2, g129 3, g129 4]⟩)) (pIndexAddr 1 (vget l0 0) (Value.int IntKind.i64 0) (fun v130 => pLoad w0 1 v130 s2 (fun g131 => pBin Try.prog 9 BinOp.eql (g6 0) (g131 0) (fun v132 => pIf v132 (pSlice 1 (vget l0 0) (Option.some (Value.int IntKind.i64 1)) Option.none (fun v133 => AC Try.prog w0 n_spec_l2Set ([Value.agg (⟨[g129 0, g129 1, g129 2, g129 3, g129 4]⟩), v133, Value.agg (⟨[vget l0 9, vget l0 10, vget l0 11, vget l0 12, vget l0 13]⟩), vget l0 1]) s2 (fun v134 s135 => pVal true 5 v134 (pVal false 1 (g6 0) ((allOne [g6 0]) ∧ (pAppend w0 9 1 16 (vget l0 22) 1 [g6 0] s135 (fun v136 s137 => pVal false 1 v136 (pVal true 5 (Value.agg (⟨[cellOf v134 0, cellOf v134 1, cellOf v134 2, cellOf v134 3, cellOf v134 4]⟩)) ((allOne [cellOf v134 0, cellOf v134 1, cellOf v134 2, cellOf v134 3, cellOf v134 4]) ∧ (pAppend w0 37 5 80 (vget l0 23) 1 [cellOf v134 0, cellOf v134 1, cellOf v134 2, cellOf v134 3, cellOf v134 4] s137 (fun v138 s139 => pVal false 1 v138 (pBin Try.prog 3 BinOp.add (vget l0 3) (Value.int IntKind.i64 1) (fun v140 => K1 AX.normal [vget l0 0, vget l0 1, vget l0 2, v140, vget l0 4, vget l0 5, vget l0 6, vget l0 7, vget l0 8, vget l0 9, vget l0 10, vget l0 11, vget l0 12, vget l0 13, vget l0 14, vget l0 15, vget l0 16, vget l0 17, vget l0 18, vget l0 19, vget l0 20, vget l0 21, v136, v138] s139))))))))))))) (pVal false 1 (g6 0) ((allOne [g6 0]) ∧ (pAppend w0 9 1 16 (vget l0 22) 1 [g6 0] s2 (fun v141 s142 => pVal false 1 v141 (pVal true 5 (Value.agg (⟨[g129 0, g129 1, g129 2, g129 3, g129 4]⟩)) ((allOne [g129 0, g129 1, g129 2, g129 3, g129 4]) ∧ (pAppend w0 37 5 80 (vget l0 23) 1 [g129 0, g129 1, g129 2, g129 3, g129 4] s142 (fun v143 s144 => pVal false 1 v143 (pBin Try.prog 3 BinOp.add (vget l0 3) (Value.int IntKind.i64 1) (fun v145 => K1 AX.normal [vget l0 0, vget l0 1, vget l0 2, v145, vget l0 4, vget l0 5, vget l0 6, vget l0 7, vget l0 8, vget l0 9, vget l0 10, vget l0 11, vget l0 12, vget l0 13, vget l0 14, vget l0 15, vget l0 16, vget l0 17, vget l0 18, vget l0 19, vget l0 20, vget l0 21, v141, v143] s144))))))))))))))))))))))) (pIndexAddr 1 (vget l0 0) (Value.int IntKind.i64 0) (fun v146 => pLoad w0 1 v146 s2 (fun g147 => pBin Try.prog 9 BinOp.eql (g6 0) (g147 0) (fun v148 => pIf v148 (pLen (vget l0 0) (fun v149 => pBin Try.prog 3 BinOp.eql v149 (Value.int IntKind.i64 1) (fun v150 => pIf v150 (pBin Try.prog 3 BinOp.add (vget l0 3) (Value.int IntKind.i64 1) (fun v151 => K1 AX.normal [vget l0 0, vget l0 1, vget l0 2, v151, vget l0 4, vget l0 5, vget l0 6, vget l0 7, vget l0 8, vget l0 9, vget l0 10, vget l0 11, vget l0 12, vget l0 13, vget l0 14, vget l0 15, vget l0 16, vget l0 17, vget l0 18, vget l0 19, vget l0 20, vget l0 21, vget l0 22, vget l0 23] s2)) (pIndexAddr 5 (vget l0 8) (vget l0 3) (fun v152 => pLoad w0 5 v152 s2 (fun g153 => pVal true 5 (Value.agg (⟨[g153 0, g153 1, g153 2, g153 3, g153 4]⟩)) (pIndexAddr 1 (vget l0 0) (Value.int IntKind.i64 0) (fun v154 => pLoad w0 1 v154 s2 (fun g155 => pBin Try.prog 9 BinOp.eql (g6 0) (g155 0) (fun v156 => pIf v156 (pSlice 1 (vget l0 0) (Option.some (Value.int IntKind.i64 1)) Option.none (fun v157 => AC Try.prog w0 n_spec_l2Set ([Value.agg (⟨[g153 0, g153 1, g153 2, g153 3, g153 4]⟩), v157, Value.agg (⟨[vget l0 9, vget l0 10, vget l0 11, vget l0 12, vget l0 13]⟩), vget l0 1]) s2 (fun v158 s159 => pVal true 5 v158 (pVal false 1 (g6 0) ((allOne [g6 0]) ∧ (pAppend w0 9 1 16 (vget l0 22) 1 [g6 0] s159 (fun v160 s161 => pVal false 1 v160 (pVal true 5 (Value.agg (⟨[cellOf v158 0, cellOf v158 1, cellOf v158 2, cellOf v158 3, cellOf v158 4]⟩)) ((allOne [cellOf v158 0, cellOf v158 1, cellOf v158 2, cellOf v158 3, cellOf v158 4]) ∧ (pAppend w0 37 5 80 (vget l0 23) 1 [cellOf v158 0, cellOf v158 1, cellOf v158 2, cellOf v158 3, cellOf v158 4] s161 (fun v162 s163 => pVal false 1 v162 (pBin Try.prog 3 BinOp.add (vget l0 3) (Value.int IntKind.i64 1) (fun v164 => K1 AX.normal [vget l0 0, vget l0 1, vget l0 2, v164, vget l0 4, vget l0 5, vget l0 6, vget l0 7, vget l0 8, vget l0 9, vget l0 10, vget l0 11, vget l0 12, vget l0 13, vget l0 14, vget l0 15, vget l0 16, vget l0 17, vget l0 18, vget l0 19, vget l0 20, vget l0 21, v160, v162] s163))))))))))))) (pVal false 1 (g6 0) ((allOne [g6 0]) ∧ (pAppend w0 9 1 16 (vget l0 22) 1 [g6 0] s2 (fun v165 s166 => pVal false 1 v165 (pVal true 5 (Value.agg (⟨[g153 0, g153 1, g153 2, g153 3, g153 4]⟩)) ((allOne [g153 0, g153 1, g153 2, g153 3, g153 4]) ∧ (pAppend w0 37 5 80 (vget l0 23) 1 [g153 0, g153 1, g153 2, g153 3, g153 4] s166 (fun v167 s168 => pVal false 1 v167 (pBin Try.prog 3 BinOp.add (vget l0 3) (Value.int IntKind.i64 1) (fun v169 => K1 AX.normal [vget l0 0, vget l0 1, vget l0 2, v169, vget l0 4, vget l0 5, vget l0 6, vget l0 7, vget l0 8, vget l0 9, vget l0 10, vget l0 11, vget l0 12, vget l0 13, vget l0 14, vget l0 15, vget l0 16, vget l0 17, vget l0 18, vget l0 19, vget l0 20, vget l0 21, v165, v167] s168)))))))))))))))))))) (pIndexAddr 5 (vget l0 8) (vget l0 3) (fun v170 => pLoad w0 5 v170 s2 (fun g171 => pVal true 5 (Value.agg (⟨[g171 0, g171 1, g171 2, g171 3, g171 4]⟩)) (pIndexAddr 1 (vget l0 0) (Value.int IntKind.i64 0) (fun v172 => pLoad w0 1 v172 s2 (fun g173 => pBin Try.prog 9 BinOp.eql (g6 0) (g173 0) (fun v174 => pIf v174 (pSlice 1 (vget l0 0) (Option.some (Value.int IntKind.i64 1)) Option.none (fun v175 => AC Try.prog w0 n_spec_l2Set ([Value.agg (⟨[g171 0, g171 1, g171 2, g171 3, g171 4]⟩), v175, Value.agg (⟨[vget l0 9, vget l0 10, vget l0 11, vget l0 12, vget l0 13]⟩), vget l0 1]) s2 (fun v176 s177 => pVal true 5 v176 (pVal false 1 (g6 0) ((allOne [g6 0]) ∧ (pAppend w0 9 1 16 (vget l0 22) 1 [g6 0] s177 (fun v178 s179 => pVal false 1 v178 (pVal true 5 (Value.agg (⟨[cellOf v176 0, cellOf v176 1, cellOf v176 2, cellOf v176 3, cellOf v176 4]⟩)) ((allOne [cellOf v176 0, cellOf v176 1, cellOf v176 2, cellOf v176 3, cellOf v176 4]) ∧ (pAppend w0 37 5 80 (vget l0 23) 1 [cellOf v176 0, cellOf v176 1, cellOf v176 2, cellOf v176 3, cellOf v176 4] s179 (fun v180 s181 => pVal false 1 v180 (pBin Try.prog 3 BinOp.add (vget l0 3) (Value.int IntKind.i64 1) (fun v182 => K1 AX.normal [vget l0 0, vget l0 1, vget l0 2, v182, vget l0 4, vget l0 5, vget l0 6, vget l0 7, vget l0 8, vget l0 9, vget l0 10, vget l0 11, vget l0 12, vget l0 13, vget l0 14, vget l0 15, vget l0 16, vget l0 17, vget l0 18, vget l0 19, vget l0 20, vget l0 21, v178, v180] s181))))))))))))) (pVal false 1 (g6 0) ((allOne [g6 0]) ∧ (pAppend w0 9 1 16 (vget l0 22) 1 [g6 0] s2 (fun v183 s184 => pVal false 1 v183 (pVal true 5 (Value.agg (⟨[g171 0, g171 1, g171 2, g171 3, g171 4]⟩)) ((allOne [g171 0, g171 1, g171 2, g171 3, g171 4]) ∧ (pAppend w0 37 5 80 (vget l0 23) 1 [g171 0, g171 1, g171 2, g171 3, g171 4] s184 (fun v185 s186 => pVal false 1 v185 (pBin Try.prog 3 BinOp.add (vget l0 3) (Value.int IntKind.i64 1) (fun v187 => K1 AX.normal [vget l0 0, vget l0 1, vget l0 2, v187, vget l0 4, vget l0 5, vget l0 6, vget l0 7, vget l0 8, vget l0 9, vget l0 10, vget l0 11, vget l0 12, vget l0 13, vget l0 14, vget l0 15, vget l0 16, vget l0 17, vget l0 18, vget l0 19, vget l0 20, vget l0 21, v183, v185] s186))))))))))))))))))))))) (pIndexAddr 1 (vget l0 0) (Value.int IntKind.i64 0) (fun v188 => pLoad w0 1 v188 s2 (fun g189 => pBin Try.prog 9 BinOp.eql (g6 0) (g189 0) (fun v190 => pIf v190 (pLen (vget l0 0) (fun v191 => pBin Try.prog 3 BinOp.eql v191 (Value.int IntKind.i64 1) (fun v192 => pIf v192 (pBin Try.prog 3 BinOp.add (vget l0 3) (Value.int IntKind.i64 1) (fun v193 => K1 AX.normal [vget l0 0, vget l0 1, vget l0 2, v193, vget l0 4, vget l0 5, vget l0 6, vget l0 7, vget l0 8, vget l0 9, vget l0 10, vget l0 11, vget l0 12, vget l0 13, vget l0 14, vget l0 15, vget l0 16, vget l0 17, vget l0 18, vget l0 19, vget l0 20, vget l0 21, vget l0 22, vget l0 23] s2)) (pIndexAddr 5 (vget l0 8) (vget l0 3) (fun v194 => pLoad w0 5 v194 s2 (fun g195 => pVal true 5 (Value.agg (⟨[g195 0, g195 1, g195 2, g195 3, g195 4]⟩)) (pIndexAddr 1 (vget l0 0) (Value.int IntKind.i64 0) (fun v196 => pLoad w0 1 v196 s2 (fun g197 => pBin Try.prog 9 BinOp.eql (g6 0) (g197 0) (fun v198 => pIf v198 (pSlice 1 (vget l0 0) (Option.some (Value.int IntKind.i64 1)) Option.none (fun v199 => AC Try.prog w0 n_spec_l2Set ([Value.agg (⟨[g195 0, g195 1, g195 2, g195 3, g195 4]⟩), v199, Value.agg (⟨[vget l0 9, vget l0 10, vget l0 11, vget l0 12, vget l0 13]⟩), vget l0 1]) s2 (fun v200 s201 => pVal true 5 v200 (pVal false 1 (g6 0) ((allOne [g6 0]) ∧ (pAppend w0 9 1 16 (vget l0 22) 1 [g6 0] s201 (fun v202 s203 => pVal false 1 v202 (pVal true 5 (Value.agg (⟨[cellOf v200 0, cellOf v200 1, cellOf v200 2, cellOf v200 3, cellOf v200 4]⟩)) ((allOne [cellOf v200 0, cellOf v200 1, cellOf v200 2, cellOf v200 3, cellOf v200 4]) ∧ (pAppend w0 37 5 80 (vget l0 23) 1 [cellOf v200 0, cellOf v200 1, cellOf v200 2, cellOf v200 3, cellOf v200 4] s203 (fun v204 s205 => pVal false 1 v204 (pBin Try.prog 3 BinOp.add (vget l0 3) (Value.int IntKind.i64 1) (fun v206 => K1 AX.normal [vget l0 0, vget l0 1, vget l0 2, v206, vget l0 4, vget l0 5, vget l0 6, vget l0 7, vget l0 8, vget l0 9, vget l0 10, vget l0 11, vget l0 12, vget l0 13, vget l0 14, vget l0 15, vget l0 16, vget l0 17, vget l0 18, vget l0 19, vget l0 20, vget l0 21, v202, v204] s205))))))))))))) (pVal false 1 (g6 0) ((allOne [g6 0]) ∧ (pAppend w0 9 1 16 (vget l0 22) 1 [g6 0] s2 (fun v207 s208 => pVal false 1 v207 (pVal true 5 (Value.agg (⟨[g195 0, g195 1, g195 2, g195 3, g195 4]⟩)) ((allOne [g195 0, g195 1, g195 2, g195 3, g195 4]) ∧ (pAppend w0 37 5 80 (vget l0 23) 1 [g195 0, g195 1, g195 2, g195 3, g195 4] s208 (fun v209 s210 => pVal false 1 v209 (pBin Try.prog 3 BinOp.add (vget l0 3) (Value.int IntKind.i64 1) (fun v211 => K1 AX.normal [vget l0 0, vget l0 1, vget l0 2, v211, vget l0 4, vget l0 5, vget l0 6, vget l0 7, vget l0 8, vget l0 9, vget l0 10, vget l0 11, vget l0 12, vget l0 13, vget l0 14, vget l0 15, vget l0 16, vget l0 17, vget l0 18, vget l0 19, vget l0 20, vget l0 21, v207, v209] s210)))))))))))))))))))) (pIndexAddr 5 (vget l0 8) (vget l0 3) (fun v212 => pLoad w0 5 v212 s2 (fun g213 => pVal true 5 (Value.agg (⟨[g213 0, g213 1, g213 2, g213 3, g213 4]⟩)) (pIndexAddr 1 (vget l0 0) (Value.int IntKind.i64 0) (fun v214 => pLoad w0 1 v214 s2 (fun g215 => pBin Try.prog 9 BinOp.eql (g6 0) (g215 0) (fun v216 => pIf v216 (pSlice 1 (vget l0 0) (Option.some (Value.int IntKind.i64 1)) Option.none (fun v217 => AC Try.prog w0 n_spec_l2Set ([Value.agg (⟨[g213 0, g213 1, g213 2, g213 3, g213 4]⟩), v217, Value.agg (⟨[vget l0 9, vget l0 10, vget l0 11, vget l0 12, vget l0 13]⟩), vget l0 1]) s2 (fun v218 s219 => pVal true 5 v218 (pVal false 1 (g6 0) ((allOne [g6 0]) ∧ (pAppend w0 9 1 16 (vget l0 22) 1 [g6 0] s219 (fun v220 s221 => pVal false 1 v220 (pVal true 5 (Value.agg (⟨[cellOf v218 0, cellOf v218 1, cellOf v218 2, cellOf v218 3, cellOf v218 4]⟩)) ((allOne [cellOf v218 0, cellOf v218 1, cellOf v218 2, cellOf v218 3, cellOf v218 4]) ∧ (pAppend w0 37 5 80 (vget l0 23) 1 [cellOf v218 0, cellOf v218 1, cellOf v218 2, cellOf v218 3, cellOf v218 4] s221 (fun v222 s223 => pVal false 1 v222 (pBin Try.prog 3 BinOp.add (vget l0 3) (Value.int IntKind.i64 1) (fun v224 => K1 AX.normal [vget l0 0, vget l0 1, vget l0 2, v224, vget l0 4, vget l0 5, vget l0 6, vget l0 7, vget l0 8, vget l0 9, vget l0 10, vget l0 11, vget l0 12, vget l0 13, vget l0 14, vget l0 15, vget l0 16, vget l0 17, vget l0 18, vget l0 19, vget l0 20, vget l0 21, v220, v222] s223))))))))))))) (pVal false 1 (g6 0) ((allOne [g6 0]) ∧ (pAppend w0 9 1 16 (vget l0 22) 1 [g6 0] s2 (fun v225 s226 => pVal false 1 v225 (pVal true 5 (Value.agg (⟨[g213 0, g213 1, g213 2, g213 3, g213 4]⟩)) ((allOne [g213 0, g213 1, g213 2, g213 3, g213 4]) ∧ (pAppend w0 37 5 80 (vget l0 23) 1 [g213 0, g213 1, g213 2, g213 3, g213 4] s226 (fun v227 s228 => pVal false 1 v227 (pBin Try.prog 3 BinOp.add (vget l0 3) (Value.int IntKind.i64 1) (fun v229 => K1 AX.normal [vget l0 0, vget l0 1, vget l0 2, v229, vget l0 4, vget l0 5, vget l0 6, vget l0 7, vget l0 8, vget l0 9, vget l0 10, vget l0 11, vget l0 12, vget l0 13, vget l0 14, vget l0 15, vget l0 16, vget l0 17, vget l0 18, vget l0 19, vget l0 20, vget l0 21, v225, v227] s228)))))))))))))))))))))))))) (K1 (AX.exit 0) [vget l0 0, vget l0 1, vget l0 2, vget l0 3, vget l0 4, vget l0 5, vget l0 6, vget l0 7, vget l0 8, vget l0 9, vget l0 10, vget l0 11, vget l0 12, vget l0 13, vget l0 14, vget l0 15, vget l0 16, vget l0 17, vget l0 18, vget l0 19, vget l0 20, vget l0 21, vget l0 22, vget l0 23] s2)))) ([a1, a3, Value.bool false, Value.int IntKind.i64 0, cellOf a0 0, cellOf a0 1, cellOf a0 2, cellOf a0 3, cellOf a0 4, cellOf a2 0, cellOf a2 1, cellOf a2 2, cellOf a2 3, cellOf a2 4, Value.bool false, Value.int IntKind.i64 0, Value.string ({ data := #[] }), Value.slice Option.none 0 0, Value.slice Option.none 0 0, cellOf a0 0, cellOf a0 1, cellOf a0 2, Value.slice Option.none 0 0, Value.slice Option.none 0 0]) σ (fun x230 l231 s232 => match x230 with | .normal => pLen (vget l231 0) (fun v233 => pBin Try.prog 3 BinOp.eql v233 (Value.int IntKind.i64 1) (fun v234 => pIf v234 (pUn UnOp.not (vget l231 2) (fun v235 => pIf v235 (pUn UnOp.not (vget l231 1) (fun v236 => pIf v236 (pIndexAddr 1 (vget l231 0) (Value.int IntKind.i64 0) (fun v237 => pLoad w0 1 v237 s232 (fun g238 => pVal false 1 (g238 0) ((allOne [g238 0]) ∧ (pAppend w0 9 1 16 (vget l231 22) 1 [g238 0] s232 (fun v239 s240 => pVal false 1 v239 (pVal true 5 (Value.agg (⟨[vget l231 9, vget l231 10, vget l231 11, vget l231 12, vget l231 13]⟩)) ((allOne [vget l231 9, vget l231 10, vget l231 11, vget l231 12, vget l231 13]) ∧ (pAppend w0 37 5 80 (vget l231 23) 1 [vget l231 9, vget l231 10, vget l231 11, vget l231 12, vget l231 13] s240 (fun v241 s242 => pVal false 1 v241 (pVal true 5 (Value.agg (⟨[vget l231 19, vget l231 20, vget l231 21, v239, v241]⟩)) (R (Value.agg (⟨[vget l231 19, vget l231 20, vget l231 21, v239, v241]⟩)) s242)))))))))))) (pVal true 5 (Value.agg (⟨[vget l231 19, vget l231 20, vget l231 21, vget l231 22, vget l231 23]⟩)) (R (Value.agg (⟨[vget l231 19, vget l231 20, vget l231 21, vget l231 22, vget l231 23]⟩)) s232)))) (pVal true 5 (Value.agg (⟨[vget l231 19, vget l231 20, vget l231 21, vget l231 22, vget l231 23]⟩)) (R (Value.agg (⟨[vget l231 19, vget l231 20, vget l231 21, vget l231 22, vget l231 23]⟩)) s232)))) (pVal true 5 (Value.agg (⟨[vget l231 19, vget l231 20, vget l231 21, vget l231 22, vget l231 23]⟩)) (R (Value.agg (⟨[vget l231 19, vget l231 20, vget l231 21, vget l231 22, vget l231 23]⟩)) s232)))) | .ret => R (Value.agg (⟨[vget l231 14, vget l231 15, vget l231 16, vget l231 17, vget l231 18]⟩)) s232 | .exit i243 => (match Nat.beq i243 0 with | true => pLen (vget l231 0) (fun v244 => pBin Try.prog 3 BinOp.eql v244 (Value.int IntKind.i64 1) (fun v245 => pIf v245 (pUn UnOp.not (vget l231 2) (fun v246 => pIf v246 (pUn UnOp.not (vget l231 1) (fun v247 => pIf v247 (pIndexAddr 1 (vget l231 0) (Value.int IntKind.i64 0) (fun v248 => pLoad w0 1 v248 s232 (fun g249 => pVal false 1 (g249 0) ((allOne [g249 0]) ∧ (pAppend w0 9 1 16 (vget l231 22) 1 [g249 0] s232 (fun v250 s251 => pVal false 1 v250 (pVal true 5 (Value.agg (⟨[vget l231 9, vget l231 10, vget l231 11, vget l231 12, vget l231 13]⟩)) ((allOne [vget l231 9, vget l231 10, vget l231 11, vget l231 12, vget l231 13]) ∧ (pAppend w0 37 5 80 (vget l231 23) 1 [vget l231 9, vget l231 10, vget l231 11, vget l231 12, vget l231 13] s251 (fun v252 s253 => pVal false 1 v252 (pVal true 5 (Value.agg (⟨[vget l231 19, vget l231 20, vget l231 21, v250, v252]⟩)) (R (Value.agg (⟨[vget l231 19, vget l231 20, vget l231 21, v250, v252]⟩)) s253)))))))))))) (pVal true 5 (Value.agg (⟨[vget l231 19, vget l231 20, vget l231 21, vget l231 22, vget l231 23]⟩)) (R (Value.agg (⟨[vget l231 19, vget l231 20, vget l231 21, vget l231 22, vget l231 23]⟩)) s232)))) (pVal true 5 (Value.agg (⟨[vget l231 19, vget l231 20, vget l231 21, vget l231 22, vget l231 23]⟩)) (R (Value.agg (⟨[vget l231 19, vget l231 20, vget l231 21, vget l231 22, vget l231 23]⟩)) s232)))) (pVal true 5 (Value.agg (⟨[vget l231 19, vget l231 20, vget l231 21, vget l231 22, vget l231 23]⟩)) (R (Value.agg (⟨[vget l231 19, vget l231 20, vget l231 21, vget l231 22, vget l231 23]⟩)) s232)))) | false => False))))))))
theorem vc_spec_l2Set_eq (w0 : World) (a0 a1 a2 a3 : Value) (σ : Vw) (R : Value → Vw → Prop) : vc_spec_l2Set w0 a0 a1 a2 a3 σ R = den Try.prog w0 kp_spec_l2Set esc_spec_l2Set (Try.f186.body.getD .skip) (entry Try.f186.ntmps [a0, a1, a2, a3]) σ (retK Try.prog Try.f186.results.toList R) := by kernel_rfl
theorem ac_spec_l2Set {w0 : World} {a0 a1 a2 a3 : Value} {σ : Vw} {R : Value → Vw → Prop} (h : vc_spec_l2Set w0 a0 a1 a2 a3 σ R) : AC Try.prog w0 n_spec_l2Set [a0, a1, a2, a3] σ R := by
  refine ac_rule (fn := Try.f186) (c := Try.f186.body.getD .skip) kp_spec_l2Set esc_spec_l2Set Try.func186 (by kernel_rfl) (by kernel_rfl) ?_
  rw [← vc_spec_l2Set_eq]
  exact h

/-- spec.l2File -/
def kp_spec_l2File : Nat → Keep
  | 14 => ⟨[], [], [], .step 0 (.step 1 (.step 2 (.step 3 (.step 5 (.step 4 (.step 6 (.step 7 (.step 8 (.step 9 (.step 10 (.done))))))))))), [(2, [1]), (4, [0, 1, 2, 3]), (6, [0, 1, 2, 3, 4, 5]), (7, [0, 1, 2, 3, 4, 5, 6]), (8, [0, 1, 2, 3, 4, 5, 6]), (9, [0, 1, 2, 3, 4, 5, 6, 7, 8]), (10, [0, 1, 2, 3, 4, 5, 6, 7, 8, 9])]⟩
  | _ => ⟨[], [], [], .done, []⟩
def esc_spec_l2File : Nat → Bool
  | _ => false
def vc_spec_l2File (w0 : World) (a0 a1 : Value) (σ : Vw) (R : Value → Vw → Prop) : Prop :=
  pVal true 5 a0 (pVal true 5 a1 (AC Try.prog w0 n_spec_l1At ([Value.agg (⟨[cellOf a0 0, cellOf a0 1, cellOf a0 2, cellOf a0 3, cellOf a0 4]⟩), cellOf a1 1]) σ (fun v0 s1 => pExtract v0 0 (fun v2 => pExtract v0 1 (fun v3 => pVal true 5 v2 (pIf v3 (pIf (cellOf v2 0) (pVal true 5 (Value.agg (⟨[cellOf a0 0, cellOf a0 1, cellOf a0 2, cellOf a0 3, cellOf a0 4]⟩)) (R (Value.tuple (⟨[Value.agg (⟨[cellOf a0 0, cellOf a0 1, cellOf a0 2, cellOf a0 3, cellOf a0 4]⟩), Value.int IntKind.i64 4]⟩)) s1)) (pUn UnOp.not v3 (fun v4 => pIf v4 (pBin Try.prog 3 BinOp.eql (cellOf a1 0) (Value.int IntKind.i64 3) (fun v5 => pIf v5 (pVal true 5 (Value.agg (⟨[cellOf a0 0, cellOf a0 1, cellOf a0 2, cellOf a0 3, cellOf a0 4]⟩)) (R (Value.tuple (⟨[Value.agg (⟨[cellOf a0 0, cellOf a0 1, cellOf a0 2, cellOf a0 3, cellOf a0 4]⟩), Value.int IntKind.i64 3]⟩)) s1)) (pBin Try.prog 3 BinOp.eql (cellOf a1 0) (Value.int IntKind.i64 3) (fun v6 => pIf v6 (pLenS (cellOf v2 2) (fun v7 => pBin Try.prog 3 BinOp.gtr v7 (cellOf a1 3) (fun v8 => pIf v8 (pSliceStr (cellOf v2 2) Option.none (Option.some (cellOf a1 3)) (fun v9 => AC Try.prog w0 n_spec_l2Write ([v9, cellOf a1 3, Value.string ({ data := #[] })]) s1 (fun v10 s11 => pVal false 1 v10 (AC Try.prog w0 n_spec_l2Set ([Value.agg (⟨[cellOf a0 0, cellOf a0 1, cellOf a0 2, cellOf a0 3, cellOf a0 4]⟩), cellOf a1 1, Value.agg (⟨[cellOf v2 0, cellOf v2 1, v10, cellOf v2 3, cellOf v2 4]⟩), Value.bool false]) s11 (fun v12 s13 => AC Try.prog w0 n_spec_l2Fits ([v12, Value.agg (⟨[cellOf a0 0, cellOf a0 1, cellOf a0 2, cellOf a0 3, cellOf a0 4]⟩)]) s13 (fun v14 s15 => pExtract v14 0 (fun v16 => pExtract v14 1 (fun v17 => pVal true 5 v16 (R (Value.tuple (⟨[Value.agg (⟨[cellOf v16 0, cellOf v16 1, cellOf v16 2, cellOf v16 3, cellOf v16 4]⟩), v17]⟩)) s15))))))))) (AC Try.prog w0 n_spec_l2Write ([cellOf v2 2, cellOf a1 3, Value.string ({ data := #[] })]) s1 (fun v18 s19 => pVal false 1 v18 (AC Try.prog w0 n_spec_l2Set ([Value.agg (⟨[cellOf a0 0, cellOf a0 1, cellOf a0 2, cellOf a0 3, cellOf a0 4]⟩), cellOf a1 1, Value.agg (⟨[cellOf v2 0, cellOf v2 1, v18, cellOf v2 3, cellOf v2 4]⟩), Value.bool false]) s19 (fun v20 s21 => AC Try.prog w0 n_spec_l2Fits ([v20, Value.agg (⟨[cellOf a0 0, cellOf a0 1, cellOf a0 2, cellOf a0 3, cellOf a0 4]⟩)]) s21 (fun v22 s23 => pExtract v22 0 (fun v24 => pExtract v22 1 (fun v25 => pVal true 5 v24 (R (Value.tuple (⟨[Value.agg (⟨[cellOf v24 0, cellOf v24 1, cellOf v24 2, cellOf v24 3, cellOf v24 4]⟩), v25]⟩)) s23))))))))))) (pLenS (cellOf a1 4) (fun v26 => pBin Try.prog 3 BinOp.add v26 (cellOf a1 3) (fun v27 => pBin Try.prog 3 BinOp.gtr v27 (Value.int IntKind.i64 24) (fun v28 => pIf v28 (pVal true 5 (Value.agg (⟨[cellOf a0 0, cellOf a0 1, cellOf a0 2, cellOf a0 3, cellOf a0 4]⟩)) (R (Value.tuple (⟨[Value.agg (⟨[cellOf a0 0, cellOf a0 1, cellOf a0 2, cellOf a0 3, cellOf a0 4]⟩), Value.int IntKind.i64 6]⟩)) s1)) (AC Try.prog w0 n_spec_l2Write [cellOf v2 2, cellOf a1 3, cellOf a1 4] s1 (fun v29 s30 => pVal false 1 v29 (AC Try.prog w0 n_spec_l2Set ([Value.agg (⟨[cellOf a0 0, cellOf a0 1, cellOf a0 2, cellOf a0 3, cellOf a0 4]⟩), cellOf a1 1, Value.agg (⟨[cellOf v2 0, cellOf v2 1, v29, cellOf v2 3, cellOf v2 4]⟩), Value.bool false]) s30 (fun v31 s32 => AC Try.prog w0 n_spec_l2Fits ([v31, Value.agg (⟨[cellOf a0 0, cellOf a0 1, cellOf a0 2, cellOf a0 3, cellOf a0 4]⟩)]) s32 (fun v33 s34 => pExtract v33 0 (fun v35 => pExtract v33 1 (fun v36 => pVal true 5 v35 (R (Value.tuple (⟨[Value.agg (⟨[cellOf v35 0, cellOf v35 1, cellOf v35 2, cellOf v35 3, cellOf v35 4]⟩), v36]⟩)) s34)))))))))))))))) (pBin Try.prog 3 BinOp.eql (cellOf a1 0) (Value.int IntKind.i64 3) (fun v37 => pIf v37 (pLenS (cellOf v2 2) (fun v38 => pBin Try.prog 3 BinOp.gtr v38 (cellOf a1 3) (fun v39 => pIf v39 (pSliceStr (cellOf v2 2) Option.none (Option.some (cellOf a1 3)) (fun v40 => AC Try.prog w0 n_spec_l2Write ([v40, cellOf a1 3, Value.string ({ data := #[] })]) s1 (fun v41 s42 => pVal false 1 v41 (AC Try.prog w0 n_spec_l2Set ([Value.agg (⟨[cellOf a0 0, cellOf a0 1, cellOf a0 2, cellOf a0 3, cellOf a0 4]⟩), cellOf a1 1, Value.agg (⟨[cellOf v2 0, cellOf v2 1, v41, cellOf v2 3, cellOf v2 4]⟩), Value.bool false]) s42 (fun v43 s44 => AC Try.prog w0 n_spec_l2Fits ([v43, Value.agg (⟨[cellOf a0 0, cellOf a0 1, cellOf a0 2, cellOf a0 3, cellOf a0 4]⟩)]) s44 (fun v45 s46 => pExtract v45 0 (fun v47 => pExtract v45 1 (fun v48 => pVal true 5 v47 (R (Value.tuple (⟨[Value.agg (⟨[cellOf v47 0, cellOf v47 1, cellOf v47 2, cellOf v47 3, cellOf v47 4]⟩), v48]⟩)) s46))))))))) (AC Try.prog w0 n_spec_l2Write ([cellOf v2 2, cellOf a1 3, Value.string ({ data := #[] })]) s1 (fun v49 s50 => pVal false 1 v49 (AC Try.prog w0 n_spec_l2Set ([Value.agg (⟨[cellOf a0 0, cellOf a0 1, cellOf a0 2, cellOf a0 3, cellOf a0 4]⟩), cellOf a1 1, Value.agg (⟨[cellOf v2 0, cellOf v2 1, v49, cellOf v2 3, cellOf v2 4]⟩), Value.bool false]) s50 (fun v51 s52 => AC Try.prog w0 n_spec_l2Fits ([v51, Value.agg (⟨[cellOf a0 0, cellOf a0 1, cellOf a0 2, cellOf a0 3, cellOf a0 4]⟩)]) s52 (fun v53 s54 => pExtract v53 0 (fun v55 => pExtract v53 1 (fun v56 => pVal true 5 v55 (R (Value.tuple (⟨[Value.agg (⟨[cellOf v55 0, cellOf v55 1, cellOf v55 2, cellOf v55 3, cellOf v55 4]⟩), v56]⟩)) s54))))))))))) (pLenS (cellOf a1 4) (fun v57 => pBin Try.prog 3 BinOp.add v57 (cellOf a1 3) (fun v58 => pBin Try.prog 3 BinOp.gtr v58 (Value.int IntKind.i64 24) (fun v59 => pIf v59 (pVal true 5 (Value.agg (⟨[cellOf a0 0, cellOf a0 1, cellOf a0 2, cellOf a0 3, cellOf a0 4]⟩)) (R (Value.tuple (⟨[Value.agg (⟨[cellOf a0 0, cellOf a0 1, cellOf a0 2, cellOf a0 3, cellOf a0 4]⟩), Value.int IntKind.i64 6]⟩)) s1)) (AC Try.prog w0 n_spec_l2Write [cellOf v2 2, cellOf a1 3, cellOf a1 4] s1 (fun v60 s61 => pVal false 1 v60 (AC Try.prog w0 n_spec_l2Set ([Value.agg (⟨[cellOf a0 0, cellOf a0 1, cellOf a0 2, cellOf a0 3, cellOf a0 4]⟩), cellOf a1 1, Value.agg (⟨[cellOf v2 0, cellOf v2 1, v60, cellOf v2 3, cellOf v2 4]⟩), Value.bool false]) s61 (fun v62 s63 => AC Try.prog w0 n_spec_l2Fits ([v62, Value.agg (⟨[cellOf a0 0, cellOf a0 1, cellOf a0 2, cellOf a0 3, cellOf a0 4]⟩)]) s63 (fun v64 s65 => pExtract v64 0 (fun v66 => pExtract v64 1 (fun v67 => pVal true 5 v66 (R (Value.tuple (⟨[Value.agg (⟨[cellOf v66 0, cellOf v66 1, cellOf v66 2, cellOf v66 3, cellOf v66 4]⟩), v67]⟩)) s65))))))))))))))))) (pUn UnOp.not v3 (fun v68 => pIf v68 (pBin Try.prog 3 BinOp.eql (cellOf a1 0) (Value.int IntKind.i64 3) (fun v69 => pIf v69 (pVal true 5 (Value.agg (⟨[cellOf a0 0, cellOf a0 1, cellOf a0 2, cellOf a0 3, cellOf a0 4]⟩)) (R (Value.tuple (⟨[Value.agg (⟨[cellOf a0 0, cellOf a0 1, cellOf a0 2, cellOf a0 3, cellOf a0 4]⟩), Value.int IntKind.i64 3]⟩)) s1)) (pBin Try.prog 3 BinOp.eql (cellOf a1 0) (Value.int IntKind.i64 3) (fun v70 => pIf v70 (pLenS (cellOf v2 2) (fun v71 => pBin Try.prog 3 BinOp.gtr v71 (cellOf a1 3) (fun v72 => pIf v72 (pSliceStr (cellOf v2 2) Option.none (Option.some (cellOf a1 3)) (fun v73 => AC Try.prog w0 n_spec_l2Write ([v73, cellOf a1 3, Value.string ({ data := #[] })]) s1 (fun v74 s75 => pVal false 1 v74 (AC Try.prog w0 n_spec_l2Set ([Value.agg (⟨[cellOf a0 0, cellOf a0 1, cellOf a0 2, cellOf a0 3, cellOf a0 4]⟩), cellOf a1 1, Value.agg (⟨[cellOf v2 0, cellOf v2 1, v74, cellOf v2 3, cellOf v2 4]⟩), Value.bool false]) s75 (fun v76 s77 => AC Try.prog w0 n_spec_l2Fits ([v76, Value.agg (⟨[cellOf a0 0, cellOf a0 1, cellOf a0 2, cellOf a0 3, cellOf a0 4]⟩)]) s77 (fun v78 s79 => pExtract v78 0 (fun v80 => pExtract v78 1 (fun v81 => pVal true 5 v80 (R (Value.tuple (⟨[Value.agg (⟨[cellOf v80 0, cellOf v80 1, cellOf v80 2, cellOf v80 3, cellOf v80 4]⟩), v81]⟩)) s79))))))))) (AC Try.prog w0 n_spec_l2Write ([cellOf v2 2, cellOf a1 3, Value.string ({ data := #[] })]) s1 (fun v82 s83 => pVal false 1 v82 (AC Try.prog w0 n_spec_l2Set ([Value.agg (⟨[cellOf a0 0, cellOf a0 1, cellOf a0 2, cellOf a0 3, cellOf a0 4]⟩), cellOf a1 1, Value.agg (⟨[cellOf v2 0, cellOf v2 1, v82, cellOf v2 3, cellOf v2 4]⟩), Value.bool false]) s83 (fun v84 s85 => AC Try.prog w0 n_spec_l2Fits ([v84, Value.agg (⟨[cellOf a0 0, cellOf a0 1, cellOf a0 2, cellOf a0 3, cellOf a0 4]⟩)]) s85 (fun v86 s87 => pExtract v86 0 (fun v88 => pExtract v86 1 (fun v89 => pVal true 5 v88 (R (Value.tuple (⟨[Value.agg (⟨[cellOf v88 0, cellOf v88 1, cellOf v88 2, cellOf v88 3, cellOf v88 4]⟩), v89]⟩)) s87))))))))))) (pLenS (cellOf a1 4) (fun v90 => pBin Try.prog 3 BinOp.add v90 (cellOf a1 3) (fun v91 => pBin Try.prog 3 BinOp.gtr v91 (Value.int IntKind.i64 24) (fun v92 => pIf v92 (pVal true 5 (Value.agg (⟨[cellOf a0 0, cellOf a0 1, cellOf a0 2, cellOf a0 3, cellOf a0 4]⟩)) (R (Value.tuple (⟨[Value.agg (⟨[cellOf a0 0, cellOf a0 1, cellOf a0 2, cellOf a0 3, cellOf a0 4]⟩), Value.int IntKind.i64 6]⟩)) s1)) (AC Try.prog w0 n_spec_l2Write [cellOf v2 2, cellOf a1 3, cellOf a1 4] s1 (fun v93 s94 => pVal false 1 v93 (AC Try.prog w0 n_spec_l2Set ([Value.agg (⟨[cellOf a0 0, cellOf a0 1, cellOf a0 2, cellOf a0 3, cellOf a0 4]⟩), cellOf a1 1, Value.agg (⟨[cellOf v2 0, cellOf v2 1, v93, cellOf v2 3, cellOf v2 4]⟩), Value.bool false]) s94 (fun v95 s96 => AC Try.prog w0 n_spec_l2Fits ([v95, Value.agg (⟨[cellOf a0 0, cellOf a0 1, cellOf a0 2, cellOf a0 3, cellOf a0 4]⟩)]) s96 (fun v97 s98 => pExtract v97 0 (fun v99 => pExtract v97 1 (fun v100 => pVal true 5 v99 (R (Value.tuple (⟨[Value.agg (⟨[cellOf v99 0, cellOf v99 1, cellOf v99 2, cellOf v99 3, cellOf v99 4]⟩), v100]⟩)) s98)))))))))))))))) (pBin Try.prog 3 BinOp.eql (cellOf a1 0) (Value.int IntKind.i64 3) (fun v101 => pIf v101 (pLenS (cellOf v2 2) (fun v102 => pBin Try.prog 3 BinOp.gtr v102 (cellOf a1 3) (fun v103 => pIf v103 (pSliceStr (cellOf v2 2) Option.none (Option.some (cellOf a1 3)) (fun v104 => AC Try.prog w0 n_spec_l2Write ([v104, cellOf a1 3, Value.string ({ data := #[] })]) s1 (fun v105 s106 => pVal false 1 v105 (AC Try.prog w0 n_spec_l2Set ([Value.agg (⟨[cellOf a0 0, cellOf a0 1, cellOf a0 2, cellOf a0 3, cellOf a0 4]⟩), cellOf a1 1, Value.agg (⟨[cellOf v2 0, cellOf v2 1, v105, cellOf v2 3, cellOf v2 4]⟩), Value.bool false]) s106 (fun v107 s108 => AC Try.prog w0 n_spec_l2Fits ([v107, Value.agg (⟨[cellOf a0 0, cellOf a0 1, cellOf a0 2, cellOf a0 3, cellOf a0 4]⟩)]) s108 (fun v109 s110 => pExtract v109 0 (fun v111 => pExtract v109 1 (fun v112 => pVal true 5 v111 (R (Value.tuple (⟨[Value.agg (⟨[cellOf v111 0, cellOf v111 1, cellOf v111 2, cellOf v111 3, cellOf v111 4]⟩), v112]⟩)) s110))))))))) (AC Try.prog w0 n_spec_l2Write ([cellOf v2 2, cellOf a1 3, Value.string ({ data := #[] })]) s1 (fun v113 s114 => pVal false 1 v113 (AC Try.prog w0 n_spec_l2Set ([Value.agg (⟨[cellOf a0 0, cellOf a0 1, cellOf a0 2, cellOf a0 3, cellOf a0 4]⟩), cellOf a1 1, Value.agg (⟨[cellOf v2 0, cellOf v2 1, v113, cellOf v2 3, cellOf v2 4]⟩), Value.bool false]) s114 (fun v115 s116 => AC Try.prog w0 n_spec_l2Fits ([v115, Value.agg (⟨[cellOf a0 0, cellOf a0 1, cellOf a0 2, cellOf a0 3, cellOf a0 4]⟩)]) s116 (fun v117 s118 => pExtract v117 0 (fun v119 => pExtract v117 1 (fun v120 => pVal true 5 v119 (R (Value.tuple (⟨[Value.agg (⟨[cellOf v119 0, cellOf v119 1, cellOf v119 2, cellOf v119 3, cellOf v119 4]⟩), v120]⟩)) s118))))))))))) (pLenS (cellOf a1 4) (fun v121 => pBin Try.prog 3 BinOp.add v121 (cellOf a1 3) (fun v122 => pBin Try.prog 3 BinOp.gtr v122 (Value.int IntKind.i64 24) (fun v123 => pIf v123 (pVal true 5 (Value.agg (⟨[cellOf a0 0, cellOf a0 1, cellOf a0 2, cellOf a0 3, cellOf a0 4]⟩)) (R (Value.tuple (⟨[Value.agg (⟨[cellOf a0 0, cellOf a0 1, cellOf a0 2, cellOf a0 3, cellOf a0 4]⟩), Value.int IntKind.i64 6]⟩)) s1)) (AC Try.prog w0 n_spec_l2Write [cellOf v2 2, cellOf a1 3, cellOf a1 4] s1 (fun v124 s125 => pVal false 1 v124 (AC Try.prog w0 n_spec_l2Set ([Value.agg (⟨[cellOf a0 0, cellOf a0 1, cellOf a0 2, cellOf a0 3, cellOf a0 4]⟩), cellOf a1 1, Value.agg (⟨[cellOf v2 0, cellOf v2 1, v124, cellOf v2 3, cellOf v2 4]⟩), Value.bool false]) s125 (fun v126 s127 => AC Try.prog w0 n_spec_l2Fits ([v126, Value.agg (⟨[cellOf a0 0, cellOf a0 1, cellOf a0 2, cellOf a0 3, cellOf a0 4]⟩)]) s127 (fun v128 s129 => pExtract v128 0 (fun v130 => pExtract v128 1 (fun v131 => pVal true 5 v130 (R (Value.tuple (⟨[Value.agg (⟨[cellOf v130 0, cellOf v130 1, cellOf v130 2, cellOf v130 3, cellOf v130 4]⟩), v131]⟩)) s129))))))))))))))))))))))
theorem vc_spec_l2File_eq (w0 : World) (a0 a1 : Value) (σ : Vw) (R : Value → Vw → Prop) : vc_spec_l2File w0 a0 a1 σ R = den Try.prog w0 kp_spec_l2File esc_spec_l2File (Try.f187.body.getD .skip) (entry Try.f187.ntmps [a0, a1]) σ (retK Try.prog Try.f187.results.toList R) := by kernel_rfl
theorem ac_spec_l2File {w0 : World} {a0 a1 : Value} {σ : Vw} {R : Value → Vw → Prop} (h : vc_spec_l2File w0 a0 a1 σ R) : AC Try.prog w0 n_spec_l2File [a0, a1] σ R := by
  refine ac_rule (fn := Try.f187) (c := Try.f187.body.getD .skip) kp_spec_l2File esc_spec_l2File Try.func187 (by kernel_rfl) (by kernel_rfl) ?_
  rw [← vc_spec_l2File_eq]
  exact h

/-- spec.l2Rename -/
def kp_spec_l2Rename : Nat → Keep
  | 12 => ⟨[], [], [], .step 0 (.step 1 (.step 2 (.step 3 (.step 5 (.step 6 (.step 7 (.step 9 (.step 4 (.step 8 (.step 10 (.step 11 (.step 12 (.step 13 (.step 14 (.done))))))))))))))), [(2, [1]), (4, [0, 1, 2, 3]), (6, [5]), (8, [0, 1, 2, 3, 4, 5, 6, 7]), (10, [0, 1, 2, 3, 4, 5, 6, 7, 8, 9]), (11, [0, 1, 2, 3, 4, 5, 6, 7, 8, 9, 10]), (12, [0, 1, 2, 3, 4, 5, 6, 7, 8, 9, 10]), (13, [0, 1, 2, 3, 4, 5, 6, 7, 8, 9, 10, 11, 12]), (14, [0, 1, 2, 3, 4, 5, 6, 7, 8, 9, 10, 11, 12, 13])]⟩
  | _ => ⟨[], [], [], .done, []⟩
def esc_spec_l2Rename : Nat → Bool
  | _ => false
def vc_spec_l2Rename (w0 : World) (a0 a1 : Value) (σ : Vw) (R : Value → Vw → Prop) : Prop :=
  pVal true 5 a0 (pVal true 5 a1 (AC Try.prog w0 n_spec_l1At ([Value.agg (⟨[cellOf a0 0, cellOf a0 1, cellOf a0 2, cellOf a0 3, cellOf a0 4]⟩), cellOf a1 1]) σ (fun v0 s1 => pExtract v0 0 (fun v2 => pExtract v0 1 (fun v3 => pVal true 5 v2 (pUn UnOp.not v3 (fun v4 => pIf v4 (pVal true 5 (Value.agg (⟨[cellOf a0 0, cellOf a0 1, cellOf a0 2, cellOf a0 3, cellOf a0 4]⟩)) (R (Value.tuple (⟨[Value.agg (⟨[cellOf a0 0, cellOf a0 1, cellOf a0 2, cellOf a0 3, cellOf a0 4]⟩), Value.int IntKind.i64 3]⟩)) s1)) (AC Try.prog w0 n_spec_l2Within [cellOf a1 2, cellOf a1 1] s1 (fun v5 s6 => pIf v5 (pVal true 5 (Value.agg (⟨[cellOf a0 0, cellOf a0 1, cellOf a0 2, cellOf a0 3, cellOf a0 4]⟩)) (R (Value.tuple (⟨[Value.agg (⟨[cellOf a0 0, cellOf a0 1, cellOf a0 2, cellOf a0 3, cellOf a0 4]⟩), Value.int IntKind.i64 7]⟩)) s6)) (AC Try.prog w0 n_spec_l2Parent ([Value.agg (⟨[cellOf a0 0, cellOf a0 1, cellOf a0 2, cellOf a0 3, cellOf a0 4]⟩), cellOf a1 2]) s6 (fun v7 s8 => pBin Try.prog 3 BinOp.neq v7 (Value.int IntKind.i64 0) (fun v9 => pIf v9 (pVal true 5 (Value.agg (⟨[cellOf a0 0, cellOf a0 1, cellOf a0 2, cellOf a0 3, cellOf a0 4]⟩)) (R (Value.tuple (⟨[Value.agg (⟨[cellOf a0 0, cellOf a0 1, cellOf a0 2, cellOf a0 3, cellOf a0 4]⟩), v7]⟩)) s8)) (AC Try.prog w0 n_spec_l1At ([Value.agg (⟨[cellOf a0 0, cellOf a0 1, cellOf a0 2, cellOf a0 3, cellOf a0 4]⟩), cellOf a1 2]) s8 (fun v10 s11 => pExtract v10 0 (fun v12 => pExtract v10 1 (fun v13 => pVal true 5 v12 (pIf v13 (pVal true 5 (Value.agg (⟨[cellOf a0 0, cellOf a0 1, cellOf a0 2, cellOf a0 3, cellOf a0 4]⟩)) (R (Value.tuple (⟨[Value.agg (⟨[cellOf a0 0, cellOf a0 1, cellOf a0 2, cellOf a0 3, cellOf a0 4]⟩), Value.int IntKind.i64 5]⟩)) s11)) (AC Try.prog w0 n_spec_l2Set ([Value.agg (⟨[cellOf a0 0, cellOf a0 1, cellOf a0 2, cellOf a0 3, cellOf a0 4]⟩), cellOf a1 1, Value.agg (⟨[Value.bool false, Value.int IntKind.i64 0, Value.string ({ data := #[] }), Value.slice Option.none 0 0, Value.slice Option.none 0 0]⟩), Value.bool true]) s11 (fun v14 s15 => AC Try.prog w0 n_spec_l2Set ([v14, cellOf a1 2, Value.agg (⟨[cellOf v2 0, cellOf v2 1, cellOf v2 2, cellOf v2 3, cellOf v2 4]⟩), Value.bool false]) s15 (fun v16 s17 => AC Try.prog w0 n_spec_l2Fits ([v16, Value.agg (⟨[cellOf a0 0, cellOf a0 1, cellOf a0 2, cellOf a0 3, cellOf a0 4]⟩)]) s17 (fun v18 s19 => pExtract v18 0 (fun v20 => pExtract v18 1 (fun v21 => pVal true 5 v20 (R (Value.tuple (⟨[Value.agg (⟨[cellOf v20 0, cellOf v20 1, cellOf v20 2, cellOf v20 3, cellOf v20 4]⟩), v21]⟩)) s19))))))))))))))))))))))))
theorem vc_spec_l2Rename_eq (w0 : World) (a0 a1 : Value) (σ : Vw) (R : Value → Vw → Prop) : vc_spec_l2Rename w0 a0 a1 σ R = den Try.prog w0 kp_spec_l2Rename esc_spec_l2Rename (Try.f188.body.getD .skip) (entry Try.f188.ntmps [a0, a1]) σ (retK Try.prog Try.f188.results.toList R) := by kernel_rfl
theorem ac_spec_l2Rename {w0 : World} {a0 a1 : Value} {σ : Vw} {R : Value → Vw → Prop} (h : vc_spec_l2Rename w0 a0 a1 σ R) : AC Try.prog w0 n_spec_l2Rename [a0, a1] σ R := by
  refine ac_rule (fn := Try.f188) (c := Try.f188.body.getD .skip) kp_spec_l2Rename esc_spec_l2Rename Try.func188 (by kernel_rfl) (by kernel_rfl) ?_
  rw [← vc_spec_l2Rename_eq]
  exact h

/-- slices.order2CmpFunc[impl.Mark] -/
def kp_slices_order2CmpFunc_impl_Mark : Nat → Keep
  | 1 => ⟨[], [], [], .step 0 (.step 1 (.step 2 (.step 3 (.step 4 (.step 5 (.step 6 (.step 7 (.step 8 (.step 9 (.step 10 (.done))))))))))), [(3, [1, 2]), (4, [1, 2, 3]), (7, [5, 6]), (8, [5, 6, 7]), (9, [0, 1, 2, 3, 4, 5, 6, 7, 8]), (10, [0, 1, 2, 3, 4, 5, 6, 7, 8, 9])]⟩
  | _ => ⟨[], [], [], .done, []⟩
def esc_slices_order2CmpFunc_impl_Mark : Nat → Bool
  | _ => false
def vc_slices_order2CmpFunc_impl_Mark (w0 : World) (a0 a1 a2 a3 a4 : Value) (σ : Vw) (R : Value → Vw → Prop) : Prop :=
  pIndexAddr 2 a0 a2 (fun v0 => pLoad w0 2 v0 σ (fun g1 => pIndexAddr 2 a0 a1 (fun v2 => pLoad w0 2 v2 σ (fun g3 => pCallV (fun n4 l5 s6 K7 => AC Try.prog w0 n4 l5 s6 K7) a4 ([Value.agg (⟨[g1 0, g1 1]⟩), Value.agg (⟨[g3 0, g3 1]⟩)]) σ (fun v8 s9 => pBin Try.prog 3 BinOp.lss v8 (Value.int IntKind.i64 0) (fun v10 => pIf v10 (pNil a3 (pLoad w0 1 a3 s9 (fun g11 => pBin Try.prog 3 BinOp.add (g11 0) (Value.int IntKind.i64 1) (fun v12 => pNil a3 (pVal false 1 v12 (pStore a3 [v12] s9 (fun s13 => R (Value.tuple (⟨[a2, a1]⟩)) s13))))))) (R (Value.tuple (⟨[a1, a2]⟩)) s9)))))))
theorem vc_slices_order2CmpFunc_impl_Mark_eq (w0 : World) (a0 a1 a2 a3 a4 : Value) (σ : Vw) (R : Value → Vw → Prop) : vc_slices_order2CmpFunc_impl_Mark w0 a0 a1 a2 a3 a4 σ R = den Try.prog w0 kp_slices_order2CmpFunc_impl_Mark esc_slices_order2CmpFunc_impl_Mark (Try.f189.body.getD .skip) (entry Try.f189.ntmps [a0, a1, a2, a3, a4]) σ (retK Try.prog Try.f189.results.toList R) := by kernel_rfl
theorem ac_slices_order2CmpFunc_impl_Mark {w0 : World} {a0 a1 a2 a3 a4 : Value} {σ : Vw} {R : Value → Vw → Prop} (h : vc_slices_order2CmpFunc_impl_Mark w0 a0 a1 a2 a3 a4 σ R) : AC Try.prog w0 n_slices_order2CmpFunc_impl_Mark [a0, a1, a2, a3, a4] σ R := by
  refine ac_rule (fn := Try.f189) (c := Try.f189.body.getD .skip) kp_slices_order2CmpFunc_impl_Mark esc_slices_order2CmpFunc_impl_Mark Try.func189 (by kernel_rfl) (by kernel_rfl) ?_
  rw [← vc_slices_order2CmpFunc_impl_Mark_eq]
  exact h

end Go.Proofs.Ytkblkdnnncklgaa

/- What each function owes, reckoned out, part 5. MADE BY PROGRAM (emit.py). -/
set_option linter.unusedVariables false
namespace Go.Proofs.Ytkblkdnnncklgaa
open Go Go.Av

/-- slices.siftDownOrdered[string] -/
def kp_slices_siftDownOrdered_string : Nat → Keep
  | 1 => ⟨[0, 2, 3, 8], [], [], .done, []⟩
  | 3 => ⟨[], [], [], .step 0 (.step 1 (.step 2 (.step 3 (.step 4 (.step 5 (.step 6 (.step 7 (.step 8 (.step 9 (.step 10 (.step 11 (.step 12 (.step 13 (.step 14 (.step 15 (.step 16 (.step 17 (.step 18 (.step 19 (.done)))))))))))))))))))), [(1, [0]), (3, [0, 1, 2]), (4, [0, 1, 2, 3]), (5, [0, 1, 2, 3, 4]), (6, [0, 1, 2, 3, 4]), (7, [0, 1, 2, 3, 4]), (8, [0, 1, 2, 3, 4, 6, 7]), (9, [0, 1, 2, 3, 4, 5, 6, 7, 8]), (10, [0, 1, 2, 3, 4, 5, 6, 7, 8, 9]), (11, [0, 1, 2, 3, 4]), (12, [0, 1, 2, 3, 4]), (13, [0, 1, 2, 3, 4]), (14, [0, 1, 2, 3, 4, 12, 13]), (15, [0, 1, 2, 3, 4, 12, 13, 14]), (16, [0, 1, 2, 3, 4, 11, 12, 13, 14, 15]), (17, [0, 1, 2, 3, 4, 11, 12, 13, 14, 15, 16]), (18, [0, 1, 2, 3, 4, 5, 6, 7, 8, 9, 10, 11, 12, 13, 14, 15, 16, 17]), (19, [0, 1, 2, 3, 4, 5, 6, 7, 8, 9, 10, 11, 12, 13, 14, 15, 16, 17, 18])]⟩
  | 5 => ⟨[], [], [], .step 0 (.step 1 (.step 2 (.step 3 (.step 4 (.step 5 (.step 6 (.step 7 (.step 8 (.step 9 (.step 10 (.step 11 (.step 12 (.step 13 (.done)))))))))))))), [(3, [1, 2]), (4, [0, 1, 2, 3]), (5, [0, 1, 2, 3, 4]), (9, [7, 8]), (10, [6, 7, 8, 9]), (11, [6, 7, 8, 9, 10]), (12, [0, 1, 2, 3, 4, 5, 6, 7, 8, 9, 10, 11]), (13, [0, 1, 2, 3, 4, 5, 6, 7, 8, 9, 10, 11, 12])]⟩
  | 6 => ⟨[], [], [], .step 0 (.step 1 (.step 2 (.step 3 (.step 4 (.step 5 (.step 6 (.step 7 (.step 8 (.step 9 (.step 10 (.step 11 (.step 12 (.step 13 (.step 14 (.step 15 (.step 16 (.step 17 (.step 18 (.step 19 (.step 20 (.step 21 (.step 22 (.step 23 (.done)))))))))))))))))))))))), [(3, [1, 2]), (7, [5, 6]), (11, [9, 10]), (12, [8, 9, 10, 11]), (13, [8, 9, 10, 11, 12]), (17, [15, 16]), (18, [14, 15, 16, 17]), (19, [14, 15, 16, 17, 18]), (20, [0, 1, 2, 3, 8, 9, 10, 11, 12, 13, 14, 15, 16, 17, 18, 19]), (21, [0, 1, 2, 3, 8, 9, 10, 11, 12, 13, 14, 15, 16, 17, 18, 19, 20]), (22, [0, 1, 2, 3, 4, 5, 6, 7, 8, 9, 10, 11, 12, 13, 14, 15, 16, 17, 18, 19, 20, 21]), (23, [0, 1, 2, 3, 4, 5, 6, 7, 8, 9, 10, 11, 12, 13, 14, 15, 16, 17, 18, 19, 20, 21, 22])]⟩
  | _ => ⟨[], [], [], .done, []⟩
def esc_slices_siftDownOrdered_string : Nat → Bool
  | _ => false
def vc_slices_siftDownOrdered_string (w0 : World) (a0 a1 a2 a3 : Value) (σ : Vw) (R : Value → Vw → Prop) : Prop :=
  pLoop (fun l0 K1 s2 => pBin Try.prog 3 BinOp.mul (Value.int IntKind.i64 2) (vget l0 3) (fun v3 => pBin Try.prog 3 BinOp.add v3 (Value.int IntKind.i64 1) (fun v4 => pBin Try.prog 3 BinOp.geq v4 (vget l0 1) (fun v5 => pIf v5 (K1 (AX.exit 0) [vget l0 0, vget l0 1, vget l0 2, vget l0 3] s2) (pBin Try.prog 3 BinOp.add v4 (Value.int IntKind.i64 1) (fun v6 => pBin Try.prog 3 BinOp.lss v6 (vget l0 1) (fun v7 => pIf v7 (pBin Try.prog 3 BinOp.add (vget l0 2) v4 (fun v8 => pIndexAddr 1 (vget l0 0) v8 (fun v9 => pLoad w0 1 v9 s2 (fun g10 => pBin Try.prog 3 BinOp.add (vget l0 2) v4 (fun v11 => pBin Try.prog 3 BinOp.add v11 (Value.int IntKind.i64 1) (fun v12 => pIndexAddr 1 (vget l0 0) v12 (fun v13 => pLoad w0 1 v13 s2 (fun g14 => AC Try.prog w0 n_cmp_Less_string [g10 0, g14 0] s2 (fun v15 s16 => pIf v15 (pBin Try.prog 3 BinOp.add v4 (Value.int IntKind.i64 1) (fun v17 => pBin Try.prog 3 BinOp.add (vget l0 2) (vget l0 3) (fun v18 => pIndexAddr 1 (vget l0 0) v18 (fun v19 => pLoad w0 1 v19 s16 (fun g20 => pBin Try.prog 3 BinOp.add (vget l0 2) v17 (fun v21 => pIndexAddr 1 (vget l0 0) v21 (fun v22 => pLoad w0 1 v22 s16 (fun g23 => AC Try.prog w0 n_cmp_Less_string [g20 0, g23 0] s16 (fun v24 s25 => pUn UnOp.not v24 (fun v26 => pIf v26 (K1 AX.ret [vget l0 0, vget l0 1, vget l0 2, vget l0 3] s25) (pBin Try.prog 3 BinOp.add (vget l0 2) (vget l0 3) (fun v27 => pBin Try.prog 3 BinOp.add (vget l0 2) v17 (fun v28 => pBin Try.prog 3 BinOp.add (vget l0 2) v17 (fun v29 => pIndexAddr 1 (vget l0 0) v29 (fun v30 => pLoad w0 1 v30 s25 (fun g31 => pBin Try.prog 3 BinOp.add (vget l0 2) (vget l0 3) (fun v32 => pIndexAddr 1 (vget l0 0) v32 (fun v33 => pLoad w0 1 v33 s25 (fun g34 => pIndexAddr 1 (vget l0 0) v27 (fun v35 => pVal false 1 (g31 0) (pStore v35 [g31 0] s25 (fun s36 => pIndexAddr 1 (vget l0 0) v28 (fun v37 => pVal false 1 (g34 0) (pStore v37 [g34 0] s36 (fun s38 => K1 AX.normal [vget l0 0, vget l0 1, vget l0 2, v17] s38))))))))))))))))))))))))) (pBin Try.prog 3 BinOp.add (vget l0 2) (vget l0 3) (fun v39 => pIndexAddr 1 (vget l0 0) v39 (fun v40 => pLoad w0 1 v40 s16 (fun g41 => pBin Try.prog 3 BinOp.add (vget l0 2) v4 (fun v42 => pIndexAddr 1 (vget l0 0) v42 (fun v43 => pLoad w0 1 v43 s16 (fun g44 => AC Try.prog w0 n_cmp_Less_string [g41 0, g44 0] s16 (fun v45 s46 => pUn UnOp.not v45 (fun v47 => pIf v47 (K1 AX.ret [vget l0 0, vget l0 1, vget l0 2, vget l0 3] s46) (pBin Try.prog 3 BinOp.add (vget l0 2) (vget l0 3) (fun v48 => pBin Try.prog 3 BinOp.add (vget l0 2) v4 (fun v49 => pBin Try.prog 3 BinOp.add (vget l0 2) v4 (fun v50 => pIndexAddr 1 (vget l0 0) v50 (fun v51 => pLoad w0 1 v51 s46 (fun g52 => pBin Try.prog 3 BinOp.add (vget l0 2) (vget l0 3) (fun v53 => pIndexAddr 1 (vget l0 0) v53 (fun v54 => pLoad w0 1 v54 s46 (fun g55 => pIndexAddr 1 (vget l0 0) v48 (fun v56 => pVal false 1 (g52 0) (pStore v56 [g52 0] s46 (fun s57 => pIndexAddr 1 (vget l0 0) v49 (fun v58 => pVal false 1 (g55 0) (pStore v58 [g55 0] s57 (fun s59 => K1 AX.normal [vget l0 0, vget l0 1, vget l0 2, v4] s59))))))))))))))))))))))))))))))))) (pBin Try.prog 3 BinOp.add (vget l0 2) (vget l0 3) (fun v60 => pIndexAddr 1 (vget l0 0) v60 (fun v61 => pLoad w0 1 v61 s2 (fun g62 => pBin Try.prog 3 BinOp.add (vget l0 2) v4 (fun v63 => pIndexAddr 1 (vget l0 0) v63 (fun v64 => pLoad w0 1 v64 s2 (fun g65 => AC Try.prog w0 n_cmp_Less_string [g62 0, g65 0] s2 (fun v66 s67 => pUn UnOp.not v66 (fun v68 => pIf v68 (K1 AX.ret [vget l0 0, vget l0 1, vget l0 2, vget l0 3] s67) (pBin Try.prog 3 BinOp.add (vget l0 2) (vget l0 3) (fun v69 => pBin Try.prog 3 BinOp.add (vget l0 2) v4 (fun v70 => pBin Try.prog 3 BinOp.add (vget l0 2) v4 (fun v71 => pIndexAddr 1 (vget l0 0) v71 (fun v72 => pLoad w0 1 v72 s67 (fun g73 => pBin Try.prog 3 BinOp.add (vget l0 2) (vget l0 3) (fun v74 => pIndexAddr 1 (vget l0 0) v74 (fun v75 => pLoad w0 1 v75 s67 (fun g76 => pIndexAddr 1 (vget l0 0) v69 (fun v77 => pVal false 1 (g73 0) (pStore v77 [g73 0] s67 (fun s78 => pIndexAddr 1 (vget l0 0) v70 (fun v79 => pVal false 1 (g76 0) (pStore v79 [g76 0] s78 (fun s80 => K1 AX.normal [vget l0 0, vget l0 1, vget l0 2, v4] s80))))))))))))))))))))))))))))))) [a0, a2, a3, a1] σ (fun x81 l82 s83 => match x81 with | .normal => R (Value.tuple ⟨[]⟩) s83 | .ret => R (Value.tuple ⟨[]⟩) s83 | .exit i84 => (match Nat.beq i84 0 with | true => R (Value.tuple ⟨[]⟩) s83 | false => False))
theorem vc_slices_siftDownOrdered_string_eq (w0 : World) (a0 a1 a2 a3 : Value) (σ : Vw) (R : Value → Vw → Prop) : vc_slices_siftDownOrdered_string w0 a0 a1 a2 a3 σ R = den Try.prog w0 kp_slices_siftDownOrdered_string esc_slices_siftDownOrdered_string (Try.f190.body.getD .skip) (entry Try.f190.ntmps [a0, a1, a2, a3]) σ (retK Try.prog Try.f190.results.toList R) := by kernel_rfl
theorem ac_slices_siftDownOrdered_string {w0 : World} {a0 a1 a2 a3 : Value} {σ : Vw} {R : Value → Vw → Prop} (h : vc_slices_siftDownOrdered_string w0 a0 a1 a2 a3 σ R) : AC Try.prog w0 n_slices_siftDownOrdered_string [a0, a1, a2, a3] σ R := by
  refine ac_rule (fn := Try.f190) (c := Try.f190.body.getD .skip) kp_slices_siftDownOrdered_string esc_slices_siftDownOrdered_string Try.func190 (by kernel_rfl) (by kernel_rfl) ?_
  rw [← vc_slices_siftDownOrdered_string_eq]
  exact h

/-- slices.medianAdjacentOrdered[string] -/
def kp_slices_medianAdjacentOrdered_string : Nat → Keep
  | _ => ⟨[], [], [], .done, []⟩
def esc_slices_medianAdjacentOrdered_string : Nat → Bool
  | _ => false
def vc_slices_medianAdjacentOrdered_string (w0 : World) (a0 a1 a2 : Value) (σ : Vw) (R : Value → Vw → Prop) : Prop :=
  pBin Try.prog 3 BinOp.sub a1 (Value.int IntKind.i64 1) (fun v0 => pBin Try.prog 3 BinOp.add a1 (Value.int IntKind.i64 1) (fun v1 => AC Try.prog w0 n_slices_medianOrdered_string [a0, v0, a1, v1, a2] σ (fun v2 s3 => R v2 s3)))
theorem vc_slices_medianAdjacentOrdered_string_eq (w0 : World) (a0 a1 a2 : Value) (σ : Vw) (R : Value → Vw → Prop) : vc_slices_medianAdjacentOrdered_string w0 a0 a1 a2 σ R = den Try.prog w0 kp_slices_medianAdjacentOrdered_string esc_slices_medianAdjacentOrdered_string (Try.f191.body.getD .skip) (entry Try.f191.ntmps [a0, a1, a2]) σ (retK Try.prog Try.f191.results.toList R) := by kernel_rfl
theorem ac_slices_medianAdjacentOrdered_string {w0 : World} {a0 a1 a2 : Value} {σ : Vw} {R : Value → Vw → Prop} (h : vc_slices_medianAdjacentOrdered_string w0 a0 a1 a2 σ R) : AC Try.prog w0 n_slices_medianAdjacentOrdered_string [a0, a1, a2] σ R := by
  refine ac_rule (fn := Try.f191) (c := Try.f191.body.getD .skip) kp_slices_medianAdjacentOrdered_string esc_slices_medianAdjacentOrdered_string Try.func191 (by kernel_rfl) (by kernel_rfl) ?_
  rw [← vc_slices_medianAdjacentOrdered_string_eq]
  exact h

/-- slices.medianOrdered[string] -/
def kp_slices_medianOrdered_string : Nat → Keep
  | _ => ⟨[], [], [], .done, []⟩
def esc_slices_medianOrdered_string : Nat → Bool
  | _ => false
def vc_slices_medianOrdered_string (w0 : World) (a0 a1 a2 a3 a4 : Value) (σ : Vw) (R : Value → Vw → Prop) : Prop :=
  AC Try.prog w0 n_slices_order2Ordered_string [a0, a1, a2, a4] σ (fun v0 s1 => pExtract v0 0 (fun v2 => pExtract v0 1 (fun v3 => AC Try.prog w0 n_slices_order2Ordered_string [a0, v3, a3, a4] s1 (fun v4 s5 => pExtract v4 0 (fun v6 => pExtract v4 1 (fun v7 => AC Try.prog w0 n_slices_order2Ordered_string [a0, v2, v6, a4] s5 (fun v8 s9 => pExtract v8 0 (fun v10 => pExtract v8 1 (fun v11 => R v11 s9)))))))))
theorem vc_slices_medianOrdered_string_eq (w0 : World) (a0 a1 a2 a3 a4 : Value) (σ : Vw) (R : Value → Vw → Prop) : vc_slices_medianOrdered_string w0 a0 a1 a2 a3 a4 σ R = den Try.prog w0 kp_slices_medianOrdered_string esc_slices_medianOrdered_string (Try.f192.body.getD .skip) (entry Try.f192.ntmps [a0, a1, a2, a3, a4]) σ (retK Try.prog Try.f192.results.toList R) := by kernel_rfl
theorem ac_slices_medianOrdered_string {w0 : World} {a0 a1 a2 a3 a4 : Value} {σ : Vw} {R : Value → Vw → Prop} (h : vc_slices_medianOrdered_string w0 a0 a1 a2 a3 a4 σ R) : AC Try.prog w0 n_slices_medianOrdered_string [a0, a1, a2, a3, a4] σ R := by
  refine ac_rule (fn := Try.f192) (c := Try.f192.body.getD .skip) kp_slices_medianOrdered_string esc_slices_medianOrdered_string Try.func192 (by kernel_rfl) (by kernel_rfl) ?_
  rw [← vc_slices_medianOrdered_string_eq]
  exact h

/-- spec.l2Write -/
def kp_spec_l2Write : Nat → Keep
  | 2 => ⟨[1, 2, 7], [], [], .done, []⟩
  | 5 => ⟨[1, 2, 7, 8], [], [], .done, []⟩
  | _ => ⟨[], [], [], .done, []⟩
def esc_spec_l2Write : Nat → Bool
  | _ => false
def vc_spec_l2Write (w0 : World) (a0 a1 a2 : Value) (σ : Vw) (R : Value → Vw → Prop) : Prop :=
  pBytes w0 5 a0 σ (fun v0 s1 => pLoop (fun l2 K3 s4 => pLen (vget l2 2) (fun v5 => pLenS (vget l2 1) (fun v6 => pBin Try.prog 3 BinOp.add (vget l2 0) v6 (fun v7 => pBin Try.prog 3 BinOp.lss v5 v7 (fun v8 => pIf v8 (pVal false 1 (Value.int IntKind.u8 0) ((allOne [Value.int IntKind.u8 0]) ∧ (pAppend w0 5 1 1 (vget l2 2) 1 [Value.int IntKind.u8 0] s4 (fun v9 s10 => K3 AX.normal [vget l2 0, vget l2 1, v9] s10)))) (K3 (AX.exit 0) [vget l2 0, vget l2 1, vget l2 2] s4)))))) [a1, a2, v0] s1 (fun x11 l12 s13 => match x11 with | .normal => pLoop (fun l14 K15 s16 => pLenS (vget l14 1) (fun v17 => pBin Try.prog 3 BinOp.lss (vget l14 3) v17 (fun v18 => pIf v18 (pBin Try.prog 3 BinOp.add (vget l14 0) (vget l14 3) (fun v19 => pIndexStr (vget l14 1) (vget l14 3) (fun v20 => pIndexAddr 1 (vget l14 2) v19 (fun v21 => pVal false 1 v20 (pStore v21 [v20] s16 (fun s22 => pBin Try.prog 3 BinOp.add (vget l14 3) (Value.int IntKind.i64 1) (fun v23 => K15 AX.normal [vget l14 0, vget l14 1, vget l14 2, v23] s22))))))) (K15 (AX.exit 2) [vget l14 0, vget l14 1, vget l14 2, vget l14 3] s16)))) [vget l12 0, vget l12 1, vget l12 2, Value.int IntKind.i64 0] s13 (fun x24 l25 s26 => match x24 with | .normal => pStr w0 (vget l25 2) s26 (fun v27 => R v27 s26) | .ret => False | .exit i28 => (match Nat.beq i28 2 with | true => pStr w0 (vget l25 2) s26 (fun v29 => R v29 s26) | false => False)) | .ret => False | .exit i30 => (match Nat.beq i30 0 with | true => pLoop (fun l31 K32 s33 => pLenS (vget l31 1) (fun v34 => pBin Try.prog 3 BinOp.lss (vget l31 3) v34 (fun v35 => pIf v35 (pBin Try.prog 3 BinOp.add (vget l31 0) (vget l31 3) (fun v36 => pIndexStr (vget l31 1) (vget l31 3) (fun v37 => pIndexAddr 1 (vget l31 2) v36 (fun v38 => pVal false 1 v37 (pStore v38 [v37] s33 (fun s39 => pBin Try.prog 3 BinOp.add (vget l31 3) (Value.int IntKind.i64 1) (fun v40 => K32 AX.normal [vget l31 0, vget l31 1, vget l31 2, v40] s39))))))) (K32 (AX.exit 2) [vget l31 0, vget l31 1, vget l31 2, vget l31 3] s33)))) [vget l12 0, vget l12 1, vget l12 2, Value.int IntKind.i64 0] s13 (fun x41 l42 s43 => match x41 with | .normal => pStr w0 (vget l42 2) s43 (fun v44 => R v44 s43) | .ret => False | .exit i45 => (match Nat.beq i45 2 with | true => pStr w0 (vget l42 2) s43 (fun v46 => R v46 s43) | false => False)) | false => False)))
theorem vc_spec_l2Write_eq (w0 : World) (a0 a1 a2 : Value) (σ : Vw) (R : Value → Vw → Prop) : vc_spec_l2Write w0 a0 a1 a2 σ R = den Try.prog w0 kp_spec_l2Write esc_spec_l2Write (Try.f193.body.getD .skip) (entry Try.f193.ntmps [a0, a1, a2]) σ (retK Try.prog Try.f193.results.toList R) := by kernel_rfl
theorem ac_spec_l2Write {w0 : World} {a0 a1 a2 : Value} {σ : Vw} {R : Value → Vw → Prop} (h : vc_spec_l2Write w0 a0 a1 a2 σ R) : AC Try.prog w0 n_spec_l2Write [a0, a1, a2] σ R := by
  refine ac_rule (fn := Try.f193) (c := Try.f193.body.getD .skip) kp_spec_l2Write esc_spec_l2Write Try.func193 (by kernel_rfl) (by kernel_rfl) ?_
  rw [← vc_spec_l2Write_eq]
  exact h

/-- slices.order2Ordered[string] -/
def kp_slices_order2Ordered_string : Nat → Keep
  | 1 => ⟨[], [], [], .step 0 (.step 1 (.step 2 (.step 3 (.step 4 (.step 5 (.step 6 (.step 7 (.step 8 (.done))))))))), [(2, [0, 1]), (3, [0, 1, 2]), (6, [4, 5]), (7, [4, 5, 6]), (8, [0, 1, 2, 3, 4, 5, 6, 7])]⟩
  | _ => ⟨[], [], [], .done, []⟩
def esc_slices_order2Ordered_string : Nat → Bool
  | _ => false
def vc_slices_order2Ordered_string (w0 : World) (a0 a1 a2 a3 : Value) (σ : Vw) (R : Value → Vw → Prop) : Prop :=
  pIndexAddr 1 a0 a2 (fun v0 => pLoad w0 1 v0 σ (fun g1 => pIndexAddr 1 a0 a1 (fun v2 => pLoad w0 1 v2 σ (fun g3 => AC Try.prog w0 n_cmp_Less_string [g1 0, g3 0] σ (fun v4 s5 => pIf v4 (pNil a3 (pLoad w0 1 a3 s5 (fun g6 => pBin Try.prog 3 BinOp.add (g6 0) (Value.int IntKind.i64 1) (fun v7 => pNil a3 (pVal false 1 v7 (pStore a3 [v7] s5 (fun s8 => R (Value.tuple (⟨[a2, a1]⟩)) s8))))))) (R (Value.tuple (⟨[a1, a2]⟩)) s5))))))
theorem vc_slices_order2Ordered_string_eq (w0 : World) (a0 a1 a2 a3 : Value) (σ : Vw) (R : Value → Vw → Prop) : vc_slices_order2Ordered_string w0 a0 a1 a2 a3 σ R = den Try.prog w0 kp_slices_order2Ordered_string esc_slices_order2Ordered_string (Try.f194.body.getD .skip) (entry Try.f194.ntmps [a0, a1, a2, a3]) σ (retK Try.prog Try.f194.results.toList R) := by kernel_rfl
theorem ac_slices_order2Ordered_string {w0 : World} {a0 a1 a2 a3 : Value} {σ : Vw} {R : Value → Vw → Prop} (h : vc_slices_order2Ordered_string w0 a0 a1 a2 a3 σ R) : AC Try.prog w0 n_slices_order2Ordered_string [a0, a1, a2, a3] σ R := by
  refine ac_rule (fn := Try.f194) (c := Try.f194.body.getD .skip) kp_slices_order2Ordered_string esc_slices_order2Ordered_string Try.func194 (by kernel_rfl) (by kernel_rfl) ?_
  rw [← vc_slices_order2Ordered_string_eq]
  exact h

end Go.Proofs.Ytkblkdnnncklgaa

/- What each function owes: all parts. MADE BY PROGRAM (emit.py). -/


/- The lists of texts: their size, their copy, their comparison. -/
set_option linter.unusedVariables false
set_option linter.unusedSimpArgs false
namespace Go.Proofs.Ytkblkdnnncklgaa
open Go Go.Av

section
variable {w0 : World} {σ : Vw}

def sumS : List ByteArray → Nat
  | [] => 0
  | s :: r => s.size + sumS r
theorem sumS_take {xs : List ByteArray} : ∀ {j : Nat} {x : ByteArray}, xs[j]? = some x → sumS (xs.take (j + 1)) = sumS (xs.take j) + x.size := by
  induction xs with
  | nil => intro j x h; simp at h
  | cons a r ih =>
    intro j x h
    cases j with
    | zero => simp at h; subst h; simp [sumS]
    | succ j =>
      simp at h
      have := ih h
      simp only [List.take_succ_cons, sumS, this]
      omega
theorem sumS_le {xs : List ByteArray} : ∀ (j : Nat), sumS (xs.take j) ≤ sumS xs := by
  induction xs with
  | nil => intro j; simp [sumS]
  | cons a r ih =>
    intro j
    cases j with
    | zero => simp [sumS]
    | succ j => have := ih j; simp only [List.take_succ_cons, sumS]; omega

/-- What is left of n. -/
def left (n : Int) (t : Nat) : Int := if n - t < 0 then -1 else n - t

theorem szStringS {v : Value} {xs : List ByteArray} {n : Int} (h : RSl 1 RS (Av.get w0 σ) v xs) (hn : 0 ≤ n ∧ n ≤ 9223372036854775807) {R : Value → Vw → Prop} (hR : R (.int .i64 (left n (xs.length + sumS xs))) σ) : AC Try.prog w0 n_laws_szStringS [v, .int .i64 n] σ R := by
  refine ac_laws_szStringS ?_
  unfold vc_laws_szStringS
  have hl : xs.length ≤ 9223372036854775807 := by obtain ⟨_, _, _, h2, _⟩ := h; exact Nat.le_trans h2.1 h2.2
  rw [h.len, pBin_sub (by omega), pBin_lt, pIf_d]
  refine ⟨fun hlt => ?_, fun hge => ?_⟩
  · have : left n (xs.length + sumS xs) = -1 := by unfold left; rw [if_pos (by omega)]
    rw [this] at hR; exact hR
  · refine loop_rule (m := xs.length) (fun m l s => ∃ j, s = σ ∧ m + j = xs.length ∧ 0 ≤ n - xs.length - sumS (xs.take j) ∧ l = [v, .int .i64 (n - xs.length - sumS (xs.take j)), .int .i64 0, .int .i64 (j : Nat)]) ?_ ⟨0, rfl, by omega, by simp [sumS]; omega, by simp [sumS]⟩
    rintro m l s L ⟨j, rfl, hm, h0, rfl⟩ hL
    simp only [vget, List.getD_cons_zero, List.getD_cons_succ]
    rw [h.len, pBin_lt, pIf_d]
    refine ⟨fun hj => ?_, fun hj => ?_⟩
    · have hj' : j < xs.length := by omega
      have hx := List.getElem?_eq_getElem hj'
      refine h.at hx fun g hg => ?_
      obtain ⟨hg, hs⟩ := hg
      simp only [expl, List.cons.injEq, and_true] at hg
      have ht := sumS_take hx
      have hle := sumS_le (xs := xs) (j + 1)
      rw [hg, pLenS_s, pBin_sub (by omega), pBin_lt, pIf_d]
      refine ⟨fun hlt => ?_, fun hge => ?_⟩
      · have : left n (xs.length + sumS xs) = -1 := by unfold left; rw [if_pos (by omega)]
        rw [this] at hR; exact hR
      · rw [pBin_add (by omega)]
        refine hL _ _ (m - 1) (by omega) ⟨j + 1, rfl, by omega, by omega, ?_⟩
        rw [ht]
        congr 2
        · congr 1; omega
    · have hj' : j = xs.length := by omega
      subst hj'
      rw [List.take_length] at h0 ⊢
      have : left n (xs.length + sumS xs) = n - xs.length - sumS xs := by unfold left; rw [if_neg (by omega)]; omega
      rw [this] at hR
      exact hR
end
end Go.Proofs.Ytkblkdnnncklgaa

/- The lists of texts: their copy, their comparison. -/
set_option linter.unusedVariables false
set_option linter.unusedSimpArgs false
namespace Go.Proofs.Ytkblkdnnncklgaa
open Go Go.Av

section
variable {w0 : World} {σ : Vw}


theorem toStringS {v : Value} {xs : List ByteArray} (h : RSl 1 RS (Av.get w0 σ) v xs) (hb : xs.length ≤ 1000000000000) {R : Value → Vw → Prop}
    (hR : ∀ b ety, w0.heap.size ≤ b → σ b = none → R (.slice (some ⟨b, 0, none⟩) xs.length xs.length) (σ.put b ⟨ety, xs.map .string, xs.length, (0, 0)⟩)) : AC Try.prog w0 n_laws_toStringS [v] σ R := by
  refine ac_laws_toStringS ?_
  unfold vc_laws_toStringS
  rw [h.len]
  refine pMake_s (by omega) (by omega) fun b ety h1 h2 => ?_
  refine loop_rule (m := xs.length) (fun m l s => ∃ j, m + j = xs.length ∧ s = σ.put b ⟨ety, (xs.take j).map .string ++ List.replicate m (.string ⟨#[]⟩), xs.length * 1, (0, 0)⟩ ∧ l = [v, .slice (some ⟨b, 0, none⟩) xs.length xs.length, .int .i64 (j : Nat)]) ?_ ⟨0, by omega, by simp, rfl⟩
  rintro m l s L ⟨j, hm, rfl, rfl⟩ hL
  simp only [vget, List.getD_cons_zero, List.getD_cons_succ]
  rw [h.len, pBin_lt, pIf_d]
  refine ⟨fun hj => ?_, fun hj => ?_⟩
  · have hj' : j < xs.length := by omega
    have hx := List.getElem?_eq_getElem hj'
    refine RSl.at (h.mono (Keeps.put h2).le fun _ _ h => h) hx fun g hg => ?_
    obtain ⟨hg, hs⟩ := hg
    simp only [expl, List.cons.injEq, and_true] at hg
    obtain ⟨m', rfl⟩ : ∃ m', m = m' + 1 := ⟨m - 1, by omega⟩
    rw [hg]
    have e1 : ∀ A : Prop, pVal false 1 (.string xs[j]) A = A := fun A => propext (pVal1 rfl)
    simp only [e1]
    refine own_store (r := ⟨ety, (xs.take j).map .string ++ List.replicate (m' + 1) (.string ⟨#[]⟩), xs.length * 1, (0, 0)⟩) (A := (xs.take j).map .string) (old := [.string ⟨#[]⟩]) (new := [.string xs[j]]) (C := List.replicate m' (.string ⟨#[]⟩)) put_at (by simp [List.replicate_succ]) (by simp; omega) rfl rfl hj' ?_
    rw [pBin_add (by omega)]
    refine hL _ _ m' rfl ⟨j + 1, by omega, ?_, rfl⟩
    rw [put_put, List.take_add_one, hx]
    simp only [Option.toList_some, List.map_append, List.map_cons, List.map_nil, List.append_assoc]
  · have hj' : j = xs.length := by omega
    subst hj'
    have : m = 0 := by omega
    subst this
    have := hR b ety h1 h2
    simpa using this

theorem eqStringS {v v' : Value} {xs ys : List ByteArray} (h : RSl 1 RS (Av.get w0 σ) v xs) (h' : RSl 1 RS (Av.get w0 σ) v' ys) {R : Value → Vw → Prop} (hR : R (.bool (decide (xs = ys))) σ) : AC Try.prog w0 n_laws_eqStringS [v, v'] σ R := by
  refine ac_laws_eqStringS ?_
  unfold vc_laws_eqStringS
  have hl : xs.length ≤ 9223372036854775807 := by obtain ⟨_, _, _, h2, _⟩ := h; exact Nat.le_trans h2.1 h2.2
  rw [h.len, h'.len, pBin_ne, pIf_d]
  refine ⟨fun hne => ?_, fun heq => ?_⟩
  · have : xs ≠ ys := fun e => hne (by rw [e])
    simpa [this] using hR
  · have hlen : xs.length = ys.length := by omega
    refine loop_rule (m := xs.length) (fun m l s => ∃ j, s = σ ∧ m + j = xs.length ∧ xs.take j = ys.take j ∧ l = [v, v', .bool false, .int .i64 (j : Nat)]) ?_ ⟨0, rfl, by omega, by simp, rfl⟩
    rintro m l s L ⟨j, rfl, hm, ht, rfl⟩ hL
    simp only [vget, List.getD_cons_zero, List.getD_cons_succ]
    rw [h.len, pBin_lt, pIf_d]
    refine ⟨fun hj => ?_, fun hj => ?_⟩
    · have hj' : j < xs.length := by omega
      have hx := List.getElem?_eq_getElem hj'
      have hy := List.getElem?_eq_getElem (show j < ys.length by omega)
      refine h.at hx fun g hg => ?_
      obtain ⟨hg, hs⟩ := hg
      simp only [expl, List.cons.injEq, and_true] at hg
      refine h'.at hy fun g' hg' => ?_
      obtain ⟨hg', hs'⟩ := hg'
      simp only [expl, List.cons.injEq, and_true] at hg'
      rw [hg, hg', pBin_sne, pIf_d]
      refine ⟨fun hne => ?_, fun heq => ?_⟩
      · have : xs ≠ ys := fun e => by subst e; exact hne rfl
        simpa [this] using hR
      · rw [pBin_add (by omega)]
        have heq' : xs[j] = ys[j] := Decidable.not_not.1 heq
        refine hL _ _ (m - 1) (by omega) ⟨j + 1, rfl, by omega, ?_, rfl⟩
        rw [List.take_add_one, List.take_add_one, hx, hy, ht, heq']
    · have hj' : j = xs.length := by omega
      subst hj'
      rw [List.take_length, hlen, List.take_length] at ht
      subst ht
      simpa using hR
end
end Go.Proofs.Ytkblkdnnncklgaa

/- The lists of texts in rows of their own; marks (a path and a bool) and their lists: size, copy, comparison. -/
set_option linter.unusedVariables false
set_option linter.unusedSimpArgs false
namespace Go.Proofs.Ytkblkdnnncklgaa
open Go Go.Av

/-- A text needs no row. -/
def OStr (σ : Vw) (F : List Nat) (es : List Value) (s : ByteArray) : Prop := F = [] ∧ es = [.string s] ∧ s.size ≤ 9223372036854775807

section
variable {w0 : World} {σ : Vw}

theorem ok_str (w0 : World) : OOk w0 1 RS OStr := by
  refine ⟨?_, ?_, ?_, ?_, ?_, ?_⟩
  · rintro σ F es x ⟨_, h1, h2⟩; exact ⟨h1, h2⟩
  · rintro σ σ' F es x h _; exact h
  · rintro σ F es x ⟨rfl, _, _⟩ b hb; cases hb
  · rintro σ F es x ⟨rfl, _, _⟩; exact List.nodup_nil
  · rintro σ F es x ⟨_, rfl, _⟩; rfl
  · rintro σ F es x ⟨_, rfl, _⟩ c hc; rw [List.mem_singleton.1 hc]; rfl

abbrev OStrs (w0 : World) := OSl w0 1 OStr
theorem mono_rs {rd rd' : Addr → Option Value} {es : List Value} {x : ByteArray} (_ : Le rd rd') (h : RS rd es x) : RS rd' es x := h

theorem strs_le {rd : Addr → Option Value} {v : Value} {xs : List ByteArray} (h : RSl 1 RS rd v xs) : ∀ x, x ∈ xs → x.size ≤ 9223372036854775807 := by
  obtain ⟨A, cap, _, _, h3⟩ := h
  intro x hx
  obtain ⟨j, hj⟩ := List.getElem?_of_mem hx
  obtain ⟨a, es, _, _, _, h4⟩ := h3 j x hj
  exact h4.2

theorem flat_strs (xs : List ByteArray) : xs.map Value.string = (xs.map fun s => [Value.string s]).flatten := by
  induction xs with
  | nil => rfl
  | cons a r ih => simp [ih]

theorem own_strs {b cap : Nat} {r : Row} {xs : List ByteArray} (hb : w0.heap.size ≤ b) (hr : σ b = some r) (hc : r.cells = xs.map .string) (hm : xs.length ≤ cap ∧ cap ≤ 9223372036854775807) (hs : ∀ x, x ∈ xs → x.size ≤ 9223372036854775807) : OStrs w0 σ [b] (.slice (some ⟨b, 0, none⟩) xs.length cap) xs := by
  have hnil : (List.replicate xs.length ([] : List Nat)).flatten = [] := by simp
  refine ⟨Nat.le_trans hm.1 hm.2, by simp, .inr ⟨b, 0, cap, r, [], [], xs.map fun s => [.string s], List.replicate xs.length [], rfl, hm, hb, hr, by rw [hc, flat_strs]; simp, rfl, by simp, by simp, by rw [hnil], fun j c x f e1 e2 e3 => ?_⟩⟩
  rw [List.getElem?_map, e2] at e1
  cases e1
  refine ⟨?_, rfl, hs x (List.mem_of_getElem? e2)⟩
  rw [List.getElem?_replicate] at e3
  split at e3
  · cases e3; rfl
  · cases e3

theorem toStringS' {v : Value} {xs : List ByteArray} (h : RSl 1 RS (Av.get w0 σ) v xs) (hb : xs.length ≤ 1000000000000) {R : Value → Vw → Prop}
    (hR : ∀ v' F σ', Keeps σ σ' → OStrs w0 σ' F v' xs → (∀ b, b ∈ F → σ b = none) → R v' σ') : AC Try.prog w0 n_laws_toStringS [v] σ R :=
  toStringS h hb fun b ety h1 h2 => hR _ [b] _ (Keeps.put h2) (own_strs h1 put_at rfl ⟨Nat.le_refl _, h.le⟩ (strs_le h)) fun i hi => by rw [List.mem_singleton.1 hi]; exact h2

/-- A mark: a path, and a bool. -/
abbrev Mk := List ByteArray × Bool
def RMk (rd : Addr → Option Value) (es : List Value) (m : Mk) : Prop := ∃ v, es = [v, .bool m.2] ∧ RSl 1 RS rd v m.1
def OMk (w0 : World) (σ : Vw) (F : List Nat) (es : List Value) (m : Mk) : Prop := ∃ v, es = [v, .bool m.2] ∧ OStrs w0 σ F v m.1
def szMk (m : Mk) : Nat := m.1.length + sumS m.1

theorem OSl.one' {α : Type} {n : Nat} {O : Vw → List Nat → List Value → α → Prop} {F : List Nat} {v : Value} {xs : List α} (h : OSl w0 n O σ F v xs) : v.oneCell' = true := by
  obtain ⟨_, _, ⟨rfl, _⟩ | ⟨_, _, _, _, _, _, _, _, rfl, _⟩⟩ := h <;> rfl

theorem ok_mk (w0 : World) : OOk w0 2 RMk (OMk w0) := by
  refine ⟨?_, ?_, ?_, ?_, ?_, ?_⟩
  · rintro σ F es x ⟨v, h1, h2⟩; exact ⟨v, h1, h2.rel (ok_str w0)⟩
  · rintro σ σ' F es x ⟨v, h1, h2⟩ hF; exact ⟨v, h1, h2.frame (ok_str w0) hF⟩
  · rintro σ F es x ⟨v, h1, h2⟩; exact h2.dom (ok_str w0)
  · rintro σ F es x ⟨v, h1, h2⟩; exact h2.2.1
  · rintro σ F es x ⟨v, rfl, h2⟩; rfl
  · rintro σ F es x ⟨v, rfl, h2⟩ c hc
    simp at hc
    rcases hc with rfl | rfl
    · exact OSl.one' h2
    · rfl
theorem mono_mk {rd rd' : Addr → Option Value} {es : List Value} {x : Mk} (hl : Le rd rd') (h : RMk rd es x) : RMk rd' es x := by
  obtain ⟨v, h1, h2⟩ := h; exact ⟨v, h1, h2.mono hl fun _ _ h => h⟩

theorem sumS_eq (xs : List ByteArray) : sumS xs = sumBy ByteArray.size xs := by
  induction xs with
  | nil => rfl
  | cons a r ih => simp [sumS, sumBy, ih]

theorem szMark {es : List Value} {x : Mk} {m : Int} {R : Value → Vw → Prop} (h : RMk (Av.get w0 σ) es x) (hm : 0 ≤ m ∧ m ≤ 9223372036854775807) (hR : R (.int .i64 (Av.left m (szMk x))) σ) : AC Try.prog w0 n_laws_szMark [.agg ⟨es⟩, .int .i64 m] σ R := by
  obtain ⟨v, rfl, h2⟩ := h
  refine ac_laws_szMark ?_
  unfold vc_laws_szMark
  rw [pVal_2 h2.one rfl]
  refine szStringS h2 hm ?_
  rw [pBin_lt, pIf_d]
  have e : left m (x.1.length + sumS x.1) = Av.left m (szMk x) := rfl
  rw [e]
  refine ⟨fun hlt => ?_, fun _ => hR⟩
  rw [Av.left_neg] at hlt
  rw [Av.left_low hlt] at hR; exact hR

theorem szMarkS {v : Value} {xs : List Mk} {m : Int} (h : RSl 2 RMk (Av.get w0 σ) v xs) (hm : 0 ≤ m ∧ m ≤ 9223372036854775807) {R : Value → Vw → Prop} (hR : R (.int .i64 (Av.left m (xs.length + sumBy szMk xs))) σ) : AC Try.prog w0 n_laws_szMarkS [v, .int .i64 m] σ R := by
  refine ac_laws_szMarkS ?_
  have e : vc_laws_szMarkS w0 v (.int .i64 m) σ R = VszS Try.prog w0 3 2 n_laws_szMark v (.int .i64 m) σ R := by kernel_rfl
  rw [e]
  exact szS_gen (fun x _ es m R' h hm hR => szMark h hm hR) h hm hR

theorem toMark {es : List Value} {x : Mk} {R : Value → Vw → Prop} (h : RMk (Av.get w0 σ) es x) (hb : x.1.length ≤ 1000000000000) (hR : ∀ es' F σ', Keeps σ σ' → OMk w0 σ' F es' x → (∀ b, b ∈ F → σ b = none) → R (.agg ⟨es'⟩) σ') : AC Try.prog w0 n_laws_toMark [.agg ⟨es⟩] σ R := by
  obtain ⟨v, rfl, h2⟩ := h
  refine ac_laws_toMark ?_
  unfold vc_laws_toMark
  rw [pVal_2 h2.one rfl]
  refine toStringS' h2 hb fun v' F σ' hk ho hF => ?_
  rw [pVal1 (OSl.one' ho), pVal1 rfl, cellOf_agg, pVal_2 (OSl.one' ho) rfl]
  exact hR _ F σ' hk ⟨v', rfl, ho⟩ hF

theorem toMarkS {v : Value} {xs : List Mk} (h : RSl 2 RMk (Av.get w0 σ) v xs) (hl : xs.length ≤ 1000000000000) (hb : ∀ x, x ∈ xs → x.1.length ≤ 1000000000000) {R : Value → Vw → Prop}
    (hR : ∀ v' F σ', Keeps σ σ' → OSl w0 2 (OMk w0) σ' F v' xs → (∀ b, b ∈ F → σ b = none) → R v' σ') : AC Try.prog w0 n_laws_toMarkS [v] σ R := by
  refine ac_laws_toMarkS ?_
  have e : vc_laws_toMarkS w0 v σ R = VtoS Try.prog w0 3 t_impl_Mark 2 32 n_laws_toMark [.slice none 0 0, .bool false] v σ R := by kernel_rfl
  rw [e]
  exact toS_gen (n := 2) (Rel := RMk) (bytes := 32) rfl (ok_mk w0) (fun _ _ _ _ hl h => mono_mk hl h) (fun x hx s es R' _ h hR => toMark h (hb x hx) hR) h (by omega) hR

theorem eqMark {es es' : List Value} {x y : Mk} {R : Value → Vw → Prop} (h : RMk (Av.get w0 σ) es x) (h' : RMk (Av.get w0 σ) es' y) (hR : R (.bool (decide (x = y))) σ) : AC Try.prog w0 n_laws_eqMark [.agg ⟨es⟩, .agg ⟨es'⟩] σ R := by
  obtain ⟨v, rfl, h2⟩ := h
  obtain ⟨v', rfl, h2'⟩ := h'
  refine ac_laws_eqMark ?_
  unfold vc_laws_eqMark
  rw [pVal_2 h2.one rfl, pVal_2 h2'.one rfl]
  refine eqStringS h2 h2' ?_
  obtain ⟨a, p⟩ := x
  obtain ⟨b, q⟩ := y
  have eb : ∀ K : Value → Prop, pBin Try.prog 4 .neq (.bool p) (.bool q) K ↔ K (.bool !(p == q)) := fun K => pBin_b (by kernel_rfl) rfl
  rw [pUn_not, pIf_b]
  simp only [cellOf_agg, List.getD_cons_zero, List.getD_cons_succ]
  rw [eb, pIf_b]
  by_cases e1 : a = b
  · subst e1
    by_cases e2 : p = q
    · subst e2; simpa using hR
    · simpa [e2] using hR
  · simpa [e1] using hR

theorem eqMarkS {v v' : Value} {xs ys : List Mk} (h : RSl 2 RMk (Av.get w0 σ) v xs) (h' : RSl 2 RMk (Av.get w0 σ) v' ys) {R : Value → Vw → Prop} (hR : R (.bool (decide (xs = ys))) σ) : AC Try.prog w0 n_laws_eqMarkS [v, v'] σ R := by
  refine ac_laws_eqMarkS ?_
  have e : vc_laws_eqMarkS w0 v v' σ R = VeqS Try.prog w0 3 2 n_laws_eqMark v v' σ R := by kernel_rfl
  rw [e]
  exact eqS_gen (fun x _ y es es' R' h h' hR => eqMark h h' hR) h h' hR
end
end Go.Proofs.Ytkblkdnnncklgaa

/- Names: their letters and their length. -/
set_option linter.unusedVariables false
set_option linter.unusedSimpArgs false
namespace Go.Proofs.Ytkblkdnnncklgaa
open Go Go.Av

theorem pIndexStr_s {s : ByteArray} {j : Nat} {K : Value → Prop} (h : j < s.size) (hK : K (.int .u8 ((s[j]'h).toNat : Int))) : pIndexStr (.string s) (.int .i64 j) K :=
  ⟨s, .i64, j, rfl, rfl, by omega, h, hK⟩

def okB (n : Nat) : Prop := (97 ≤ n ∧ n ≤ 122) ∨ (48 ≤ n ∧ n ≤ 57)
/-- Within two bounds. -/
def inB (n lo hi : Int) : Bool := decide (lo ≤ n ∧ n ≤ hi)
def lettersOk (s : ByteArray) : Prop := ∀ (i : Nat) (h : i < s.size), okB (s[i]'h).toNat
open Classical in
noncomputable def nameOk (s : ByteArray) : Bool := decide (lettersOk s) && inB s.size 1 5

section
variable {w0 : World} {σ : Vw}

theorem spec_In {n lo hi : Int} {R : Value → Vw → Prop} (hR : R (.bool (inB n lo hi)) σ) : AC Try.prog w0 n_spec_l1In [.int .i64 n, .int .i64 lo, .int .i64 hi] σ R := by
  refine ac_spec_l1In ?_
  unfold vc_spec_l1In
  rw [pBin_ge, pIf_d]
  refine ⟨fun h => ?_, fun h => ?_⟩
  · rw [pBin_le]
    have : inB n lo hi = decide (n ≤ hi) := by simp [inB, h]
    rw [this] at hR; exact hR
  · have : inB n lo hi = false := by simp [inB, h]
    rw [this] at hR; exact hR
theorem impl_within {n lo hi : Int} {R : Value → Vw → Prop} (hR : R (.bool (inB n lo hi)) σ) : AC Try.prog w0 n_impl_within [.int .i64 n, .int .i64 lo, .int .i64 hi] σ R := by
  refine ac_impl_within ?_
  unfold vc_impl_within
  rw [pBin_ge, pIf_d]
  refine ⟨fun h => ?_, fun h => ?_⟩
  · rw [pBin_le]
    have : inB n lo hi = decide (n ≤ hi) := by simp [inB, h]
    rw [this] at hR; exact hR
  · have : inB n lo hi = false := by simp [inB, h]
    rw [this] at hR; exact hR

theorem nameOk_bad {s : ByteArray} {j : Nat} (h : j < s.size) (hb : ¬ okB (s[j]'h).toNat) : nameOk s = false := by
  have : ¬ lettersOk s := fun h' => hb (h' j h)
  simp [nameOk, this]
theorem nameOk_good {s : ByteArray} (h : lettersOk s) : nameOk s = inB s.size 1 5 := by simp [nameOk, h]

theorem spec_nameOk {s : ByteArray} (hs : s.size ≤ 9223372036854775807) {R : Value → Vw → Prop} (hR : R (.bool (nameOk s)) σ) : AC Try.prog w0 n_spec_l1NameOk [.string s] σ R := by
  refine ac_spec_l1NameOk ?_
  unfold vc_spec_l1NameOk
  refine loop_rule (m := s.size) (fun m l t => ∃ j, t = σ ∧ m + j = s.size ∧ (∀ (i : Nat) (h : i < s.size), i < j → okB (s[i]'h).toNat) ∧ l = [.string s, .bool false, .int .i64 (j : Nat)]) ?_ ⟨0, rfl, by omega, fun i h h' => by omega, rfl⟩
  rintro m l t L ⟨j, rfl, hm, ht, rfl⟩ hL
  simp only [vget, List.getD_cons_zero, List.getD_cons_succ]
  rw [pLenS_s, pBin_lt, pIf_d]
  refine ⟨fun hj => ?_, fun hj => ?_⟩
  · have hj' : j < s.size := by omega
    have bad : ¬ okB (s[j]'hj').toNat → R (.bool false) t := fun h => by rw [nameOk_bad hj' h] at hR; exact hR
    have good : okB (s[j]'hj').toNat → L [.string s, .bool false, .int .i64 ((j + 1 : Nat) : Int)] t := fun h => hL _ _ (m - 1) (by omega) ⟨j + 1, rfl, by omega, fun i hi hij => by
      by_cases e : i = j
      · subst e; exact h
      · exact ht i hi (by omega), rfl⟩
    have add : ∀ K : Value → Prop, pBin Try.prog 3 .add (.int .i64 j) (.int .i64 1) K ↔ K (.int .i64 ((j + 1 : Nat) : Int)) := fun K => pBin_add (by omega)
    have idx : ∀ K : Value → Prop, K (.int .u8 ((s[j]'hj').toNat : Int)) → pIndexStr (.string s) (.int .i64 j) K := fun K hK => pIndexStr_s hj' hK
    simp only [add, pUn_not, pIf_b, Bool.not_true, Bool.not_false, forall_const, Bool.false_eq_true, false_imp_iff, true_imp_iff, true_and, and_true, reduceCtorEq]
    refine idx _ ?_
    rw [pBin_ge, pIf_d]
    refine ⟨fun h1 => idx _ ?_, fun h1 => idx _ ?_⟩
    · rw [pBin_le, pIf_d]
      refine ⟨fun h2 => good (.inl ⟨by omega, by omega⟩), fun h2 => idx _ ?_⟩
      rw [pBin_ge, pIf_d]
      refine ⟨fun h3 => idx _ ?_, fun h3 => bad fun h => by unfold okB at h; omega⟩
      rw [pBin_le, pUn_not, pIf_b]
      refine ⟨fun h4 => bad fun h => ?_, fun h4 => good ?_⟩
      · unfold okB at h; simp at h4; omega
      · simp at h4; exact .inr ⟨by omega, by omega⟩
    · rw [pBin_ge, pIf_d]
      refine ⟨fun h3 => idx _ ?_, fun h3 => bad fun h => by unfold okB at h; omega⟩
      rw [pBin_le, pUn_not, pIf_b]
      refine ⟨fun h4 => bad fun h => ?_, fun h4 => good ?_⟩
      · unfold okB at h; simp at h4; omega
      · simp at h4; exact .inr ⟨by omega, by omega⟩
  · have hj' : j = s.size := by omega
    subst hj'
    show pLenS (.string s) _
    rw [pLenS_s]
    refine spec_In ?_
    rw [nameOk_good fun i h => ht i h h] at hR
    exact hR

theorem impl_nameOk {s : ByteArray} (hs : s.size ≤ 9223372036854775807) {R : Value → Vw → Prop} (hR : R (.bool (nameOk s)) σ) : AC Try.prog w0 n_impl_nameOk [.string s] σ R := by
  refine ac_impl_nameOk ?_
  unfold vc_impl_nameOk
  rw [pLenS_s]
  refine loop_rule (m := s.size) (fun m l t => ∃ j, t = σ ∧ m + j = s.size ∧ (∀ (i : Nat) (h : i < s.size), i < j → okB (s[i]'h).toNat) ∧ l = [.string s, .bool false, .int .i64 s.size, .int .i64 (j : Nat)]) ?_ ⟨0, rfl, by omega, fun i h h' => by omega, rfl⟩
  rintro m l t L ⟨j, rfl, hm, ht, rfl⟩ hL
  simp only [vget, List.getD_cons_zero, List.getD_cons_succ]
  rw [pBin_lt, pIf_d]
  refine ⟨fun hj => ?_, fun hj => ?_⟩
  · have hj' : j < s.size := by omega
    have bad : ¬ okB (s[j]'hj').toNat → R (.bool false) t := fun h => by rw [nameOk_bad hj' h] at hR; exact hR
    have good : okB (s[j]'hj').toNat → L [.string s, .bool false, .int .i64 s.size, .int .i64 ((j + 1 : Nat) : Int)] t := fun h => hL _ _ (m - 1) (by omega) ⟨j + 1, rfl, by omega, fun i hi hij => by
      by_cases e : i = j
      · subst e; exact h
      · exact ht i hi (by omega), rfl⟩
    have add : ∀ K : Value → Prop, pBin Try.prog 3 .add (.int .i64 j) (.int .i64 1) K ↔ K (.int .i64 ((j + 1 : Nat) : Int)) := fun K => pBin_add (by omega)
    have idx : ∀ K : Value → Prop, K (.int .u8 ((s[j]'hj').toNat : Int)) → pIndexStr (.string s) (.int .i64 j) K := fun K hK => pIndexStr_s hj' hK
    simp only [add]
    refine idx _ ?_
    rw [pBin_lt, pIf_d]
    refine ⟨fun h1 => idx _ ?_, fun h1 => idx _ ?_⟩
    · rw [pBin_lt, pIf_d]
      refine ⟨fun h2 => bad fun h => by unfold okB at h; omega, fun h2 => idx _ ?_⟩
      rw [pBin_gt, pIf_d]
      exact ⟨fun h3 => bad fun h => by unfold okB at h; omega, fun h3 => good (.inr ⟨by omega, by omega⟩)⟩
    · rw [pBin_gt, pIf_d]
      refine ⟨fun h2 => idx _ ?_, fun h2 => good (.inl ⟨by omega, by omega⟩)⟩
      rw [pBin_lt, pIf_d]
      refine ⟨fun h2 => bad fun h => by unfold okB at h; omega, fun h2 => idx _ ?_⟩
      rw [pBin_gt, pIf_d]
      exact ⟨fun h3 => bad fun h => by unfold okB at h; omega, fun h3 => good (.inr ⟨by omega, by omega⟩)⟩
  · have hj' : j = s.size := by omega
    subst hj'
    show pLenS (.string s) _
    rw [pLenS_s]
    refine impl_within ?_
    rw [nameOk_good fun i h => ht i h h] at hR
    exact hR
end
end Go.Proofs.Ytkblkdnnncklgaa

/- Paths: their names, their order, what lies within what. -/
set_option linter.unusedVariables false
set_option linter.unusedSimpArgs false
namespace Go.Proofs.Ytkblkdnnncklgaa
open Go Go.Av

def strLt (a b : ByteArray) : Bool := Op.bytesLess a.toList b.toList
theorem bl_irrefl : ∀ (a : List UInt8), Op.bytesLess a a = false
  | [] => rfl
  | x :: r => by simp [Op.bytesLess, bl_irrefl r]
theorem bl_total : ∀ (a b : List UInt8), Op.bytesLess a b = false → Op.bytesLess b a = false → a = b
  | [], [], _, _ => rfl
  | [], _ :: _, h, _ => by simp [Op.bytesLess] at h
  | _ :: _, [], _, h => by simp [Op.bytesLess] at h
  | x :: r, y :: q, h, h' => by
    simp only [Op.bytesLess] at h h'
    by_cases e : x = y
    · subst e
      simp at h h'
      rw [bl_total r q h h']
    · exfalso
      rcases UInt8.lt_or_lt_of_ne e with h1 | h1
      · simp [h1] at h
      · simp [h1] at h'
theorem strLt_irrefl (a : ByteArray) : strLt a a = false := bl_irrefl _
theorem strLt_total {a b : ByteArray} (h : strLt a b = false) (h' : strLt b a = false) : a = b := bytes_inj (bl_total _ _ h h')

noncomputable def allNames : List ByteArray → Bool
  | [] => true
  | s :: r => nameOk s && allNames r
theorem allNames_iff {xs : List ByteArray} : allNames xs = true ↔ ∀ (j : Nat) (x : ByteArray), xs[j]? = some x → nameOk x = true := by
  induction xs with
  | nil => simp [allNames]
  | cons a r ih =>
    simp only [allNames, Bool.and_eq_true, ih]
    constructor
    · rintro ⟨h1, h2⟩ j x hj
      cases j with
      | zero => simp at hj; subst hj; exact h1
      | succ j => exact h2 j x (by simpa using hj)
    · intro h
      exact ⟨h 0 a rfl, fun j x hj => h (j + 1) x (by simpa using hj)⟩
theorem allNames_bad {xs : List ByteArray} {j : Nat} {x : ByteArray} (hj : xs[j]? = some x) (h : nameOk x = false) : allNames xs = false := by
  cases hc : allNames xs with
  | false => rfl
  | true => have := allNames_iff.1 hc j x hj; rw [h] at this; cases this

def lexLt : List ByteArray → List ByteArray → Bool
  | _, [] => false
  | [], _ :: _ => true
  | a :: r, b :: q => if a = b then lexLt r q else strLt a b

theorem lexLt_at : ∀ {j : Nat} {xs ys : List ByteArray} {a b : ByteArray}, xs.take j = ys.take j → xs[j]? = some a → ys[j]? = some b → a ≠ b → lexLt xs ys = strLt a b
  | 0, x :: xs, y :: ys, a, b, _, h1, h2, h3 => by simp at h1 h2; subst h1 h2; simp [lexLt, h3]
  | j + 1, x :: xs, y :: ys, a, b, h, h1, h2, h3 => by
    simp only [List.take_succ_cons, List.cons.injEq] at h
    obtain ⟨rfl, h⟩ := h
    simp only [lexLt, if_true]
    exact lexLt_at h (by simpa using h1) (by simpa using h2) h3
  | _, [], _, a, b, _, h1, _, _ => by simp at h1
  | _, _ :: _, [], a, b, _, _, h2, _ => by simp at h2
theorem lexLt_end : ∀ {j : Nat} {xs ys : List ByteArray}, xs.take j = ys.take j → (j = xs.length ∧ j ≤ ys.length ∨ j = ys.length ∧ j ≤ xs.length) → lexLt xs ys = decide (xs.length < ys.length)
  | 0, xs, ys, _, h => by
    rcases h with ⟨h, _⟩ | ⟨h, _⟩
    · have : xs = [] := List.length_eq_zero_iff.1 h.symm
      subst this
      cases ys <;> simp [lexLt]
    · have : ys = [] := List.length_eq_zero_iff.1 h.symm
      subst this
      simp [lexLt]
  | j + 1, x :: xs, y :: ys, h, hl => by
    simp only [List.take_succ_cons, List.cons.injEq] at h
    obtain ⟨rfl, h⟩ := h
    simp only [lexLt, if_true, List.length_cons]
    rw [lexLt_end h (by simp at hl; omega)]
    simp
  | j + 1, [], ys, _, hl => by simp at hl
  | j + 1, _ :: _, [], _, hl => by simp at hl

/-- The path b lies at or under a. -/
def within (b a : List ByteArray) : Bool := decide (a.length ≤ b.length ∧ b.take a.length = a)


section
variable {w0 : World} {σ : Vw}

theorem pBin_slt {P : Program} {T : Nat} {a b : ByteArray} {K : Value → Prop} : pBin P T .lss (.string a) (.string b) K ↔ K (.bool (strLt a b)) := pBin_s rfl
theorem pBin_sgt {P : Program} {T : Nat} {a b : ByteArray} {K : Value → Prop} : pBin P T .gtr (.string a) (.string b) K ↔ K (.bool (!(strLt a b || decide (a = b)))) := pBin_s (by simp only [astr, toList_eq]; rfl)

theorem RSl.at1 {v : Value} {xs : List ByteArray} (h : RSl 1 RS (Av.get w0 σ) v xs) {j : Nat} {x : ByteArray} (hj : xs[j]? = some x) {K : (Nat → Value) → Prop} (hK : ∀ g : Nat → Value, g 0 = .string x → x.size ≤ 9223372036854775807 → K g) :
    pIndexAddr 1 v (.int .i64 j) fun p => pLoad w0 1 p σ K := by
  refine h.at hj fun g hg => ?_
  obtain ⟨hg, hs⟩ := hg
  simp only [expl, List.cons.injEq, and_true] at hg
  exact hK g hg hs

theorem spec_PathOk {v : Value} {xs : List ByteArray} (h : RSl 1 RS (Av.get w0 σ) v xs) {R : Value → Vw → Prop} (hR : R (.bool (allNames xs && inB xs.length 1 4)) σ) : AC Try.prog w0 n_spec_l2PathOk [v] σ R := by
  refine ac_spec_l2PathOk ?_
  unfold vc_spec_l2PathOk
  have hl := h.le
  refine loop_rule (m := xs.length) (fun m l t => ∃ j, t = σ ∧ m + j = xs.length ∧ (∀ (i : Nat) (x : ByteArray), i < j → xs[i]? = some x → nameOk x = true) ∧ l = [v, .bool false, .int .i64 (j : Nat)]) ?_ ⟨0, rfl, by omega, fun i x h => by omega, rfl⟩
  rintro m l t L ⟨j, rfl, hm, ht, rfl⟩ hL
  simp only [vget, List.getD_cons_zero, List.getD_cons_succ]
  rw [h.len, pBin_lt, pIf_d]
  refine ⟨fun hj => ?_, fun hj => ?_⟩
  · have hj' : j < xs.length := by omega
    have hx := List.getElem?_eq_getElem hj'
    refine RSl.at1 h hx fun g hg hs => ?_
    rw [hg]
    refine spec_nameOk hs ?_
    rw [pUn_not, pIf_b]
    refine ⟨fun hb => ?_, fun hb => ?_⟩
    · rw [allNames_bad hx (by simpa using hb)] at hR; exact hR
    · rw [pBin_add (by omega)]
      refine hL _ _ (m - 1) (by omega) ⟨j + 1, rfl, by omega, fun i x hi he => ?_, rfl⟩
      by_cases e : i = j
      · subst e; rw [hx] at he; cases he; simpa using hb
      · exact ht i x (by omega) he
  · have hj' : j = xs.length := by omega
    subst hj'
    show pLen v _
    rw [h.len]
    refine spec_In ?_
    rw [allNames_iff.2 fun i x he => ht i x (List.getElem?_eq_some_iff.1 he).1 he] at hR
    exact hR

theorem impl_namesOk {v : Value} {xs : List ByteArray} {lo : Int} (h : RSl 1 RS (Av.get w0 σ) v xs) {R : Value → Vw → Prop} (hR : R (.bool (allNames xs && inB xs.length lo 4)) σ) : AC Try.prog w0 n_impl_namesOk [v, .int .i64 lo] σ R := by
  refine ac_impl_namesOk ?_
  unfold vc_impl_namesOk
  have hl := h.le
  rw [h.len]
  refine loop_rule (m := xs.length) (fun m l t => ∃ j, t = σ ∧ m + j = xs.length ∧ (∀ (i : Nat) (x : ByteArray), i < j → xs[i]? = some x → nameOk x = true) ∧ l = [v, .int .i64 lo, .bool false, v, .int .i64 xs.length, .int .i64 (j : Nat)]) ?_ ⟨0, rfl, by omega, fun i x h => by omega, rfl⟩
  rintro m l t L ⟨j, rfl, hm, ht, rfl⟩ hL
  simp only [vget, List.getD_cons_zero, List.getD_cons_succ]
  rw [pBin_lt, pIf_d]
  refine ⟨fun hj => ?_, fun hj => ?_⟩
  · have hj' : j < xs.length := by omega
    have hx := List.getElem?_eq_getElem hj'
    refine RSl.at1 h hx fun g hg hs => ?_
    rw [hg]
    refine impl_nameOk hs ?_
    rw [pUn_not, pIf_b]
    refine ⟨fun hb => ?_, fun hb => ?_⟩
    · rw [allNames_bad hx (by simpa using hb)] at hR; exact hR
    · rw [pBin_add (by omega)]
      refine hL _ _ (m - 1) (by omega) ⟨j + 1, rfl, by omega, fun i x hi he => ?_, rfl⟩
      by_cases e : i = j
      · subst e; rw [hx] at he; cases he; simpa using hb
      · exact ht i x (by omega) he
  · have hj' : j = xs.length := by omega
    subst hj'
    show pLen v _
    rw [h.len]
    refine impl_within ?_
    rw [allNames_iff.2 fun i x he => ht i x (List.getElem?_eq_some_iff.1 he).1 he] at hR
    exact hR
end
end Go.Proofs.Ytkblkdnnncklgaa

/- Paths: their order, what lies within what; marks. -/
set_option linter.unusedVariables false
set_option linter.unusedSimpArgs false
namespace Go.Proofs.Ytkblkdnnncklgaa
open Go Go.Av

section
variable {w0 : World} {σ : Vw}

theorem spec_Less {v v' : Value} {xs ys : List ByteArray} (h : RSl 1 RS (Av.get w0 σ) v xs) (h' : RSl 1 RS (Av.get w0 σ) v' ys) {R : Value → Vw → Prop} (hR : R (.bool (lexLt xs ys)) σ) : AC Try.prog w0 n_spec_l11Less [v, v'] σ R := by
  refine ac_spec_l11Less ?_
  unfold vc_spec_l11Less
  have hl := h.le
  refine loop_rule (m := xs.length) (fun m l t => ∃ j, t = σ ∧ m + j = xs.length ∧ j ≤ ys.length ∧ xs.take j = ys.take j ∧ l = [v, v', .bool false, .int .i64 (j : Nat)]) ?_ ⟨0, rfl, by omega, by omega, by simp, rfl⟩
  rintro m l t L ⟨j, rfl, hm, hy, ht, rfl⟩ hL
  simp only [vget, List.getD_cons_zero, List.getD_cons_succ]
  have fin : j = xs.length ∨ j = ys.length → pLen v (fun v21 => pLen v' (fun v22 => pBin Try.prog 3 .lss v21 v22 (fun v23 => R v23 t))) := by
    intro hj
    rw [h.len, h'.len, pBin_lt]
    rw [lexLt_end ht (by omega)] at hR
    have : (decide (xs.length < ys.length)) = decide ((xs.length : Int) < ys.length) := by congr 1; apply propext; omega
    rw [this] at hR; exact hR
  rw [h.len, pBin_lt, pIf_d]
  refine ⟨fun hj => ?_, fun hj => fin (.inl (by omega))⟩
  rw [h'.len, pBin_lt, pIf_d]
  refine ⟨fun hj2 => ?_, fun hj2 => fin (.inr (by omega))⟩
  have hx := List.getElem?_eq_getElem (show j < xs.length by omega)
  have hy' := List.getElem?_eq_getElem (show j < ys.length by omega)
  refine RSl.at1 h hx fun g hg hs => ?_
  refine RSl.at1 h' hy' fun g' hg' hs' => ?_
  rw [hg, hg', pBin_sne, pIf_d]
  refine ⟨fun hne => ?_, fun heq => ?_⟩
  · refine RSl.at1 h hx fun g hg hs => ?_
    refine RSl.at1 h' hy' fun g' hg' hs' => ?_
    rw [hg, hg', pBin_slt]
    rw [lexLt_at ht hx hy' hne] at hR; exact hR
  · have heq' := Decidable.not_not.1 heq
    rw [pBin_add (by omega)]
    exact hL _ _ (m - 1) (by omega) ⟨j + 1, rfl, by omega, by omega, by rw [List.take_add_one, List.take_add_one, hx, hy', ht, heq'], rfl⟩

/-- What Go's comparison of texts gives. -/
def cmpS (a b : ByteArray) : Int := if strLt a b then -1 else if a = b then 0 else 1
theorem cmp_Compare {a b : ByteArray} {R : Value → Vw → Prop} (hR : R (.int .i64 (cmpS a b)) σ) : AC Try.prog w0 n_cmp_Compare_string [.string a, .string b] σ R := by
  refine ac_cmp_Compare_string ?_
  unfold vc_cmp_Compare_string
  have nan : ∀ (a : ByteArray) (s : Vw) (K : Value → Vw → Prop), K (.bool false) s → AC Try.prog w0 n_cmp_isNaN_string [.string a] s K := fun a s K hK => by
    refine ac_cmp_isNaN_string ?_
    unfold vc_cmp_isNaN_string
    rw [pBin_sne]; simpa using hK
  refine nan _ _ _ (nan _ _ _ ?_)
  rw [pIf_b, pIf_b, pIf_b]
  refine ⟨nofun, fun _ => ⟨nofun, fun _ => ?_⟩⟩
  rw [pBin_slt, pIf_b]
  refine ⟨fun h => by simpa [cmpS, h] using hR, fun h => ?_⟩
  rw [pBin_sgt, pIf_b]
  by_cases e : a = b
  · subst e; simpa [cmpS, h] using hR
  · simpa [cmpS, h, e] using hR

theorem Compare {v v' : Value} {xs ys : List ByteArray} (h : RSl 1 RS (Av.get w0 σ) v xs) (h' : RSl 1 RS (Av.get w0 σ) v' ys) {R : Value → Vw → Prop} (hR : ∀ c : Int, (c < 0 ↔ lexLt xs ys = true) → R (.int .i64 c) σ) : AC Try.prog w0 n_slices_Compare_string_string [v, v'] σ R := by
  refine ac_slices_Compare_string_string ?_
  unfold vc_slices_Compare_string_string
  have hl := h.le
  rw [h.len]
  refine loop_rule (m := xs.length) (fun m l t => ∃ j, t = σ ∧ m + j = xs.length ∧ j ≤ ys.length ∧ xs.take j = ys.take j ∧ l = [v, v', .int .i64 0, v, .int .i64 xs.length, .int .i64 (j : Nat)]) ?_ ⟨0, rfl, by omega, by omega, by simp, rfl⟩
  rintro m l t L ⟨j, rfl, hm, hy, ht, rfl⟩ hL
  simp only [vget, List.getD_cons_zero, List.getD_cons_succ]
  rw [pBin_lt, pIf_d]
  refine ⟨fun hj => ?_, fun hj => ?_⟩
  · have hx := List.getElem?_eq_getElem (show j < xs.length by omega)
    refine RSl.at1 h hx fun g hg hs => ?_
    rw [h'.len, pBin_ge, pIf_d]
    refine ⟨fun hj2 => ?_, fun hj2 => ?_⟩
    · refine hR 1 ?_
      rw [lexLt_end ht (by omega)]
      simp; omega
    · have hy' := List.getElem?_eq_getElem (show j < ys.length by omega)
      refine RSl.at1 h' hy' fun g' hg' hs' => ?_
      rw [hg, hg']
      refine cmp_Compare ?_
      rw [pBin_ne, pIf_d]
      refine ⟨fun hne => ?_, fun heq => ?_⟩
      · refine hR _ ?_
        have hab : xs[j] ≠ ys[j] := fun e => by
          apply hne
          rw [e, cmpS, strLt_irrefl]; simp
        rw [lexLt_at ht hx hy' hab]
        unfold cmpS
        cases hlt : strLt xs[j] ys[j] <;> simp [hab]
      · have heq' : xs[j] = ys[j] := by
          unfold cmpS at heq
          split at heq
          · simp at heq
          · split at heq
            · assumption
            · simp at heq
        rw [pBin_add (by omega)]
        exact hL _ _ (m - 1) (by omega) ⟨j + 1, rfl, by omega, by omega, by rw [List.take_add_one, List.take_add_one, hx, hy', ht, heq'], rfl⟩
  · have hj' : j = xs.length := by omega
    show pLen v _
    rw [h.len, h'.len, pBin_lt, pIf_d]
    have e := lexLt_end ht (by omega)
    refine ⟨fun hlt => hR (-1) ?_, fun hlt => hR 0 ?_⟩
    · rw [e]; simp; omega
    · rw [e]; simp; omega

theorem within_false {xs ys : List ByteArray} {j : Nat} {a b : ByteArray} (hx : xs[j]? = some a) (hy : ys[j]? = some b) (h : a ≠ b) : within xs ys = false := by
  unfold within
  simp only [decide_eq_false_iff_not]
  rintro ⟨h1, h2⟩
  have hlt := (List.getElem?_eq_some_iff.1 hy).1
  rw [← h2, List.getElem?_take_of_lt hlt, hx] at hy
  cases hy; exact h rfl

theorem spec_Within {v v' : Value} {xs ys : List ByteArray} (h : RSl 1 RS (Av.get w0 σ) v xs) (h' : RSl 1 RS (Av.get w0 σ) v' ys) {R : Value → Vw → Prop} (hR : R (.bool (within xs ys)) σ) : AC Try.prog w0 n_spec_l2Within [v, v'] σ R := by
  refine ac_spec_l2Within ?_
  unfold vc_spec_l2Within
  have hl := h'.le
  rw [h.len, h'.len, pBin_lt, pIf_d]
  refine ⟨fun hlt => ?_, fun hge => ?_⟩
  · have : within xs ys = false := by unfold within; simp; omega
    rw [this] at hR; exact hR
  refine loop_rule (m := ys.length) (fun m l t => ∃ j, t = σ ∧ m + j = ys.length ∧ xs.take j = ys.take j ∧ l = [v, v', .bool false, .int .i64 (j : Nat)]) ?_ ⟨0, rfl, by omega, by simp, rfl⟩
  rintro m l t L ⟨j, rfl, hm, ht, rfl⟩ hL
  simp only [vget, List.getD_cons_zero, List.getD_cons_succ]
  rw [h'.len, pBin_lt, pIf_d]
  refine ⟨fun hj => ?_, fun hj => ?_⟩
  · have hx := List.getElem?_eq_getElem (show j < xs.length by omega)
    have hy' := List.getElem?_eq_getElem (show j < ys.length by omega)
    refine RSl.at1 h hx fun g hg hs => ?_
    refine RSl.at1 h' hy' fun g' hg' hs' => ?_
    rw [hg, hg', pBin_sne, pIf_d]
    refine ⟨fun hne => ?_, fun heq => ?_⟩
    · rw [within_false hx hy' hne] at hR; exact hR
    · have heq' := Decidable.not_not.1 heq
      rw [pBin_add (by omega)]
      exact hL _ _ (m - 1) (by omega) ⟨j + 1, rfl, by omega, by rw [List.take_add_one, List.take_add_one, hx, hy', ht, heq'], rfl⟩
  · have hj' : j = ys.length := by omega
    subst hj'
    rw [List.take_length] at ht
    have : within xs ys = true := by unfold within; simp [ht]; omega
    rw [this] at hR; exact hR

theorem impl_begins {v v' : Value} {xs ys : List ByteArray} (h : RSl 1 RS (Av.get w0 σ) v xs) (h' : RSl 1 RS (Av.get w0 σ) v' ys) {R : Value → Vw → Prop} (hR : R (.bool (within xs ys)) σ) : AC Try.prog w0 n_impl_begins [v, v'] σ R := by
  refine ac_impl_begins ?_
  unfold vc_impl_begins
  have hl := h'.le
  rw [h.len, h'.len, pBin_lt, pIf_d]
  refine ⟨fun hlt => ?_, fun hge => ?_⟩
  · have : within xs ys = false := by unfold within; simp; omega
    rw [this] at hR; exact hR
  rw [h'.len]
  refine loop_rule (m := ys.length) (fun m l t => ∃ j, t = σ ∧ m + j = ys.length ∧ xs.take j = ys.take j ∧ l = [v, v', .bool false, .int .i64 ys.length, .int .i64 (j : Nat)]) ?_ ⟨0, rfl, by omega, by simp, rfl⟩
  rintro m l t L ⟨j, rfl, hm, ht, rfl⟩ hL
  simp only [vget, List.getD_cons_zero, List.getD_cons_succ]
  rw [pBin_lt, pIf_d]
  refine ⟨fun hj => ?_, fun hj => ?_⟩
  · have hx := List.getElem?_eq_getElem (show j < xs.length by omega)
    have hy' := List.getElem?_eq_getElem (show j < ys.length by omega)
    refine RSl.at1 h hx fun g hg hs => ?_
    refine RSl.at1 h' hy' fun g' hg' hs' => ?_
    rw [hg, hg', pBin_sne, pIf_d]
    refine ⟨fun hne => ?_, fun heq => ?_⟩
    · rw [within_false hx hy' hne] at hR; exact hR
    · have heq' := Decidable.not_not.1 heq
      rw [pBin_add (by omega)]
      exact hL _ _ (m - 1) (by omega) ⟨j + 1, rfl, by omega, by rw [List.take_add_one, List.take_add_one, hx, hy', ht, heq'], rfl⟩
  · have hj' : j = ys.length := by omega
    subst hj'
    rw [List.take_length] at ht
    have : within xs ys = true := by unfold within; simp [ht]; omega
    rw [this] at hR; exact hR

noncomputable def markOkB (x : Mk) : Bool := if x.1 = [] then x.2 else allNames x.1 && inB x.1.length 1 4

theorem spec_MarkOk {es : List Value} {x : Mk} {R : Value → Vw → Prop} (h : RMk (Av.get w0 σ) es x) (hR : R (.bool (markOkB x)) σ) : AC Try.prog w0 n_spec_l11MarkOk [.agg ⟨es⟩] σ R := by
  obtain ⟨v, rfl, h2⟩ := h
  refine ac_spec_l11MarkOk ?_
  unfold vc_spec_l11MarkOk
  rw [pVal_2 h2.one rfl]
  show pLen v _
  rw [h2.len, pBin_eq, pIf_d]
  refine ⟨fun h0 => ?_, fun h0 => ?_⟩
  · have : x.1 = [] := List.length_eq_zero_iff.1 (by omega)
    rw [markOkB, if_pos this] at hR; exact hR
  · have : x.1 ≠ [] := fun e => h0 (by rw [e]; rfl)
    rw [markOkB, if_neg this] at hR
    exact spec_PathOk h2 hR

theorem impl_markOk {es : List Value} {x : Mk} {R : Value → Vw → Prop} (h : RMk (Av.get w0 σ) es x) (hR : R (.bool (markOkB x)) σ) : AC Try.prog w0 n_impl_markOk [.agg ⟨es⟩] σ R := by
  obtain ⟨v, rfl, h2⟩ := h
  refine ac_impl_markOk ?_
  unfold vc_impl_markOk
  rw [pVal_2 h2.one rfl]
  refine impl_namesOk h2 ?_
  rw [pIf_b]
  by_cases e : x.1 = []
  · rw [markOkB, if_pos e] at hR
    refine ⟨fun _ => ?_, fun h0 => ?_⟩
    · show pLen v _
      rw [h2.len, pBin_gt, pIf_d]
      refine ⟨fun h => by rw [e] at h; simp at h, fun _ => hR⟩
    · rw [e] at h0; simp [allNames, inB] at h0
  · rw [markOkB, if_neg e] at hR
    have hpos : 1 ≤ x.1.length := by
      rcases Nat.eq_zero_or_pos x.1.length with h0 | h0
      · exact absurd (List.length_eq_zero_iff.1 h0) e
      · exact h0
    have hin : inB x.1.length 0 4 = inB x.1.length 1 4 := by unfold inB; congr 1; apply propext; omega
    rw [hin]
    refine ⟨fun h0 => ?_, fun h0 => ?_⟩
    · show pLen v _
      rw [h2.len, pBin_gt, pIf_d]
      refine ⟨fun _ => ?_, fun h => by omega⟩
      rw [h0] at hR; exact hR
    · rw [h0] at hR; exact hR
end
end Go.Proofs.Ytkblkdnnncklgaa

/- Trails: when one is sound; the law 'TrailOk', of the functions alone. -/
set_option linter.unusedVariables false
set_option linter.unusedSimpArgs false
namespace Go.Proofs.Ytkblkdnnncklgaa
open Go Go.Av

def underB (ms : List Mk) (p : List ByteArray) : Bool := ms.any fun m => m.2 && within p m.1
def afterB (ms : List Mk) (j : Nat) (x : Mk) : Bool :=
  match j with
  | 0 => true
  | i + 1 => match ms[i]? with
    | some y => lexLt y.1 x.1
    | none => true
noncomputable def goodAt (ms : List Mk) (j : Nat) (x : Mk) : Bool := markOkB x && (afterB ms j x && !underB (ms.take j) x.1)
def allGood (ms : List Mk) : Prop := ∀ (j : Nat) (x : Mk), ms[j]? = some x → goodAt ms j x = true
open Classical in
noncomputable def trailOk (ms : List Mk) : Bool := decide (allGood ms) && decide ((ms.length : Int) ≤ 6)
theorem trail_bad {ms : List Mk} {j : Nat} {x : Mk} (h : ms[j]? = some x) (hb : goodAt ms j x = false) : trailOk ms = false := by
  have : ¬ allGood ms := fun h' => by rw [h' j x h] at hb; cases hb
  simp [trailOk, this]
theorem trail_good {ms : List Mk} (h : allGood ms) : trailOk ms = decide ((ms.length : Int) ≤ 6) := by simp [trailOk, h]

section
variable {w0 : World} {σ : Vw}

theorem RSl.fld {α : Type} {n : Nat} {Rl : (Addr → Option Value) → List Value → α → Prop} {v : Value} {xs : List α} (h : RSl n Rl (Av.get w0 σ) v xs) {j : Nat} {x : α} (hj : xs[j]? = some x) {off : Nat} (ho : off < n) {K : (Nat → Value) → Prop} (hK : ∀ (g : Nat → Value) (es : List Value), Rl (Av.get w0 σ) es x → es[off]? = some (g 0) → K g) :
    pIndexAddr n v (.int .i64 j) fun p => pField off p fun q => pLoad w0 1 q σ K := by
  obtain ⟨A, cap, rfl, _, h3⟩ := h
  obtain ⟨a, es, rfl, h5, h6, h7⟩ := h3 j x hj
  have hlt : j < xs.length := (List.getElem?_eq_some_iff.1 hj).1
  have he : es[off]? = some (es.getD off undef) := by
    rw [List.getD_eq_getElem?_getD, List.getElem?_eq_getElem (by omega)]; rfl
  refine ⟨a, xs.length, cap, .i64, j, rfl, rfl, by omega, by omega, _, rfl, (a.add (j * n)).add off, fun _ => es.getD off undef, rfl, fun i hi => ?_, hK _ es h7 he⟩
  have : i = 0 := by omega
  subst this
  rw [add_add, add_add, Nat.add_zero]
  rw [h6 off ho]; exact he

theorem RSl.take {α : Type} {n : Nat} {Rl : (Addr → Option Value) → List Value → α → Prop} {v : Value} {xs : List α} (h : RSl n Rl (Av.get w0 σ) v xs) {j : Nat} (hj : j ≤ xs.length) {K : Value → Prop} (hK : ∀ v', RSl n Rl (Av.get w0 σ) v' (xs.take j) → K v') : pSlice n v none (some (.int .i64 j)) K := by
  obtain ⟨A, cap, rfl, hc, h3⟩ := h
  refine ⟨A, xs.length, cap, 0, j, rfl, rfl, rfl, by omega, by omega, by omega, hK _ ?_⟩
  have hl : (xs.take j).length = j := by simp; omega
  refine ⟨if cap = (0 : Int).toNat then A else A.map (·.add ((0 : Int).toNat * n)), cap - (0 : Int).toNat, by rw [hl]; simp, ⟨by rw [hl]; simp; omega, by simp; omega⟩, fun i x hi => ?_⟩
  have hij : i < j := by have := (List.getElem?_eq_some_iff.1 hi).1; rw [hl] at this; exact this
  rw [List.getElem?_take_of_lt hij] at hi
  obtain ⟨a, es, rfl, h5, h6, h7⟩ := h3 i x hi
  refine ⟨a, es, ?_, h5, h6, h7⟩
  split
  · rfl
  · simp [Addr.add]

theorem underB_take {ms : List Mk} {p : List ByteArray} {j : Nat} {x : Mk} (h : ms[j]? = some x) : underB (ms.take (j + 1)) p = (underB (ms.take j) p || (x.2 && within p x.1)) := by
  rw [List.take_add_one, h]
  simp [underB, List.any_append]
theorem under_hit {ms : List Mk} {p : List ByteArray} {j : Nat} {x : Mk} (h : ms[j]? = some x) (h1 : x.2 = true) (h2 : within p x.1 = true) : underB ms p = true := by
  simp only [underB, List.any_eq_true]
  exact ⟨x, List.mem_of_getElem? h, by simp [h1, h2]⟩

theorem impl_under {v v' : Value} {ms : List Mk} {p : List ByteArray} (h : RSl 2 RMk (Av.get w0 σ) v ms) (h' : RSl 1 RS (Av.get w0 σ) v' p) {R : Value → Vw → Prop} (hR : R (.bool (underB ms p)) σ) : AC Try.prog w0 n_impl_under [v, v'] σ R := by
  refine ac_impl_under ?_
  unfold vc_impl_under
  have hl := h.le
  rw [h.len]
  refine loop_rule (m := ms.length) (fun m l t => ∃ j, t = σ ∧ m + j = ms.length ∧ underB (ms.take j) p = false ∧ l = [v', .bool false, v, .int .i64 ms.length, .int .i64 (j : Nat)]) ?_ ⟨0, rfl, by omega, rfl, rfl⟩
  rintro m l t L ⟨j, rfl, hm, ht, rfl⟩ hL
  simp only [vget, List.getD_cons_zero, List.getD_cons_succ]
  rw [pBin_lt, pIf_d]
  refine ⟨fun hj => ?_, fun hj => ?_⟩
  · have hx := List.getElem?_eq_getElem (show j < ms.length by omega)
    refine h.at hx fun g hg => ?_
    obtain ⟨u, hu, hur⟩ := hg
    simp only [expl, List.cons.injEq, and_true] at hu
    obtain ⟨hu0, hu1⟩ := hu
    rw [hu0, hu1, pVal_2 hur.one rfl, pIf_b]
    have next : underB (ms.take (j + 1)) p = false → L [v', .bool false, v, .int .i64 ms.length, .int .i64 ((j : Int) + 1)] t := fun hf => hL _ _ (m - 1) (by omega) ⟨j + 1, rfl, by omega, hf, rfl⟩
    have hstep := underB_take (p := p) hx
    refine ⟨fun hheld => ?_, fun hheld => ?_⟩
    · refine impl_begins h' hur ?_
      rw [pIf_b]
      refine ⟨fun hw => ?_, fun hw => ?_⟩
      · rw [under_hit hx hheld hw] at hR; exact hR
      · rw [pBin_add (by omega)]
        exact next (by rw [hstep, ht, hw]; simp)
    · rw [pBin_add (by omega)]
      exact next (by rw [hstep, ht, hheld]; simp)
  · have hj' : j = ms.length := by omega
    subst hj'
    rw [List.take_length] at ht
    rw [ht] at hR; exact hR

theorem impl_TrailOk {v : Value} {ms : List Mk} (h : RSl 2 RMk (Av.get w0 σ) v ms) {R : Value → Vw → Prop} (hR : R (.bool (trailOk ms)) σ) : AC Try.prog w0 n_impl_TrailOk [v] σ R := by
  refine ac_impl_TrailOk ?_
  unfold vc_impl_TrailOk
  have hl := h.le
  rw [h.len]
  refine loop_rule (m := ms.length) (fun m l t => ∃ j, t = σ ∧ m + j = ms.length ∧ (∀ (i : Nat) (x : Mk), i < j → ms[i]? = some x → goodAt ms i x = true) ∧ l = [v, .bool false, v, .int .i64 ms.length, .int .i64 (j : Nat)]) ?_ ⟨0, rfl, by omega, fun i x h => by omega, rfl⟩
  rintro m l t L ⟨j, rfl, hm, ht, rfl⟩ hL
  simp only [vget, List.getD_cons_zero, List.getD_cons_succ]
  rw [pBin_lt, pIf_d]
  refine ⟨fun hj => ?_, fun hj => ?_⟩
  · have hx := List.getElem?_eq_getElem (show j < ms.length by omega)
    generalize hxj : ms[j] = x at hx
    refine h.at hx fun g hg => ?_
    have hg0 := hg
    obtain ⟨u, hu, hur⟩ := hg
    simp only [expl, List.cons.injEq, and_true] at hu
    obtain ⟨hu0, hu1⟩ := hu
    rw [hu0, hu1, pVal_2 hur.one rfl]
    have bad : goodAt ms j x = false → R (.bool false) t := fun hb => by rw [trail_bad hx hb] at hR; exact hR
    refine impl_markOk (x := x) ⟨u, rfl, hur⟩ ?_
    rw [pUn_not, pIf_b]
    refine ⟨fun hmk => bad (by simp at hmk; simp [goodAt, hmk]), fun hmk => ?_⟩
    have hmk' : markOkB x = true := by simpa using hmk
    have last : afterB ms j x = true → pSlice 2 v none (some (.int .i64 j)) (fun v18 => AC Try.prog w0 n_impl_under [v18, u] t (fun v19 s20 => pIf v19 (R (.bool false) s20) (pBin Try.prog 3 .add (.int .i64 j) (.int .i64 1) (fun v21 => L [v, .bool false, v, .int .i64 ms.length, v21] s20)))) := by
      intro haf
      refine RSl.take h (by omega) fun v' hv' => ?_
      refine impl_under hv' hur ?_
      rw [pIf_b]
      refine ⟨fun hb => bad (by simp [goodAt, hb]), fun hb => ?_⟩
      rw [pBin_add (by omega)]
      refine hL _ _ (m - 1) (by omega) ⟨j + 1, rfl, by omega, fun i y hi he => ?_, rfl⟩
      by_cases e : i = j
      · subst e; rw [hx] at he; cases he; simp [goodAt, hmk', haf, hb]
      · exact ht i y (by omega) he
    rw [pBin_gt, pIf_d]
    refine ⟨fun hpos => ?_, fun h0 => ?_⟩
    · obtain ⟨i, rfl⟩ : ∃ i, j = i + 1 := ⟨j - 1, by omega⟩
      rw [pBin_sub (by omega)]
      have hy := List.getElem?_eq_getElem (show i < ms.length by omega)
      generalize hyi : ms[i] = y at hy
      rw [show ((i + 1 : Nat) : Int) - 1 = (i : Nat) by omega]
      refine RSl.fld h hy (by omega) fun g2 es hes he => ?_
      obtain ⟨u2, rfl, hu2⟩ := hes
      simp at he
      rw [← he]
      refine Compare hu2 hur fun c hc => ?_
      have haf : afterB ms (i + 1) x = lexLt y.1 x.1 := by simp [afterB, hy]
      rw [pBin_ge, pIf_d]
      refine ⟨fun hge => bad ?_, fun hlt => last ?_⟩
      · have : lexLt y.1 x.1 = false := by
          cases hc2 : lexLt y.1 x.1 with
          | false => rfl
          | true => have := hc.2 hc2; omega
        simp [goodAt, haf, this]
      · rw [haf]; exact hc.1 (by omega)
    · have : j = 0 := by omega
      subst this
      exact last rfl
  · have hj' : j = ms.length := by omega
    subst hj'
    show pLen v _
    rw [h.len, pBin_le]
    rw [trail_good fun i x he => ht i x (List.getElem?_eq_some_iff.1 he).1 he] at hR
    exact hR

theorem spec_TrailOk {v : Value} {ms : List Mk} (h : RSl 2 RMk (Av.get w0 σ) v ms) {R : Value → Vw → Prop} (hR : R (.bool (trailOk ms)) σ) : AC Try.prog w0 n_spec_TrailOk [v] σ R := by
  refine ac_spec_TrailOk ?_
  unfold vc_spec_TrailOk
  have hl := h.le
  refine loop_rule (m := ms.length) (fun m l t => ∃ j, t = σ ∧ m + j = ms.length ∧ (∀ (i : Nat) (x : Mk), i < j → ms[i]? = some x → goodAt ms i x = true) ∧ l = [v, .bool false, .int .i64 (j : Nat)]) ?_ ⟨0, rfl, by omega, fun i x h => by omega, rfl⟩
  rintro m l t L ⟨j, rfl, hm, ht, rfl⟩ hL
  simp only [vget, List.getD_cons_zero, List.getD_cons_succ]
  rw [h.len, pBin_lt, pIf_d]
  refine ⟨fun hj => ?_, fun hj => ?_⟩
  · have hx := List.getElem?_eq_getElem (show j < ms.length by omega)
    generalize hxj : ms[j] = x at hx
    refine h.at hx fun g hg => ?_
    obtain ⟨u, hu, hur⟩ := hg
    simp only [expl, List.cons.injEq, and_true] at hu
    obtain ⟨hu0, hu1⟩ := hu
    rw [hu0, hu1]
    have bad : goodAt ms j x = false → R (.bool false) t := fun hb => by rw [trail_bad hx hb] at hR; exact hR
    refine spec_MarkOk (x := x) ⟨u, rfl, hur⟩ ?_
    rw [pUn_not, pIf_b]
    refine ⟨fun hmk => bad (by simp at hmk; simp [goodAt, hmk]), fun hmk => ?_⟩
    have hmk' : markOkB x = true := by simpa using hmk
    have next : afterB ms j x = true → underB (ms.take j) x.1 = false → L [v, .bool false, .int .i64 ((j : Int) + 1)] t := fun haf hb => hL _ _ (m - 1) (by omega) ⟨j + 1, rfl, by omega, fun i y hi he => by
      by_cases e : i = j
      · subst e; rw [hx] at he; cases he; simp [goodAt, hmk', haf, hb]
      · exact ht i y (by omega) he, rfl⟩
    have split : (0 < (j : Int) → afterB ms j x = true → True) := fun _ _ => trivial
    rw [pBin_gt, pIf_d]
    have step : ∀ {K : AX → List Value → Vw → Prop} {B : List Value → (AX → List Value → Vw → Prop) → Vw → Prop}, B = (fun l21 K22 s23 => pBin Try.prog 3 .lss (vget l21 3) (vget l21 2) (fun v24 => pIf v24 (pIndexAddr 2 (vget l21 0) (vget l21 3) (fun v25 => pField 1 v25 (fun v26 => pLoad w0 1 v26 s23 (fun g27 => pIf (g27 0)
          (pIndexAddr 2 (vget l21 0) (vget l21 2) (fun v28 => pField 0 v28 (fun v29 => pLoad w0 1 v29 s23 (fun g30 => pIndexAddr 2 (vget l21 0) (vget l21 3) (fun v31 => pField 0 v31 (fun v32 => pLoad w0 1 v32 s23 (fun g33 => AC Try.prog w0 n_spec_l2Within [g30 0, g33 0] s23 (fun v34 s35 => pIf v34 (K22 .ret [vget l21 0, .bool false, vget l21 2, vget l21 3] s35)
            (pBin Try.prog 3 .add (vget l21 3) (.int .i64 1) (fun v36 => K22 .normal [vget l21 0, vget l21 1, vget l21 2, v36] s35))))))))))
          (pBin Try.prog 3 .add (vget l21 3) (.int .i64 1) (fun v37 => K22 .normal [vget l21 0, vget l21 1, vget l21 2, v37] s23)))))) (K22 (.exit 2) [vget l21 0, vget l21 1, vget l21 2, vget l21 3] s23))) →
        afterB ms j x = true → (∀ k : Value, R (.bool false) t → K .ret [v, .bool false, .int .i64 j, k] t) → (∀ k : Value, underB (ms.take j) x.1 = false → K (.exit 2) [v, .bool false, .int .i64 j, k] t) →
        pLoop B [v, .bool false, .int .i64 j, .int .i64 0] t K := by
      rintro K B rfl haf hret hex
      refine loop_rule (m := j) (fun m' l s => ∃ k, s = t ∧ m' + k = j ∧ underB (ms.take k) x.1 = false ∧ l = [v, .bool false, .int .i64 j, .int .i64 (k : Nat)]) ?_ ⟨0, rfl, by omega, rfl, rfl⟩
      rintro m' l s L' ⟨k, rfl, hm', hu', rfl⟩ hL'
      simp only [vget, List.getD_cons_zero, List.getD_cons_succ]
      rw [pBin_lt, pIf_d]
      refine ⟨fun hk => ?_, fun hk => ?_⟩
      · have hy := List.getElem?_eq_getElem (show k < ms.length by omega)
        generalize hyk : ms[k] = y at hy
        have hstep := underB_take (p := x.1) hy
        have nx : underB (ms.take (k + 1)) x.1 = false → L' [v, .bool false, .int .i64 j, .int .i64 ((k : Int) + 1)] s := fun hf => hL' _ _ (m' - 1) (by omega) ⟨k + 1, rfl, by omega, hf, rfl⟩
        refine RSl.fld h hy (by omega) fun g1 es hes he => ?_
        obtain ⟨u1, rfl, hu1'⟩ := hes
        simp at he
        rw [← he, pIf_b]
        refine ⟨fun hheld => ?_, fun hheld => ?_⟩
        · refine RSl.fld h hx (by omega) fun g2 es hes he => ?_
          obtain ⟨u2, rfl, hu2'⟩ := hes
          simp at he
          refine RSl.fld h hy (by omega) fun g3 es hes he' => ?_
          obtain ⟨u3, rfl, hu3'⟩ := hes
          simp at he'
          rw [← he, ← he']
          refine spec_Within hu2' hu3' ?_
          rw [pIf_b]
          refine ⟨fun hw => hret _ (bad ?_), fun hw => ?_⟩
          · have : underB (ms.take j) x.1 = true := under_hit (j := k) (x := y) (by rw [List.getElem?_take_of_lt (by omega)]; exact hy) hheld hw
            simp [goodAt, this]
          · rw [pBin_add (by omega)]
            exact nx (by rw [hstep, hu', hw]; simp)
        · rw [pBin_add (by omega)]
          exact nx (by rw [hstep, hu', hheld]; simp)
      · have : k = j := by omega
        subst this
        exact hex _ hu'
    refine ⟨fun hpos => ?_, fun h0 => ?_⟩
    · obtain ⟨i, rfl⟩ : ∃ i, j = i + 1 := ⟨j - 1, by omega⟩
      rw [pBin_sub (by omega)]
      have hy := List.getElem?_eq_getElem (show i < ms.length by omega)
      generalize hyi : ms[i] = y at hy
      rw [show ((i + 1 : Nat) : Int) - 1 = (i : Nat) by omega]
      refine RSl.fld h hy (by omega) fun g2 es hes he => ?_
      obtain ⟨u2, rfl, hu2⟩ := hes
      simp at he
      refine RSl.fld h hx (by omega) fun g3 es hes he3 => ?_
      obtain ⟨u3, rfl, hu3⟩ := hes
      simp at he3
      rw [← he, ← he3]
      have haf : afterB ms (i + 1) x = lexLt y.1 x.1 := by simp [afterB, hy]
      refine spec_Less hu2 hu3 ?_
      rw [pUn_not, pIf_b]
      refine ⟨fun hb => bad (by simp at hb; simp [goodAt, haf, hb]), fun hg => ?_⟩
      have hg' : afterB ms (i + 1) x = true := by rw [haf]; simpa using hg
      refine step rfl hg' (fun k hr => hr) (fun k hu => ?_)
      show pBin Try.prog 3 .add (.int .i64 ((i + 1 : Nat) : Int)) (.int .i64 1) _
      rw [pBin_add (by omega)]
      exact next hg' hu
    · have : j = 0 := by omega
      subst this
      refine step rfl rfl (fun k hr => hr) (fun k hu => ?_)
      show pBin Try.prog 3 .add (.int .i64 ((0 : Nat) : Int)) (.int .i64 1) _
      rw [pBin_add (by omega)]
      exact next rfl hu
  · have hj' : j = ms.length := by omega
    subst hj'
    show pLen v _
    rw [h.len, pBin_le]
    rw [trail_good fun i x he => ht i x (List.getElem?_eq_some_iff.1 he).1 he] at hR
    exact hR
end
end Go.Proofs.Ytkblkdnnncklgaa

/- The law 'TrailOk', of the functions alone. -/
set_option linter.unusedVariables false
set_option linter.unusedSimpArgs false
namespace Go.Proofs.Ytkblkdnnncklgaa
open Go Go.Av

section
variable {w0 : World} {σ : Vw}

theorem sumBy_mem {α : Type} {f : α → Nat} : ∀ {xs : List α} {x : α}, x ∈ xs → f x ≤ sumBy f xs
  | a :: r, x, h => by
    simp only [sumBy]
    rcases List.mem_cons.1 h with e | e
    · subst e; omega
    · have := sumBy_mem (f := f) e; omega

end
end Go.Proofs.Ytkblkdnnncklgaa

/- Trees: what is read of one; their size, their copy, their comparison. -/
set_option linter.unusedVariables false
set_option linter.unusedSimpArgs false
namespace Go.Proofs.Ytkblkdnnncklgaa
open Go Go.Av

inductive Tr where
  | mk (dir : Bool) (mode : Int) (text : ByteArray) (names : List ByteArray) (kids : List Tr)
noncomputable instance : DecidableEq Tr := fun _ _ => Classical.propDecidable _

/-- What is read: n bounds the depth. -/
def RT : Nat → (Addr → Option Value) → List Value → Tr → Prop
  | 0, _, _, _ => False
  | n + 1, rd, es, .mk d m t ns ks => ∃ u w, es = [.bool d, .int .i64 m, .string t, u, w] ∧ (-9223372036854775808 ≤ m ∧ m ≤ 9223372036854775807) ∧ t.size ≤ 9223372036854775807 ∧ RSl 1 RS rd u ns ∧ RSl 5 (RT n) rd w ks
def OT (w0 : World) : Nat → Vw → List Nat → List Value → Tr → Prop
  | 0, _, _, _, _ => False
  | n + 1, σ, F, es, .mk d m t ns ks => ∃ u w F1 F2, es = [.bool d, .int .i64 m, .string t, u, w] ∧ (-9223372036854775808 ≤ m ∧ m ≤ 9223372036854775807) ∧ t.size ≤ 9223372036854775807 ∧ OStrs w0 σ F1 u ns ∧ OSl w0 5 (OT w0 n) σ F2 w ks ∧ F = F1 ++ F2 ∧ F.Nodup
def szT : Nat → Tr → Nat
  | 0, _ => 0
  | n + 1, .mk d m t ns ks => t.size + (ns.length + sumS ns) + (ks.length + sumBy (szT n) ks)

theorem mono_rt : ∀ (n : Nat) (rd rd' : Addr → Option Value) (es : List Value) (x : Tr), Le rd rd' → RT n rd es x → RT n rd' es x
  | 0, _, _, _, _, _, h => h
  | n + 1, rd, rd', es, .mk d m t ns ks, hl, h => by
    obtain ⟨u, w, h1, h2, h3, h4, h5⟩ := h
    exact ⟨u, w, h1, h2, h3, h4.mono hl fun _ _ h => h, h5.mono hl fun es x => mono_rt n _ _ es x hl⟩

section
variable {w0 : World} {σ : Vw}

theorem ok_rt (w0 : World) : ∀ n, OOk w0 5 (RT n) (OT w0 n)
  | 0 => ⟨fun _ _ _ _ h => h.elim, fun _ _ _ _ _ h => h.elim, fun _ _ _ _ h => h.elim, fun _ _ _ _ h => h.elim, fun _ _ _ _ h => h.elim, fun _ _ _ _ h => h.elim⟩
  | n + 1 => by
    have ih := ok_rt w0 n
    refine ⟨?_, ?_, ?_, ?_, ?_, ?_⟩
    · rintro σ F es ⟨d, m, t, ns, ks⟩ ⟨u, w, F1, F2, h1, h2, h3, h4, h5, h6, h7⟩
      exact ⟨u, w, h1, h2, h3, h4.rel (ok_str w0), h5.rel ih⟩
    · rintro σ σ' F es ⟨d, m, t, ns, ks⟩ ⟨u, w, F1, F2, h1, h2, h3, h4, h5, h6, h7⟩ hF
      subst h6
      exact ⟨u, w, F1, F2, h1, h2, h3, h4.frame (ok_str w0) fun b hb => hF b (List.mem_append_left _ hb), h5.frame ih fun b hb => hF b (List.mem_append_right _ hb), rfl, h7⟩
    · rintro σ F es ⟨d, m, t, ns, ks⟩ ⟨u, w, F1, F2, h1, h2, h3, h4, h5, h6, h7⟩ b hb
      subst h6
      rcases List.mem_append.1 hb with h | h
      · exact h4.dom (ok_str w0) b h
      · exact h5.dom ih b h
    · rintro σ F es ⟨d, m, t, ns, ks⟩ ⟨u, w, F1, F2, h1, h2, h3, h4, h5, h6, h7⟩; exact h7
    · rintro σ F es ⟨d, m, t, ns, ks⟩ ⟨u, w, F1, F2, rfl, h2, h3, h4, h5, h6, h7⟩; rfl
    · rintro σ F es ⟨d, m, t, ns, ks⟩ ⟨u, w, F1, F2, rfl, h2, h3, h4, h5, h6, h7⟩ c hc
      simp at hc
      rcases hc with rfl | rfl | rfl | rfl | rfl
      · rfl
      · rfl
      · rfl
      · exact OSl.one' h4
      · exact OSl.one' h5

theorem pVal_5 {a b c d e : Value} {A : Prop} (h1 : a.oneCell' = true) (h2 : b.oneCell' = true) (h3 : c.oneCell' = true) (h4 : d.oneCell' = true) (h5 : e.oneCell' = true) : pVal true 5 (.agg ⟨[a, b, c, d, e]⟩) A ↔ A := pValN rfl (by simp [h1, h2, h3, h4, h5])

theorem szTree : ∀ (n : Nat) {es : List Value} {x : Tr} {m : Int} {R : Value → Vw → Prop}, RT n (Av.get w0 σ) es x → (0 ≤ m ∧ m ≤ 9223372036854775807) → R (.int .i64 (Av.left m (szT n x))) σ → AC Try.prog w0 n_laws_szTree [.agg ⟨es⟩, .int .i64 m] σ R
  | 0, _, _, _, _, h, _, _ => h.elim
  | n + 1, es, .mk d md t ns ks, m, R, h, hm, hR => by
    obtain ⟨u, w, rfl, h2, h3, h4, h5⟩ := h
    refine ac_laws_szTree ?_
    unfold vc_laws_szTree
    rw [pVal_5 rfl rfl rfl h4.one h5.one]
    show pLenS (.string t) _
    rw [pLenS_s, pBin_sub (by omega), pBin_lt, pIf_d]
    have low : m < (szT (n + 1) (.mk d md t ns ks) : Nat) → R (.int .i64 (-1)) σ := fun hlt => by rw [Av.left_low hlt] at hR; exact hR
    have hsz : szT (n + 1) (.mk d md t ns ks) = t.size + (ns.length + sumS ns) + (ks.length + sumBy (szT n) ks) := rfl
    refine ⟨fun hlt => low (by omega), fun hge => ?_⟩
    refine szStringS h4 (by omega) ?_
    rw [show left (m - (t.size : Int)) (ns.length + sumS ns) = Av.left (m - (t.size : Int)) (ns.length + sumS ns) from rfl, pBin_lt, pIf_d]
    refine ⟨fun hlt => low (by rw [Av.left_neg] at hlt; omega), fun hge2 => ?_⟩
    rw [Av.left_neg] at hge2
    rw [Av.left_in (by omega)]
    refine ac_laws_szTreeS ?_
    have e : ∀ (v : Value) (m : Int) (R : Value → Vw → Prop), vc_laws_szTreeS w0 v (.int .i64 m) σ R = VszS Try.prog w0 3 5 n_laws_szTree v (.int .i64 m) σ R := fun v m R => by kernel_rfl
    show vc_laws_szTreeS w0 w _ σ _
    rw [e]
    refine szS_gen (sz := szT n) (fun x _ es m R' h hm hR => szTree n h hm hR) h5 (by omega) ?_
    rw [pBin_lt, pIf_d]
    refine ⟨fun hlt => low (by rw [Av.left_neg] at hlt; omega), fun hge3 => ?_⟩
    rw [Av.left_neg] at hge3
    rw [Av.left_in (by omega)]
    rw [Av.left_in (by omega)] at hR
    rw [show m - (t.size : Int) - ((ns.length + sumS ns : Nat) : Int) - ((ks.length + sumBy (szT n) ks : Nat) : Int) = m - ((szT (n + 1) (.mk d md t ns ks) : Nat) : Int) by omega]
    exact hR
end
end Go.Proofs.Ytkblkdnnncklgaa

/- Trees: their copy, their comparison. -/
set_option linter.unusedVariables false
set_option linter.unusedSimpArgs false
namespace Go.Proofs.Ytkblkdnnncklgaa
open Go Go.Av

section
variable {w0 : World}

/-- No list in it is too long. -/
def fitT : Nat → Tr → Prop
  | 0, _ => True
  | n + 1, .mk d m t ns ks => ns.length ≤ 1000000000000 ∧ ks.length ≤ 1000000000000 ∧ ∀ k, k ∈ ks → fitT n k
theorem fit_of : ∀ (n : Nat) (x : Tr), szT n x ≤ 1000000000000 → fitT n x
  | 0, _, _ => trivial
  | n + 1, .mk d m t ns ks, h => by
    simp only [szT] at h
    refine ⟨by omega, by omega, fun k hk => fit_of n k ?_⟩
    have := sumBy_mem (f := szT n) hk
    omega

theorem toTree : ∀ (n : Nat) {σ : Vw} {es : List Value} {x : Tr} {R : Value → Vw → Prop}, RT n (Av.get w0 σ) es x → fitT n x → (∀ es' F σ', Keeps σ σ' → OT w0 n σ' F es' x → (∀ b, b ∈ F → σ b = none) → R (.agg ⟨es'⟩) σ') → AC Try.prog w0 n_laws_toTree [.agg ⟨es⟩] σ R
  | 0, _, _, _, _, h, _, _ => h.elim
  | n + 1, σ, es, .mk d md t ns ks, R, h, hf, hR => by
    obtain ⟨u, w, rfl, h2, h3, h4, h5⟩ := h
    obtain ⟨f1, f2, f3⟩ := hf
    refine ac_laws_toTree ?_
    unfold vc_laws_toTree
    rw [pVal_5 rfl rfl rfl h4.one h5.one]
    simp only [cellOf_agg, List.getD_cons_zero, List.getD_cons_succ]
    rw [pVal1 rfl, pVal1 rfl, pVal1 rfl]
    refine toStringS' h4 f1 fun u' F1 s1 k1 o1 n1 => ?_
    rw [pVal1 (OSl.one' o1)]
    refine ac_laws_toTreeS ?_
    have e : ∀ (v : Value) (s : Vw) (R : Value → Vw → Prop), vc_laws_toTreeS w0 v s R = VtoS Try.prog w0 3 t_impl_Tree 5 80 n_laws_toTree [.bool false, .int .i64 0, .string ⟨#[]⟩, .slice none 0 0, .slice none 0 0] v s R := fun v s R => by kernel_rfl
    rw [e]
    refine toS_gen (n := 5) (Rel := RT n) (bytes := 80) rfl (ok_rt w0 n) (fun _ _ _ _ hl h => mono_rt n _ _ _ _ hl h) (fun x hx s es R' _ h hR => toTree n h (f3 x hx) hR) (h5.mono k1.le fun es x => mono_rt n _ _ es x k1.le) (by omega) fun w' F2 s2 k2 o2 n2 => ?_
    rw [pVal1 (OSl.one' o2), pVal_5 rfl rfl rfl (OSl.one' o1) (OSl.one' o2)]
    have o1' := o1.frame (ok_str w0) (σ' := s2) fun b hb => by
      cases hs : s1 b with
      | none => exact absurd hs (o1.dom (ok_str w0) b hb).2
      | some r => exact k2 b r hs
    refine hR _ (F1 ++ F2) s2 (k1.trans k2) ⟨u', w', F1, F2, rfl, h2, h3, o1', o2, rfl, ?_⟩ fun b hb => ?_
    · refine List.nodup_append.2 ⟨o1.2.1, o2.2.1, fun a ha b hb hab => ?_⟩
      subst hab
      exact (o1.dom (ok_str w0) a ha).2 (n2 a hb)
    · rcases List.mem_append.1 hb with h | h
      · exact n1 b h
      · have := n2 b h
        cases hs : σ b with
        | none => rfl
        | some r => rw [k1 b r hs] at this; cases this

theorem eqTree : ∀ (n : Nat) {σ : Vw} {es es' : List Value} {x y : Tr} {R : Value → Vw → Prop}, RT n (Av.get w0 σ) es x → RT n (Av.get w0 σ) es' y → R (.bool (decide (x = y))) σ → AC Try.prog w0 n_laws_eqTree [.agg ⟨es⟩, .agg ⟨es'⟩] σ R
  | 0, _, _, _, _, _, _, h, _, _ => h.elim
  | n + 1, σ, es, es', .mk d md t ns ks, .mk d' md' t' ns' ks', R, h, h', hR => by
    obtain ⟨u, w, rfl, h2, h3, h4, h5⟩ := h
    obtain ⟨u', w', rfl, h2', h3', h4', h5'⟩ := h'
    refine ac_laws_eqTree ?_
    unfold vc_laws_eqTree
    rw [pVal_5 rfl rfl rfl h4.one h5.one, pVal_5 rfl rfl rfl h4'.one h5'.one]
    simp only [cellOf_agg, List.getD_cons_zero, List.getD_cons_succ]
    have no : ¬ (d = d' ∧ md = md' ∧ t = t' ∧ ns = ns' ∧ ks = ks') → R (.bool false) σ := fun hn => by
      have : ¬ (Tr.mk d md t ns ks = Tr.mk d' md' t' ns' ks') := fun e => hn (by cases e; exact ⟨rfl, rfl, rfl, rfl, rfl⟩)
      simpa [this] using hR
    have eb : ∀ K : Value → Prop, pBin Try.prog 4 .neq (.bool d) (.bool d') K ↔ K (.bool !(d == d')) := fun K => pBin_b (by kernel_rfl) rfl
    rw [eb, pIf_b]
    refine ⟨fun h => no fun hh => by simp [hh.1] at h, fun e1 => ?_⟩
    rw [pBin_ne, pIf_d]
    refine ⟨fun h => no fun hh => h hh.2.1, fun e2 => ?_⟩
    rw [pBin_sne, pIf_d]
    refine ⟨fun h => no fun hh => h hh.2.2.1, fun e3 => ?_⟩
    refine eqStringS h4 h4' ?_
    rw [pUn_not, pIf_b]
    refine ⟨fun h => no fun hh => by simp [hh.2.2.2.1] at h, fun e4 => ?_⟩
    refine ac_laws_eqTreeS ?_
    have e : ∀ (v v' : Value) (R : Value → Vw → Prop), vc_laws_eqTreeS w0 v v' σ R = VeqS Try.prog w0 3 5 n_laws_eqTree v v' σ R := fun v v' R => by kernel_rfl
    rw [e]
    refine eqS_gen (fun x _ y es es' R' h h' hR => eqTree n h h' hR) h5 h5' ?_
    rw [pUn_not, pIf_b]
    refine ⟨fun h => no fun hh => by simp [hh.2.2.2.2] at h, fun e5 => ?_⟩
    have : Tr.mk d md t ns ks = Tr.mk d' md' t' ns' ks' := by
      simp at e1 e2 e3 e4 e5
      rw [e1, e2, e3, e4, e5]
    simpa [this] using hR
end
end Go.Proofs.Ytkblkdnnncklgaa

/- Trees: when one is sound. -/
set_option linter.unusedVariables false
set_option linter.unusedSimpArgs false
namespace Go.Proofs.Ytkblkdnnncklgaa
open Go Go.Av

def prevLt (ns : List ByteArray) (j : Nat) (x : ByteArray) : Bool :=
  match j with
  | 0 => true
  | i + 1 => match ns[i]? with
    | some y => strLt y x
    | none => true
noncomputable def nameAt (ns : List ByteArray) (j : Nat) (x : ByteArray) : Bool := nameOk x && prevLt ns j x
def namesP (ns : List ByteArray) : Prop := ∀ (j : Nat) (x : ByteArray), ns[j]? = some x → nameAt ns j x = true
open Classical in
noncomputable def plainB : Tr → Bool
  | .mk d m t ns ks => inB m 0 7 && (decide (ns.length = ks.length) && (if d = true then decide (namesP ns) && decide (t = ⟨#[]⟩) else decide (t.size ≤ 24) && decide (ns.length = 0)))
def allB {α : Type} (p : α → Bool) : List α → Bool
  | [] => true
  | a :: r => p a && allB p r
theorem allB_iff {α : Type} {p : α → Bool} {xs : List α} : allB p xs = true ↔ ∀ (j : Nat) (x : α), xs[j]? = some x → p x = true := by
  induction xs with
  | nil => simp [allB]
  | cons a r ih =>
    simp only [allB, Bool.and_eq_true, ih]
    constructor
    · rintro ⟨h1, h2⟩ j x hj
      cases j with
      | zero => simp at hj; subst hj; exact h1
      | succ j => exact h2 j x (by simpa using hj)
    · intro h
      exact ⟨h 0 a rfl, fun j x hj => h (j + 1) x (by simpa using hj)⟩
theorem allB_bad {α : Type} {p : α → Bool} {xs : List α} {j : Nat} {x : α} (hj : xs[j]? = some x) (h : p x = false) : allB p xs = false := by
  cases hc : allB p xs with
  | false => rfl
  | true => have := allB_iff.1 hc j x hj; rw [h] at this; cases this
noncomputable def soundB : Nat → Tr → Int → Bool
  | 0, _, _ => false
  | n + 1, .mk d m t ns ks, k => plainB (.mk d m t ns ks) && (decide (k ≤ 4) && allB (fun x => soundB n x (k + 1)) ks)

section
variable {w0 : World} {σ : Vw}

theorem pBin_sge {P : Program} {T : Nat} {a b : ByteArray} {K : Value → Prop} : pBin P T .geq (.string a) (.string b) K ↔ K (.bool (!strLt a b)) := pBin_s rfl

theorem spec_Plain {n : Nat} {es : List Value} {x : Tr} {R : Value → Vw → Prop} (h : RT n (Av.get w0 σ) es x) (hR : R (.bool (plainB x)) σ) : AC Try.prog w0 n_spec_l1Plain [.agg ⟨es⟩] σ R := by
  obtain _ | n := n
  · exact h.elim
  obtain ⟨d, m, t, ns, ks⟩ := x
  obtain ⟨u, w, rfl, h2, h3, h4, h5⟩ := h
  refine ac_spec_l1Plain ?_
  unfold vc_spec_l1Plain
  have hl := h4.le
  rw [pVal_5 rfl rfl rfl h4.one h5.one]
  simp only [cellOf_agg, List.getD_cons_zero, List.getD_cons_succ]
  refine spec_In ?_
  rw [pUn_not, pIf_b]
  refine ⟨fun hb => ?_, fun hm => ?_⟩
  · have : plainB (.mk d m t ns ks) = false := by simp at hb; simp [plainB, hb]
    rw [this] at hR; exact hR
  have hm' : inB m 0 7 = true := by simpa using hm
  rw [h4.len, h5.len, pBin_ne, pIf_d]
  refine ⟨fun hne => ?_, fun heq => ?_⟩
  · have : plainB (.mk d m t ns ks) = false := by
      have : ¬ ns.length = ks.length := by omega
      simp [plainB, this]
    rw [this] at hR; exact hR
  have heq' : ns.length = ks.length := by omega
  rw [pUn_not, pIf_b]
  refine ⟨fun hd => ?_, fun hd => ?_⟩
  · have hd' : d = false := by simpa using hd
    subst hd'
    have hp : plainB (.mk false m t ns ks) = (decide (t.size ≤ 24) && decide (ns.length = 0)) := by simp [plainB, hm', heq']
    rw [hp] at hR
    rw [pLenS_s, pBin_le, pIf_d]
    refine ⟨fun ht => ?_, fun ht => ?_⟩
    · rw [h4.len, pBin_eq]
      have e1 : decide (t.size ≤ 24) = true := by simp; omega
      have e2 : decide (ns.length = 0) = decide ((ns.length : Int) = 0) := by congr 1; apply propext; omega
      rw [e1, e2] at hR; exact hR
    · have e1 : decide (t.size ≤ 24) = false := by simp; omega
      rw [e1] at hR; exact hR
  · have hd' : d = true := by simpa using hd
    subst hd'
    have hp : ∀ b, b = plainB (.mk true m t ns ks) → R (.bool b) σ := fun b e => e ▸ hR
    refine loop_rule (m := ns.length) (fun k l s => ∃ j, s = σ ∧ k + j = ns.length ∧ (∀ (i : Nat) (x : ByteArray), i < j → ns[i]? = some x → nameAt ns i x = true) ∧ l = [.bool false, .int .i64 (j : Nat), .bool true, .int .i64 m, .string t, u, w]) ?_ ⟨0, rfl, by omega, fun i x h => by omega, rfl⟩
    rintro k l s L ⟨j, rfl, hk, ht, rfl⟩ hL
    simp only [vget, List.getD_cons_zero, List.getD_cons_succ]
    rw [h4.len, pBin_lt, pIf_d]
    refine ⟨fun hj => ?_, fun hj => ?_⟩
    · have hx := List.getElem?_eq_getElem (show j < ns.length by omega)
      generalize hxj : ns[j] = x at hx
      have bad : nameAt ns j x = false → R (.bool false) s := fun hb => hp false (by
        have : ¬ namesP ns := fun hh => by rw [hh j x hx] at hb; cases hb
        simp [plainB, this])
      have next : nameAt ns j x = true → L [.bool false, .int .i64 ((j : Int) + 1), .bool true, .int .i64 m, .string t, u, w] s := fun hg => hL _ _ (k - 1) (by omega) ⟨j + 1, rfl, by omega, fun i y hi he => by
        by_cases e : i = j
        · subst e; rw [hx] at he; cases he; exact hg
        · exact ht i y (by omega) he, rfl⟩
      refine RSl.at1 h4 hx fun g hg hs => ?_
      rw [hg]
      refine spec_nameOk hs ?_
      rw [pUn_not, pIf_b]
      refine ⟨fun hb => bad (by simp at hb; simp [nameAt, hb]), fun hg => ?_⟩
      have hg' : nameOk x = true := by simpa using hg
      rw [pBin_gt, pIf_d]
      refine ⟨fun hpos => ?_, fun h0 => ?_⟩
      · obtain ⟨i, rfl⟩ : ∃ i, j = i + 1 := ⟨j - 1, by omega⟩
        rw [pBin_sub (by omega)]
        have hy := List.getElem?_eq_getElem (show i < ns.length by omega)
        generalize hyi : ns[i] = y at hy
        rw [show ((i + 1 : Nat) : Int) - 1 = (i : Nat) by omega]
        refine RSl.at1 h4 hy fun g2 hg2 hs2 => ?_
        refine RSl.at1 h4 hx fun g3 hg3 hs3 => ?_
        have hpl : prevLt ns (i + 1) x = strLt y x := by simp [prevLt, hy]
        rw [hg2, hg3, pBin_sge, pIf_b]
        refine ⟨fun hb => bad (by simp at hb; simp [nameAt, hpl, hb]), fun hb => ?_⟩
        rw [pBin_add (by omega)]
        exact next (by simp at hb; simp [nameAt, hg', hpl, hb])
      · have : j = 0 := by omega
        subst this
        rw [pBin_add (by omega)]
        exact next (by simp [nameAt, hg', prevLt])
    · have hj' : j = ns.length := by omega
      subst hj'
      show pBin Try.prog 9 .eql (.string t) (.string ⟨#[]⟩) _
      rw [pBin_seq]
      refine hp _ ?_
      have : namesP ns := fun i x he => ht i x (List.getElem?_eq_some_iff.1 he).1 he
      simp [plainB, hm', heq', this]
end
end Go.Proofs.Ytkblkdnnncklgaa

/- Trees: sound by either reading. -/
set_option linter.unusedVariables false
set_option linter.unusedSimpArgs false
namespace Go.Proofs.Ytkblkdnnncklgaa
open Go Go.Av

section
variable {w0 : World}

theorem spec_Parts : ∀ (n : Nat) {σ : Vw} {es : List Value} {x : Tr} {k : Int} {R : Value → Vw → Prop}, RT n (Av.get w0 σ) es x → (0 ≤ k ∧ k ≤ 5) → R (.bool (soundB n x k)) σ → AC Try.prog w0 n_spec_l1Parts [.agg ⟨es⟩, .int .i64 k] σ R
  | 0, _, _, _, _, _, h, _, _ => h.elim
  | n + 1, σ, es, .mk d m t ns ks, k, R, h, hk, hR => by
    have h0 := h
    obtain ⟨u, w, rfl, h2, h3, h4, h5⟩ := h
    refine ac_spec_l1Parts ?_
    unfold vc_spec_l1Parts
    have hl := h5.le
    rw [pVal_5 rfl rfl rfl h4.one h5.one]
    simp only [cellOf_agg, List.getD_cons_zero, List.getD_cons_succ]
    refine spec_Plain h0 ?_
    rw [pUn_not, pIf_b]
    refine ⟨fun hb => ?_, fun hg => ?_⟩
    · have : soundB (n + 1) (.mk d m t ns ks) k = false := by simp at hb; simp [soundB, hb]
      rw [this] at hR; exact hR
    have hg' : plainB (.mk d m t ns ks) = true := by simpa using hg
    rw [pBin_gt, pIf_d]
    refine ⟨fun hb => ?_, fun hle => ?_⟩
    · have : soundB (n + 1) (.mk d m t ns ks) k = false := by
        have : ¬ k ≤ 4 := by omega
        simp [soundB, this]
      rw [this] at hR; exact hR
    have hle' : k ≤ 4 := by omega
    have hs : soundB (n + 1) (.mk d m t ns ks) k = allB (fun x => soundB n x (k + 1)) ks := by simp [soundB, hg', hle']
    rw [hs] at hR
    refine loop_rule (m := ks.length) (fun c l s => ∃ j, s = σ ∧ c + j = ks.length ∧ (∀ (i : Nat) (x : Tr), i < j → ks[i]? = some x → soundB n x (k + 1) = true) ∧ l = [.int .i64 k, .bool false, .int .i64 (j : Nat), .bool d, .int .i64 m, .string t, u, w]) ?_ ⟨0, rfl, by omega, fun i x h => by omega, rfl⟩
    rintro c l s L ⟨j, rfl, hc, ht, rfl⟩ hL
    simp only [vget, List.getD_cons_zero, List.getD_cons_succ]
    rw [h5.len, pBin_lt, pIf_d]
    refine ⟨fun hj => ?_, fun hj => ?_⟩
    · have hx := List.getElem?_eq_getElem (show j < ks.length by omega)
      generalize hxj : ks[j] = x at hx
      refine h5.at hx fun g hg => ?_
      rw [pBin_add (by omega)]
      refine spec_Parts n (x := x) hg (by omega) ?_
      rw [pUn_not, pIf_b]
      refine ⟨fun hb => ?_, fun hb => ?_⟩
      · rw [allB_bad hx (by simpa using hb)] at hR; exact hR
      · rw [pBin_add (by omega)]
        refine hL _ _ (c - 1) (by omega) ⟨j + 1, rfl, by omega, fun i y hi he => ?_, rfl⟩
        by_cases e : i = j
        · subst e; rw [hx] at he; cases he; simpa using hb
        · exact ht i y (by omega) he
    · have hj' : j = ks.length := by omega
      subst hj'
      rw [allB_iff.2 fun i x he => ht i x (List.getElem?_eq_some_iff.1 he).1 he] at hR
      exact hR
end
end Go.Proofs.Ytkblkdnnncklgaa
