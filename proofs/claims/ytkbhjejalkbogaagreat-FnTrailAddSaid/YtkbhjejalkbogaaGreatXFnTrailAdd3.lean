/- The law FnTrailAdd holds: it returns true, and the input reads as it did. No condition. This is part 3 of 5 of its proof. -/
import Derived.Test.YtkbhjejalkbogaaGreatXFnTrailAdd2

/- What each function owes, reckoned out, part 4. MADE BY PROGRAM (emit.py). -/
set_option linter.unusedVariables false
namespace Go.Proofs.YtkbhjejalkbogaaGreat
open Go.Av renaming vget → G, cellOf → C, pVal → V, pBin → B, pIndexAddr → X, pLoad → L, pField → F, pIf → Q, pExtract → E, pAppend → A, pLen → N, pNew → W
open Go.Proofs.Tryz renaming prog → P
open Go Go.Av

/-- spec.l4Call -/
def kp_spec_l4Call : Nat → Keep
  | 1 => ⟨[], [], [], .step 0 (.step 3 (.step 4 (.step 7 (.step 1 (.step 2 (.step 5 (.step 6 (.step 8 (.done))))))))), [(1, [0]), (2, [0, 1]), (5, [0, 1, 3, 4]), (6, [0, 1, 2, 3, 4, 5]), (8, [0, 1, 2, 3, 4, 5, 6, 7])]⟩
  | _ => ⟨[], [], [], .done, []⟩
def esc_spec_l4Call : Nat → Bool
  | 45 => true
  | 63 => true
  | 71 => true
  | 75 => true
  | 80 => true
  | 87 => true
  | _ => false
def vc_spec_l4Call (w0 : World) (a0 a1 : Value) (σ : Vw) (R : Value → Vw → Prop) : Prop :=
  V true 5 a1 (AC P w0 n_p_spec_l1Rd_pick [a0, .int .i64 6] σ fun v0 s1 => B P 3 .add (.int .i64 1) v0 fun v2 => AC P w0 n_spec_l4Path ([a0, .agg (⟨[C a1 0, C a1 1, C a1 2, C a1 3, C a1 4]⟩)]) s1 fun v3 s4 => V false 1 v2 (V false 1 v3 (V true 5 (.agg (⟨[v2, v3, .slice none 0 0, .int .i64 0, .string ({ data := #[] })]⟩)) (B P 3 .eql v2 (.int .i64 1) fun v5 => Q v5 (Q v5 (AC P w0 n_p_spec_l1Rd_pick [a0, .int .i64 8] s4 fun v6 s7 => V false 1 v6 (AC P w0 n_p_spec_l1Rd_pick [a0, .int .i64 40] s7 fun v8 s9 => B P 3 .eql v8 (.int .i64 0) fun v10 => Q v10 (V false 1 (.int .i64 0) (V false 1 (.int .i64 7) (V false 1 (.int .i64 (-1)) (W w0 3 [.int .i64 0, .int .i64 7, .int .i64 (-1)] s9 fun n11 s12 => AC P w0 n_p_spec_l1Rd_pick [a0, .int .i64 3] s12 fun v13 s14 => X 1 (.slice (some (Addr.mk n11 0 none)) 3 3) v13 fun v15 => L w0 1 v15 s14 fun g16 => V false 1 (g16 0) (V true 5 (.agg (⟨[g16 0, v3, .slice none 0 0, v6, .string ({ data := #[] })]⟩)) (R (.agg (⟨[g16 0, v3, .slice none 0 0, v6, .string ({ data := #[] })]⟩)) s14)))))) (B P 3 .eql v8 (.int .i64 1) fun v17 => Q v17 (W w0 9 [] s9 fun n18 s19 => V false 1 (.slice (some (Addr.mk n18 0 none)) 0 0) (V true 5 (.agg (⟨[v2, .slice (some (Addr.mk n18 0 none)) 0 0, .slice none 0 0, v6, .string ({ data := #[] })]⟩)) (R (.agg (⟨[v2, .slice (some (Addr.mk n18 0 none)) 0 0, .slice none 0 0, v6, .string ({ data := #[] })]⟩)) s19))) (B P 3 .eql v8 (.int .i64 2) fun v20 => Q v20 (W w0 9 [] s9 fun n21 s22 => pAppendS w0 9 1 16 (.slice (some (Addr.mk n21 0 none)) 0 0) v3 s22 fun v23 s24 => V false 1 (.string ({ data := #[] })) (V false 1 (.string ({ data := #[65] })) (V false 1 (.string ({ data := #[116, 111, 111, 108, 111, 110, 103] })) (V false 1 (.string ({ data := #[120] })) (V false 1 (.string ({ data := #[121] })) (W w0 9 ([.string ({ data := #[] }), .string ({ data := #[65] }), .string ({ data := #[116, 111, 111, 108, 111, 110, 103] }), .string ({ data := #[120] }), .string ({ data := #[121] })]) s24 fun n25 s26 => AC P w0 n_p_spec_l1Rd_of [a0, .slice (some (Addr.mk n25 0 none)) 5 5] s26 fun v27 s28 => V false 1 v27 ((allOne [v27]) ∧ (A w0 9 1 16 v23 1 [v27] s28 fun v29 s30 => V false 1 v29 (V true 5 (.agg (⟨[v2, v29, .slice none 0 0, v6, .string ({ data := #[] })]⟩)) (R (.agg (⟨[v2, v29, .slice none 0 0, v6, .string ({ data := #[] })]⟩)) s30)))))))))) (B P 3 .eql v8 (.int .i64 3) fun v31 => Q v31 (V false 1 (.int .i64 (-1)) (V false 1 (.int .i64 8) (V false 1 (.int .i64 24) (V false 1 (.int .i64 25) (W w0 3 [.int .i64 (-1), .int .i64 8, .int .i64 24, .int .i64 25] s9 fun n32 s33 => AC P w0 n_p_spec_l1Rd_pick [a0, .int .i64 4] s33 fun v34 s35 => X 1 (.slice (some (Addr.mk n32 0 none)) 4 4) v34 fun v36 => L w0 1 v36 s35 fun g37 => V false 1 (g37 0) (V true 5 (.agg (⟨[v2, v3, .slice none 0 0, g37 0, .string ({ data := #[] })]⟩)) (R (.agg (⟨[v2, v3, .slice none 0 0, g37 0, .string ({ data := #[] })]⟩)) s35))))))) (B P 3 .eql v8 (.int .i64 4) fun v38 => Q v38 (AC P w0 n_p_spec_l1Rd_pick [a0, .int .i64 2] s9 fun v39 s40 => B P 3 .add (.int .i64 24) v39 fun v41 => AC P w0 n_spec_l1Many ([.string ({ data := #[113] }), v41]) s40 fun v42 s43 => V false 1 v42 (V true 5 (.agg (⟨[v2, v3, .slice none 0 0, v6, v42]⟩)) (R (.agg (⟨[v2, v3, .slice none 0 0, v6, v42]⟩)) s43))) (V true 5 (.agg (⟨[v2, v3, .slice none 0 0, v6, .string ({ data := #[] })]⟩)) (R (.agg (⟨[v2, v3, .slice none 0 0, v6, .string ({ data := #[] })]⟩)) s9)))))))) (B P 3 .eql v2 (.int .i64 2) fun v44 => Q v44 (Q v44 (AC P w0 n_p_spec_l1Rd_pick [a0, .int .i64 4] s4 fun v45 s46 => AC P w0 n_p_spec_l1Rd_pick [a0, .int .i64 4] s46 fun v47 s48 => B P 3 .mul v45 v47 fun v49 => V false 1 v49 (B P 3 .eql v2 (.int .i64 2) fun v50 => Q v50 (AC P w0 n_spec_l4Data [a0] s48 fun v51 s52 => V false 1 v51 (AC P w0 n_p_spec_l1Rd_pick [a0, .int .i64 40] s52 fun v53 s54 => B P 3 .eql v53 (.int .i64 0) fun v55 => Q v55 (V false 1 (.int .i64 0) (V false 1 (.int .i64 7) (V false 1 (.int .i64 (-1)) (W w0 3 [.int .i64 0, .int .i64 7, .int .i64 (-1)] s54 fun n56 s57 => AC P w0 n_p_spec_l1Rd_pick [a0, .int .i64 3] s57 fun v58 s59 => X 1 (.slice (some (Addr.mk n56 0 none)) 3 3) v58 fun v60 => L w0 1 v60 s59 fun g61 => V false 1 (g61 0) (V true 5 (.agg (⟨[g61 0, v3, .slice none 0 0, v49, v51]⟩)) (R (.agg (⟨[g61 0, v3, .slice none 0 0, v49, v51]⟩)) s59)))))) (B P 3 .eql v53 (.int .i64 1) fun v62 => Q v62 (W w0 9 [] s54 fun n63 s64 => V false 1 (.slice (some (Addr.mk n63 0 none)) 0 0) (V true 5 (.agg (⟨[v2, .slice (some (Addr.mk n63 0 none)) 0 0, .slice none 0 0, v49, v51]⟩)) (R (.agg (⟨[v2, .slice (some (Addr.mk n63 0 none)) 0 0, .slice none 0 0, v49, v51]⟩)) s64))) (B P 3 .eql v53 (.int .i64 2) fun v65 => Q v65 (W w0 9 [] s54 fun n66 s67 => pAppendS w0 9 1 16 (.slice (some (Addr.mk n66 0 none)) 0 0) v3 s67 fun v68 s69 => V false 1 (.string ({ data := #[] })) (V false 1 (.string ({ data := #[65] })) (V false 1 (.string ({ data := #[116, 111, 111, 108, 111, 110, 103] })) (V false 1 (.string ({ data := #[120] })) (V false 1 (.string ({ data := #[121] })) (W w0 9 ([.string ({ data := #[] }), .string ({ data := #[65] }), .string ({ data := #[116, 111, 111, 108, 111, 110, 103] }), .string ({ data := #[120] }), .string ({ data := #[121] })]) s69 fun n70 s71 => AC P w0 n_p_spec_l1Rd_of [a0, .slice (some (Addr.mk n70 0 none)) 5 5] s71 fun v72 s73 => V false 1 v72 ((allOne [v72]) ∧ (A w0 9 1 16 v68 1 [v72] s73 fun v74 s75 => V false 1 v74 (V true 5 (.agg (⟨[v2, v74, .slice none 0 0, v49, v51]⟩)) (R (.agg (⟨[v2, v74, .slice none 0 0, v49, v51]⟩)) s75)))))))))) (B P 3 .eql v53 (.int .i64 3) fun v76 => Q v76 (V false 1 (.int .i64 (-1)) (V false 1 (.int .i64 8) (V false 1 (.int .i64 24) (V false 1 (.int .i64 25) (W w0 3 [.int .i64 (-1), .int .i64 8, .int .i64 24, .int .i64 25] s54 fun n77 s78 => AC P w0 n_p_spec_l1Rd_pick [a0, .int .i64 4] s78 fun v79 s80 => X 1 (.slice (some (Addr.mk n77 0 none)) 4 4) v79 fun v81 => L w0 1 v81 s80 fun g82 => V false 1 (g82 0) (V true 5 (.agg (⟨[v2, v3, .slice none 0 0, g82 0, v51]⟩)) (R (.agg (⟨[v2, v3, .slice none 0 0, g82 0, v51]⟩)) s80))))))) (B P 3 .eql v53 (.int .i64 4) fun v83 => Q v83 (AC P w0 n_p_spec_l1Rd_pick [a0, .int .i64 2] s54 fun v84 s85 => B P 3 .add (.int .i64 24) v84 fun v86 => AC P w0 n_spec_l1Many ([.string ({ data := #[113] }), v86]) s85 fun v87 s88 => V false 1 v87 (V true 5 (.agg (⟨[v2, v3, .slice none 0 0, v49, v87]⟩)) (R (.agg (⟨[v2, v3, .slice none 0 0, v49, v87]⟩)) s88))) (V true 5 (.agg (⟨[v2, v3, .slice none 0 0, v49, v51]⟩)) (R (.agg (⟨[v2, v3, .slice none 0 0, v49, v51]⟩)) s54)))))))) (AC P w0 n_p_spec_l1Rd_pick [a0, .int .i64 40] s48 fun v89 s90 => B P 3 .eql v89 (.int .i64 0) fun v91 => Q v91 (V false 1 (.int .i64 0) (V false 1 (.int .i64 7) (V false 1 (.int .i64 (-1)) (W w0 3 [.int .i64 0, .int .i64 7, .int .i64 (-1)] s90 fun n92 s93 => AC P w0 n_p_spec_l1Rd_pick [a0, .int .i64 3] s93 fun v94 s95 => X 1 (.slice (some (Addr.mk n92 0 none)) 3 3) v94 fun v96 => L w0 1 v96 s95 fun g97 => V false 1 (g97 0) (V true 5 (.agg (⟨[g97 0, v3, .slice none 0 0, v49, .string ({ data := #[] })]⟩)) (R (.agg (⟨[g97 0, v3, .slice none 0 0, v49, .string ({ data := #[] })]⟩)) s95)))))) (B P 3 .eql v89 (.int .i64 1) fun v98 => Q v98 (W w0 9 [] s90 fun n99 s100 => V false 1 (.slice (some (Addr.mk n99 0 none)) 0 0) (V true 5 (.agg (⟨[v2, .slice (some (Addr.mk n99 0 none)) 0 0, .slice none 0 0, v49, .string ({ data := #[] })]⟩)) (R (.agg (⟨[v2, .slice (some (Addr.mk n99 0 none)) 0 0, .slice none 0 0, v49, .string ({ data := #[] })]⟩)) s100))) (B P 3 .eql v89 (.int .i64 2) fun v101 => Q v101 (W w0 9 [] s90 fun n102 s103 => pAppendS w0 9 1 16 (.slice (some (Addr.mk n102 0 none)) 0 0) v3 s103 fun v104 s105 => V false 1 (.string ({ data := #[] })) (V false 1 (.string ({ data := #[65] })) (V false 1 (.string ({ data := #[116, 111, 111, 108, 111, 110, 103] })) (V false 1 (.string ({ data := #[120] })) (V false 1 (.string ({ data := #[121] })) (W w0 9 ([.string ({ data := #[] }), .string ({ data := #[65] }), .string ({ data := #[116, 111, 111, 108, 111, 110, 103] }), .string ({ data := #[120] }), .string ({ data := #[121] })]) s105 fun n106 s107 => AC P w0 n_p_spec_l1Rd_of [a0, .slice (some (Addr.mk n106 0 none)) 5 5] s107 fun v108 s109 => V false 1 v108 ((allOne [v108]) ∧ (A w0 9 1 16 v104 1 [v108] s109 fun v110 s111 => V false 1 v110 (V true 5 (.agg (⟨[v2, v110, .slice none 0 0, v49, .string ({ data := #[] })]⟩)) (R (.agg (⟨[v2, v110, .slice none 0 0, v49, .string ({ data := #[] })]⟩)) s111)))))))))) (B P 3 .eql v89 (.int .i64 3) fun v112 => Q v112 (V false 1 (.int .i64 (-1)) (V false 1 (.int .i64 8) (V false 1 (.int .i64 24) (V false 1 (.int .i64 25) (W w0 3 [.int .i64 (-1), .int .i64 8, .int .i64 24, .int .i64 25] s90 fun n113 s114 => AC P w0 n_p_spec_l1Rd_pick [a0, .int .i64 4] s114 fun v115 s116 => X 1 (.slice (some (Addr.mk n113 0 none)) 4 4) v115 fun v117 => L w0 1 v117 s116 fun g118 => V false 1 (g118 0) (V true 5 (.agg (⟨[v2, v3, .slice none 0 0, g118 0, .string ({ data := #[] })]⟩)) (R (.agg (⟨[v2, v3, .slice none 0 0, g118 0, .string ({ data := #[] })]⟩)) s116))))))) (B P 3 .eql v89 (.int .i64 4) fun v119 => Q v119 (AC P w0 n_p_spec_l1Rd_pick [a0, .int .i64 2] s90 fun v120 s121 => B P 3 .add (.int .i64 24) v120 fun v122 => AC P w0 n_spec_l1Many ([.string ({ data := #[113] }), v122]) s121 fun v123 s124 => V false 1 v123 (V true 5 (.agg (⟨[v2, v3, .slice none 0 0, v49, v123]⟩)) (R (.agg (⟨[v2, v3, .slice none 0 0, v49, v123]⟩)) s124))) (V true 5 (.agg (⟨[v2, v3, .slice none 0 0, v49, .string ({ data := #[] })]⟩)) (R (.agg (⟨[v2, v3, .slice none 0 0, v49, .string ({ data := #[] })]⟩)) s90))))))))) (B P 3 .eql v2 (.int .i64 5) fun v125 => Q v125 (AC P w0 n_spec_l4Path ([a0, .agg (⟨[C a1 0, C a1 1, C a1 2, C a1 3, C a1 4]⟩)]) s4 fun v126 s127 => V false 1 v126 (AC P w0 n_p_spec_l1Rd_pick [a0, .int .i64 2] s127 fun v128 s129 => B P 3 .eql v128 (.int .i64 0) fun v130 => Q v130 (W w0 9 [] s129 fun n131 s132 => N v126 fun v133 => B P 3 .sub v133 (.int .i64 1) fun v134 => pSlice 1 v126 none (some v134) fun v135 => pAppendS w0 9 1 16 (.slice (some (Addr.mk n131 0 none)) 0 0) v135 s132 fun v136 s137 => AC P w0 n_spec_l4Name [a0] s137 fun v138 s139 => V false 1 v138 ((allOne [v138]) ∧ (A w0 9 1 16 v136 1 [v138] s139 fun v140 s141 => V false 1 v140 (AC P w0 n_p_spec_l1Rd_pick [a0, .int .i64 40] s141 fun v142 s143 => B P 3 .eql v142 (.int .i64 0) fun v144 => Q v144 (V false 1 (.int .i64 0) (V false 1 (.int .i64 7) (V false 1 (.int .i64 (-1)) (W w0 3 [.int .i64 0, .int .i64 7, .int .i64 (-1)] s143 fun n145 s146 => AC P w0 n_p_spec_l1Rd_pick [a0, .int .i64 3] s146 fun v147 s148 => X 1 (.slice (some (Addr.mk n145 0 none)) 3 3) v147 fun v149 => L w0 1 v149 s148 fun g150 => V false 1 (g150 0) (V true 5 (.agg (⟨[g150 0, v3, v140, .int .i64 0, .string ({ data := #[] })]⟩)) (R (.agg (⟨[g150 0, v3, v140, .int .i64 0, .string ({ data := #[] })]⟩)) s148)))))) (B P 3 .eql v142 (.int .i64 1) fun v151 => Q v151 (W w0 9 [] s143 fun n152 s153 => V false 1 (.slice (some (Addr.mk n152 0 none)) 0 0) (V true 5 (.agg (⟨[v2, .slice (some (Addr.mk n152 0 none)) 0 0, v140, .int .i64 0, .string ({ data := #[] })]⟩)) (R (.agg (⟨[v2, .slice (some (Addr.mk n152 0 none)) 0 0, v140, .int .i64 0, .string ({ data := #[] })]⟩)) s153))) (B P 3 .eql v142 (.int .i64 2) fun v154 => Q v154 (W w0 9 [] s143 fun n155 s156 => pAppendS w0 9 1 16 (.slice (some (Addr.mk n155 0 none)) 0 0) v3 s156 fun v157 s158 => V false 1 (.string ({ data := #[] })) (V false 1 (.string ({ data := #[65] })) (V false 1 (.string ({ data := #[116, 111, 111, 108, 111, 110, 103] })) (V false 1 (.string ({ data := #[120] })) (V false 1 (.string ({ data := #[121] })) (W w0 9 ([.string ({ data := #[] }), .string ({ data := #[65] }), .string ({ data := #[116, 111, 111, 108, 111, 110, 103] }), .string ({ data := #[120] }), .string ({ data := #[121] })]) s158 fun n159 s160 => AC P w0 n_p_spec_l1Rd_of [a0, .slice (some (Addr.mk n159 0 none)) 5 5] s160 fun v161 s162 => V false 1 v161 ((allOne [v161]) ∧ (A w0 9 1 16 v157 1 [v161] s162 fun v163 s164 => V false 1 v163 (V true 5 (.agg (⟨[v2, v163, v140, .int .i64 0, .string ({ data := #[] })]⟩)) (R (.agg (⟨[v2, v163, v140, .int .i64 0, .string ({ data := #[] })]⟩)) s164)))))))))) (B P 3 .eql v142 (.int .i64 3) fun v165 => Q v165 (V false 1 (.int .i64 (-1)) (V false 1 (.int .i64 8) (V false 1 (.int .i64 24) (V false 1 (.int .i64 25) (W w0 3 [.int .i64 (-1), .int .i64 8, .int .i64 24, .int .i64 25] s143 fun n166 s167 => AC P w0 n_p_spec_l1Rd_pick [a0, .int .i64 4] s167 fun v168 s169 => X 1 (.slice (some (Addr.mk n166 0 none)) 4 4) v168 fun v170 => L w0 1 v170 s169 fun g171 => V false 1 (g171 0) (V true 5 (.agg (⟨[v2, v3, v140, g171 0, .string ({ data := #[] })]⟩)) (R (.agg (⟨[v2, v3, v140, g171 0, .string ({ data := #[] })]⟩)) s169))))))) (B P 3 .eql v142 (.int .i64 4) fun v172 => Q v172 (AC P w0 n_p_spec_l1Rd_pick [a0, .int .i64 2] s143 fun v173 s174 => B P 3 .add (.int .i64 24) v173 fun v175 => AC P w0 n_spec_l1Many ([.string ({ data := #[113] }), v175]) s174 fun v176 s177 => V false 1 v176 (V true 5 (.agg (⟨[v2, v3, v140, .int .i64 0, v176]⟩)) (R (.agg (⟨[v2, v3, v140, .int .i64 0, v176]⟩)) s177))) (V true 5 (.agg (⟨[v2, v3, v140, .int .i64 0, .string ({ data := #[] })]⟩)) (R (.agg (⟨[v2, v3, v140, .int .i64 0, .string ({ data := #[] })]⟩)) s143)))))))))) (AC P w0 n_p_spec_l1Rd_pick [a0, .int .i64 40] s129 fun v178 s179 => B P 3 .eql v178 (.int .i64 0) fun v180 => Q v180 (V false 1 (.int .i64 0) (V false 1 (.int .i64 7) (V false 1 (.int .i64 (-1)) (W w0 3 [.int .i64 0, .int .i64 7, .int .i64 (-1)] s179 fun n181 s182 => AC P w0 n_p_spec_l1Rd_pick [a0, .int .i64 3] s182 fun v183 s184 => X 1 (.slice (some (Addr.mk n181 0 none)) 3 3) v183 fun v185 => L w0 1 v185 s184 fun g186 => V false 1 (g186 0) (V true 5 (.agg (⟨[g186 0, v3, v126, .int .i64 0, .string ({ data := #[] })]⟩)) (R (.agg (⟨[g186 0, v3, v126, .int .i64 0, .string ({ data := #[] })]⟩)) s184)))))) (B P 3 .eql v178 (.int .i64 1) fun v187 => Q v187 (W w0 9 [] s179 fun n188 s189 => V false 1 (.slice (some (Addr.mk n188 0 none)) 0 0) (V true 5 (.agg (⟨[v2, .slice (some (Addr.mk n188 0 none)) 0 0, v126, .int .i64 0, .string ({ data := #[] })]⟩)) (R (.agg (⟨[v2, .slice (some (Addr.mk n188 0 none)) 0 0, v126, .int .i64 0, .string ({ data := #[] })]⟩)) s189))) (B P 3 .eql v178 (.int .i64 2) fun v190 => Q v190 (W w0 9 [] s179 fun n191 s192 => pAppendS w0 9 1 16 (.slice (some (Addr.mk n191 0 none)) 0 0) v3 s192 fun v193 s194 => V false 1 (.string ({ data := #[] })) (V false 1 (.string ({ data := #[65] })) (V false 1 (.string ({ data := #[116, 111, 111, 108, 111, 110, 103] })) (V false 1 (.string ({ data := #[120] })) (V false 1 (.string ({ data := #[121] })) (W w0 9 ([.string ({ data := #[] }), .string ({ data := #[65] }), .string ({ data := #[116, 111, 111, 108, 111, 110, 103] }), .string ({ data := #[120] }), .string ({ data := #[121] })]) s194 fun n195 s196 => AC P w0 n_p_spec_l1Rd_of [a0, .slice (some (Addr.mk n195 0 none)) 5 5] s196 fun v197 s198 => V false 1 v197 ((allOne [v197]) ∧ (A w0 9 1 16 v193 1 [v197] s198 fun v199 s200 => V false 1 v199 (V true 5 (.agg (⟨[v2, v199, v126, .int .i64 0, .string ({ data := #[] })]⟩)) (R (.agg (⟨[v2, v199, v126, .int .i64 0, .string ({ data := #[] })]⟩)) s200)))))))))) (B P 3 .eql v178 (.int .i64 3) fun v201 => Q v201 (V false 1 (.int .i64 (-1)) (V false 1 (.int .i64 8) (V false 1 (.int .i64 24) (V false 1 (.int .i64 25) (W w0 3 [.int .i64 (-1), .int .i64 8, .int .i64 24, .int .i64 25] s179 fun n202 s203 => AC P w0 n_p_spec_l1Rd_pick [a0, .int .i64 4] s203 fun v204 s205 => X 1 (.slice (some (Addr.mk n202 0 none)) 4 4) v204 fun v206 => L w0 1 v206 s205 fun g207 => V false 1 (g207 0) (V true 5 (.agg (⟨[v2, v3, v126, g207 0, .string ({ data := #[] })]⟩)) (R (.agg (⟨[v2, v3, v126, g207 0, .string ({ data := #[] })]⟩)) s205))))))) (B P 3 .eql v178 (.int .i64 4) fun v208 => Q v208 (AC P w0 n_p_spec_l1Rd_pick [a0, .int .i64 2] s179 fun v209 s210 => B P 3 .add (.int .i64 24) v209 fun v211 => AC P w0 n_spec_l1Many ([.string ({ data := #[113] }), v211]) s210 fun v212 s213 => V false 1 v212 (V true 5 (.agg (⟨[v2, v3, v126, .int .i64 0, v212]⟩)) (R (.agg (⟨[v2, v3, v126, .int .i64 0, v212]⟩)) s213))) (V true 5 (.agg (⟨[v2, v3, v126, .int .i64 0, .string ({ data := #[] })]⟩)) (R (.agg (⟨[v2, v3, v126, .int .i64 0, .string ({ data := #[] })]⟩)) s179))))))))) (AC P w0 n_p_spec_l1Rd_pick [a0, .int .i64 40] s4 fun v214 s215 => B P 3 .eql v214 (.int .i64 0) fun v216 => Q v216 (V false 1 (.int .i64 0) (V false 1 (.int .i64 7) (V false 1 (.int .i64 (-1)) (W w0 3 [.int .i64 0, .int .i64 7, .int .i64 (-1)] s215 fun n217 s218 => AC P w0 n_p_spec_l1Rd_pick [a0, .int .i64 3] s218 fun v219 s220 => X 1 (.slice (some (Addr.mk n217 0 none)) 3 3) v219 fun v221 => L w0 1 v221 s220 fun g222 => V false 1 (g222 0) (V true 5 (.agg (⟨[g222 0, v3, .slice none 0 0, .int .i64 0, .string ({ data := #[] })]⟩)) (R (.agg (⟨[g222 0, v3, .slice none 0 0, .int .i64 0, .string ({ data := #[] })]⟩)) s220)))))) (B P 3 .eql v214 (.int .i64 1) fun v223 => Q v223 (W w0 9 [] s215 fun n224 s225 => V false 1 (.slice (some (Addr.mk n224 0 none)) 0 0) (V true 5 (.agg (⟨[v2, .slice (some (Addr.mk n224 0 none)) 0 0, .slice none 0 0, .int .i64 0, .string ({ data := #[] })]⟩)) (R (.agg (⟨[v2, .slice (some (Addr.mk n224 0 none)) 0 0, .slice none 0 0, .int .i64 0, .string ({ data := #[] })]⟩)) s225))) (B P 3 .eql v214 (.int .i64 2) fun v226 => Q v226 (W w0 9 [] s215 fun n227 s228 => pAppendS w0 9 1 16 (.slice (some (Addr.mk n227 0 none)) 0 0) v3 s228 fun v229 s230 => V false 1 (.string ({ data := #[] })) (V false 1 (.string ({ data := #[65] })) (V false 1 (.string ({ data := #[116, 111, 111, 108, 111, 110, 103] })) (V false 1 (.string ({ data := #[120] })) (V false 1 (.string ({ data := #[121] })) (W w0 9 ([.string ({ data := #[] }), .string ({ data := #[65] }), .string ({ data := #[116, 111, 111, 108, 111, 110, 103] }), .string ({ data := #[120] }), .string ({ data := #[121] })]) s230 fun n231 s232 => AC P w0 n_p_spec_l1Rd_of [a0, .slice (some (Addr.mk n231 0 none)) 5 5] s232 fun v233 s234 => V false 1 v233 ((allOne [v233]) ∧ (A w0 9 1 16 v229 1 [v233] s234 fun v235 s236 => V false 1 v235 (V true 5 (.agg (⟨[v2, v235, .slice none 0 0, .int .i64 0, .string ({ data := #[] })]⟩)) (R (.agg (⟨[v2, v235, .slice none 0 0, .int .i64 0, .string ({ data := #[] })]⟩)) s236)))))))))) (B P 3 .eql v214 (.int .i64 3) fun v237 => Q v237 (V false 1 (.int .i64 (-1)) (V false 1 (.int .i64 8) (V false 1 (.int .i64 24) (V false 1 (.int .i64 25) (W w0 3 [.int .i64 (-1), .int .i64 8, .int .i64 24, .int .i64 25] s215 fun n238 s239 => AC P w0 n_p_spec_l1Rd_pick [a0, .int .i64 4] s239 fun v240 s241 => X 1 (.slice (some (Addr.mk n238 0 none)) 4 4) v240 fun v242 => L w0 1 v242 s241 fun g243 => V false 1 (g243 0) (V true 5 (.agg (⟨[v2, v3, .slice none 0 0, g243 0, .string ({ data := #[] })]⟩)) (R (.agg (⟨[v2, v3, .slice none 0 0, g243 0, .string ({ data := #[] })]⟩)) s241))))))) (B P 3 .eql v214 (.int .i64 4) fun v244 => Q v244 (AC P w0 n_p_spec_l1Rd_pick [a0, .int .i64 2] s215 fun v245 s246 => B P 3 .add (.int .i64 24) v245 fun v247 => AC P w0 n_spec_l1Many ([.string ({ data := #[113] }), v247]) s246 fun v248 s249 => V false 1 v248 (V true 5 (.agg (⟨[v2, v3, .slice none 0 0, .int .i64 0, v248]⟩)) (R (.agg (⟨[v2, v3, .slice none 0 0, .int .i64 0, v248]⟩)) s249))) (V true 5 (.agg (⟨[v2, v3, .slice none 0 0, .int .i64 0, .string ({ data := #[] })]⟩)) (R (.agg (⟨[v2, v3, .slice none 0 0, .int .i64 0, .string ({ data := #[] })]⟩)) s215))))))))) (B P 3 .eql v2 (.int .i64 3) fun v250 => Q v250 (AC P w0 n_p_spec_l1Rd_pick [a0, .int .i64 4] s4 fun v251 s252 => AC P w0 n_p_spec_l1Rd_pick [a0, .int .i64 4] s252 fun v253 s254 => B P 3 .mul v251 v253 fun v255 => V false 1 v255 (B P 3 .eql v2 (.int .i64 2) fun v256 => Q v256 (AC P w0 n_spec_l4Data [a0] s254 fun v257 s258 => V false 1 v257 (AC P w0 n_p_spec_l1Rd_pick [a0, .int .i64 40] s258 fun v259 s260 => B P 3 .eql v259 (.int .i64 0) fun v261 => Q v261 (V false 1 (.int .i64 0) (V false 1 (.int .i64 7) (V false 1 (.int .i64 (-1)) (W w0 3 [.int .i64 0, .int .i64 7, .int .i64 (-1)] s260 fun n262 s263 => AC P w0 n_p_spec_l1Rd_pick [a0, .int .i64 3] s263 fun v264 s265 => X 1 (.slice (some (Addr.mk n262 0 none)) 3 3) v264 fun v266 => L w0 1 v266 s265 fun g267 => V false 1 (g267 0) (V true 5 (.agg (⟨[g267 0, v3, .slice none 0 0, v255, v257]⟩)) (R (.agg (⟨[g267 0, v3, .slice none 0 0, v255, v257]⟩)) s265)))))) (B P 3 .eql v259 (.int .i64 1) fun v268 => Q v268 (W w0 9 [] s260 fun n269 s270 => V false 1 (.slice (some (Addr.mk n269 0 none)) 0 0) (V true 5 (.agg (⟨[v2, .slice (some (Addr.mk n269 0 none)) 0 0, .slice none 0 0, v255, v257]⟩)) (R (.agg (⟨[v2, .slice (some (Addr.mk n269 0 none)) 0 0, .slice none 0 0, v255, v257]⟩)) s270))) (B P 3 .eql v259 (.int .i64 2) fun v271 => Q v271 (W w0 9 [] s260 fun n272 s273 => pAppendS w0 9 1 16 (.slice (some (Addr.mk n272 0 none)) 0 0) v3 s273 fun v274 s275 => V false 1 (.string ({ data := #[] })) (V false 1 (.string ({ data := #[65] })) (V false 1 (.string ({ data := #[116, 111, 111, 108, 111, 110, 103] })) (V false 1 (.string ({ data := #[120] })) (V false 1 (.string ({ data := #[121] })) (W w0 9 ([.string ({ data := #[] }), .string ({ data := #[65] }), .string ({ data := #[116, 111, 111, 108, 111, 110, 103] }), .string ({ data := #[120] }), .string ({ data := #[121] })]) s275 fun n276 s277 => AC P w0 n_p_spec_l1Rd_of [a0, .slice (some (Addr.mk n276 0 none)) 5 5] s277 fun v278 s279 => V false 1 v278 ((allOne [v278]) ∧ (A w0 9 1 16 v274 1 [v278] s279 fun v280 s281 => V false 1 v280 (V true 5 (.agg (⟨[v2, v280, .slice none 0 0, v255, v257]⟩)) (R (.agg (⟨[v2, v280, .slice none 0 0, v255, v257]⟩)) s281)))))))))) (B P 3 .eql v259 (.int .i64 3) fun v282 => Q v282 (V false 1 (.int .i64 (-1)) (V false 1 (.int .i64 8) (V false 1 (.int .i64 24) (V false 1 (.int .i64 25) (W w0 3 [.int .i64 (-1), .int .i64 8, .int .i64 24, .int .i64 25] s260 fun n283 s284 => AC P w0 n_p_spec_l1Rd_pick [a0, .int .i64 4] s284 fun v285 s286 => X 1 (.slice (some (Addr.mk n283 0 none)) 4 4) v285 fun v287 => L w0 1 v287 s286 fun g288 => V false 1 (g288 0) (V true 5 (.agg (⟨[v2, v3, .slice none 0 0, g288 0, v257]⟩)) (R (.agg (⟨[v2, v3, .slice none 0 0, g288 0, v257]⟩)) s286))))))) (B P 3 .eql v259 (.int .i64 4) fun v289 => Q v289 (AC P w0 n_p_spec_l1Rd_pick [a0, .int .i64 2] s260 fun v290 s291 => B P 3 .add (.int .i64 24) v290 fun v292 => AC P w0 n_spec_l1Many ([.string ({ data := #[113] }), v292]) s291 fun v293 s294 => V false 1 v293 (V true 5 (.agg (⟨[v2, v3, .slice none 0 0, v255, v293]⟩)) (R (.agg (⟨[v2, v3, .slice none 0 0, v255, v293]⟩)) s294))) (V true 5 (.agg (⟨[v2, v3, .slice none 0 0, v255, v257]⟩)) (R (.agg (⟨[v2, v3, .slice none 0 0, v255, v257]⟩)) s260)))))))) (AC P w0 n_p_spec_l1Rd_pick [a0, .int .i64 40] s254 fun v295 s296 => B P 3 .eql v295 (.int .i64 0) fun v297 => Q v297 (V false 1 (.int .i64 0) (V false 1 (.int .i64 7) (V false 1 (.int .i64 (-1)) (W w0 3 [.int .i64 0, .int .i64 7, .int .i64 (-1)] s296 fun n298 s299 => AC P w0 n_p_spec_l1Rd_pick [a0, .int .i64 3] s299 fun v300 s301 => X 1 (.slice (some (Addr.mk n298 0 none)) 3 3) v300 fun v302 => L w0 1 v302 s301 fun g303 => V false 1 (g303 0) (V true 5 (.agg (⟨[g303 0, v3, .slice none 0 0, v255, .string ({ data := #[] })]⟩)) (R (.agg (⟨[g303 0, v3, .slice none 0 0, v255, .string ({ data := #[] })]⟩)) s301)))))) (B P 3 .eql v295 (.int .i64 1) fun v304 => Q v304 (W w0 9 [] s296 fun n305 s306 => V false 1 (.slice (some (Addr.mk n305 0 none)) 0 0) (V true 5 (.agg (⟨[v2, .slice (some (Addr.mk n305 0 none)) 0 0, .slice none 0 0, v255, .string ({ data := #[] })]⟩)) (R (.agg (⟨[v2, .slice (some (Addr.mk n305 0 none)) 0 0, .slice none 0 0, v255, .string ({ data := #[] })]⟩)) s306))) (B P 3 .eql v295 (.int .i64 2) fun v307 => Q v307 (W w0 9 [] s296 fun n308 s309 => pAppendS w0 9 1 16 (.slice (some (Addr.mk n308 0 none)) 0 0) v3 s309 fun v310 s311 => V false 1 (.string ({ data := #[] })) (V false 1 (.string ({ data := #[65] })) (V false 1 (.string ({ data := #[116, 111, 111, 108, 111, 110, 103] })) (V false 1 (.string ({ data := #[120] })) (V false 1 (.string ({ data := #[121] })) (W w0 9 ([.string ({ data := #[] }), .string ({ data := #[65] }), .string ({ data := #[116, 111, 111, 108, 111, 110, 103] }), .string ({ data := #[120] }), .string ({ data := #[121] })]) s311 fun n312 s313 => AC P w0 n_p_spec_l1Rd_of [a0, .slice (some (Addr.mk n312 0 none)) 5 5] s313 fun v314 s315 => V false 1 v314 ((allOne [v314]) ∧ (A w0 9 1 16 v310 1 [v314] s315 fun v316 s317 => V false 1 v316 (V true 5 (.agg (⟨[v2, v316, .slice none 0 0, v255, .string ({ data := #[] })]⟩)) (R (.agg (⟨[v2, v316, .slice none 0 0, v255, .string ({ data := #[] })]⟩)) s317)))))))))) (B P 3 .eql v295 (.int .i64 3) fun v318 => Q v318 (V false 1 (.int .i64 (-1)) (V false 1 (.int .i64 8) (V false 1 (.int .i64 24) (V false 1 (.int .i64 25) (W w0 3 [.int .i64 (-1), .int .i64 8, .int .i64 24, .int .i64 25] s296 fun n319 s320 => AC P w0 n_p_spec_l1Rd_pick [a0, .int .i64 4] s320 fun v321 s322 => X 1 (.slice (some (Addr.mk n319 0 none)) 4 4) v321 fun v323 => L w0 1 v323 s322 fun g324 => V false 1 (g324 0) (V true 5 (.agg (⟨[v2, v3, .slice none 0 0, g324 0, .string ({ data := #[] })]⟩)) (R (.agg (⟨[v2, v3, .slice none 0 0, g324 0, .string ({ data := #[] })]⟩)) s322))))))) (B P 3 .eql v295 (.int .i64 4) fun v325 => Q v325 (AC P w0 n_p_spec_l1Rd_pick [a0, .int .i64 2] s296 fun v326 s327 => B P 3 .add (.int .i64 24) v326 fun v328 => AC P w0 n_spec_l1Many ([.string ({ data := #[113] }), v328]) s327 fun v329 s330 => V false 1 v329 (V true 5 (.agg (⟨[v2, v3, .slice none 0 0, v255, v329]⟩)) (R (.agg (⟨[v2, v3, .slice none 0 0, v255, v329]⟩)) s330))) (V true 5 (.agg (⟨[v2, v3, .slice none 0 0, v255, .string ({ data := #[] })]⟩)) (R (.agg (⟨[v2, v3, .slice none 0 0, v255, .string ({ data := #[] })]⟩)) s296))))))))) (B P 3 .eql v2 (.int .i64 5) fun v331 => Q v331 (AC P w0 n_spec_l4Path ([a0, .agg (⟨[C a1 0, C a1 1, C a1 2, C a1 3, C a1 4]⟩)]) s4 fun v332 s333 => V false 1 v332 (AC P w0 n_p_spec_l1Rd_pick [a0, .int .i64 2] s333 fun v334 s335 => B P 3 .eql v334 (.int .i64 0) fun v336 => Q v336 (W w0 9 [] s335 fun n337 s338 => N v332 fun v339 => B P 3 .sub v339 (.int .i64 1) fun v340 => pSlice 1 v332 none (some v340) fun v341 => pAppendS w0 9 1 16 (.slice (some (Addr.mk n337 0 none)) 0 0) v341 s338 fun v342 s343 => AC P w0 n_spec_l4Name [a0] s343 fun v344 s345 => V false 1 v344 ((allOne [v344]) ∧ (A w0 9 1 16 v342 1 [v344] s345 fun v346 s347 => V false 1 v346 (AC P w0 n_p_spec_l1Rd_pick [a0, .int .i64 40] s347 fun v348 s349 => B P 3 .eql v348 (.int .i64 0) fun v350 => Q v350 (V false 1 (.int .i64 0) (V false 1 (.int .i64 7) (V false 1 (.int .i64 (-1)) (W w0 3 [.int .i64 0, .int .i64 7, .int .i64 (-1)] s349 fun n351 s352 => AC P w0 n_p_spec_l1Rd_pick [a0, .int .i64 3] s352 fun v353 s354 => X 1 (.slice (some (Addr.mk n351 0 none)) 3 3) v353 fun v355 => L w0 1 v355 s354 fun g356 => V false 1 (g356 0) (V true 5 (.agg (⟨[g356 0, v3, v346, .int .i64 0, .string ({ data := #[] })]⟩)) (R (.agg (⟨[g356 0, v3, v346, .int .i64 0, .string ({ data := #[] })]⟩)) s354)))))) (B P 3 .eql v348 (.int .i64 1) fun v357 => Q v357 (W w0 9 [] s349 fun n358 s359 => V false 1 (.slice (some (Addr.mk n358 0 none)) 0 0) (V true 5 (.agg (⟨[v2, .slice (some (Addr.mk n358 0 none)) 0 0, v346, .int .i64 0, .string ({ data := #[] })]⟩)) (R (.agg (⟨[v2, .slice (some (Addr.mk n358 0 none)) 0 0, v346, .int .i64 0, .string ({ data := #[] })]⟩)) s359))) (B P 3 .eql v348 (.int .i64 2) fun v360 => Q v360 (W w0 9 [] s349 fun n361 s362 => pAppendS w0 9 1 16 (.slice (some (Addr.mk n361 0 none)) 0 0) v3 s362 fun v363 s364 => V false 1 (.string ({ data := #[] })) (V false 1 (.string ({ data := #[65] })) (V false 1 (.string ({ data := #[116, 111, 111, 108, 111, 110, 103] })) (V false 1 (.string ({ data := #[120] })) (V false 1 (.string ({ data := #[121] })) (W w0 9 ([.string ({ data := #[] }), .string ({ data := #[65] }), .string ({ data := #[116, 111, 111, 108, 111, 110, 103] }), .string ({ data := #[120] }), .string ({ data := #[121] })]) s364 fun n365 s366 => AC P w0 n_p_spec_l1Rd_of [a0, .slice (some (Addr.mk n365 0 none)) 5 5] s366 fun v367 s368 => V false 1 v367 ((allOne [v367]) ∧ (A w0 9 1 16 v363 1 [v367] s368 fun v369 s370 => V false 1 v369 (V true 5 (.agg (⟨[v2, v369, v346, .int .i64 0, .string ({ data := #[] })]⟩)) (R (.agg (⟨[v2, v369, v346, .int .i64 0, .string ({ data := #[] })]⟩)) s370)))))))))) (B P 3 .eql v348 (.int .i64 3) fun v371 => Q v371 (V false 1 (.int .i64 (-1)) (V false 1 (.int .i64 8) (V false 1 (.int .i64 24) (V false 1 (.int .i64 25) (W w0 3 [.int .i64 (-1), .int .i64 8, .int .i64 24, .int .i64 25] s349 fun n372 s373 => AC P w0 n_p_spec_l1Rd_pick [a0, .int .i64 4] s373 fun v374 s375 => X 1 (.slice (some (Addr.mk n372 0 none)) 4 4) v374 fun v376 => L w0 1 v376 s375 fun g377 => V false 1 (g377 0) (V true 5 (.agg (⟨[v2, v3, v346, g377 0, .string ({ data := #[] })]⟩)) (R (.agg (⟨[v2, v3, v346, g377 0, .string ({ data := #[] })]⟩)) s375))))))) (B P 3 .eql v348 (.int .i64 4) fun v378 => Q v378 (AC P w0 n_p_spec_l1Rd_pick [a0, .int .i64 2] s349 fun v379 s380 => B P 3 .add (.int .i64 24) v379 fun v381 => AC P w0 n_spec_l1Many ([.string ({ data := #[113] }), v381]) s380 fun v382 s383 => V false 1 v382 (V true 5 (.agg (⟨[v2, v3, v346, .int .i64 0, v382]⟩)) (R (.agg (⟨[v2, v3, v346, .int .i64 0, v382]⟩)) s383))) (V true 5 (.agg (⟨[v2, v3, v346, .int .i64 0, .string ({ data := #[] })]⟩)) (R (.agg (⟨[v2, v3, v346, .int .i64 0, .string ({ data := #[] })]⟩)) s349)))))))))) (AC P w0 n_p_spec_l1Rd_pick [a0, .int .i64 40] s335 fun v384 s385 => B P 3 .eql v384 (.int .i64 0) fun v386 => Q v386 (V false 1 (.int .i64 0) (V false 1 (.int .i64 7) (V false 1 (.int .i64 (-1)) (W w0 3 [.int .i64 0, .int .i64 7, .int .i64 (-1)] s385 fun n387 s388 => AC P w0 n_p_spec_l1Rd_pick [a0, .int .i64 3] s388 fun v389 s390 => X 1 (.slice (some (Addr.mk n387 0 none)) 3 3) v389 fun v391 => L w0 1 v391 s390 fun g392 => V false 1 (g392 0) (V true 5 (.agg (⟨[g392 0, v3, v332, .int .i64 0, .string ({ data := #[] })]⟩)) (R (.agg (⟨[g392 0, v3, v332, .int .i64 0, .string ({ data := #[] })]⟩)) s390)))))) (B P 3 .eql v384 (.int .i64 1) fun v393 => Q v393 (W w0 9 [] s385 fun n394 s395 => V false 1 (.slice (some (Addr.mk n394 0 none)) 0 0) (V true 5 (.agg (⟨[v2, .slice (some (Addr.mk n394 0 none)) 0 0, v332, .int .i64 0, .string ({ data := #[] })]⟩)) (R (.agg (⟨[v2, .slice (some (Addr.mk n394 0 none)) 0 0, v332, .int .i64 0, .string ({ data := #[] })]⟩)) s395))) (B P 3 .eql v384 (.int .i64 2) fun v396 => Q v396 (W w0 9 [] s385 fun n397 s398 => pAppendS w0 9 1 16 (.slice (some (Addr.mk n397 0 none)) 0 0) v3 s398 fun v399 s400 => V false 1 (.string ({ data := #[] })) (V false 1 (.string ({ data := #[65] })) (V false 1 (.string ({ data := #[116, 111, 111, 108, 111, 110, 103] })) (V false 1 (.string ({ data := #[120] })) (V false 1 (.string ({ data := #[121] })) (W w0 9 ([.string ({ data := #[] }), .string ({ data := #[65] }), .string ({ data := #[116, 111, 111, 108, 111, 110, 103] }), .string ({ data := #[120] }), .string ({ data := #[121] })]) s400 fun n401 s402 => AC P w0 n_p_spec_l1Rd_of [a0, .slice (some (Addr.mk n401 0 none)) 5 5] s402 fun v403 s404 => V false 1 v403 ((allOne [v403]) ∧ (A w0 9 1 16 v399 1 [v403] s404 fun v405 s406 => V false 1 v405 (V true 5 (.agg (⟨[v2, v405, v332, .int .i64 0, .string ({ data := #[] })]⟩)) (R (.agg (⟨[v2, v405, v332, .int .i64 0, .string ({ data := #[] })]⟩)) s406)))))))))) (B P 3 .eql v384 (.int .i64 3) fun v407 => Q v407 (V false 1 (.int .i64 (-1)) (V false 1 (.int .i64 8) (V false 1 (.int .i64 24) (V false 1 (.int .i64 25) (W w0 3 [.int .i64 (-1), .int .i64 8, .int .i64 24, .int .i64 25] s385 fun n408 s409 => AC P w0 n_p_spec_l1Rd_pick [a0, .int .i64 4] s409 fun v410 s411 => X 1 (.slice (some (Addr.mk n408 0 none)) 4 4) v410 fun v412 => L w0 1 v412 s411 fun g413 => V false 1 (g413 0) (V true 5 (.agg (⟨[v2, v3, v332, g413 0, .string ({ data := #[] })]⟩)) (R (.agg (⟨[v2, v3, v332, g413 0, .string ({ data := #[] })]⟩)) s411))))))) (B P 3 .eql v384 (.int .i64 4) fun v414 => Q v414 (AC P w0 n_p_spec_l1Rd_pick [a0, .int .i64 2] s385 fun v415 s416 => B P 3 .add (.int .i64 24) v415 fun v417 => AC P w0 n_spec_l1Many ([.string ({ data := #[113] }), v417]) s416 fun v418 s419 => V false 1 v418 (V true 5 (.agg (⟨[v2, v3, v332, .int .i64 0, v418]⟩)) (R (.agg (⟨[v2, v3, v332, .int .i64 0, v418]⟩)) s419))) (V true 5 (.agg (⟨[v2, v3, v332, .int .i64 0, .string ({ data := #[] })]⟩)) (R (.agg (⟨[v2, v3, v332, .int .i64 0, .string ({ data := #[] })]⟩)) s385))))))))) (AC P w0 n_p_spec_l1Rd_pick [a0, .int .i64 40] s4 fun v420 s421 => B P 3 .eql v420 (.int .i64 0) fun v422 => Q v422 (V false 1 (.int .i64 0) (V false 1 (.int .i64 7) (V false 1 (.int .i64 (-1)) (W w0 3 [.int .i64 0, .int .i64 7, .int .i64 (-1)] s421 fun n423 s424 => AC P w0 n_p_spec_l1Rd_pick [a0, .int .i64 3] s424 fun v425 s426 => X 1 (.slice (some (Addr.mk n423 0 none)) 3 3) v425 fun v427 => L w0 1 v427 s426 fun g428 => V false 1 (g428 0) (V true 5 (.agg (⟨[g428 0, v3, .slice none 0 0, .int .i64 0, .string ({ data := #[] })]⟩)) (R (.agg (⟨[g428 0, v3, .slice none 0 0, .int .i64 0, .string ({ data := #[] })]⟩)) s426)))))) (B P 3 .eql v420 (.int .i64 1) fun v429 => Q v429 (W w0 9 [] s421 fun n430 s431 => V false 1 (.slice (some (Addr.mk n430 0 none)) 0 0) (V true 5 (.agg (⟨[v2, .slice (some (Addr.mk n430 0 none)) 0 0, .slice none 0 0, .int .i64 0, .string ({ data := #[] })]⟩)) (R (.agg (⟨[v2, .slice (some (Addr.mk n430 0 none)) 0 0, .slice none 0 0, .int .i64 0, .string ({ data := #[] })]⟩)) s431))) (B P 3 .eql v420 (.int .i64 2) fun v432 => Q v432 (W w0 9 [] s421 fun n433 s434 => pAppendS w0 9 1 16 (.slice (some (Addr.mk n433 0 none)) 0 0) v3 s434 fun v435 s436 => V false 1 (.string ({ data := #[] })) (V false 1 (.string ({ data := #[65] })) (V false 1 (.string ({ data := #[116, 111, 111, 108, 111, 110, 103] })) (V false 1 (.string ({ data := #[120] })) (V false 1 (.string ({ data := #[121] })) (W w0 9 ([.string ({ data := #[] }), .string ({ data := #[65] }), .string ({ data := #[116, 111, 111, 108, 111, 110, 103] }), .string ({ data := #[120] }), .string ({ data := #[121] })]) s436 fun n437 s438 => AC P w0 n_p_spec_l1Rd_of [a0, .slice (some (Addr.mk n437 0 none)) 5 5] s438 fun v439 s440 => V false 1 v439 ((allOne [v439]) ∧ (A w0 9 1 16 v435 1 [v439] s440 fun v441 s442 => V false 1 v441 (V true 5 (.agg (⟨[v2, v441, .slice none 0 0, .int .i64 0, .string ({ data := #[] })]⟩)) (R (.agg (⟨[v2, v441, .slice none 0 0, .int .i64 0, .string ({ data := #[] })]⟩)) s442)))))))))) (B P 3 .eql v420 (.int .i64 3) fun v443 => Q v443 (V false 1 (.int .i64 (-1)) (V false 1 (.int .i64 8) (V false 1 (.int .i64 24) (V false 1 (.int .i64 25) (W w0 3 [.int .i64 (-1), .int .i64 8, .int .i64 24, .int .i64 25] s421 fun n444 s445 => AC P w0 n_p_spec_l1Rd_pick [a0, .int .i64 4] s445 fun v446 s447 => X 1 (.slice (some (Addr.mk n444 0 none)) 4 4) v446 fun v448 => L w0 1 v448 s447 fun g449 => V false 1 (g449 0) (V true 5 (.agg (⟨[v2, v3, .slice none 0 0, g449 0, .string ({ data := #[] })]⟩)) (R (.agg (⟨[v2, v3, .slice none 0 0, g449 0, .string ({ data := #[] })]⟩)) s447))))))) (B P 3 .eql v420 (.int .i64 4) fun v450 => Q v450 (AC P w0 n_p_spec_l1Rd_pick [a0, .int .i64 2] s421 fun v451 s452 => B P 3 .add (.int .i64 24) v451 fun v453 => AC P w0 n_spec_l1Many ([.string ({ data := #[113] }), v453]) s452 fun v454 s455 => V false 1 v454 (V true 5 (.agg (⟨[v2, v3, .slice none 0 0, .int .i64 0, v454]⟩)) (R (.agg (⟨[v2, v3, .slice none 0 0, .int .i64 0, v454]⟩)) s455))) (V true 5 (.agg (⟨[v2, v3, .slice none 0 0, .int .i64 0, .string ({ data := #[] })]⟩)) (R (.agg (⟨[v2, v3, .slice none 0 0, .int .i64 0, .string ({ data := #[] })]⟩)) s421))))))))))) (B P 3 .eql v2 (.int .i64 6) fun v456 => Q v456 (AC P w0 n_p_spec_l1Rd_pick [a0, .int .i64 8] s4 fun v457 s458 => V false 1 v457 (AC P w0 n_p_spec_l1Rd_pick [a0, .int .i64 40] s458 fun v459 s460 => B P 3 .eql v459 (.int .i64 0) fun v461 => Q v461 (V false 1 (.int .i64 0) (V false 1 (.int .i64 7) (V false 1 (.int .i64 (-1)) (W w0 3 [.int .i64 0, .int .i64 7, .int .i64 (-1)] s460 fun n462 s463 => AC P w0 n_p_spec_l1Rd_pick [a0, .int .i64 3] s463 fun v464 s465 => X 1 (.slice (some (Addr.mk n462 0 none)) 3 3) v464 fun v466 => L w0 1 v466 s465 fun g467 => V false 1 (g467 0) (V true 5 (.agg (⟨[g467 0, v3, .slice none 0 0, v457, .string ({ data := #[] })]⟩)) (R (.agg (⟨[g467 0, v3, .slice none 0 0, v457, .string ({ data := #[] })]⟩)) s465)))))) (B P 3 .eql v459 (.int .i64 1) fun v468 => Q v468 (W w0 9 [] s460 fun n469 s470 => V false 1 (.slice (some (Addr.mk n469 0 none)) 0 0) (V true 5 (.agg (⟨[v2, .slice (some (Addr.mk n469 0 none)) 0 0, .slice none 0 0, v457, .string ({ data := #[] })]⟩)) (R (.agg (⟨[v2, .slice (some (Addr.mk n469 0 none)) 0 0, .slice none 0 0, v457, .string ({ data := #[] })]⟩)) s470))) (B P 3 .eql v459 (.int .i64 2) fun v471 => Q v471 (W w0 9 [] s460 fun n472 s473 => pAppendS w0 9 1 16 (.slice (some (Addr.mk n472 0 none)) 0 0) v3 s473 fun v474 s475 => V false 1 (.string ({ data := #[] })) (V false 1 (.string ({ data := #[65] })) (V false 1 (.string ({ data := #[116, 111, 111, 108, 111, 110, 103] })) (V false 1 (.string ({ data := #[120] })) (V false 1 (.string ({ data := #[121] })) (W w0 9 ([.string ({ data := #[] }), .string ({ data := #[65] }), .string ({ data := #[116, 111, 111, 108, 111, 110, 103] }), .string ({ data := #[120] }), .string ({ data := #[121] })]) s475 fun n476 s477 => AC P w0 n_p_spec_l1Rd_of [a0, .slice (some (Addr.mk n476 0 none)) 5 5] s477 fun v478 s479 => V false 1 v478 ((allOne [v478]) ∧ (A w0 9 1 16 v474 1 [v478] s479 fun v480 s481 => V false 1 v480 (V true 5 (.agg (⟨[v2, v480, .slice none 0 0, v457, .string ({ data := #[] })]⟩)) (R (.agg (⟨[v2, v480, .slice none 0 0, v457, .string ({ data := #[] })]⟩)) s481)))))))))) (B P 3 .eql v459 (.int .i64 3) fun v482 => Q v482 (V false 1 (.int .i64 (-1)) (V false 1 (.int .i64 8) (V false 1 (.int .i64 24) (V false 1 (.int .i64 25) (W w0 3 [.int .i64 (-1), .int .i64 8, .int .i64 24, .int .i64 25] s460 fun n483 s484 => AC P w0 n_p_spec_l1Rd_pick [a0, .int .i64 4] s484 fun v485 s486 => X 1 (.slice (some (Addr.mk n483 0 none)) 4 4) v485 fun v487 => L w0 1 v487 s486 fun g488 => V false 1 (g488 0) (V true 5 (.agg (⟨[v2, v3, .slice none 0 0, g488 0, .string ({ data := #[] })]⟩)) (R (.agg (⟨[v2, v3, .slice none 0 0, g488 0, .string ({ data := #[] })]⟩)) s486))))))) (B P 3 .eql v459 (.int .i64 4) fun v489 => Q v489 (AC P w0 n_p_spec_l1Rd_pick [a0, .int .i64 2] s460 fun v490 s491 => B P 3 .add (.int .i64 24) v490 fun v492 => AC P w0 n_spec_l1Many ([.string ({ data := #[113] }), v492]) s491 fun v493 s494 => V false 1 v493 (V true 5 (.agg (⟨[v2, v3, .slice none 0 0, v457, v493]⟩)) (R (.agg (⟨[v2, v3, .slice none 0 0, v457, v493]⟩)) s494))) (V true 5 (.agg (⟨[v2, v3, .slice none 0 0, v457, .string ({ data := #[] })]⟩)) (R (.agg (⟨[v2, v3, .slice none 0 0, v457, .string ({ data := #[] })]⟩)) s460)))))))) (B P 3 .eql v2 (.int .i64 2) fun v495 => Q v495 (Q v495 (AC P w0 n_p_spec_l1Rd_pick [a0, .int .i64 4] s4 fun v496 s497 => AC P w0 n_p_spec_l1Rd_pick [a0, .int .i64 4] s497 fun v498 s499 => B P 3 .mul v496 v498 fun v500 => V false 1 v500 (B P 3 .eql v2 (.int .i64 2) fun v501 => Q v501 (AC P w0 n_spec_l4Data [a0] s499 fun v502 s503 => V false 1 v502 (AC P w0 n_p_spec_l1Rd_pick [a0, .int .i64 40] s503 fun v504 s505 => B P 3 .eql v504 (.int .i64 0) fun v506 => Q v506 (V false 1 (.int .i64 0) (V false 1 (.int .i64 7) (V false 1 (.int .i64 (-1)) (W w0 3 [.int .i64 0, .int .i64 7, .int .i64 (-1)] s505 fun n507 s508 => AC P w0 n_p_spec_l1Rd_pick [a0, .int .i64 3] s508 fun v509 s510 => X 1 (.slice (some (Addr.mk n507 0 none)) 3 3) v509 fun v511 => L w0 1 v511 s510 fun g512 => V false 1 (g512 0) (V true 5 (.agg (⟨[g512 0, v3, .slice none 0 0, v500, v502]⟩)) (R (.agg (⟨[g512 0, v3, .slice none 0 0, v500, v502]⟩)) s510)))))) (B P 3 .eql v504 (.int .i64 1) fun v513 => Q v513 (W w0 9 [] s505 fun n514 s515 => V false 1 (.slice (some (Addr.mk n514 0 none)) 0 0) (V true 5 (.agg (⟨[v2, .slice (some (Addr.mk n514 0 none)) 0 0, .slice none 0 0, v500, v502]⟩)) (R (.agg (⟨[v2, .slice (some (Addr.mk n514 0 none)) 0 0, .slice none 0 0, v500, v502]⟩)) s515))) (B P 3 .eql v504 (.int .i64 2) fun v516 => Q v516 (W w0 9 [] s505 fun n517 s518 => pAppendS w0 9 1 16 (.slice (some (Addr.mk n517 0 none)) 0 0) v3 s518 fun v519 s520 => V false 1 (.string ({ data := #[] })) (V false 1 (.string ({ data := #[65] })) (V false 1 (.string ({ data := #[116, 111, 111, 108, 111, 110, 103] })) (V false 1 (.string ({ data := #[120] })) (V false 1 (.string ({ data := #[121] })) (W w0 9 ([.string ({ data := #[] }), .string ({ data := #[65] }), .string ({ data := #[116, 111, 111, 108, 111, 110, 103] }), .string ({ data := #[120] }), .string ({ data := #[121] })]) s520 fun n521 s522 => AC P w0 n_p_spec_l1Rd_of [a0, .slice (some (Addr.mk n521 0 none)) 5 5] s522 fun v523 s524 => V false 1 v523 ((allOne [v523]) ∧ (A w0 9 1 16 v519 1 [v523] s524 fun v525 s526 => V false 1 v525 (V true 5 (.agg (⟨[v2, v525, .slice none 0 0, v500, v502]⟩)) (R (.agg (⟨[v2, v525, .slice none 0 0, v500, v502]⟩)) s526)))))))))) (B P 3 .eql v504 (.int .i64 3) fun v527 => Q v527 (V false 1 (.int .i64 (-1)) (V false 1 (.int .i64 8) (V false 1 (.int .i64 24) (V false 1 (.int .i64 25) (W w0 3 [.int .i64 (-1), .int .i64 8, .int .i64 24, .int .i64 25] s505 fun n528 s529 => AC P w0 n_p_spec_l1Rd_pick [a0, .int .i64 4] s529 fun v530 s531 => X 1 (.slice (some (Addr.mk n528 0 none)) 4 4) v530 fun v532 => L w0 1 v532 s531 fun g533 => V false 1 (g533 0) (V true 5 (.agg (⟨[v2, v3, .slice none 0 0, g533 0, v502]⟩)) (R (.agg (⟨[v2, v3, .slice none 0 0, g533 0, v502]⟩)) s531))))))) (B P 3 .eql v504 (.int .i64 4) fun v534 => Q v534 (AC P w0 n_p_spec_l1Rd_pick [a0, .int .i64 2] s505 fun v535 s536 => B P 3 .add (.int .i64 24) v535 fun v537 => AC P w0 n_spec_l1Many ([.string ({ data := #[113] }), v537]) s536 fun v538 s539 => V false 1 v538 (V true 5 (.agg (⟨[v2, v3, .slice none 0 0, v500, v538]⟩)) (R (.agg (⟨[v2, v3, .slice none 0 0, v500, v538]⟩)) s539))) (V true 5 (.agg (⟨[v2, v3, .slice none 0 0, v500, v502]⟩)) (R (.agg (⟨[v2, v3, .slice none 0 0, v500, v502]⟩)) s505)))))))) (AC P w0 n_p_spec_l1Rd_pick [a0, .int .i64 40] s499 fun v540 s541 => B P 3 .eql v540 (.int .i64 0) fun v542 => Q v542 (V false 1 (.int .i64 0) (V false 1 (.int .i64 7) (V false 1 (.int .i64 (-1)) (W w0 3 [.int .i64 0, .int .i64 7, .int .i64 (-1)] s541 fun n543 s544 => AC P w0 n_p_spec_l1Rd_pick [a0, .int .i64 3] s544 fun v545 s546 => X 1 (.slice (some (Addr.mk n543 0 none)) 3 3) v545 fun v547 => L w0 1 v547 s546 fun g548 => V false 1 (g548 0) (V true 5 (.agg (⟨[g548 0, v3, .slice none 0 0, v500, .string ({ data := #[] })]⟩)) (R (.agg (⟨[g548 0, v3, .slice none 0 0, v500, .string ({ data := #[] })]⟩)) s546)))))) (B P 3 .eql v540 (.int .i64 1) fun v549 => Q v549 (W w0 9 [] s541 fun n550 s551 => V false 1 (.slice (some (Addr.mk n550 0 none)) 0 0) (V true 5 (.agg (⟨[v2, .slice (some (Addr.mk n550 0 none)) 0 0, .slice none 0 0, v500, .string ({ data := #[] })]⟩)) (R (.agg (⟨[v2, .slice (some (Addr.mk n550 0 none)) 0 0, .slice none 0 0, v500, .string ({ data := #[] })]⟩)) s551))) (B P 3 .eql v540 (.int .i64 2) fun v552 => Q v552 (W w0 9 [] s541 fun n553 s554 => pAppendS w0 9 1 16 (.slice (some (Addr.mk n553 0 none)) 0 0) v3 s554 fun v555 s556 => V false 1 (.string ({ data := #[] })) (V false 1 (.string ({ data := #[65] })) (V false 1 (.string ({ data := #[116, 111, 111, 108, 111, 110, 103] })) (V false 1 (.string ({ data := #[120] })) (V false 1 (.string ({ data := #[121] })) (W w0 9 ([.string ({ data := #[] }), .string ({ data := #[65] }), .string ({ data := #[116, 111, 111, 108, 111, 110, 103] }), .string ({ data := #[120] }), .string ({ data := #[121] })]) s556 fun n557 s558 => AC P w0 n_p_spec_l1Rd_of [a0, .slice (some (Addr.mk n557 0 none)) 5 5] s558 fun v559 s560 => V false 1 v559 ((allOne [v559]) ∧ (A w0 9 1 16 v555 1 [v559] s560 fun v561 s562 => V false 1 v561 (V true 5 (.agg (⟨[v2, v561, .slice none 0 0, v500, .string ({ data := #[] })]⟩)) (R (.agg (⟨[v2, v561, .slice none 0 0, v500, .string ({ data := #[] })]⟩)) s562)))))))))) (B P 3 .eql v540 (.int .i64 3) fun v563 => Q v563 (V false 1 (.int .i64 (-1)) (V false 1 (.int .i64 8) (V false 1 (.int .i64 24) (V false 1 (.int .i64 25) (W w0 3 [.int .i64 (-1), .int .i64 8, .int .i64 24, .int .i64 25] s541 fun n564 s565 => AC P w0 n_p_spec_l1Rd_pick [a0, .int .i64 4] s565 fun v566 s567 => X 1 (.slice (some (Addr.mk n564 0 none)) 4 4) v566 fun v568 => L w0 1 v568 s567 fun g569 => V false 1 (g569 0) (V true 5 (.agg (⟨[v2, v3, .slice none 0 0, g569 0, .string ({ data := #[] })]⟩)) (R (.agg (⟨[v2, v3, .slice none 0 0, g569 0, .string ({ data := #[] })]⟩)) s567))))))) (B P 3 .eql v540 (.int .i64 4) fun v570 => Q v570 (AC P w0 n_p_spec_l1Rd_pick [a0, .int .i64 2] s541 fun v571 s572 => B P 3 .add (.int .i64 24) v571 fun v573 => AC P w0 n_spec_l1Many ([.string ({ data := #[113] }), v573]) s572 fun v574 s575 => V false 1 v574 (V true 5 (.agg (⟨[v2, v3, .slice none 0 0, v500, v574]⟩)) (R (.agg (⟨[v2, v3, .slice none 0 0, v500, v574]⟩)) s575))) (V true 5 (.agg (⟨[v2, v3, .slice none 0 0, v500, .string ({ data := #[] })]⟩)) (R (.agg (⟨[v2, v3, .slice none 0 0, v500, .string ({ data := #[] })]⟩)) s541))))))))) (B P 3 .eql v2 (.int .i64 5) fun v576 => Q v576 (AC P w0 n_spec_l4Path ([a0, .agg (⟨[C a1 0, C a1 1, C a1 2, C a1 3, C a1 4]⟩)]) s4 fun v577 s578 => V false 1 v577 (AC P w0 n_p_spec_l1Rd_pick [a0, .int .i64 2] s578 fun v579 s580 => B P 3 .eql v579 (.int .i64 0) fun v581 => Q v581 (W w0 9 [] s580 fun n582 s583 => N v577 fun v584 => B P 3 .sub v584 (.int .i64 1) fun v585 => pSlice 1 v577 none (some v585) fun v586 => pAppendS w0 9 1 16 (.slice (some (Addr.mk n582 0 none)) 0 0) v586 s583 fun v587 s588 => AC P w0 n_spec_l4Name [a0] s588 fun v589 s590 => V false 1 v589 ((allOne [v589]) ∧ (A w0 9 1 16 v587 1 [v589] s590 fun v591 s592 => V false 1 v591 (AC P w0 n_p_spec_l1Rd_pick [a0, .int .i64 40] s592 fun v593 s594 => B P 3 .eql v593 (.int .i64 0) fun v595 => Q v595 (V false 1 (.int .i64 0) (V false 1 (.int .i64 7) (V false 1 (.int .i64 (-1)) (W w0 3 [.int .i64 0, .int .i64 7, .int .i64 (-1)] s594 fun n596 s597 => AC P w0 n_p_spec_l1Rd_pick [a0, .int .i64 3] s597 fun v598 s599 => X 1 (.slice (some (Addr.mk n596 0 none)) 3 3) v598 fun v600 => L w0 1 v600 s599 fun g601 => V false 1 (g601 0) (V true 5 (.agg (⟨[g601 0, v3, v591, .int .i64 0, .string ({ data := #[] })]⟩)) (R (.agg (⟨[g601 0, v3, v591, .int .i64 0, .string ({ data := #[] })]⟩)) s599)))))) (B P 3 .eql v593 (.int .i64 1) fun v602 => Q v602 (W w0 9 [] s594 fun n603 s604 => V false 1 (.slice (some (Addr.mk n603 0 none)) 0 0) (V true 5 (.agg (⟨[v2, .slice (some (Addr.mk n603 0 none)) 0 0, v591, .int .i64 0, .string ({ data := #[] })]⟩)) (R (.agg (⟨[v2, .slice (some (Addr.mk n603 0 none)) 0 0, v591, .int .i64 0, .string ({ data := #[] })]⟩)) s604))) (B P 3 .eql v593 (.int .i64 2) fun v605 => Q v605 (W w0 9 [] s594 fun n606 s607 => pAppendS w0 9 1 16 (.slice (some (Addr.mk n606 0 none)) 0 0) v3 s607 fun v608 s609 => V false 1 (.string ({ data := #[] })) (V false 1 (.string ({ data := #[65] })) (V false 1 (.string ({ data := #[116, 111, 111, 108, 111, 110, 103] })) (V false 1 (.string ({ data := #[120] })) (V false 1 (.string ({ data := #[121] })) (W w0 9 ([.string ({ data := #[] }), .string ({ data := #[65] }), .string ({ data := #[116, 111, 111, 108, 111, 110, 103] }), .string ({ data := #[120] }), .string ({ data := #[121] })]) s609 fun n610 s611 => AC P w0 n_p_spec_l1Rd_of [a0, .slice (some (Addr.mk n610 0 none)) 5 5] s611 fun v612 s613 => V false 1 v612 ((allOne [v612]) ∧ (A w0 9 1 16 v608 1 [v612] s613 fun v614 s615 => V false 1 v614 (V true 5 (.agg (⟨[v2, v614, v591, .int .i64 0, .string ({ data := #[] })]⟩)) (R (.agg (⟨[v2, v614, v591, .int .i64 0, .string ({ data := #[] })]⟩)) s615)))))))))) (B P 3 .eql v593 (.int .i64 3) fun v616 => Q v616 (V false 1 (.int .i64 (-1)) (V false 1 (.int .i64 8) (V false 1 (.int .i64 24) (V false 1 (.int .i64 25) (W w0 3 [.int .i64 (-1), .int .i64 8, .int .i64 24, .int .i64 25] s594 fun n617 s618 => AC P w0 n_p_spec_l1Rd_pick [a0, .int .i64 4] s618 fun v619 s620 => X 1 (.slice (some (Addr.mk n617 0 none)) 4 4) v619 fun v621 => L w0 1 v621 s620 fun g622 => V false 1 (g622 0) (V true 5 (.agg (⟨[v2, v3, v591, g622 0, .string ({ data := #[] })]⟩)) (R (.agg (⟨[v2, v3, v591, g622 0, .string ({ data := #[] })]⟩)) s620))))))) (B P 3 .eql v593 (.int .i64 4) fun v623 => Q v623 (AC P w0 n_p_spec_l1Rd_pick [a0, .int .i64 2] s594 fun v624 s625 => B P 3 .add (.int .i64 24) v624 fun v626 => AC P w0 n_spec_l1Many ([.string ({ data := #[113] }), v626]) s625 fun v627 s628 => V false 1 v627 (V true 5 (.agg (⟨[v2, v3, v591, .int .i64 0, v627]⟩)) (R (.agg (⟨[v2, v3, v591, .int .i64 0, v627]⟩)) s628))) (V true 5 (.agg (⟨[v2, v3, v591, .int .i64 0, .string ({ data := #[] })]⟩)) (R (.agg (⟨[v2, v3, v591, .int .i64 0, .string ({ data := #[] })]⟩)) s594)))))))))) (AC P w0 n_p_spec_l1Rd_pick [a0, .int .i64 40] s580 fun v629 s630 => B P 3 .eql v629 (.int .i64 0) fun v631 => Q v631 (V false 1 (.int .i64 0) (V false 1 (.int .i64 7) (V false 1 (.int .i64 (-1)) (W w0 3 [.int .i64 0, .int .i64 7, .int .i64 (-1)] s630 fun n632 s633 => AC P w0 n_p_spec_l1Rd_pick [a0, .int .i64 3] s633 fun v634 s635 => X 1 (.slice (some (Addr.mk n632 0 none)) 3 3) v634 fun v636 => L w0 1 v636 s635 fun g637 => V false 1 (g637 0) (V true 5 (.agg (⟨[g637 0, v3, v577, .int .i64 0, .string ({ data := #[] })]⟩)) (R (.agg (⟨[g637 0, v3, v577, .int .i64 0, .string ({ data := #[] })]⟩)) s635)))))) (B P 3 .eql v629 (.int .i64 1) fun v638 => Q v638 (W w0 9 [] s630 fun n639 s640 => V false 1 (.slice (some (Addr.mk n639 0 none)) 0 0) (V true 5 (.agg (⟨[v2, .slice (some (Addr.mk n639 0 none)) 0 0, v577, .int .i64 0, .string ({ data := #[] })]⟩)) (R (.agg (⟨[v2, .slice (some (Addr.mk n639 0 none)) 0 0, v577, .int .i64 0, .string ({ data := #[] })]⟩)) s640))) (B P 3 .eql v629 (.int .i64 2) fun v641 => Q v641 (W w0 9 [] s630 fun n642 s643 => pAppendS w0 9 1 16 (.slice (some (Addr.mk n642 0 none)) 0 0) v3 s643 fun v644 s645 => V false 1 (.string ({ data := #[] })) (V false 1 (.string ({ data := #[65] })) (V false 1 (.string ({ data := #[116, 111, 111, 108, 111, 110, 103] })) (V false 1 (.string ({ data := #[120] })) (V false 1 (.string ({ data := #[121] })) (W w0 9 ([.string ({ data := #[] }), .string ({ data := #[65] }), .string ({ data := #[116, 111, 111, 108, 111, 110, 103] }), .string ({ data := #[120] }), .string ({ data := #[121] })]) s645 fun n646 s647 => AC P w0 n_p_spec_l1Rd_of [a0, .slice (some (Addr.mk n646 0 none)) 5 5] s647 fun v648 s649 => V false 1 v648 ((allOne [v648]) ∧ (A w0 9 1 16 v644 1 [v648] s649 fun v650 s651 => V false 1 v650 (V true 5 (.agg (⟨[v2, v650, v577, .int .i64 0, .string ({ data := #[] })]⟩)) (R (.agg (⟨[v2, v650, v577, .int .i64 0, .string ({ data := #[] })]⟩)) s651)))))))))) (B P 3 .eql v629 (.int .i64 3) fun v652 => Q v652 (V false 1 (.int .i64 (-1)) (V false 1 (.int .i64 8) (V false 1 (.int .i64 24) (V false 1 (.int .i64 25) (W w0 3 [.int .i64 (-1), .int .i64 8, .int .i64 24, .int .i64 25] s630 fun n653 s654 => AC P w0 n_p_spec_l1Rd_pick [a0, .int .i64 4] s654 fun v655 s656 => X 1 (.slice (some (Addr.mk n653 0 none)) 4 4) v655 fun v657 => L w0 1 v657 s656 fun g658 => V false 1 (g658 0) (V true 5 (.agg (⟨[v2, v3, v577, g658 0, .string ({ data := #[] })]⟩)) (R (.agg (⟨[v2, v3, v577, g658 0, .string ({ data := #[] })]⟩)) s656))))))) (B P 3 .eql v629 (.int .i64 4) fun v659 => Q v659 (AC P w0 n_p_spec_l1Rd_pick [a0, .int .i64 2] s630 fun v660 s661 => B P 3 .add (.int .i64 24) v660 fun v662 => AC P w0 n_spec_l1Many ([.string ({ data := #[113] }), v662]) s661 fun v663 s664 => V false 1 v663 (V true 5 (.agg (⟨[v2, v3, v577, .int .i64 0, v663]⟩)) (R (.agg (⟨[v2, v3, v577, .int .i64 0, v663]⟩)) s664))) (V true 5 (.agg (⟨[v2, v3, v577, .int .i64 0, .string ({ data := #[] })]⟩)) (R (.agg (⟨[v2, v3, v577, .int .i64 0, .string ({ data := #[] })]⟩)) s630))))))))) (AC P w0 n_p_spec_l1Rd_pick [a0, .int .i64 40] s4 fun v665 s666 => B P 3 .eql v665 (.int .i64 0) fun v667 => Q v667 (V false 1 (.int .i64 0) (V false 1 (.int .i64 7) (V false 1 (.int .i64 (-1)) (W w0 3 [.int .i64 0, .int .i64 7, .int .i64 (-1)] s666 fun n668 s669 => AC P w0 n_p_spec_l1Rd_pick [a0, .int .i64 3] s669 fun v670 s671 => X 1 (.slice (some (Addr.mk n668 0 none)) 3 3) v670 fun v672 => L w0 1 v672 s671 fun g673 => V false 1 (g673 0) (V true 5 (.agg (⟨[g673 0, v3, .slice none 0 0, .int .i64 0, .string ({ data := #[] })]⟩)) (R (.agg (⟨[g673 0, v3, .slice none 0 0, .int .i64 0, .string ({ data := #[] })]⟩)) s671)))))) (B P 3 .eql v665 (.int .i64 1) fun v674 => Q v674 (W w0 9 [] s666 fun n675 s676 => V false 1 (.slice (some (Addr.mk n675 0 none)) 0 0) (V true 5 (.agg (⟨[v2, .slice (some (Addr.mk n675 0 none)) 0 0, .slice none 0 0, .int .i64 0, .string ({ data := #[] })]⟩)) (R (.agg (⟨[v2, .slice (some (Addr.mk n675 0 none)) 0 0, .slice none 0 0, .int .i64 0, .string ({ data := #[] })]⟩)) s676))) (B P 3 .eql v665 (.int .i64 2) fun v677 => Q v677 (W w0 9 [] s666 fun n678 s679 => pAppendS w0 9 1 16 (.slice (some (Addr.mk n678 0 none)) 0 0) v3 s679 fun v680 s681 => V false 1 (.string ({ data := #[] })) (V false 1 (.string ({ data := #[65] })) (V false 1 (.string ({ data := #[116, 111, 111, 108, 111, 110, 103] })) (V false 1 (.string ({ data := #[120] })) (V false 1 (.string ({ data := #[121] })) (W w0 9 ([.string ({ data := #[] }), .string ({ data := #[65] }), .string ({ data := #[116, 111, 111, 108, 111, 110, 103] }), .string ({ data := #[120] }), .string ({ data := #[121] })]) s681 fun n682 s683 => AC P w0 n_p_spec_l1Rd_of [a0, .slice (some (Addr.mk n682 0 none)) 5 5] s683 fun v684 s685 => V false 1 v684 ((allOne [v684]) ∧ (A w0 9 1 16 v680 1 [v684] s685 fun v686 s687 => V false 1 v686 (V true 5 (.agg (⟨[v2, v686, .slice none 0 0, .int .i64 0, .string ({ data := #[] })]⟩)) (R (.agg (⟨[v2, v686, .slice none 0 0, .int .i64 0, .string ({ data := #[] })]⟩)) s687)))))))))) (B P 3 .eql v665 (.int .i64 3) fun v688 => Q v688 (V false 1 (.int .i64 (-1)) (V false 1 (.int .i64 8) (V false 1 (.int .i64 24) (V false 1 (.int .i64 25) (W w0 3 [.int .i64 (-1), .int .i64 8, .int .i64 24, .int .i64 25] s666 fun n689 s690 => AC P w0 n_p_spec_l1Rd_pick [a0, .int .i64 4] s690 fun v691 s692 => X 1 (.slice (some (Addr.mk n689 0 none)) 4 4) v691 fun v693 => L w0 1 v693 s692 fun g694 => V false 1 (g694 0) (V true 5 (.agg (⟨[v2, v3, .slice none 0 0, g694 0, .string ({ data := #[] })]⟩)) (R (.agg (⟨[v2, v3, .slice none 0 0, g694 0, .string ({ data := #[] })]⟩)) s692))))))) (B P 3 .eql v665 (.int .i64 4) fun v695 => Q v695 (AC P w0 n_p_spec_l1Rd_pick [a0, .int .i64 2] s666 fun v696 s697 => B P 3 .add (.int .i64 24) v696 fun v698 => AC P w0 n_spec_l1Many ([.string ({ data := #[113] }), v698]) s697 fun v699 s700 => V false 1 v699 (V true 5 (.agg (⟨[v2, v3, .slice none 0 0, .int .i64 0, v699]⟩)) (R (.agg (⟨[v2, v3, .slice none 0 0, .int .i64 0, v699]⟩)) s700))) (V true 5 (.agg (⟨[v2, v3, .slice none 0 0, .int .i64 0, .string ({ data := #[] })]⟩)) (R (.agg (⟨[v2, v3, .slice none 0 0, .int .i64 0, .string ({ data := #[] })]⟩)) s666))))))))) (B P 3 .eql v2 (.int .i64 3) fun v701 => Q v701 (AC P w0 n_p_spec_l1Rd_pick [a0, .int .i64 4] s4 fun v702 s703 => AC P w0 n_p_spec_l1Rd_pick [a0, .int .i64 4] s703 fun v704 s705 => B P 3 .mul v702 v704 fun v706 => V false 1 v706 (B P 3 .eql v2 (.int .i64 2) fun v707 => Q v707 (AC P w0 n_spec_l4Data [a0] s705 fun v708 s709 => V false 1 v708 (AC P w0 n_p_spec_l1Rd_pick [a0, .int .i64 40] s709 fun v710 s711 => B P 3 .eql v710 (.int .i64 0) fun v712 => Q v712 (V false 1 (.int .i64 0) (V false 1 (.int .i64 7) (V false 1 (.int .i64 (-1)) (W w0 3 [.int .i64 0, .int .i64 7, .int .i64 (-1)] s711 fun n713 s714 => AC P w0 n_p_spec_l1Rd_pick [a0, .int .i64 3] s714 fun v715 s716 => X 1 (.slice (some (Addr.mk n713 0 none)) 3 3) v715 fun v717 => L w0 1 v717 s716 fun g718 => V false 1 (g718 0) (V true 5 (.agg (⟨[g718 0, v3, .slice none 0 0, v706, v708]⟩)) (R (.agg (⟨[g718 0, v3, .slice none 0 0, v706, v708]⟩)) s716)))))) (B P 3 .eql v710 (.int .i64 1) fun v719 => Q v719 (W w0 9 [] s711 fun n720 s721 => V false 1 (.slice (some (Addr.mk n720 0 none)) 0 0) (V true 5 (.agg (⟨[v2, .slice (some (Addr.mk n720 0 none)) 0 0, .slice none 0 0, v706, v708]⟩)) (R (.agg (⟨[v2, .slice (some (Addr.mk n720 0 none)) 0 0, .slice none 0 0, v706, v708]⟩)) s721))) (B P 3 .eql v710 (.int .i64 2) fun v722 => Q v722 (W w0 9 [] s711 fun n723 s724 => pAppendS w0 9 1 16 (.slice (some (Addr.mk n723 0 none)) 0 0) v3 s724 fun v725 s726 => V false 1 (.string ({ data := #[] })) (V false 1 (.string ({ data := #[65] })) (V false 1 (.string ({ data := #[116, 111, 111, 108, 111, 110, 103] })) (V false 1 (.string ({ data := #[120] })) (V false 1 (.string ({ data := #[121] })) (W w0 9 ([.string ({ data := #[] }), .string ({ data := #[65] }), .string ({ data := #[116, 111, 111, 108, 111, 110, 103] }), .string ({ data := #[120] }), .string ({ data := #[121] })]) s726 fun n727 s728 => AC P w0 n_p_spec_l1Rd_of [a0, .slice (some (Addr.mk n727 0 none)) 5 5] s728 fun v729 s730 => V false 1 v729 ((allOne [v729]) ∧ (A w0 9 1 16 v725 1 [v729] s730 fun v731 s732 => V false 1 v731 (V true 5 (.agg (⟨[v2, v731, .slice none 0 0, v706, v708]⟩)) (R (.agg (⟨[v2, v731, .slice none 0 0, v706, v708]⟩)) s732)))))))))) (B P 3 .eql v710 (.int .i64 3) fun v733 => Q v733 (V false 1 (.int .i64 (-1)) (V false 1 (.int .i64 8) (V false 1 (.int .i64 24) (V false 1 (.int .i64 25) (W w0 3 [.int .i64 (-1), .int .i64 8, .int .i64 24, .int .i64 25] s711 fun n734 s735 => AC P w0 n_p_spec_l1Rd_pick [a0, .int .i64 4] s735 fun v736 s737 => X 1 (.slice (some (Addr.mk n734 0 none)) 4 4) v736 fun v738 => L w0 1 v738 s737 fun g739 => V false 1 (g739 0) (V true 5 (.agg (⟨[v2, v3, .slice none 0 0, g739 0, v708]⟩)) (R (.agg (⟨[v2, v3, .slice none 0 0, g739 0, v708]⟩)) s737))))))) (B P 3 .eql v710 (.int .i64 4) fun v740 => Q v740 (AC P w0 n_p_spec_l1Rd_pick [a0, .int .i64 2] s711 fun v741 s742 => B P 3 .add (.int .i64 24) v741 fun v743 => AC P w0 n_spec_l1Many ([.string ({ data := #[113] }), v743]) s742 fun v744 s745 => V false 1 v744 (V true 5 (.agg (⟨[v2, v3, .slice none 0 0, v706, v744]⟩)) (R (.agg (⟨[v2, v3, .slice none 0 0, v706, v744]⟩)) s745))) (V true 5 (.agg (⟨[v2, v3, .slice none 0 0, v706, v708]⟩)) (R (.agg (⟨[v2, v3, .slice none 0 0, v706, v708]⟩)) s711)))))))) (AC P w0 n_p_spec_l1Rd_pick [a0, .int .i64 40] s705 fun v746 s747 => B P 3 .eql v746 (.int .i64 0) fun v748 => Q v748 (V false 1 (.int .i64 0) (V false 1 (.int .i64 7) (V false 1 (.int .i64 (-1)) (W w0 3 [.int .i64 0, .int .i64 7, .int .i64 (-1)] s747 fun n749 s750 => AC P w0 n_p_spec_l1Rd_pick [a0, .int .i64 3] s750 fun v751 s752 => X 1 (.slice (some (Addr.mk n749 0 none)) 3 3) v751 fun v753 => L w0 1 v753 s752 fun g754 => V false 1 (g754 0) (V true 5 (.agg (⟨[g754 0, v3, .slice none 0 0, v706, .string ({ data := #[] })]⟩)) (R (.agg (⟨[g754 0, v3, .slice none 0 0, v706, .string ({ data := #[] })]⟩)) s752)))))) (B P 3 .eql v746 (.int .i64 1) fun v755 => Q v755 (W w0 9 [] s747 fun n756 s757 => V false 1 (.slice (some (Addr.mk n756 0 none)) 0 0) (V true 5 (.agg (⟨[v2, .slice (some (Addr.mk n756 0 none)) 0 0, .slice none 0 0, v706, .string ({ data := #[] })]⟩)) (R (.agg (⟨[v2, .slice (some (Addr.mk n756 0 none)) 0 0, .slice none 0 0, v706, .string ({ data := #[] })]⟩)) s757))) (B P 3 .eql v746 (.int .i64 2) fun v758 => Q v758 (W w0 9 [] s747 fun n759 s760 => pAppendS w0 9 1 16 (.slice (some (Addr.mk n759 0 none)) 0 0) v3 s760 fun v761 s762 => V false 1 (.string ({ data := #[] })) (V false 1 (.string ({ data := #[65] })) (V false 1 (.string ({ data := #[116, 111, 111, 108, 111, 110, 103] })) (V false 1 (.string ({ data := #[120] })) (V false 1 (.string ({ data := #[121] })) (W w0 9 ([.string ({ data := #[] }), .string ({ data := #[65] }), .string ({ data := #[116, 111, 111, 108, 111, 110, 103] }), .string ({ data := #[120] }), .string ({ data := #[121] })]) s762 fun n763 s764 => AC P w0 n_p_spec_l1Rd_of [a0, .slice (some (Addr.mk n763 0 none)) 5 5] s764 fun v765 s766 => V false 1 v765 ((allOne [v765]) ∧ (A w0 9 1 16 v761 1 [v765] s766 fun v767 s768 => V false 1 v767 (V true 5 (.agg (⟨[v2, v767, .slice none 0 0, v706, .string ({ data := #[] })]⟩)) (R (.agg (⟨[v2, v767, .slice none 0 0, v706, .string ({ data := #[] })]⟩)) s768)))))))))) (B P 3 .eql v746 (.int .i64 3) fun v769 => Q v769 (V false 1 (.int .i64 (-1)) (V false 1 (.int .i64 8) (V false 1 (.int .i64 24) (V false 1 (.int .i64 25) (W w0 3 [.int .i64 (-1), .int .i64 8, .int .i64 24, .int .i64 25] s747 fun n770 s771 => AC P w0 n_p_spec_l1Rd_pick [a0, .int .i64 4] s771 fun v772 s773 => X 1 (.slice (some (Addr.mk n770 0 none)) 4 4) v772 fun v774 => L w0 1 v774 s773 fun g775 => V false 1 (g775 0) (V true 5 (.agg (⟨[v2, v3, .slice none 0 0, g775 0, .string ({ data := #[] })]⟩)) (R (.agg (⟨[v2, v3, .slice none 0 0, g775 0, .string ({ data := #[] })]⟩)) s773))))))) (B P 3 .eql v746 (.int .i64 4) fun v776 => Q v776 (AC P w0 n_p_spec_l1Rd_pick [a0, .int .i64 2] s747 fun v777 s778 => B P 3 .add (.int .i64 24) v777 fun v779 => AC P w0 n_spec_l1Many ([.string ({ data := #[113] }), v779]) s778 fun v780 s781 => V false 1 v780 (V true 5 (.agg (⟨[v2, v3, .slice none 0 0, v706, v780]⟩)) (R (.agg (⟨[v2, v3, .slice none 0 0, v706, v780]⟩)) s781))) (V true 5 (.agg (⟨[v2, v3, .slice none 0 0, v706, .string ({ data := #[] })]⟩)) (R (.agg (⟨[v2, v3, .slice none 0 0, v706, .string ({ data := #[] })]⟩)) s747))))))))) (B P 3 .eql v2 (.int .i64 5) fun v782 => Q v782 (AC P w0 n_spec_l4Path ([a0, .agg (⟨[C a1 0, C a1 1, C a1 2, C a1 3, C a1 4]⟩)]) s4 fun v783 s784 => V false 1 v783 (AC P w0 n_p_spec_l1Rd_pick [a0, .int .i64 2] s784 fun v785 s786 => B P 3 .eql v785 (.int .i64 0) fun v787 => Q v787 (W w0 9 [] s786 fun n788 s789 => N v783 fun v790 => B P 3 .sub v790 (.int .i64 1) fun v791 => pSlice 1 v783 none (some v791) fun v792 => pAppendS w0 9 1 16 (.slice (some (Addr.mk n788 0 none)) 0 0) v792 s789 fun v793 s794 => AC P w0 n_spec_l4Name [a0] s794 fun v795 s796 => V false 1 v795 ((allOne [v795]) ∧ (A w0 9 1 16 v793 1 [v795] s796 fun v797 s798 => V false 1 v797 (AC P w0 n_p_spec_l1Rd_pick [a0, .int .i64 40] s798 fun v799 s800 => B P 3 .eql v799 (.int .i64 0) fun v801 => Q v801 (V false 1 (.int .i64 0) (V false 1 (.int .i64 7) (V false 1 (.int .i64 (-1)) (W w0 3 [.int .i64 0, .int .i64 7, .int .i64 (-1)] s800 fun n802 s803 => AC P w0 n_p_spec_l1Rd_pick [a0, .int .i64 3] s803 fun v804 s805 => X 1 (.slice (some (Addr.mk n802 0 none)) 3 3) v804 fun v806 => L w0 1 v806 s805 fun g807 => V false 1 (g807 0) (V true 5 (.agg (⟨[g807 0, v3, v797, .int .i64 0, .string ({ data := #[] })]⟩)) (R (.agg (⟨[g807 0, v3, v797, .int .i64 0, .string ({ data := #[] })]⟩)) s805)))))) (B P 3 .eql v799 (.int .i64 1) fun v808 => Q v808 (W w0 9 [] s800 fun n809 s810 => V false 1 (.slice (some (Addr.mk n809 0 none)) 0 0) (V true 5 (.agg (⟨[v2, .slice (some (Addr.mk n809 0 none)) 0 0, v797, .int .i64 0, .string ({ data := #[] })]⟩)) (R (.agg (⟨[v2, .slice (some (Addr.mk n809 0 none)) 0 0, v797, .int .i64 0, .string ({ data := #[] })]⟩)) s810))) (B P 3 .eql v799 (.int .i64 2) fun v811 => Q v811 (W w0 9 [] s800 fun n812 s813 => pAppendS w0 9 1 16 (.slice (some (Addr.mk n812 0 none)) 0 0) v3 s813 fun v814 s815 => V false 1 (.string ({ data := #[] })) (V false 1 (.string ({ data := #[65] })) (V false 1 (.string ({ data := #[116, 111, 111, 108, 111, 110, 103] })) (V false 1 (.string ({ data := #[120] })) (V false 1 (.string ({ data := #[121] })) (W w0 9 ([.string ({ data := #[] }), .string ({ data := #[65] }), .string ({ data := #[116, 111, 111, 108, 111, 110, 103] }), .string ({ data := #[120] }), .string ({ data := #[121] })]) s815 fun n816 s817 => AC P w0 n_p_spec_l1Rd_of [a0, .slice (some (Addr.mk n816 0 none)) 5 5] s817 fun v818 s819 => V false 1 v818 ((allOne [v818]) ∧ (A w0 9 1 16 v814 1 [v818] s819 fun v820 s821 => V false 1 v820 (V true 5 (.agg (⟨[v2, v820, v797, .int .i64 0, .string ({ data := #[] })]⟩)) (R (.agg (⟨[v2, v820, v797, .int .i64 0, .string ({ data := #[] })]⟩)) s821)))))))))) (B P 3 .eql v799 (.int .i64 3) fun v822 => Q v822 (V false 1 (.int .i64 (-1)) (V false 1 (.int .i64 8) (V false 1 (.int .i64 24) (V false 1 (.int .i64 25) (W w0 3 [.int .i64 (-1), .int .i64 8, .int .i64 24, .int .i64 25] s800 fun n823 s824 => AC P w0 n_p_spec_l1Rd_pick [a0, .int .i64 4] s824 fun v825 s826 => X 1 (.slice (some (Addr.mk n823 0 none)) 4 4) v825 fun v827 => L w0 1 v827 s826 fun g828 => V false 1 (g828 0) (V true 5 (.agg (⟨[v2, v3, v797, g828 0, .string ({ data := #[] })]⟩)) (R (.agg (⟨[v2, v3, v797, g828 0, .string ({ data := #[] })]⟩)) s826))))))) (B P 3 .eql v799 (.int .i64 4) fun v829 => Q v829 (AC P w0 n_p_spec_l1Rd_pick [a0, .int .i64 2] s800 fun v830 s831 => B P 3 .add (.int .i64 24) v830 fun v832 => AC P w0 n_spec_l1Many ([.string ({ data := #[113] }), v832]) s831 fun v833 s834 => V false 1 v833 (V true 5 (.agg (⟨[v2, v3, v797, .int .i64 0, v833]⟩)) (R (.agg (⟨[v2, v3, v797, .int .i64 0, v833]⟩)) s834))) (V true 5 (.agg (⟨[v2, v3, v797, .int .i64 0, .string ({ data := #[] })]⟩)) (R (.agg (⟨[v2, v3, v797, .int .i64 0, .string ({ data := #[] })]⟩)) s800)))))))))) (AC P w0 n_p_spec_l1Rd_pick [a0, .int .i64 40] s786 fun v835 s836 => B P 3 .eql v835 (.int .i64 0) fun v837 => Q v837 (V false 1 (.int .i64 0) (V false 1 (.int .i64 7) (V false 1 (.int .i64 (-1)) (W w0 3 [.int .i64 0, .int .i64 7, .int .i64 (-1)] s836 fun n838 s839 => AC P w0 n_p_spec_l1Rd_pick [a0, .int .i64 3] s839 fun v840 s841 => X 1 (.slice (some (Addr.mk n838 0 none)) 3 3) v840 fun v842 => L w0 1 v842 s841 fun g843 => V false 1 (g843 0) (V true 5 (.agg (⟨[g843 0, v3, v783, .int .i64 0, .string ({ data := #[] })]⟩)) (R (.agg (⟨[g843 0, v3, v783, .int .i64 0, .string ({ data := #[] })]⟩)) s841)))))) (B P 3 .eql v835 (.int .i64 1) fun v844 => Q v844 (W w0 9 [] s836 fun n845 s846 => V false 1 (.slice (some (Addr.mk n845 0 none)) 0 0) (V true 5 (.agg (⟨[v2, .slice (some (Addr.mk n845 0 none)) 0 0, v783, .int .i64 0, .string ({ data := #[] })]⟩)) (R (.agg (⟨[v2, .slice (some (Addr.mk n845 0 none)) 0 0, v783, .int .i64 0, .string ({ data := #[] })]⟩)) s846))) (B P 3 .eql v835 (.int .i64 2) fun v847 => Q v847 (W w0 9 [] s836 fun n848 s849 => pAppendS w0 9 1 16 (.slice (some (Addr.mk n848 0 none)) 0 0) v3 s849 fun v850 s851 => V false 1 (.string ({ data := #[] })) (V false 1 (.string ({ data := #[65] })) (V false 1 (.string ({ data := #[116, 111, 111, 108, 111, 110, 103] })) (V false 1 (.string ({ data := #[120] })) (V false 1 (.string ({ data := #[121] })) (W w0 9 ([.string ({ data := #[] }), .string ({ data := #[65] }), .string ({ data := #[116, 111, 111, 108, 111, 110, 103] }), .string ({ data := #[120] }), .string ({ data := #[121] })]) s851 fun n852 s853 => AC P w0 n_p_spec_l1Rd_of [a0, .slice (some (Addr.mk n852 0 none)) 5 5] s853 fun v854 s855 => V false 1 v854 ((allOne [v854]) ∧ (A w0 9 1 16 v850 1 [v854] s855 fun v856 s857 => V false 1 v856 (V true 5 (.agg (⟨[v2, v856, v783, .int .i64 0, .string ({ data := #[] })]⟩)) (R (.agg (⟨[v2, v856, v783, .int .i64 0, .string ({ data := #[] })]⟩)) s857)))))))))) (B P 3 .eql v835 (.int .i64 3) fun v858 => Q v858 (V false 1 (.int .i64 (-1)) (V false 1 (.int .i64 8) (V false 1 (.int .i64 24) (V false 1 (.int .i64 25) (W w0 3 [.int .i64 (-1), .int .i64 8, .int .i64 24, .int .i64 25] s836 fun n859 s860 => AC P w0 n_p_spec_l1Rd_pick [a0, .int .i64 4] s860 fun v861 s862 => X 1 (.slice (some (Addr.mk n859 0 none)) 4 4) v861 fun v863 => L w0 1 v863 s862 fun g864 => V false 1 (g864 0) (V true 5 (.agg (⟨[v2, v3, v783, g864 0, .string ({ data := #[] })]⟩)) (R (.agg (⟨[v2, v3, v783, g864 0, .string ({ data := #[] })]⟩)) s862))))))) (B P 3 .eql v835 (.int .i64 4) fun v865 => Q v865 (AC P w0 n_p_spec_l1Rd_pick [a0, .int .i64 2] s836 fun v866 s867 => B P 3 .add (.int .i64 24) v866 fun v868 => AC P w0 n_spec_l1Many ([.string ({ data := #[113] }), v868]) s867 fun v869 s870 => V false 1 v869 (V true 5 (.agg (⟨[v2, v3, v783, .int .i64 0, v869]⟩)) (R (.agg (⟨[v2, v3, v783, .int .i64 0, v869]⟩)) s870))) (V true 5 (.agg (⟨[v2, v3, v783, .int .i64 0, .string ({ data := #[] })]⟩)) (R (.agg (⟨[v2, v3, v783, .int .i64 0, .string ({ data := #[] })]⟩)) s836))))))))) (AC P w0 n_p_spec_l1Rd_pick [a0, .int .i64 40] s4 fun v871 s872 => B P 3 .eql v871 (.int .i64 0) fun v873 => Q v873 (V false 1 (.int .i64 0) (V false 1 (.int .i64 7) (V false 1 (.int .i64 (-1)) (W w0 3 [.int .i64 0, .int .i64 7, .int .i64 (-1)] s872 fun n874 s875 => AC P w0 n_p_spec_l1Rd_pick [a0, .int .i64 3] s875 fun v876 s877 => X 1 (.slice (some (Addr.mk n874 0 none)) 3 3) v876 fun v878 => L w0 1 v878 s877 fun g879 => V false 1 (g879 0) (V true 5 (.agg (⟨[g879 0, v3, .slice none 0 0, .int .i64 0, .string ({ data := #[] })]⟩)) (R (.agg (⟨[g879 0, v3, .slice none 0 0, .int .i64 0, .string ({ data := #[] })]⟩)) s877)))))) (B P 3 .eql v871 (.int .i64 1) fun v880 => Q v880 (W w0 9 [] s872 fun n881 s882 => V false 1 (.slice (some (Addr.mk n881 0 none)) 0 0) (V true 5 (.agg (⟨[v2, .slice (some (Addr.mk n881 0 none)) 0 0, .slice none 0 0, .int .i64 0, .string ({ data := #[] })]⟩)) (R (.agg (⟨[v2, .slice (some (Addr.mk n881 0 none)) 0 0, .slice none 0 0, .int .i64 0, .string ({ data := #[] })]⟩)) s882))) (B P 3 .eql v871 (.int .i64 2) fun v883 => Q v883 (W w0 9 [] s872 fun n884 s885 => pAppendS w0 9 1 16 (.slice (some (Addr.mk n884 0 none)) 0 0) v3 s885 fun v886 s887 => V false 1 (.string ({ data := #[] })) (V false 1 (.string ({ data := #[65] })) (V false 1 (.string ({ data := #[116, 111, 111, 108, 111, 110, 103] })) (V false 1 (.string ({ data := #[120] })) (V false 1 (.string ({ data := #[121] })) (W w0 9 ([.string ({ data := #[] }), .string ({ data := #[65] }), .string ({ data := #[116, 111, 111, 108, 111, 110, 103] }), .string ({ data := #[120] }), .string ({ data := #[121] })]) s887 fun n888 s889 => AC P w0 n_p_spec_l1Rd_of [a0, .slice (some (Addr.mk n888 0 none)) 5 5] s889 fun v890 s891 => V false 1 v890 ((allOne [v890]) ∧ (A w0 9 1 16 v886 1 [v890] s891 fun v892 s893 => V false 1 v892 (V true 5 (.agg (⟨[v2, v892, .slice none 0 0, .int .i64 0, .string ({ data := #[] })]⟩)) (R (.agg (⟨[v2, v892, .slice none 0 0, .int .i64 0, .string ({ data := #[] })]⟩)) s893)))))))))) (B P 3 .eql v871 (.int .i64 3) fun v894 => Q v894 (V false 1 (.int .i64 (-1)) (V false 1 (.int .i64 8) (V false 1 (.int .i64 24) (V false 1 (.int .i64 25) (W w0 3 [.int .i64 (-1), .int .i64 8, .int .i64 24, .int .i64 25] s872 fun n895 s896 => AC P w0 n_p_spec_l1Rd_pick [a0, .int .i64 4] s896 fun v897 s898 => X 1 (.slice (some (Addr.mk n895 0 none)) 4 4) v897 fun v899 => L w0 1 v899 s898 fun g900 => V false 1 (g900 0) (V true 5 (.agg (⟨[v2, v3, .slice none 0 0, g900 0, .string ({ data := #[] })]⟩)) (R (.agg (⟨[v2, v3, .slice none 0 0, g900 0, .string ({ data := #[] })]⟩)) s898))))))) (B P 3 .eql v871 (.int .i64 4) fun v901 => Q v901 (AC P w0 n_p_spec_l1Rd_pick [a0, .int .i64 2] s872 fun v902 s903 => B P 3 .add (.int .i64 24) v902 fun v904 => AC P w0 n_spec_l1Many ([.string ({ data := #[113] }), v904]) s903 fun v905 s906 => V false 1 v905 (V true 5 (.agg (⟨[v2, v3, .slice none 0 0, .int .i64 0, v905]⟩)) (R (.agg (⟨[v2, v3, .slice none 0 0, .int .i64 0, v905]⟩)) s906))) (V true 5 (.agg (⟨[v2, v3, .slice none 0 0, .int .i64 0, .string ({ data := #[] })]⟩)) (R (.agg (⟨[v2, v3, .slice none 0 0, .int .i64 0, .string ({ data := #[] })]⟩)) s872)))))))))))))))
theorem vc_spec_l4Call_eq (w0 : World) (a0 a1 : Value) (σ : Vw) (R : Value → Vw → Prop) : vc_spec_l4Call w0 a0 a1 σ R = den Tryz.prog w0 kp_spec_l4Call esc_spec_l4Call (Tryz.f123.body.getD .skip) (entry Tryz.f123.ntmps [a0, a1]) σ (retK Tryz.prog Tryz.f123.results.toList R) := by kernel_rfl
theorem ac_spec_l4Call {w0 : World} {a0 a1 : Value} {σ : Vw} {R : Value → Vw → Prop} (h : vc_spec_l4Call w0 a0 a1 σ R) : AC Tryz.prog w0 n_spec_l4Call [a0, a1] σ R := by
  refine ac_rule (fn := Tryz.f123) (c := Tryz.f123.body.getD .skip) kp_spec_l4Call esc_spec_l4Call Tryz.func123 (by kernel_rfl) (by kernel_rfl) ?_
  rw [← vc_spec_l4Call_eq]
  exact h

/-- (impl.Call).isCall -/
def kp_impl_Call_isCall : Nat → Keep
  | _ => ⟨[], [], [], .done, []⟩
def esc_impl_Call_isCall : Nat → Bool
  | _ => false
def vc_impl_Call_isCall (w0 : World) (a0 : Value) (σ : Vw) (R : Value → Vw → Prop) : Prop :=
  V true 5 a0 (AC P w0 n_impl_within [C a0 0, .int .i64 1, .int .i64 6] σ fun v0 s1 => pUn .not v0 fun v2 => Q v2 (R (.bool false) s1) (AC P w0 n_impl_namesOk [C a0 1, .int .i64 1] s1 fun v3 s4 => pUn .not v3 fun v5 => Q v5 (R (.bool false) s4) (B P 3 .eql (C a0 0) (.int .i64 1) fun v6 => Q v6 (Q v6 (AC P w0 n_impl_modeOk [C a0 3] s4 fun v7 s8 => R v7 s8) (B P 3 .eql (C a0 0) (.int .i64 2) fun v9 => Q v9 (Q v9 (AC P w0 n_impl_within [C a0 3, .int .i64 0, .int .i64 24] s4 fun v10 s11 => R v10 s11) (B P 3 .eql (C a0 0) (.int .i64 5) fun v12 => Q v12 (AC P w0 n_impl_namesOk [C a0 2, .int .i64 1] s4 fun v13 s14 => R v13 s14) (R (.bool true) s4))) (B P 3 .eql (C a0 0) (.int .i64 3) fun v15 => Q v15 (AC P w0 n_impl_within [C a0 3, .int .i64 0, .int .i64 24] s4 fun v16 s17 => R v16 s17) (B P 3 .eql (C a0 0) (.int .i64 5) fun v18 => Q v18 (AC P w0 n_impl_namesOk [C a0 2, .int .i64 1] s4 fun v19 s20 => R v19 s20) (R (.bool true) s4))))) (B P 3 .eql (C a0 0) (.int .i64 6) fun v21 => Q v21 (AC P w0 n_impl_modeOk [C a0 3] s4 fun v22 s23 => R v22 s23) (B P 3 .eql (C a0 0) (.int .i64 2) fun v24 => Q v24 (Q v24 (AC P w0 n_impl_within [C a0 3, .int .i64 0, .int .i64 24] s4 fun v25 s26 => R v25 s26) (B P 3 .eql (C a0 0) (.int .i64 5) fun v27 => Q v27 (AC P w0 n_impl_namesOk [C a0 2, .int .i64 1] s4 fun v28 s29 => R v28 s29) (R (.bool true) s4))) (B P 3 .eql (C a0 0) (.int .i64 3) fun v30 => Q v30 (AC P w0 n_impl_within [C a0 3, .int .i64 0, .int .i64 24] s4 fun v31 s32 => R v31 s32) (B P 3 .eql (C a0 0) (.int .i64 5) fun v33 => Q v33 (AC P w0 n_impl_namesOk [C a0 2, .int .i64 1] s4 fun v34 s35 => R v34 s35) (R (.bool true) s4))))))))
theorem vc_impl_Call_isCall_eq (w0 : World) (a0 : Value) (σ : Vw) (R : Value → Vw → Prop) : vc_impl_Call_isCall w0 a0 σ R = den Tryz.prog w0 kp_impl_Call_isCall esc_impl_Call_isCall (Tryz.f124.body.getD .skip) (entry Tryz.f124.ntmps [a0]) σ (retK Tryz.prog Tryz.f124.results.toList R) := by kernel_rfl
theorem ac_impl_Call_isCall {w0 : World} {a0 : Value} {σ : Vw} {R : Value → Vw → Prop} (h : vc_impl_Call_isCall w0 a0 σ R) : AC Tryz.prog w0 n_impl_Call_isCall [a0] σ R := by
  refine ac_rule (fn := Tryz.f124) (c := Tryz.f124.body.getD .skip) kp_impl_Call_isCall esc_impl_Call_isCall Tryz.func124 (by kernel_rfl) (by kernel_rfl) ?_
  rw [← vc_impl_Call_isCall_eq]
  exact h

/-- spec.l1In -/
def kp_spec_l1In : Nat → Keep
  | _ => ⟨[], [], [], .done, []⟩
def esc_spec_l1In : Nat → Bool
  | _ => false
def vc_spec_l1In (w0 : World) (a0 a1 a2 : Value) (σ : Vw) (R : Value → Vw → Prop) : Prop :=
  B P 3 .geq a0 a1 fun v0 => Q v0 (B P 3 .leq a0 a2 fun v1 => R v1 σ) (R (.bool false) σ)
theorem vc_spec_l1In_eq (w0 : World) (a0 a1 a2 : Value) (σ : Vw) (R : Value → Vw → Prop) : vc_spec_l1In w0 a0 a1 a2 σ R = den Tryz.prog w0 kp_spec_l1In esc_spec_l1In (Tryz.f125.body.getD .skip) (entry Tryz.f125.ntmps [a0, a1, a2]) σ (retK Tryz.prog Tryz.f125.results.toList R) := by kernel_rfl
theorem ac_spec_l1In {w0 : World} {a0 a1 a2 : Value} {σ : Vw} {R : Value → Vw → Prop} (h : vc_spec_l1In w0 a0 a1 a2 σ R) : AC Tryz.prog w0 n_spec_l1In [a0, a1, a2] σ R := by
  refine ac_rule (fn := Tryz.f125) (c := Tryz.f125.body.getD .skip) kp_spec_l1In esc_spec_l1In Tryz.func125 (by kernel_rfl) (by kernel_rfl) ?_
  rw [← vc_spec_l1In_eq]
  exact h

/-- spec.l1Find -/
def kp_spec_l1Find : Nat → Keep
  | 2 => ⟨[1, 4, 5], [(2, 5)], [2], .done, []⟩
  | _ => ⟨[], [], [], .done, []⟩
def esc_spec_l1Find : Nat → Bool
  | _ => false
def vc_spec_l1Find (w0 : World) (a0 a1 : Value) (σ : Vw) (R : Value → Vw → Prop) : Prop :=
  V true 5 a0 (pLoop (fun l0 K1 s2 => N (G l0 6) fun v3 => B P 3 .lss (G l0 2) v3 fun v4 => Q v4 (X 1 (G l0 6) (G l0 2) fun v5 => L w0 1 v5 s2 fun g6 => B P 9 .eql (g6 0) (G l0 0) fun v7 => Q v7 (K1 .ret [G l0 0, G l0 2, G l0 2, G l0 3, G l0 4, G l0 5, G l0 6, G l0 7] s2) (B P 3 .add (G l0 2) (.int .i64 1) fun v8 => K1 .normal [G l0 0, G l0 1, v8, G l0 3, G l0 4, G l0 5, G l0 6, G l0 7] s2)) (K1 (.exit 0) [G l0 0, G l0 1, G l0 2, G l0 3, G l0 4, G l0 5, G l0 6, G l0 7] s2)) [a1, .int .i64 0, .int .i64 0, C a0 0, C a0 1, C a0 2, C a0 3, C a0 4] σ fun x9 l10 s11 => match x9 with | .normal => R (.int .i64 (-1)) s11 | .ret => R (G l10 1) s11 | .exit i12 => (match Nat.beq i12 0 with | true => R (.int .i64 (-1)) s11 | false => False))
theorem vc_spec_l1Find_eq (w0 : World) (a0 a1 : Value) (σ : Vw) (R : Value → Vw → Prop) : vc_spec_l1Find w0 a0 a1 σ R = den Tryz.prog w0 kp_spec_l1Find esc_spec_l1Find (Tryz.f126.body.getD .skip) (entry Tryz.f126.ntmps [a0, a1]) σ (retK Tryz.prog Tryz.f126.results.toList R) := by kernel_rfl
theorem ac_spec_l1Find {w0 : World} {a0 a1 : Value} {σ : Vw} {R : Value → Vw → Prop} (h : vc_spec_l1Find w0 a0 a1 σ R) : AC Tryz.prog w0 n_spec_l1Find [a0, a1] σ R := by
  refine ac_rule (fn := Tryz.f126) (c := Tryz.f126.body.getD .skip) kp_spec_l1Find esc_spec_l1Find Tryz.func126 (by kernel_rfl) (by kernel_rfl) ?_
  rw [← vc_spec_l1Find_eq]
  exact h

/-- spec.l1Copy -/
def kp_spec_l1Copy : Nat → Keep
  | 1 => ⟨[], [], [], .step 0 (.step 1 (.step 2 (.step 3 (.step 4 (.step 5 (.step 7 (.step 8 (.step 11 (.step 6 (.step 9 (.step 10 (.step 12 (.done))))))))))))), [(1, [0]), (3, [2]), (5, [4]), (8, [7]), (9, [6, 7, 8]), (10, [0, 1, 2, 3, 4, 5, 6, 7, 8, 9]), (12, [0, 1, 2, 3, 4, 5, 6, 7, 8, 9, 10, 11])]⟩
  | 3 => ⟨[4], [(1, 5), (2, 5), (3, 5)], [1, 2, 3], .done, []⟩
  | 5 => ⟨[], [], [], .step 0 (.step 1 (.step 2 (.step 3 (.step 4 (.step 5 (.step 6 (.step 7 (.step 8 (.step 9 (.step 10 (.step 11 (.done)))))))))))), [(1, [0]), (3, [2]), (5, [2, 3, 4]), (6, [2, 3, 4, 5]), (7, [2, 3, 4, 5, 6]), (8, [2, 3, 4, 5, 6, 7]), (9, [0, 1, 2, 3, 4, 5, 6, 7, 8]), (10, [0, 1, 2, 3, 4, 5, 6, 7, 8, 9]), (11, [0, 1, 2, 3, 4, 5, 6, 7, 8, 9, 10])]⟩
  | _ => ⟨[], [], [], .done, []⟩
def esc_spec_l1Copy : Nat → Bool
  | 11 => true
  | _ => false
def vc_spec_l1Copy (w0 : World) (a0 : Value) (σ : Vw) (R : Value → Vw → Prop) : Prop :=
  V true 5 a0 (W w0 9 [] σ fun n0 s1 => pAppendS w0 9 1 16 (.slice (some (Addr.mk n0 0 none)) 0 0) (C a0 3) s1 fun v2 s3 => V false 1 (C a0 0) (V false 1 (C a0 1) (V false 1 (C a0 2) (V false 1 v2 (V true 5 (.agg (⟨[C a0 0, C a0 1, C a0 2, v2, .slice none 0 0]⟩)) (pLoop (fun l4 K5 s6 => N (G l4 5) fun v7 => B P 3 .lss (G l4 0) v7 fun v8 => Q v8 (X 5 (G l4 5) (G l4 0) fun v9 => L w0 5 v9 s6 fun g10 => AC P w0 n_spec_l1Copy ([.agg (⟨[g10 0, g10 1, g10 2, g10 3, g10 4]⟩)]) s6 fun v11 s12 => V true 5 v11 ((allOne [C v11 0, C v11 1, C v11 2, C v11 3, C v11 4]) ∧ (A w0 26 5 80 (G l4 15) 1 [C v11 0, C v11 1, C v11 2, C v11 3, C v11 4] s12 fun v13 s14 => V false 1 v13 (B P 3 .add (G l4 0) (.int .i64 1) fun v15 => K5 .normal [v15, G l4 1, G l4 2, G l4 3, G l4 4, G l4 5, G l4 6, G l4 7, G l4 8, G l4 9, G l4 10, G l4 11, G l4 12, G l4 13, G l4 14, v13] s14)))) (K5 (.exit 0) [G l4 0, G l4 1, G l4 2, G l4 3, G l4 4, G l4 5, G l4 6, G l4 7, G l4 8, G l4 9, G l4 10, G l4 11, G l4 12, G l4 13, G l4 14, G l4 15] s6)) ([.int .i64 0, C a0 0, C a0 1, C a0 2, C a0 3, C a0 4, .bool false, .int .i64 0, .string ({ data := #[] }), .slice none 0 0, .slice none 0 0, C a0 0, C a0 1, C a0 2, v2, .slice none 0 0]) s3 fun x16 l17 s18 => match x16 with | .normal => V true 5 (.agg (⟨[G l17 11, G l17 12, G l17 13, G l17 14, G l17 15]⟩)) (R (.agg (⟨[G l17 11, G l17 12, G l17 13, G l17 14, G l17 15]⟩)) s18) | .ret => R (.agg (⟨[G l17 6, G l17 7, G l17 8, G l17 9, G l17 10]⟩)) s18 | .exit i19 => (match Nat.beq i19 0 with | true => V true 5 (.agg (⟨[G l17 11, G l17 12, G l17 13, G l17 14, G l17 15]⟩)) (R (.agg (⟨[G l17 11, G l17 12, G l17 13, G l17 14, G l17 15]⟩)) s18) | false => False)))))))
theorem vc_spec_l1Copy_eq (w0 : World) (a0 : Value) (σ : Vw) (R : Value → Vw → Prop) : vc_spec_l1Copy w0 a0 σ R = den Tryz.prog w0 kp_spec_l1Copy esc_spec_l1Copy (Tryz.f127.body.getD .skip) (entry Tryz.f127.ntmps [a0]) σ (retK Tryz.prog Tryz.f127.results.toList R) := by kernel_rfl
theorem ac_spec_l1Copy {w0 : World} {a0 : Value} {σ : Vw} {R : Value → Vw → Prop} (h : vc_spec_l1Copy w0 a0 σ R) : AC Tryz.prog w0 n_spec_l1Copy [a0] σ R := by
  refine ac_rule (fn := Tryz.f127) (c := Tryz.f127.body.getD .skip) kp_spec_l1Copy esc_spec_l1Copy Tryz.func127 (by kernel_rfl) (by kernel_rfl) ?_
  rw [← vc_spec_l1Copy_eq]
  exact h

/-- spec.l1Many -/
def kp_spec_l1Many : Nat → Keep
  | 2 => ⟨[0, 1, 5], [], [], .done, []⟩
  | _ => ⟨[], [], [], .done, []⟩
def esc_spec_l1Many : Nat → Bool
  | _ => false
def vc_spec_l1Many (w0 : World) (a0 a1 : Value) (σ : Vw) (R : Value → Vw → Prop) : Prop :=
  pLoop (fun l0 K1 s2 => B P 3 .gtr (G l0 1) (.int .i64 0) fun v3 => Q v3 (B P 3 .rem (G l0 1) (.int .i64 2) fun v4 => B P 3 .eql v4 (.int .i64 1) fun v5 => Q v5 (B P 9 .add (G l0 2) (G l0 0) fun v6 => B P 9 .add (G l0 0) (G l0 0) fun v7 => B P 3 .quo (G l0 1) (.int .i64 2) fun v8 => K1 .normal [v7, v8, v6] s2) (B P 9 .add (G l0 0) (G l0 0) fun v9 => B P 3 .quo (G l0 1) (.int .i64 2) fun v10 => K1 .normal [v9, v10, G l0 2] s2)) (K1 (.exit 0) [G l0 0, G l0 1, G l0 2] s2)) ([a0, a1, .string ({ data := #[] })]) σ fun x11 l12 s13 => match x11 with | .normal => R (G l12 2) s13 | .ret => False | .exit i14 => (match Nat.beq i14 0 with | true => R (G l12 2) s13 | false => False)
theorem vc_spec_l1Many_eq (w0 : World) (a0 a1 : Value) (σ : Vw) (R : Value → Vw → Prop) : vc_spec_l1Many w0 a0 a1 σ R = den Tryz.prog w0 kp_spec_l1Many esc_spec_l1Many (Tryz.f128.body.getD .skip) (entry Tryz.f128.ntmps [a0, a1]) σ (retK Tryz.prog Tryz.f128.results.toList R) := by kernel_rfl
theorem ac_spec_l1Many {w0 : World} {a0 a1 : Value} {σ : Vw} {R : Value → Vw → Prop} (h : vc_spec_l1Many w0 a0 a1 σ R) : AC Tryz.prog w0 n_spec_l1Many [a0, a1] σ R := by
  refine ac_rule (fn := Tryz.f128) (c := Tryz.f128.body.getD .skip) kp_spec_l1Many esc_spec_l1Many Tryz.func128 (by kernel_rfl) (by kernel_rfl) ?_
  rw [← vc_spec_l1Many_eq]
  exact h

/-- spec.l1Dec -/
def kp_spec_l1Dec : Nat → Keep
  | 7 => ⟨[], [], [], .step 0 (.step 1 (.step 3 (.step 4 (.step 5 (.step 6 (.both (.step 2 (.step 7 (.step 8 (.step 9 (.step 10 (.done)))))) (.step 7 (.step 8 (.step 2 (.step 9 (.step 10 (.done)))))))))))), [(1, [0]), (2, [0, 1]), (4, [3]), (5, [3, 4]), (6, [3, 4, 5]), (7, [3, 4, 5, 6]), (8, [3, 4, 5, 6, 7]), (9, [0, 1, 2, 3, 4, 5, 6, 7, 8]), (10, [0, 1, 2, 3, 4, 5, 6, 7, 8, 9])]⟩
  | _ => ⟨[], [], [], .done, []⟩
def esc_spec_l1Dec : Nat → Bool
  | 16 => true
  | 25 => true
  | _ => false
def vc_spec_l1Dec (w0 : World) (a0 : Value) (σ : Vw) (R : Value → Vw → Prop) : Prop :=
  B P 3 .lss a0 (.int .i64 (-9223372036854775807)) fun v0 => Q v0 (R (.string ({ data := #[45, 57, 50, 50, 51, 51, 55, 50, 48, 51, 54, 56, 53, 52, 55, 55, 53, 56, 48, 56] })) σ) (B P 3 .lss a0 (.int .i64 0) fun v1 => Q v1 (pUn .neg a0 fun v2 => AC P w0 n_spec_l1Dec [v2] σ fun v3 s4 => B P 9 .add (.string ({ data := #[45] })) v3 fun v5 => R v5 s4) (B P 3 .lss a0 (.int .i64 10) fun v6 => Q v6 (B P 3 .add (.int .i64 48) a0 fun v7 => pConvInt .u8 v7 fun v8 => V false 1 v8 (W w0 5 [v8] σ fun n9 s10 => pStr w0 (.slice (some (Addr.mk n9 0 none)) 1 1) s10 fun v11 => R v11 s10)) (B P 3 .quo a0 (.int .i64 10) fun v12 => B P 3 .rem a0 (.int .i64 10) fun v13 => B P 3 .add (.int .i64 48) v13 fun v14 => pConvInt .u8 v14 fun v15 => (AC P w0 n_spec_l1Dec [v12] σ fun v16 s17 => V false 1 v15 (W w0 5 [v15] s17 fun n18 s19 => pStr w0 (.slice (some (Addr.mk n18 0 none)) 1 1) s19 fun v20 => B P 9 .add v16 v20 fun v21 => R v21 s19)) ∧ (V false 1 v15 (W w0 5 [v15] σ fun n22 s23 => pStr w0 (.slice (some (Addr.mk n22 0 none)) 1 1) s23 fun v24 => AC P w0 n_spec_l1Dec [v12] s23 fun v25 s26 => (Ext s23 s26) ∧ (B P 9 .add v25 v24 fun v27 => R v27 s26))))))
theorem vc_spec_l1Dec_eq (w0 : World) (a0 : Value) (σ : Vw) (R : Value → Vw → Prop) : vc_spec_l1Dec w0 a0 σ R = den Tryz.prog w0 kp_spec_l1Dec esc_spec_l1Dec (Tryz.f129.body.getD .skip) (entry Tryz.f129.ntmps [a0]) σ (retK Tryz.prog Tryz.f129.results.toList R) := by kernel_rfl
theorem ac_spec_l1Dec {w0 : World} {a0 : Value} {σ : Vw} {R : Value → Vw → Prop} (h : vc_spec_l1Dec w0 a0 σ R) : AC Tryz.prog w0 n_spec_l1Dec [a0] σ R := by
  refine ac_rule (fn := Tryz.f129) (c := Tryz.f129.body.getD .skip) kp_spec_l1Dec esc_spec_l1Dec Tryz.func129 (by kernel_rfl) (by kernel_rfl) ?_
  rw [← vc_spec_l1Dec_eq]
  exact h

/-- spec.l4Name -/
def kp_spec_l4Name : Nat → Keep
  | _ => ⟨[], [], [], .done, []⟩
def esc_spec_l4Name : Nat → Bool
  | 4 => true
  | _ => false
def vc_spec_l4Name (w0 : World) (a0 : Value) (σ : Vw) (R : Value → Vw → Prop) : Prop :=
  V false 1 (.string ({ data := #[97] })) (V false 1 (.string ({ data := #[98] })) (V false 1 (.string ({ data := #[99] })) (V false 1 (.string ({ data := #[100, 49] })) (V false 1 (.string ({ data := #[101] })) (W w0 9 ([.string ({ data := #[97] }), .string ({ data := #[98] }), .string ({ data := #[99] }), .string ({ data := #[100, 49] }), .string ({ data := #[101] })]) σ fun n0 s1 => AC P w0 n_p_spec_l1Rd_of [a0, .slice (some (Addr.mk n0 0 none)) 5 5] s1 fun v2 s3 => R v2 s3)))))
theorem vc_spec_l4Name_eq (w0 : World) (a0 : Value) (σ : Vw) (R : Value → Vw → Prop) : vc_spec_l4Name w0 a0 σ R = den Tryz.prog w0 kp_spec_l4Name esc_spec_l4Name (Tryz.f131.body.getD .skip) (entry Tryz.f131.ntmps [a0]) σ (retK Tryz.prog Tryz.f131.results.toList R) := by kernel_rfl
theorem ac_spec_l4Name {w0 : World} {a0 : Value} {σ : Vw} {R : Value → Vw → Prop} (h : vc_spec_l4Name w0 a0 σ R) : AC Tryz.prog w0 n_spec_l4Name [a0] σ R := by
  refine ac_rule (fn := Tryz.f131) (c := Tryz.f131.body.getD .skip) kp_spec_l4Name esc_spec_l4Name Tryz.func131 (by kernel_rfl) (by kernel_rfl) ?_
  rw [← vc_spec_l4Name_eq]
  exact h

/-- spec.l2Do -/
def kp_spec_l2Do : Nat → Keep
  | 9 => ⟨[], [], [], .step 0 (.step 1 (.step 2 (.step 3 (.step 4 (.step 5 (.step 7 (.step 6 (.step 8 (.step 9 (.step 10 (.step 11 (.step 12 (.done))))))))))))), [(2, [1]), (4, [3]), (5, [3, 4]), (6, [0, 1, 2, 3, 4, 5]), (8, [0, 1, 2, 3, 4, 5, 6, 7]), (9, [0, 1, 2, 3, 4, 5, 6, 7, 8]), (10, [0, 1, 2, 3, 4, 5, 6, 7, 8]), (11, [0, 1, 2, 3, 4, 5, 6, 7, 8, 9, 10]), (12, [0, 1, 2, 3, 4, 5, 6, 7, 8, 9, 10, 11])]⟩
  | _ => ⟨[], [], [], .done, []⟩
def esc_spec_l2Do : Nat → Bool
  | _ => false
def vc_spec_l2Do (w0 : World) (a0 a1 : Value) (σ : Vw) (R : Value → Vw → Prop) : Prop :=
  V true 5 a0 (V true 5 a1 (AC P w0 n_spec_l2Parent ([.agg (⟨[C a0 0, C a0 1, C a0 2, C a0 3, C a0 4]⟩), C a1 1]) σ fun v0 s1 => B P 3 .neq v0 (.int .i64 0) fun v2 => Q v2 (V true 5 (.agg (⟨[C a0 0, C a0 1, C a0 2, C a0 3, C a0 4]⟩)) (R (.tuple (⟨[.agg (⟨[C a0 0, C a0 1, C a0 2, C a0 3, C a0 4]⟩), v0]⟩)) s1)) (AC P w0 n_spec_l1At ([.agg (⟨[C a0 0, C a0 1, C a0 2, C a0 3, C a0 4]⟩), C a1 1]) s1 fun v3 s4 => E v3 0 fun v5 => E v3 1 fun v6 => V true 5 v5 (B P 3 .eql (C a1 0) (.int .i64 1) fun v7 => Q v7 (Q v6 (V true 5 (.agg (⟨[C a0 0, C a0 1, C a0 2, C a0 3, C a0 4]⟩)) (R (.tuple (⟨[.agg (⟨[C a0 0, C a0 1, C a0 2, C a0 3, C a0 4]⟩), .int .i64 5]⟩)) s4)) (V false 1 (.bool true) (V false 1 (C a1 3) (AC P w0 n_spec_l2Set ([.agg (⟨[C a0 0, C a0 1, C a0 2, C a0 3, C a0 4]⟩), C a1 1, .agg (⟨[.bool true, C a1 3, .string ({ data := #[] }), .slice none 0 0, .slice none 0 0]⟩), .bool false]) s4 fun v8 s9 => AC P w0 n_spec_l2Fits ([v8, .agg (⟨[C a0 0, C a0 1, C a0 2, C a0 3, C a0 4]⟩)]) s9 fun v10 s11 => E v10 0 fun v12 => E v10 1 fun v13 => V true 5 v12 (R (.tuple (⟨[.agg (⟨[C v12 0, C v12 1, C v12 2, C v12 3, C v12 4]⟩), v13]⟩)) s11))))) (B P 3 .eql (C a1 0) (.int .i64 2) fun v14 => Q v14 (Q v14 (AC P w0 n_spec_l2File ([.agg (⟨[C a0 0, C a0 1, C a0 2, C a0 3, C a0 4]⟩), .agg (⟨[C a1 0, C a1 1, C a1 2, C a1 3, C a1 4]⟩)]) s4 fun v15 s16 => E v15 0 fun v17 => E v15 1 fun v18 => V true 5 v17 (R (.tuple (⟨[.agg (⟨[C v17 0, C v17 1, C v17 2, C v17 3, C v17 4]⟩), v18]⟩)) s16)) (B P 3 .eql (C a1 0) (.int .i64 5) fun v19 => Q v19 (AC P w0 n_spec_l2Rename ([.agg (⟨[C a0 0, C a0 1, C a0 2, C a0 3, C a0 4]⟩), .agg (⟨[C a1 0, C a1 1, C a1 2, C a1 3, C a1 4]⟩)]) s4 fun v20 s21 => E v20 0 fun v22 => E v20 1 fun v23 => V true 5 v22 (R (.tuple (⟨[.agg (⟨[C v22 0, C v22 1, C v22 2, C v22 3, C v22 4]⟩), v23]⟩)) s21)) (pUn .not v6 fun v24 => Q v24 (V true 5 (.agg (⟨[C a0 0, C a0 1, C a0 2, C a0 3, C a0 4]⟩)) (R (.tuple (⟨[.agg (⟨[C a0 0, C a0 1, C a0 2, C a0 3, C a0 4]⟩), .int .i64 3]⟩)) s4)) (B P 3 .eql (C a1 0) (.int .i64 4) fun v25 => Q v25 (N (C v5 3) fun v26 => B P 3 .gtr v26 (.int .i64 0) fun v27 => Q v27 (V true 5 (.agg (⟨[C a0 0, C a0 1, C a0 2, C a0 3, C a0 4]⟩)) (R (.tuple (⟨[.agg (⟨[C a0 0, C a0 1, C a0 2, C a0 3, C a0 4]⟩), .int .i64 5]⟩)) s4)) (AC P w0 n_spec_l2Set ([.agg (⟨[C a0 0, C a0 1, C a0 2, C a0 3, C a0 4]⟩), C a1 1, .agg (⟨[.bool false, .int .i64 0, .string ({ data := #[] }), .slice none 0 0, .slice none 0 0]⟩), .bool true]) s4 fun v28 s29 => V true 5 v28 (R (.tuple (⟨[.agg (⟨[C v28 0, C v28 1, C v28 2, C v28 3, C v28 4]⟩), .int .i64 0]⟩)) s29))) (V false 1 (C a1 3) (AC P w0 n_spec_l2Set ([.agg (⟨[C a0 0, C a0 1, C a0 2, C a0 3, C a0 4]⟩), C a1 1, .agg (⟨[C v5 0, C a1 3, C v5 2, C v5 3, C v5 4]⟩), .bool false]) s4 fun v30 s31 => V true 5 v30 (R (.tuple (⟨[.agg (⟨[C v30 0, C v30 1, C v30 2, C v30 3, C v30 4]⟩), .int .i64 0]⟩)) s31))))))) (B P 3 .eql (C a1 0) (.int .i64 3) fun v32 => Q v32 (AC P w0 n_spec_l2File ([.agg (⟨[C a0 0, C a0 1, C a0 2, C a0 3, C a0 4]⟩), .agg (⟨[C a1 0, C a1 1, C a1 2, C a1 3, C a1 4]⟩)]) s4 fun v33 s34 => E v33 0 fun v35 => E v33 1 fun v36 => V true 5 v35 (R (.tuple (⟨[.agg (⟨[C v35 0, C v35 1, C v35 2, C v35 3, C v35 4]⟩), v36]⟩)) s34)) (B P 3 .eql (C a1 0) (.int .i64 5) fun v37 => Q v37 (AC P w0 n_spec_l2Rename ([.agg (⟨[C a0 0, C a0 1, C a0 2, C a0 3, C a0 4]⟩), .agg (⟨[C a1 0, C a1 1, C a1 2, C a1 3, C a1 4]⟩)]) s4 fun v38 s39 => E v38 0 fun v40 => E v38 1 fun v41 => V true 5 v40 (R (.tuple (⟨[.agg (⟨[C v40 0, C v40 1, C v40 2, C v40 3, C v40 4]⟩), v41]⟩)) s39)) (pUn .not v6 fun v42 => Q v42 (V true 5 (.agg (⟨[C a0 0, C a0 1, C a0 2, C a0 3, C a0 4]⟩)) (R (.tuple (⟨[.agg (⟨[C a0 0, C a0 1, C a0 2, C a0 3, C a0 4]⟩), .int .i64 3]⟩)) s4)) (B P 3 .eql (C a1 0) (.int .i64 4) fun v43 => Q v43 (N (C v5 3) fun v44 => B P 3 .gtr v44 (.int .i64 0) fun v45 => Q v45 (V true 5 (.agg (⟨[C a0 0, C a0 1, C a0 2, C a0 3, C a0 4]⟩)) (R (.tuple (⟨[.agg (⟨[C a0 0, C a0 1, C a0 2, C a0 3, C a0 4]⟩), .int .i64 5]⟩)) s4)) (AC P w0 n_spec_l2Set ([.agg (⟨[C a0 0, C a0 1, C a0 2, C a0 3, C a0 4]⟩), C a1 1, .agg (⟨[.bool false, .int .i64 0, .string ({ data := #[] }), .slice none 0 0, .slice none 0 0]⟩), .bool true]) s4 fun v46 s47 => V true 5 v46 (R (.tuple (⟨[.agg (⟨[C v46 0, C v46 1, C v46 2, C v46 3, C v46 4]⟩), .int .i64 0]⟩)) s47))) (V false 1 (C a1 3) (AC P w0 n_spec_l2Set ([.agg (⟨[C a0 0, C a0 1, C a0 2, C a0 3, C a0 4]⟩), C a1 1, .agg (⟨[C v5 0, C a1 3, C v5 2, C v5 3, C v5 4]⟩), .bool false]) s4 fun v48 s49 => V true 5 v48 (R (.tuple (⟨[.agg (⟨[C v48 0, C v48 1, C v48 2, C v48 3, C v48 4]⟩), .int .i64 0]⟩)) s49))))))))))))
theorem vc_spec_l2Do_eq (w0 : World) (a0 a1 : Value) (σ : Vw) (R : Value → Vw → Prop) : vc_spec_l2Do w0 a0 a1 σ R = den Tryz.prog w0 kp_spec_l2Do esc_spec_l2Do (Tryz.f132.body.getD .skip) (entry Tryz.f132.ntmps [a0, a1]) σ (retK Tryz.prog Tryz.f132.results.toList R) := by kernel_rfl
theorem ac_spec_l2Do {w0 : World} {a0 a1 : Value} {σ : Vw} {R : Value → Vw → Prop} (h : vc_spec_l2Do w0 a0 a1 σ R) : AC Tryz.prog w0 n_spec_l2Do [a0, a1] σ R := by
  refine ac_rule (fn := Tryz.f132) (c := Tryz.f132.body.getD .skip) kp_spec_l2Do esc_spec_l2Do Tryz.func132 (by kernel_rfl) (by kernel_rfl) ?_
  rw [← vc_spec_l2Do_eq]
  exact h

/-- impl.modeOk -/
def kp_impl_modeOk : Nat → Keep
  | _ => ⟨[], [], [], .done, []⟩
def esc_impl_modeOk : Nat → Bool
  | _ => false
def vc_impl_modeOk (w0 : World) (a0 : Value) (σ : Vw) (R : Value → Vw → Prop) : Prop :=
  AC P w0 n_impl_within [a0, .int .i64 0, .int .i64 7] σ fun v0 s1 => R v0 s1
theorem vc_impl_modeOk_eq (w0 : World) (a0 : Value) (σ : Vw) (R : Value → Vw → Prop) : vc_impl_modeOk w0 a0 σ R = den Tryz.prog w0 kp_impl_modeOk esc_impl_modeOk (Tryz.f133.body.getD .skip) (entry Tryz.f133.ntmps [a0]) σ (retK Tryz.prog Tryz.f133.results.toList R) := by kernel_rfl
theorem ac_impl_modeOk {w0 : World} {a0 : Value} {σ : Vw} {R : Value → Vw → Prop} (h : vc_impl_modeOk w0 a0 σ R) : AC Tryz.prog w0 n_impl_modeOk [a0] σ R := by
  refine ac_rule (fn := Tryz.f133) (c := Tryz.f133.body.getD .skip) kp_impl_modeOk esc_impl_modeOk Tryz.func133 (by kernel_rfl) (by kernel_rfl) ?_
  rw [← vc_impl_modeOk_eq]
  exact h

/-- impl.nameOk -/
def kp_impl_nameOk : Nat → Keep
  | 2 => ⟨[0, 2, 5, 6], [], [], .done, []⟩
  | _ => ⟨[], [], [], .done, []⟩
def esc_impl_nameOk : Nat → Bool
  | _ => false
def vc_impl_nameOk (w0 : World) (a0 : Value) (σ : Vw) (R : Value → Vw → Prop) : Prop :=
  pLenS a0 fun v0 => pLoop (fun l1 K2 s3 => B P 3 .lss (G l1 3) (G l1 2) fun v4 => Q v4 (pIndexStr (G l1 0) (G l1 3) fun v5 => B P 5 .lss v5 (.int .u8 97) fun v6 => Q v6 (pIndexStr (G l1 0) (G l1 3) fun v7 => B P 5 .lss v7 (.int .u8 48) fun v8 => Q v8 (K2 .ret [G l1 0, .bool false, G l1 2, G l1 3] s3) (pIndexStr (G l1 0) (G l1 3) fun v9 => B P 5 .gtr v9 (.int .u8 57) fun v10 => Q v10 (K2 .ret [G l1 0, .bool false, G l1 2, G l1 3] s3) (B P 3 .add (G l1 3) (.int .i64 1) fun v11 => K2 .normal [G l1 0, G l1 1, G l1 2, v11] s3))) (pIndexStr (G l1 0) (G l1 3) fun v12 => B P 5 .gtr v12 (.int .u8 122) fun v13 => Q v13 (pIndexStr (G l1 0) (G l1 3) fun v14 => B P 5 .lss v14 (.int .u8 48) fun v15 => Q v15 (K2 .ret [G l1 0, .bool false, G l1 2, G l1 3] s3) (pIndexStr (G l1 0) (G l1 3) fun v16 => B P 5 .gtr v16 (.int .u8 57) fun v17 => Q v17 (K2 .ret [G l1 0, .bool false, G l1 2, G l1 3] s3) (B P 3 .add (G l1 3) (.int .i64 1) fun v18 => K2 .normal [G l1 0, G l1 1, G l1 2, v18] s3))) (B P 3 .add (G l1 3) (.int .i64 1) fun v19 => K2 .normal [G l1 0, G l1 1, G l1 2, v19] s3))) (K2 (.exit 0) [G l1 0, G l1 1, G l1 2, G l1 3] s3)) [a0, .bool false, v0, .int .i64 0] σ fun x20 l21 s22 => match x20 with | .normal => pLenS (G l21 0) (fun v23 => AC P w0 n_impl_within [v23, .int .i64 1, .int .i64 5] s22 fun v24 s25 => R v24 s25) | .ret => R (G l21 1) s22 | .exit i26 => (match Nat.beq i26 0 with | true => pLenS (G l21 0) (fun v27 => AC P w0 n_impl_within [v27, .int .i64 1, .int .i64 5] s22 fun v28 s29 => R v28 s29) | false => False)
theorem vc_impl_nameOk_eq (w0 : World) (a0 : Value) (σ : Vw) (R : Value → Vw → Prop) : vc_impl_nameOk w0 a0 σ R = den Tryz.prog w0 kp_impl_nameOk esc_impl_nameOk (Tryz.f134.body.getD .skip) (entry Tryz.f134.ntmps [a0]) σ (retK Tryz.prog Tryz.f134.results.toList R) := by kernel_rfl
theorem ac_impl_nameOk {w0 : World} {a0 : Value} {σ : Vw} {R : Value → Vw → Prop} (h : vc_impl_nameOk w0 a0 σ R) : AC Tryz.prog w0 n_impl_nameOk [a0] σ R := by
  refine ac_rule (fn := Tryz.f134) (c := Tryz.f134.body.getD .skip) kp_impl_nameOk esc_impl_nameOk Tryz.func134 (by kernel_rfl) (by kernel_rfl) ?_
  rw [← vc_impl_nameOk_eq]
  exact h

/-- slices.ContainsFunc[[]impl.Mark,impl.Mark] -/
def kp_slices_ContainsFunc_impl_Mark_impl_Mark : Nat → Keep
  | _ => ⟨[], [], [], .done, []⟩
def esc_slices_ContainsFunc_impl_Mark_impl_Mark : Nat → Bool
  | _ => false
def vc_slices_ContainsFunc_impl_Mark_impl_Mark (w0 : World) (a0 a1 : Value) (σ : Vw) (R : Value → Vw → Prop) : Prop :=
  AC P w0 n_slices_IndexFunc_impl_Mark_impl_Mark [a0, a1] σ fun v0 s1 => B P 3 .geq v0 (.int .i64 0) fun v2 => R v2 s1
theorem vc_slices_ContainsFunc_impl_Mark_impl_Mark_eq (w0 : World) (a0 a1 : Value) (σ : Vw) (R : Value → Vw → Prop) : vc_slices_ContainsFunc_impl_Mark_impl_Mark w0 a0 a1 σ R = den Tryz.prog w0 kp_slices_ContainsFunc_impl_Mark_impl_Mark esc_slices_ContainsFunc_impl_Mark_impl_Mark (Tryz.f137.body.getD .skip) (entry Tryz.f137.ntmps [a0, a1]) σ (retK Tryz.prog Tryz.f137.results.toList R) := by kernel_rfl
theorem ac_slices_ContainsFunc_impl_Mark_impl_Mark {w0 : World} {a0 a1 : Value} {σ : Vw} {R : Value → Vw → Prop} (h : vc_slices_ContainsFunc_impl_Mark_impl_Mark w0 a0 a1 σ R) : AC Tryz.prog w0 n_slices_ContainsFunc_impl_Mark_impl_Mark [a0, a1] σ R := by
  refine ac_rule (fn := Tryz.f137) (c := Tryz.f137.body.getD .skip) kp_slices_ContainsFunc_impl_Mark_impl_Mark esc_slices_ContainsFunc_impl_Mark_impl_Mark Tryz.func137 (by kernel_rfl) (by kernel_rfl) ?_
  rw [← vc_slices_ContainsFunc_impl_Mark_impl_Mark_eq]
  exact h

/-- impl.marked$1 -/
def kp_impl_marked_c1 : Nat → Keep
  | _ => ⟨[], [], [], .done, []⟩
def esc_impl_marked_c1 : Nat → Bool
  | _ => false
def vc_impl_marked_c1 (w0 : World) (a0 a1 : Value) (σ : Vw) (R : Value → Vw → Prop) : Prop :=
  V true 2 a0 (L w0 1 a1 σ fun g0 => AC P w0 n_slices_Equal_string_string [C a0 0, g0 0] σ fun v1 s2 => R v1 s2)
theorem vc_impl_marked_c1_eq (w0 : World) (a0 a1 : Value) (σ : Vw) (R : Value → Vw → Prop) : vc_impl_marked_c1 w0 a0 a1 σ R = den Tryz.prog w0 kp_impl_marked_c1 esc_impl_marked_c1 (Tryz.f138.body.getD .skip) (entry Tryz.f138.ntmps [a0, a1]) σ (retK Tryz.prog Tryz.f138.results.toList R) := by kernel_rfl
theorem ac_impl_marked_c1 {w0 : World} {a0 a1 : Value} {σ : Vw} {R : Value → Vw → Prop} (h : vc_impl_marked_c1 w0 a0 a1 σ R) : AC Tryz.prog w0 n_impl_marked_c1 [a0, a1] σ R := by
  refine ac_rule (fn := Tryz.f138) (c := Tryz.f138.body.getD .skip) kp_impl_marked_c1 esc_impl_marked_c1 Tryz.func138 (by kernel_rfl) (by kernel_rfl) ?_
  rw [← vc_impl_marked_c1_eq]
  exact h

/-- slices.Equal[[]string,string] -/
def kp_slices_Equal_string_string : Nat → Keep
  | 4 => ⟨[0, 1, 4, 12, 13], [], [], .done, []⟩
  | 6 => ⟨[], [], [], .step 0 (.step 1 (.step 2 (.step 3 (.step 4 (.step 5 (.step 6 (.step 7 (.step 8 (.done))))))))), [(2, [0, 1]), (3, [0, 1, 2]), (6, [4, 5]), (7, [4, 5, 6]), (8, [0, 1, 2, 3, 4, 5, 6, 7])]⟩
  | _ => ⟨[], [], [], .done, []⟩
def esc_slices_Equal_string_string : Nat → Bool
  | _ => false
def vc_slices_Equal_string_string (w0 : World) (a0 a1 : Value) (σ : Vw) (R : Value → Vw → Prop) : Prop :=
  N a0 fun v0 => N a1 fun v1 => B P 3 .neq v0 v1 fun v2 => Q v2 (R (.bool false) σ) (N a0 fun v3 => pLoop (fun l4 K5 s6 => B P 3 .lss (G l4 4) (G l4 3) fun v7 => Q v7 (X 1 (G l4 0) (G l4 4) fun v8 => L w0 1 v8 s6 fun g9 => X 1 (G l4 1) (G l4 4) fun v10 => L w0 1 v10 s6 fun g11 => B P 9 .neq (g9 0) (g11 0) fun v12 => Q v12 (K5 .ret [G l4 0, G l4 1, .bool false, G l4 3, G l4 4] s6) (B P 3 .add (G l4 4) (.int .i64 1) fun v13 => K5 .normal [G l4 0, G l4 1, G l4 2, G l4 3, v13] s6)) (K5 (.exit 0) [G l4 0, G l4 1, G l4 2, G l4 3, G l4 4] s6)) [a0, a1, .bool false, v3, .int .i64 0] σ fun x14 l15 s16 => match x14 with | .normal => R (.bool true) s16 | .ret => R (G l15 2) s16 | .exit i17 => (match Nat.beq i17 0 with | true => R (.bool true) s16 | false => False))
theorem vc_slices_Equal_string_string_eq (w0 : World) (a0 a1 : Value) (σ : Vw) (R : Value → Vw → Prop) : vc_slices_Equal_string_string w0 a0 a1 σ R = den Tryz.prog w0 kp_slices_Equal_string_string esc_slices_Equal_string_string (Tryz.f139.body.getD .skip) (entry Tryz.f139.ntmps [a0, a1]) σ (retK Tryz.prog Tryz.f139.results.toList R) := by kernel_rfl
theorem ac_slices_Equal_string_string {w0 : World} {a0 a1 : Value} {σ : Vw} {R : Value → Vw → Prop} (h : vc_slices_Equal_string_string w0 a0 a1 σ R) : AC Tryz.prog w0 n_slices_Equal_string_string [a0, a1] σ R := by
  refine ac_rule (fn := Tryz.f139) (c := Tryz.f139.body.getD .skip) kp_slices_Equal_string_string esc_slices_Equal_string_string Tryz.func139 (by kernel_rfl) (by kernel_rfl) ?_
  rw [← vc_slices_Equal_string_string_eq]
  exact h

/-- slices.Index[[]string,string] -/
def kp_slices_Index_string_string : Nat → Keep
  | 2 => ⟨[0, 1, 4, 7, 8], [], [], .done, []⟩
  | _ => ⟨[], [], [], .done, []⟩
def esc_slices_Index_string_string : Nat → Bool
  | _ => false
def vc_slices_Index_string_string (w0 : World) (a0 a1 : Value) (σ : Vw) (R : Value → Vw → Prop) : Prop :=
  N a0 fun v0 => pLoop (fun l1 K2 s3 => B P 3 .lss (G l1 4) (G l1 3) fun v4 => Q v4 (X 1 (G l1 0) (G l1 4) fun v5 => L w0 1 v5 s3 fun g6 => B P 9 .eql (G l1 1) (g6 0) fun v7 => Q v7 (K2 .ret [G l1 0, G l1 1, G l1 4, G l1 3, G l1 4] s3) (B P 3 .add (G l1 4) (.int .i64 1) fun v8 => K2 .normal [G l1 0, G l1 1, G l1 2, G l1 3, v8] s3)) (K2 (.exit 0) [G l1 0, G l1 1, G l1 2, G l1 3, G l1 4] s3)) [a0, a1, .int .i64 0, v0, .int .i64 0] σ fun x9 l10 s11 => match x9 with | .normal => R (.int .i64 (-1)) s11 | .ret => R (G l10 2) s11 | .exit i12 => (match Nat.beq i12 0 with | true => R (.int .i64 (-1)) s11 | false => False)
theorem vc_slices_Index_string_string_eq (w0 : World) (a0 a1 : Value) (σ : Vw) (R : Value → Vw → Prop) : vc_slices_Index_string_string w0 a0 a1 σ R = den Tryz.prog w0 kp_slices_Index_string_string esc_slices_Index_string_string (Tryz.f142.body.getD .skip) (entry Tryz.f142.ntmps [a0, a1]) σ (retK Tryz.prog Tryz.f142.results.toList R) := by kernel_rfl
theorem ac_slices_Index_string_string {w0 : World} {a0 a1 : Value} {σ : Vw} {R : Value → Vw → Prop} (h : vc_slices_Index_string_string w0 a0 a1 σ R) : AC Tryz.prog w0 n_slices_Index_string_string [a0, a1] σ R := by
  refine ac_rule (fn := Tryz.f142) (c := Tryz.f142.body.getD .skip) kp_slices_Index_string_string esc_slices_Index_string_string Tryz.func142 (by kernel_rfl) (by kernel_rfl) ?_
  rw [← vc_slices_Index_string_string_eq]
  exact h

/-- spec.l1Plain -/
def kp_spec_l1Plain : Nat → Keep
  | 6 => ⟨[2, 3], [(1, 5)], [1], .done, []⟩
  | 8 => ⟨[], [], [], .step 0 (.step 1 (.step 2 (.step 3 (.step 4 (.step 5 (.step 6 (.step 7 (.step 8 (.step 9 (.step 10 (.step 11 (.step 12 (.step 13 (.step 14 (.step 15 (.step 16 (.step 17 (.step 18 (.step 19 (.step 20 (.step 21 (.step 22 (.step 23 (.step 24 (.done))))))))))))))))))))))))), [(1, [0]), (3, [0, 1, 2]), (4, [0, 1, 2, 3]), (5, [0, 1, 2, 3, 4]), (6, [0, 1, 2, 3, 4, 5]), (7, [0, 1, 2, 3, 4, 5, 6]), (8, [0, 1, 2, 3, 4, 5, 6, 7]), (9, [0, 1, 2, 3, 4, 5, 6, 7, 8]), (10, [0, 1, 2, 3, 4, 5, 6, 7, 8, 9]), (11, [0, 1, 2, 3, 4, 5, 6, 7, 8, 9, 10]), (12, [0, 1, 2, 3, 4, 5, 6, 7, 8, 9, 10, 11]), (13, [0, 1, 2, 3, 4, 5, 6, 7, 8, 9, 10]), (14, [0, 1, 2, 3, 4, 5, 6, 7, 8, 9, 10, 13]), (15, [0, 1, 2, 3, 4, 5, 6, 7, 8, 9, 10, 11, 12, 13, 14]), (16, [0, 1, 2, 3, 4, 5, 6, 7, 8, 9, 10, 11, 12, 13, 14, 15]), (17, [0, 1, 2, 3, 4, 5, 6, 7, 8, 9, 10]), (18, [0, 1, 2, 3, 4, 5, 6, 7, 8, 9, 10, 17]), (19, [0, 1, 2, 3, 4, 5, 6, 7, 8, 9, 10]), (20, [0, 1, 2, 3, 4, 5, 6, 7, 8, 9, 10, 17, 18, 19]), (21, [0, 1, 2, 3, 4, 5, 6, 7, 8, 9, 10, 17, 18, 19, 20]), (22, [0, 1, 2, 3, 4, 5, 6, 7, 8, 9, 10, 11, 12, 13, 14, 15, 16, 17, 18, 19, 20, 21]), (23, [0, 1, 2, 3, 4, 5, 6, 7, 8, 9, 10, 11, 12, 13, 14, 15, 16, 17, 18, 19, 20, 21, 22]), (24, [0, 1, 2, 3, 4, 5, 6, 7, 8, 9, 10, 11, 12, 13, 14, 15, 16, 17, 18, 19, 20, 21, 22, 23])]⟩
  | _ => ⟨[], [], [], .done, []⟩
def esc_spec_l1Plain : Nat → Bool
  | _ => false
def vc_spec_l1Plain (w0 : World) (a0 : Value) (σ : Vw) (R : Value → Vw → Prop) : Prop :=
  V true 5 a0 (AC P w0 n_spec_l1In [C a0 1, .int .i64 0, .int .i64 7] σ fun v0 s1 => pUn .not v0 fun v2 => Q v2 (R (.bool false) s1) (N (C a0 3) fun v3 => N (C a0 4) fun v4 => B P 3 .neq v3 v4 fun v5 => Q v5 (R (.bool false) s1) (pUn .not (C a0 0) fun v6 => Q v6 (pLenS (C a0 2) fun v7 => B P 3 .leq v7 (.int .i64 24) fun v8 => Q v8 (N (C a0 3) fun v9 => B P 3 .eql v9 (.int .i64 0) fun v10 => R v10 s1) (R (.bool false) s1)) (pLoop (fun l11 K12 s13 => N (G l11 5) fun v14 => B P 3 .lss (G l11 1) v14 fun v15 => Q v15 (X 1 (G l11 5) (G l11 1) fun v16 => L w0 1 v16 s13 fun g17 => AC P w0 n_spec_l1NameOk [g17 0] s13 fun v18 s19 => pUn .not v18 fun v20 => Q v20 (K12 .ret [.bool false, G l11 1, G l11 2, G l11 3, G l11 4, G l11 5, G l11 6] s19) (B P 3 .gtr (G l11 1) (.int .i64 0) fun v21 => Q v21 (B P 3 .sub (G l11 1) (.int .i64 1) fun v22 => X 1 (G l11 5) v22 fun v23 => L w0 1 v23 s19 fun g24 => X 1 (G l11 5) (G l11 1) fun v25 => L w0 1 v25 s19 fun g26 => B P 9 .geq (g24 0) (g26 0) fun v27 => Q v27 (K12 .ret [.bool false, G l11 1, G l11 2, G l11 3, G l11 4, G l11 5, G l11 6] s19) (B P 3 .add (G l11 1) (.int .i64 1) fun v28 => K12 .normal [G l11 0, v28, G l11 2, G l11 3, G l11 4, G l11 5, G l11 6] s19)) (B P 3 .add (G l11 1) (.int .i64 1) fun v29 => K12 .normal [G l11 0, v29, G l11 2, G l11 3, G l11 4, G l11 5, G l11 6] s19))) (K12 (.exit 0) [G l11 0, G l11 1, G l11 2, G l11 3, G l11 4, G l11 5, G l11 6] s13)) [.bool false, .int .i64 0, C a0 0, C a0 1, C a0 2, C a0 3, C a0 4] s1 fun x30 l31 s32 => match x30 with | .normal => B P 9 .eql (G l31 4) (.string ({ data := #[] })) (fun v33 => R v33 s32) | .ret => R (G l31 0) s32 | .exit i34 => (match Nat.beq i34 0 with | true => B P 9 .eql (G l31 4) (.string ({ data := #[] })) (fun v35 => R v35 s32) | false => False)))))
theorem vc_spec_l1Plain_eq (w0 : World) (a0 : Value) (σ : Vw) (R : Value → Vw → Prop) : vc_spec_l1Plain w0 a0 σ R = den Tryz.prog w0 kp_spec_l1Plain esc_spec_l1Plain (Tryz.f143.body.getD .skip) (entry Tryz.f143.ntmps [a0]) σ (retK Tryz.prog Tryz.f143.results.toList R) := by kernel_rfl
theorem ac_spec_l1Plain {w0 : World} {a0 : Value} {σ : Vw} {R : Value → Vw → Prop} (h : vc_spec_l1Plain w0 a0 σ R) : AC Tryz.prog w0 n_spec_l1Plain [a0] σ R := by
  refine ac_rule (fn := Tryz.f143) (c := Tryz.f143.body.getD .skip) kp_spec_l1Plain esc_spec_l1Plain Tryz.func143 (by kernel_rfl) (by kernel_rfl) ?_
  rw [← vc_spec_l1Plain_eq]
  exact h

/-- spec.l11Same -/
def kp_spec_l11Same : Nat → Keep
  | _ => ⟨[], [], [], .done, []⟩
def esc_spec_l11Same : Nat → Bool
  | _ => false
def vc_spec_l11Same (w0 : World) (a0 a1 : Value) (σ : Vw) (R : Value → Vw → Prop) : Prop :=
  N a0 fun v0 => N a1 fun v1 => B P 3 .eql v0 v1 fun v2 => Q v2 (AC P w0 n_spec_l2Within [a0, a1] σ fun v3 s4 => R v3 s4) (R (.bool false) σ)
theorem vc_spec_l11Same_eq (w0 : World) (a0 a1 : Value) (σ : Vw) (R : Value → Vw → Prop) : vc_spec_l11Same w0 a0 a1 σ R = den Tryz.prog w0 kp_spec_l11Same esc_spec_l11Same (Tryz.f144.body.getD .skip) (entry Tryz.f144.ntmps [a0, a1]) σ (retK Tryz.prog Tryz.f144.results.toList R) := by kernel_rfl
theorem ac_spec_l11Same {w0 : World} {a0 a1 : Value} {σ : Vw} {R : Value → Vw → Prop} (h : vc_spec_l11Same w0 a0 a1 σ R) : AC Tryz.prog w0 n_spec_l11Same [a0, a1] σ R := by
  refine ac_rule (fn := Tryz.f144) (c := Tryz.f144.body.getD .skip) kp_spec_l11Same esc_spec_l11Same Tryz.func144 (by kernel_rfl) (by kernel_rfl) ?_
  rw [← vc_spec_l11Same_eq]
  exact h

/-- impl.within -/
def kp_impl_within : Nat → Keep
  | _ => ⟨[], [], [], .done, []⟩
def esc_impl_within : Nat → Bool
  | _ => false
def vc_impl_within (w0 : World) (a0 a1 a2 : Value) (σ : Vw) (R : Value → Vw → Prop) : Prop :=
  B P 3 .geq a0 a1 fun v0 => Q v0 (B P 3 .leq a0 a2 fun v1 => R v1 σ) (R (.bool false) σ)
theorem vc_impl_within_eq (w0 : World) (a0 a1 a2 : Value) (σ : Vw) (R : Value → Vw → Prop) : vc_impl_within w0 a0 a1 a2 σ R = den Tryz.prog w0 kp_impl_within esc_impl_within (Tryz.f145.body.getD .skip) (entry Tryz.f145.ntmps [a0, a1, a2]) σ (retK Tryz.prog Tryz.f145.results.toList R) := by kernel_rfl
theorem ac_impl_within {w0 : World} {a0 a1 a2 : Value} {σ : Vw} {R : Value → Vw → Prop} (h : vc_impl_within w0 a0 a1 a2 σ R) : AC Tryz.prog w0 n_impl_within [a0, a1, a2] σ R := by
  refine ac_rule (fn := Tryz.f145) (c := Tryz.f145.body.getD .skip) kp_impl_within esc_impl_within Tryz.func145 (by kernel_rfl) (by kernel_rfl) ?_
  rw [← vc_impl_within_eq]
  exact h

end Go.Proofs.YtkbhjejalkbogaaGreat

/- What each function owes, reckoned out, part 5. MADE BY PROGRAM (emit.py). -/
set_option linter.unusedVariables false
namespace Go.Proofs.YtkbhjejalkbogaaGreat
open Go.Av renaming vget → G, cellOf → C, pVal → V, pBin → B, pIndexAddr → X, pLoad → L, pField → F, pIf → Q, pExtract → E, pAppend → A, pLen → N, pNew → W
open Go.Proofs.Tryz renaming prog → P
open Go Go.Av

/-- slices.pdqsortCmpFunc[impl.Mark] -/
def kp_slices_pdqsortCmpFunc_impl_Mark : Nat → Keep
  | 2 => ⟨[0, 1, 2, 3, 4, 10, 11], [], [], .done, []⟩
  | 17 => ⟨[], [], [], .step 0 (.step 1 (.step 2 (.step 3 (.step 4 (.step 5 (.step 6 (.step 7 (.step 8 (.step 9 (.step 10 (.step 11 (.step 12 (.step 13 (.step 14 (.step 15 (.step 16 (.done))))))))))))))))), [(1, [0]), (2, [0, 1]), (3, [0, 1, 2]), (4, [0, 1, 2]), (5, [0, 1, 2]), (6, [0, 1, 2, 5]), (7, [0, 1, 2, 4, 5, 6]), (8, [0, 1, 2, 4, 5, 6, 7]), (9, [0, 1, 2]), (10, [0, 1, 2]), (11, [0, 1, 2, 9, 10]), (12, [0, 1, 2, 9, 10, 11]), (13, [0, 1, 2, 3, 4, 5, 6, 7, 8, 9, 10, 11, 12]), (14, [0, 1, 2, 3, 4, 5, 6, 7, 8, 9, 10, 11, 12, 13]), (15, [0, 1, 2, 3, 4, 5, 6, 7, 8, 9, 10, 11, 12, 13, 14]), (16, [0, 1, 2, 3, 4, 5, 6, 7, 8, 9, 10, 11, 12, 13, 14, 15])]⟩
  | _ => ⟨[], [], [], .done, []⟩
def esc_slices_pdqsortCmpFunc_impl_Mark : Nat → Bool
  | _ => false
def vc_slices_pdqsortCmpFunc_impl_Mark (w0 : World) (a0 a1 a2 a3 a4 : Value) (σ : Vw) (R : Value → Vw → Prop) : Prop :=
  pLoop (fun l0 K1 s2 => B P 3 .sub (G l0 2) (G l0 1) fun v3 => B P 3 .leq v3 (.int .i64 12) fun v4 => Q v4 (AC P w0 n_slices_insertionSortCmpFunc_impl_Mark [G l0 0, G l0 1, G l0 2, G l0 4] s2 fun v5 s6 => K1 .ret [G l0 0, G l0 1, G l0 2, G l0 3, G l0 4, G l0 5, G l0 6] s6) (B P 3 .eql (G l0 3) (.int .i64 0) fun v7 => Q v7 (AC P w0 n_slices_heapSortCmpFunc_impl_Mark [G l0 0, G l0 1, G l0 2, G l0 4] s2 fun v8 s9 => K1 .ret [G l0 0, G l0 1, G l0 2, G l0 3, G l0 4, G l0 5, G l0 6] s9) (pUn .not (G l0 5) fun v10 => Q v10 (AC P w0 n_slices_breakPatternsCmpFunc_impl_Mark [G l0 0, G l0 1, G l0 2, G l0 4] s2 fun v11 s12 => B P 3 .sub (G l0 3) (.int .i64 1) fun v13 => AC P w0 n_slices_choosePivotCmpFunc_impl_Mark [G l0 0, G l0 1, G l0 2, G l0 4] s12 fun v14 s15 => E v14 0 fun v16 => E v14 1 fun v17 => B P 162 .eql v17 (.int .i64 2) fun v18 => Q v18 (AC P w0 n_slices_reverseRangeCmpFunc_impl_Mark [G l0 0, G l0 1, G l0 2, G l0 4] s15 fun v19 s20 => B P 3 .sub (G l0 2) (.int .i64 1) fun v21 => B P 3 .sub v16 (G l0 1) fun v22 => B P 3 .sub v21 v22 fun v23 => Q (G l0 5) (Q (G l0 6) (B P 162 .eql (.int .i64 1) (.int .i64 1) fun v24 => Q v24 (AC P w0 n_slices_partialInsertionSortCmpFunc_impl_Mark [G l0 0, G l0 1, G l0 2, G l0 4] s20 fun v25 s26 => Q v25 (K1 .ret [G l0 0, G l0 1, G l0 2, v13, G l0 4, G l0 5, G l0 6] s26) (B P 3 .gtr (G l0 1) (.int .i64 0) fun v27 => Q v27 (B P 3 .sub (G l0 1) (.int .i64 1) fun v28 => X 2 (G l0 0) v28 fun v29 => L w0 2 v29 s26 fun g30 => X 2 (G l0 0) v23 fun v31 => L w0 2 v31 s26 fun g32 => pCallV (fun n33 l34 s35 K36 => AC P w0 n33 l34 s35 K36) (G l0 4) ([.agg (⟨[g30 0, g30 1]⟩), .agg (⟨[g32 0, g32 1]⟩)]) s26 fun v37 s38 => B P 3 .lss v37 (.int .i64 0) fun v39 => pUn .not v39 fun v40 => Q v40 (AC P w0 n_slices_partitionEqualCmpFunc_impl_Mark [G l0 0, G l0 1, G l0 2, v23, G l0 4] s38 fun v41 s42 => K1 .normal [G l0 0, v41, G l0 2, v13, G l0 4, G l0 5, G l0 6] s42) (AC P w0 n_slices_partitionCmpFunc_impl_Mark [G l0 0, G l0 1, G l0 2, v23, G l0 4] s38 fun v43 s44 => E v43 0 fun v45 => E v43 1 fun v46 => B P 3 .sub v45 (G l0 1) fun v47 => B P 3 .sub (G l0 2) v45 fun v48 => B P 3 .quo v3 (.int .i64 8) fun v49 => B P 3 .lss v47 v48 fun v50 => Q v50 (B P 3 .geq v47 v49 fun v51 => AC P w0 n_slices_pdqsortCmpFunc_impl_Mark [G l0 0, G l0 1, v45, v13, G l0 4] s44 fun v52 s53 => B P 3 .add v45 (.int .i64 1) fun v54 => K1 .normal [G l0 0, v54, G l0 2, v13, G l0 4, v51, v46] s53) (B P 3 .geq v48 v49 fun v55 => B P 3 .add v45 (.int .i64 1) fun v56 => AC P w0 n_slices_pdqsortCmpFunc_impl_Mark [G l0 0, v56, G l0 2, v13, G l0 4] s44 fun v57 s58 => K1 .normal [G l0 0, G l0 1, v45, v13, G l0 4, v55, v46] s58))) (AC P w0 n_slices_partitionCmpFunc_impl_Mark [G l0 0, G l0 1, G l0 2, v23, G l0 4] s26 fun v59 s60 => E v59 0 fun v61 => E v59 1 fun v62 => B P 3 .sub v61 (G l0 1) fun v63 => B P 3 .sub (G l0 2) v61 fun v64 => B P 3 .quo v3 (.int .i64 8) fun v65 => B P 3 .lss v63 v64 fun v66 => Q v66 (B P 3 .geq v63 v65 fun v67 => AC P w0 n_slices_pdqsortCmpFunc_impl_Mark [G l0 0, G l0 1, v61, v13, G l0 4] s60 fun v68 s69 => B P 3 .add v61 (.int .i64 1) fun v70 => K1 .normal [G l0 0, v70, G l0 2, v13, G l0 4, v67, v62] s69) (B P 3 .geq v64 v65 fun v71 => B P 3 .add v61 (.int .i64 1) fun v72 => AC P w0 n_slices_pdqsortCmpFunc_impl_Mark [G l0 0, v72, G l0 2, v13, G l0 4] s60 fun v73 s74 => K1 .normal [G l0 0, G l0 1, v61, v13, G l0 4, v71, v62] s74)))) (B P 3 .gtr (G l0 1) (.int .i64 0) fun v75 => Q v75 (B P 3 .sub (G l0 1) (.int .i64 1) fun v76 => X 2 (G l0 0) v76 fun v77 => L w0 2 v77 s20 fun g78 => X 2 (G l0 0) v23 fun v79 => L w0 2 v79 s20 fun g80 => pCallV (fun n81 l82 s83 K84 => AC P w0 n81 l82 s83 K84) (G l0 4) ([.agg (⟨[g78 0, g78 1]⟩), .agg (⟨[g80 0, g80 1]⟩)]) s20 fun v85 s86 => B P 3 .lss v85 (.int .i64 0) fun v87 => pUn .not v87 fun v88 => Q v88 (AC P w0 n_slices_partitionEqualCmpFunc_impl_Mark [G l0 0, G l0 1, G l0 2, v23, G l0 4] s86 fun v89 s90 => K1 .normal [G l0 0, v89, G l0 2, v13, G l0 4, G l0 5, G l0 6] s90) (AC P w0 n_slices_partitionCmpFunc_impl_Mark [G l0 0, G l0 1, G l0 2, v23, G l0 4] s86 fun v91 s92 => E v91 0 fun v93 => E v91 1 fun v94 => B P 3 .sub v93 (G l0 1) fun v95 => B P 3 .sub (G l0 2) v93 fun v96 => B P 3 .quo v3 (.int .i64 8) fun v97 => B P 3 .lss v95 v96 fun v98 => Q v98 (B P 3 .geq v95 v97 fun v99 => AC P w0 n_slices_pdqsortCmpFunc_impl_Mark [G l0 0, G l0 1, v93, v13, G l0 4] s92 fun v100 s101 => B P 3 .add v93 (.int .i64 1) fun v102 => K1 .normal [G l0 0, v102, G l0 2, v13, G l0 4, v99, v94] s101) (B P 3 .geq v96 v97 fun v103 => B P 3 .add v93 (.int .i64 1) fun v104 => AC P w0 n_slices_pdqsortCmpFunc_impl_Mark [G l0 0, v104, G l0 2, v13, G l0 4] s92 fun v105 s106 => K1 .normal [G l0 0, G l0 1, v93, v13, G l0 4, v103, v94] s106))) (AC P w0 n_slices_partitionCmpFunc_impl_Mark [G l0 0, G l0 1, G l0 2, v23, G l0 4] s20 fun v107 s108 => E v107 0 fun v109 => E v107 1 fun v110 => B P 3 .sub v109 (G l0 1) fun v111 => B P 3 .sub (G l0 2) v109 fun v112 => B P 3 .quo v3 (.int .i64 8) fun v113 => B P 3 .lss v111 v112 fun v114 => Q v114 (B P 3 .geq v111 v113 fun v115 => AC P w0 n_slices_pdqsortCmpFunc_impl_Mark [G l0 0, G l0 1, v109, v13, G l0 4] s108 fun v116 s117 => B P 3 .add v109 (.int .i64 1) fun v118 => K1 .normal [G l0 0, v118, G l0 2, v13, G l0 4, v115, v110] s117) (B P 3 .geq v112 v113 fun v119 => B P 3 .add v109 (.int .i64 1) fun v120 => AC P w0 n_slices_pdqsortCmpFunc_impl_Mark [G l0 0, v120, G l0 2, v13, G l0 4] s108 fun v121 s122 => K1 .normal [G l0 0, G l0 1, v109, v13, G l0 4, v119, v110] s122)))) (B P 3 .gtr (G l0 1) (.int .i64 0) fun v123 => Q v123 (B P 3 .sub (G l0 1) (.int .i64 1) fun v124 => X 2 (G l0 0) v124 fun v125 => L w0 2 v125 s20 fun g126 => X 2 (G l0 0) v23 fun v127 => L w0 2 v127 s20 fun g128 => pCallV (fun n129 l130 s131 K132 => AC P w0 n129 l130 s131 K132) (G l0 4) ([.agg (⟨[g126 0, g126 1]⟩), .agg (⟨[g128 0, g128 1]⟩)]) s20 fun v133 s134 => B P 3 .lss v133 (.int .i64 0) fun v135 => pUn .not v135 fun v136 => Q v136 (AC P w0 n_slices_partitionEqualCmpFunc_impl_Mark [G l0 0, G l0 1, G l0 2, v23, G l0 4] s134 fun v137 s138 => K1 .normal [G l0 0, v137, G l0 2, v13, G l0 4, G l0 5, G l0 6] s138) (AC P w0 n_slices_partitionCmpFunc_impl_Mark [G l0 0, G l0 1, G l0 2, v23, G l0 4] s134 fun v139 s140 => E v139 0 fun v141 => E v139 1 fun v142 => B P 3 .sub v141 (G l0 1) fun v143 => B P 3 .sub (G l0 2) v141 fun v144 => B P 3 .quo v3 (.int .i64 8) fun v145 => B P 3 .lss v143 v144 fun v146 => Q v146 (B P 3 .geq v143 v145 fun v147 => AC P w0 n_slices_pdqsortCmpFunc_impl_Mark [G l0 0, G l0 1, v141, v13, G l0 4] s140 fun v148 s149 => B P 3 .add v141 (.int .i64 1) fun v150 => K1 .normal [G l0 0, v150, G l0 2, v13, G l0 4, v147, v142] s149) (B P 3 .geq v144 v145 fun v151 => B P 3 .add v141 (.int .i64 1) fun v152 => AC P w0 n_slices_pdqsortCmpFunc_impl_Mark [G l0 0, v152, G l0 2, v13, G l0 4] s140 fun v153 s154 => K1 .normal [G l0 0, G l0 1, v141, v13, G l0 4, v151, v142] s154))) (AC P w0 n_slices_partitionCmpFunc_impl_Mark [G l0 0, G l0 1, G l0 2, v23, G l0 4] s20 fun v155 s156 => E v155 0 fun v157 => E v155 1 fun v158 => B P 3 .sub v157 (G l0 1) fun v159 => B P 3 .sub (G l0 2) v157 fun v160 => B P 3 .quo v3 (.int .i64 8) fun v161 => B P 3 .lss v159 v160 fun v162 => Q v162 (B P 3 .geq v159 v161 fun v163 => AC P w0 n_slices_pdqsortCmpFunc_impl_Mark [G l0 0, G l0 1, v157, v13, G l0 4] s156 fun v164 s165 => B P 3 .add v157 (.int .i64 1) fun v166 => K1 .normal [G l0 0, v166, G l0 2, v13, G l0 4, v163, v158] s165) (B P 3 .geq v160 v161 fun v167 => B P 3 .add v157 (.int .i64 1) fun v168 => AC P w0 n_slices_pdqsortCmpFunc_impl_Mark [G l0 0, v168, G l0 2, v13, G l0 4] s156 fun v169 s170 => K1 .normal [G l0 0, G l0 1, v157, v13, G l0 4, v167, v158] s170)))) (B P 3 .gtr (G l0 1) (.int .i64 0) fun v171 => Q v171 (B P 3 .sub (G l0 1) (.int .i64 1) fun v172 => X 2 (G l0 0) v172 fun v173 => L w0 2 v173 s20 fun g174 => X 2 (G l0 0) v23 fun v175 => L w0 2 v175 s20 fun g176 => pCallV (fun n177 l178 s179 K180 => AC P w0 n177 l178 s179 K180) (G l0 4) ([.agg (⟨[g174 0, g174 1]⟩), .agg (⟨[g176 0, g176 1]⟩)]) s20 fun v181 s182 => B P 3 .lss v181 (.int .i64 0) fun v183 => pUn .not v183 fun v184 => Q v184 (AC P w0 n_slices_partitionEqualCmpFunc_impl_Mark [G l0 0, G l0 1, G l0 2, v23, G l0 4] s182 fun v185 s186 => K1 .normal [G l0 0, v185, G l0 2, v13, G l0 4, G l0 5, G l0 6] s186) (AC P w0 n_slices_partitionCmpFunc_impl_Mark [G l0 0, G l0 1, G l0 2, v23, G l0 4] s182 fun v187 s188 => E v187 0 fun v189 => E v187 1 fun v190 => B P 3 .sub v189 (G l0 1) fun v191 => B P 3 .sub (G l0 2) v189 fun v192 => B P 3 .quo v3 (.int .i64 8) fun v193 => B P 3 .lss v191 v192 fun v194 => Q v194 (B P 3 .geq v191 v193 fun v195 => AC P w0 n_slices_pdqsortCmpFunc_impl_Mark [G l0 0, G l0 1, v189, v13, G l0 4] s188 fun v196 s197 => B P 3 .add v189 (.int .i64 1) fun v198 => K1 .normal [G l0 0, v198, G l0 2, v13, G l0 4, v195, v190] s197) (B P 3 .geq v192 v193 fun v199 => B P 3 .add v189 (.int .i64 1) fun v200 => AC P w0 n_slices_pdqsortCmpFunc_impl_Mark [G l0 0, v200, G l0 2, v13, G l0 4] s188 fun v201 s202 => K1 .normal [G l0 0, G l0 1, v189, v13, G l0 4, v199, v190] s202))) (AC P w0 n_slices_partitionCmpFunc_impl_Mark [G l0 0, G l0 1, G l0 2, v23, G l0 4] s20 fun v203 s204 => E v203 0 fun v205 => E v203 1 fun v206 => B P 3 .sub v205 (G l0 1) fun v207 => B P 3 .sub (G l0 2) v205 fun v208 => B P 3 .quo v3 (.int .i64 8) fun v209 => B P 3 .lss v207 v208 fun v210 => Q v210 (B P 3 .geq v207 v209 fun v211 => AC P w0 n_slices_pdqsortCmpFunc_impl_Mark [G l0 0, G l0 1, v205, v13, G l0 4] s204 fun v212 s213 => B P 3 .add v205 (.int .i64 1) fun v214 => K1 .normal [G l0 0, v214, G l0 2, v13, G l0 4, v211, v206] s213) (B P 3 .geq v208 v209 fun v215 => B P 3 .add v205 (.int .i64 1) fun v216 => AC P w0 n_slices_pdqsortCmpFunc_impl_Mark [G l0 0, v216, G l0 2, v13, G l0 4] s204 fun v217 s218 => K1 .normal [G l0 0, G l0 1, v205, v13, G l0 4, v215, v206] s218)))) (Q (G l0 5) (Q (G l0 6) (B P 162 .eql v17 (.int .i64 1) fun v219 => Q v219 (AC P w0 n_slices_partialInsertionSortCmpFunc_impl_Mark [G l0 0, G l0 1, G l0 2, G l0 4] s15 fun v220 s221 => Q v220 (K1 .ret [G l0 0, G l0 1, G l0 2, v13, G l0 4, G l0 5, G l0 6] s221) (B P 3 .gtr (G l0 1) (.int .i64 0) fun v222 => Q v222 (B P 3 .sub (G l0 1) (.int .i64 1) fun v223 => X 2 (G l0 0) v223 fun v224 => L w0 2 v224 s221 fun g225 => X 2 (G l0 0) v16 fun v226 => L w0 2 v226 s221 fun g227 => pCallV (fun n228 l229 s230 K231 => AC P w0 n228 l229 s230 K231) (G l0 4) ([.agg (⟨[g225 0, g225 1]⟩), .agg (⟨[g227 0, g227 1]⟩)]) s221 fun v232 s233 => B P 3 .lss v232 (.int .i64 0) fun v234 => pUn .not v234 fun v235 => Q v235 (AC P w0 n_slices_partitionEqualCmpFunc_impl_Mark [G l0 0, G l0 1, G l0 2, v16, G l0 4] s233 fun v236 s237 => K1 .normal [G l0 0, v236, G l0 2, v13, G l0 4, G l0 5, G l0 6] s237) (AC P w0 n_slices_partitionCmpFunc_impl_Mark [G l0 0, G l0 1, G l0 2, v16, G l0 4] s233 fun v238 s239 => E v238 0 fun v240 => E v238 1 fun v241 => B P 3 .sub v240 (G l0 1) fun v242 => B P 3 .sub (G l0 2) v240 fun v243 => B P 3 .quo v3 (.int .i64 8) fun v244 => B P 3 .lss v242 v243 fun v245 => Q v245 (B P 3 .geq v242 v244 fun v246 => AC P w0 n_slices_pdqsortCmpFunc_impl_Mark [G l0 0, G l0 1, v240, v13, G l0 4] s239 fun v247 s248 => B P 3 .add v240 (.int .i64 1) fun v249 => K1 .normal [G l0 0, v249, G l0 2, v13, G l0 4, v246, v241] s248) (B P 3 .geq v243 v244 fun v250 => B P 3 .add v240 (.int .i64 1) fun v251 => AC P w0 n_slices_pdqsortCmpFunc_impl_Mark [G l0 0, v251, G l0 2, v13, G l0 4] s239 fun v252 s253 => K1 .normal [G l0 0, G l0 1, v240, v13, G l0 4, v250, v241] s253))) (AC P w0 n_slices_partitionCmpFunc_impl_Mark [G l0 0, G l0 1, G l0 2, v16, G l0 4] s221 fun v254 s255 => E v254 0 fun v256 => E v254 1 fun v257 => B P 3 .sub v256 (G l0 1) fun v258 => B P 3 .sub (G l0 2) v256 fun v259 => B P 3 .quo v3 (.int .i64 8) fun v260 => B P 3 .lss v258 v259 fun v261 => Q v261 (B P 3 .geq v258 v260 fun v262 => AC P w0 n_slices_pdqsortCmpFunc_impl_Mark [G l0 0, G l0 1, v256, v13, G l0 4] s255 fun v263 s264 => B P 3 .add v256 (.int .i64 1) fun v265 => K1 .normal [G l0 0, v265, G l0 2, v13, G l0 4, v262, v257] s264) (B P 3 .geq v259 v260 fun v266 => B P 3 .add v256 (.int .i64 1) fun v267 => AC P w0 n_slices_pdqsortCmpFunc_impl_Mark [G l0 0, v267, G l0 2, v13, G l0 4] s255 fun v268 s269 => K1 .normal [G l0 0, G l0 1, v256, v13, G l0 4, v266, v257] s269)))) (B P 3 .gtr (G l0 1) (.int .i64 0) fun v270 => Q v270 (B P 3 .sub (G l0 1) (.int .i64 1) fun v271 => X 2 (G l0 0) v271 fun v272 => L w0 2 v272 s15 fun g273 => X 2 (G l0 0) v16 fun v274 => L w0 2 v274 s15 fun g275 => pCallV (fun n276 l277 s278 K279 => AC P w0 n276 l277 s278 K279) (G l0 4) ([.agg (⟨[g273 0, g273 1]⟩), .agg (⟨[g275 0, g275 1]⟩)]) s15 fun v280 s281 => B P 3 .lss v280 (.int .i64 0) fun v282 => pUn .not v282 fun v283 => Q v283 (AC P w0 n_slices_partitionEqualCmpFunc_impl_Mark [G l0 0, G l0 1, G l0 2, v16, G l0 4] s281 fun v284 s285 => K1 .normal [G l0 0, v284, G l0 2, v13, G l0 4, G l0 5, G l0 6] s285) (AC P w0 n_slices_partitionCmpFunc_impl_Mark [G l0 0, G l0 1, G l0 2, v16, G l0 4] s281 fun v286 s287 => E v286 0 fun v288 => E v286 1 fun v289 => B P 3 .sub v288 (G l0 1) fun v290 => B P 3 .sub (G l0 2) v288 fun v291 => B P 3 .quo v3 (.int .i64 8) fun v292 => B P 3 .lss v290 v291 fun v293 => Q v293 (B P 3 .geq v290 v292 fun v294 => AC P w0 n_slices_pdqsortCmpFunc_impl_Mark [G l0 0, G l0 1, v288, v13, G l0 4] s287 fun v295 s296 => B P 3 .add v288 (.int .i64 1) fun v297 => K1 .normal [G l0 0, v297, G l0 2, v13, G l0 4, v294, v289] s296) (B P 3 .geq v291 v292 fun v298 => B P 3 .add v288 (.int .i64 1) fun v299 => AC P w0 n_slices_pdqsortCmpFunc_impl_Mark [G l0 0, v299, G l0 2, v13, G l0 4] s287 fun v300 s301 => K1 .normal [G l0 0, G l0 1, v288, v13, G l0 4, v298, v289] s301))) (AC P w0 n_slices_partitionCmpFunc_impl_Mark [G l0 0, G l0 1, G l0 2, v16, G l0 4] s15 fun v302 s303 => E v302 0 fun v304 => E v302 1 fun v305 => B P 3 .sub v304 (G l0 1) fun v306 => B P 3 .sub (G l0 2) v304 fun v307 => B P 3 .quo v3 (.int .i64 8) fun v308 => B P 3 .lss v306 v307 fun v309 => Q v309 (B P 3 .geq v306 v308 fun v310 => AC P w0 n_slices_pdqsortCmpFunc_impl_Mark [G l0 0, G l0 1, v304, v13, G l0 4] s303 fun v311 s312 => B P 3 .add v304 (.int .i64 1) fun v313 => K1 .normal [G l0 0, v313, G l0 2, v13, G l0 4, v310, v305] s312) (B P 3 .geq v307 v308 fun v314 => B P 3 .add v304 (.int .i64 1) fun v315 => AC P w0 n_slices_pdqsortCmpFunc_impl_Mark [G l0 0, v315, G l0 2, v13, G l0 4] s303 fun v316 s317 => K1 .normal [G l0 0, G l0 1, v304, v13, G l0 4, v314, v305] s317)))) (B P 3 .gtr (G l0 1) (.int .i64 0) fun v318 => Q v318 (B P 3 .sub (G l0 1) (.int .i64 1) fun v319 => X 2 (G l0 0) v319 fun v320 => L w0 2 v320 s15 fun g321 => X 2 (G l0 0) v16 fun v322 => L w0 2 v322 s15 fun g323 => pCallV (fun n324 l325 s326 K327 => AC P w0 n324 l325 s326 K327) (G l0 4) ([.agg (⟨[g321 0, g321 1]⟩), .agg (⟨[g323 0, g323 1]⟩)]) s15 fun v328 s329 => B P 3 .lss v328 (.int .i64 0) fun v330 => pUn .not v330 fun v331 => Q v331 (AC P w0 n_slices_partitionEqualCmpFunc_impl_Mark [G l0 0, G l0 1, G l0 2, v16, G l0 4] s329 fun v332 s333 => K1 .normal [G l0 0, v332, G l0 2, v13, G l0 4, G l0 5, G l0 6] s333) (AC P w0 n_slices_partitionCmpFunc_impl_Mark [G l0 0, G l0 1, G l0 2, v16, G l0 4] s329 fun v334 s335 => E v334 0 fun v336 => E v334 1 fun v337 => B P 3 .sub v336 (G l0 1) fun v338 => B P 3 .sub (G l0 2) v336 fun v339 => B P 3 .quo v3 (.int .i64 8) fun v340 => B P 3 .lss v338 v339 fun v341 => Q v341 (B P 3 .geq v338 v340 fun v342 => AC P w0 n_slices_pdqsortCmpFunc_impl_Mark [G l0 0, G l0 1, v336, v13, G l0 4] s335 fun v343 s344 => B P 3 .add v336 (.int .i64 1) fun v345 => K1 .normal [G l0 0, v345, G l0 2, v13, G l0 4, v342, v337] s344) (B P 3 .geq v339 v340 fun v346 => B P 3 .add v336 (.int .i64 1) fun v347 => AC P w0 n_slices_pdqsortCmpFunc_impl_Mark [G l0 0, v347, G l0 2, v13, G l0 4] s335 fun v348 s349 => K1 .normal [G l0 0, G l0 1, v336, v13, G l0 4, v346, v337] s349))) (AC P w0 n_slices_partitionCmpFunc_impl_Mark [G l0 0, G l0 1, G l0 2, v16, G l0 4] s15 fun v350 s351 => E v350 0 fun v352 => E v350 1 fun v353 => B P 3 .sub v352 (G l0 1) fun v354 => B P 3 .sub (G l0 2) v352 fun v355 => B P 3 .quo v3 (.int .i64 8) fun v356 => B P 3 .lss v354 v355 fun v357 => Q v357 (B P 3 .geq v354 v356 fun v358 => AC P w0 n_slices_pdqsortCmpFunc_impl_Mark [G l0 0, G l0 1, v352, v13, G l0 4] s351 fun v359 s360 => B P 3 .add v352 (.int .i64 1) fun v361 => K1 .normal [G l0 0, v361, G l0 2, v13, G l0 4, v358, v353] s360) (B P 3 .geq v355 v356 fun v362 => B P 3 .add v352 (.int .i64 1) fun v363 => AC P w0 n_slices_pdqsortCmpFunc_impl_Mark [G l0 0, v363, G l0 2, v13, G l0 4] s351 fun v364 s365 => K1 .normal [G l0 0, G l0 1, v352, v13, G l0 4, v362, v353] s365)))) (B P 3 .gtr (G l0 1) (.int .i64 0) fun v366 => Q v366 (B P 3 .sub (G l0 1) (.int .i64 1) fun v367 => X 2 (G l0 0) v367 fun v368 => L w0 2 v368 s15 fun g369 => X 2 (G l0 0) v16 fun v370 => L w0 2 v370 s15 fun g371 => pCallV (fun n372 l373 s374 K375 => AC P w0 n372 l373 s374 K375) (G l0 4) ([.agg (⟨[g369 0, g369 1]⟩), .agg (⟨[g371 0, g371 1]⟩)]) s15 fun v376 s377 => B P 3 .lss v376 (.int .i64 0) fun v378 => pUn .not v378 fun v379 => Q v379 (AC P w0 n_slices_partitionEqualCmpFunc_impl_Mark [G l0 0, G l0 1, G l0 2, v16, G l0 4] s377 fun v380 s381 => K1 .normal [G l0 0, v380, G l0 2, v13, G l0 4, G l0 5, G l0 6] s381) (AC P w0 n_slices_partitionCmpFunc_impl_Mark [G l0 0, G l0 1, G l0 2, v16, G l0 4] s377 fun v382 s383 => E v382 0 fun v384 => E v382 1 fun v385 => B P 3 .sub v384 (G l0 1) fun v386 => B P 3 .sub (G l0 2) v384 fun v387 => B P 3 .quo v3 (.int .i64 8) fun v388 => B P 3 .lss v386 v387 fun v389 => Q v389 (B P 3 .geq v386 v388 fun v390 => AC P w0 n_slices_pdqsortCmpFunc_impl_Mark [G l0 0, G l0 1, v384, v13, G l0 4] s383 fun v391 s392 => B P 3 .add v384 (.int .i64 1) fun v393 => K1 .normal [G l0 0, v393, G l0 2, v13, G l0 4, v390, v385] s392) (B P 3 .geq v387 v388 fun v394 => B P 3 .add v384 (.int .i64 1) fun v395 => AC P w0 n_slices_pdqsortCmpFunc_impl_Mark [G l0 0, v395, G l0 2, v13, G l0 4] s383 fun v396 s397 => K1 .normal [G l0 0, G l0 1, v384, v13, G l0 4, v394, v385] s397))) (AC P w0 n_slices_partitionCmpFunc_impl_Mark [G l0 0, G l0 1, G l0 2, v16, G l0 4] s15 fun v398 s399 => E v398 0 fun v400 => E v398 1 fun v401 => B P 3 .sub v400 (G l0 1) fun v402 => B P 3 .sub (G l0 2) v400 fun v403 => B P 3 .quo v3 (.int .i64 8) fun v404 => B P 3 .lss v402 v403 fun v405 => Q v405 (B P 3 .geq v402 v404 fun v406 => AC P w0 n_slices_pdqsortCmpFunc_impl_Mark [G l0 0, G l0 1, v400, v13, G l0 4] s399 fun v407 s408 => B P 3 .add v400 (.int .i64 1) fun v409 => K1 .normal [G l0 0, v409, G l0 2, v13, G l0 4, v406, v401] s408) (B P 3 .geq v403 v404 fun v410 => B P 3 .add v400 (.int .i64 1) fun v411 => AC P w0 n_slices_pdqsortCmpFunc_impl_Mark [G l0 0, v411, G l0 2, v13, G l0 4] s399 fun v412 s413 => K1 .normal [G l0 0, G l0 1, v400, v13, G l0 4, v410, v401] s413))))) (AC P w0 n_slices_choosePivotCmpFunc_impl_Mark [G l0 0, G l0 1, G l0 2, G l0 4] s2 fun v414 s415 => E v414 0 fun v416 => E v414 1 fun v417 => B P 162 .eql v417 (.int .i64 2) fun v418 => Q v418 (AC P w0 n_slices_reverseRangeCmpFunc_impl_Mark [G l0 0, G l0 1, G l0 2, G l0 4] s415 fun v419 s420 => B P 3 .sub (G l0 2) (.int .i64 1) fun v421 => B P 3 .sub v416 (G l0 1) fun v422 => B P 3 .sub v421 v422 fun v423 => Q (G l0 5) (Q (G l0 6) (B P 162 .eql (.int .i64 1) (.int .i64 1) fun v424 => Q v424 (AC P w0 n_slices_partialInsertionSortCmpFunc_impl_Mark [G l0 0, G l0 1, G l0 2, G l0 4] s420 fun v425 s426 => Q v425 (K1 .ret [G l0 0, G l0 1, G l0 2, G l0 3, G l0 4, G l0 5, G l0 6] s426) (B P 3 .gtr (G l0 1) (.int .i64 0) fun v427 => Q v427 (B P 3 .sub (G l0 1) (.int .i64 1) fun v428 => X 2 (G l0 0) v428 fun v429 => L w0 2 v429 s426 fun g430 => X 2 (G l0 0) v423 fun v431 => L w0 2 v431 s426 fun g432 => pCallV (fun n433 l434 s435 K436 => AC P w0 n433 l434 s435 K436) (G l0 4) ([.agg (⟨[g430 0, g430 1]⟩), .agg (⟨[g432 0, g432 1]⟩)]) s426 fun v437 s438 => B P 3 .lss v437 (.int .i64 0) fun v439 => pUn .not v439 fun v440 => Q v440 (AC P w0 n_slices_partitionEqualCmpFunc_impl_Mark [G l0 0, G l0 1, G l0 2, v423, G l0 4] s438 fun v441 s442 => K1 .normal [G l0 0, v441, G l0 2, G l0 3, G l0 4, G l0 5, G l0 6] s442) (AC P w0 n_slices_partitionCmpFunc_impl_Mark [G l0 0, G l0 1, G l0 2, v423, G l0 4] s438 fun v443 s444 => E v443 0 fun v445 => E v443 1 fun v446 => B P 3 .sub v445 (G l0 1) fun v447 => B P 3 .sub (G l0 2) v445 fun v448 => B P 3 .quo v3 (.int .i64 8) fun v449 => B P 3 .lss v447 v448 fun v450 => Q v450 (B P 3 .geq v447 v449 fun v451 => AC P w0 n_slices_pdqsortCmpFunc_impl_Mark [G l0 0, G l0 1, v445, G l0 3, G l0 4] s444 fun v452 s453 => B P 3 .add v445 (.int .i64 1) fun v454 => K1 .normal [G l0 0, v454, G l0 2, G l0 3, G l0 4, v451, v446] s453) (B P 3 .geq v448 v449 fun v455 => B P 3 .add v445 (.int .i64 1) fun v456 => AC P w0 n_slices_pdqsortCmpFunc_impl_Mark [G l0 0, v456, G l0 2, G l0 3, G l0 4] s444 fun v457 s458 => K1 .normal [G l0 0, G l0 1, v445, G l0 3, G l0 4, v455, v446] s458))) (AC P w0 n_slices_partitionCmpFunc_impl_Mark [G l0 0, G l0 1, G l0 2, v423, G l0 4] s426 fun v459 s460 => E v459 0 fun v461 => E v459 1 fun v462 => B P 3 .sub v461 (G l0 1) fun v463 => B P 3 .sub (G l0 2) v461 fun v464 => B P 3 .quo v3 (.int .i64 8) fun v465 => B P 3 .lss v463 v464 fun v466 => Q v466 (B P 3 .geq v463 v465 fun v467 => AC P w0 n_slices_pdqsortCmpFunc_impl_Mark [G l0 0, G l0 1, v461, G l0 3, G l0 4] s460 fun v468 s469 => B P 3 .add v461 (.int .i64 1) fun v470 => K1 .normal [G l0 0, v470, G l0 2, G l0 3, G l0 4, v467, v462] s469) (B P 3 .geq v464 v465 fun v471 => B P 3 .add v461 (.int .i64 1) fun v472 => AC P w0 n_slices_pdqsortCmpFunc_impl_Mark [G l0 0, v472, G l0 2, G l0 3, G l0 4] s460 fun v473 s474 => K1 .normal [G l0 0, G l0 1, v461, G l0 3, G l0 4, v471, v462] s474)))) (B P 3 .gtr (G l0 1) (.int .i64 0) fun v475 => Q v475 (B P 3 .sub (G l0 1) (.int .i64 1) fun v476 => X 2 (G l0 0) v476 fun v477 => L w0 2 v477 s420 fun g478 => X 2 (G l0 0) v423 fun v479 => L w0 2 v479 s420 fun g480 => pCallV (fun n481 l482 s483 K484 => AC P w0 n481 l482 s483 K484) (G l0 4) ([.agg (⟨[g478 0, g478 1]⟩), .agg (⟨[g480 0, g480 1]⟩)]) s420 fun v485 s486 => B P 3 .lss v485 (.int .i64 0) fun v487 => pUn .not v487 fun v488 => Q v488 (AC P w0 n_slices_partitionEqualCmpFunc_impl_Mark [G l0 0, G l0 1, G l0 2, v423, G l0 4] s486 fun v489 s490 => K1 .normal [G l0 0, v489, G l0 2, G l0 3, G l0 4, G l0 5, G l0 6] s490) (AC P w0 n_slices_partitionCmpFunc_impl_Mark [G l0 0, G l0 1, G l0 2, v423, G l0 4] s486 fun v491 s492 => E v491 0 fun v493 => E v491 1 fun v494 => B P 3 .sub v493 (G l0 1) fun v495 => B P 3 .sub (G l0 2) v493 fun v496 => B P 3 .quo v3 (.int .i64 8) fun v497 => B P 3 .lss v495 v496 fun v498 => Q v498 (B P 3 .geq v495 v497 fun v499 => AC P w0 n_slices_pdqsortCmpFunc_impl_Mark [G l0 0, G l0 1, v493, G l0 3, G l0 4] s492 fun v500 s501 => B P 3 .add v493 (.int .i64 1) fun v502 => K1 .normal [G l0 0, v502, G l0 2, G l0 3, G l0 4, v499, v494] s501) (B P 3 .geq v496 v497 fun v503 => B P 3 .add v493 (.int .i64 1) fun v504 => AC P w0 n_slices_pdqsortCmpFunc_impl_Mark [G l0 0, v504, G l0 2, G l0 3, G l0 4] s492 fun v505 s506 => K1 .normal [G l0 0, G l0 1, v493, G l0 3, G l0 4, v503, v494] s506))) (AC P w0 n_slices_partitionCmpFunc_impl_Mark [G l0 0, G l0 1, G l0 2, v423, G l0 4] s420 fun v507 s508 => E v507 0 fun v509 => E v507 1 fun v510 => B P 3 .sub v509 (G l0 1) fun v511 => B P 3 .sub (G l0 2) v509 fun v512 => B P 3 .quo v3 (.int .i64 8) fun v513 => B P 3 .lss v511 v512 fun v514 => Q v514 (B P 3 .geq v511 v513 fun v515 => AC P w0 n_slices_pdqsortCmpFunc_impl_Mark [G l0 0, G l0 1, v509, G l0 3, G l0 4] s508 fun v516 s517 => B P 3 .add v509 (.int .i64 1) fun v518 => K1 .normal [G l0 0, v518, G l0 2, G l0 3, G l0 4, v515, v510] s517) (B P 3 .geq v512 v513 fun v519 => B P 3 .add v509 (.int .i64 1) fun v520 => AC P w0 n_slices_pdqsortCmpFunc_impl_Mark [G l0 0, v520, G l0 2, G l0 3, G l0 4] s508 fun v521 s522 => K1 .normal [G l0 0, G l0 1, v509, G l0 3, G l0 4, v519, v510] s522)))) (B P 3 .gtr (G l0 1) (.int .i64 0) fun v523 => Q v523 (B P 3 .sub (G l0 1) (.int .i64 1) fun v524 => X 2 (G l0 0) v524 fun v525 => L w0 2 v525 s420 fun g526 => X 2 (G l0 0) v423 fun v527 => L w0 2 v527 s420 fun g528 => pCallV (fun n529 l530 s531 K532 => AC P w0 n529 l530 s531 K532) (G l0 4) ([.agg (⟨[g526 0, g526 1]⟩), .agg (⟨[g528 0, g528 1]⟩)]) s420 fun v533 s534 => B P 3 .lss v533 (.int .i64 0) fun v535 => pUn .not v535 fun v536 => Q v536 (AC P w0 n_slices_partitionEqualCmpFunc_impl_Mark [G l0 0, G l0 1, G l0 2, v423, G l0 4] s534 fun v537 s538 => K1 .normal [G l0 0, v537, G l0 2, G l0 3, G l0 4, G l0 5, G l0 6] s538) (AC P w0 n_slices_partitionCmpFunc_impl_Mark [G l0 0, G l0 1, G l0 2, v423, G l0 4] s534 fun v539 s540 => E v539 0 fun v541 => E v539 1 fun v542 => B P 3 .sub v541 (G l0 1) fun v543 => B P 3 .sub (G l0 2) v541 fun v544 => B P 3 .quo v3 (.int .i64 8) fun v545 => B P 3 .lss v543 v544 fun v546 => Q v546 (B P 3 .geq v543 v545 fun v547 => AC P w0 n_slices_pdqsortCmpFunc_impl_Mark [G l0 0, G l0 1, v541, G l0 3, G l0 4] s540 fun v548 s549 => B P 3 .add v541 (.int .i64 1) fun v550 => K1 .normal [G l0 0, v550, G l0 2, G l0 3, G l0 4, v547, v542] s549) (B P 3 .geq v544 v545 fun v551 => B P 3 .add v541 (.int .i64 1) fun v552 => AC P w0 n_slices_pdqsortCmpFunc_impl_Mark [G l0 0, v552, G l0 2, G l0 3, G l0 4] s540 fun v553 s554 => K1 .normal [G l0 0, G l0 1, v541, G l0 3, G l0 4, v551, v542] s554))) (AC P w0 n_slices_partitionCmpFunc_impl_Mark [G l0 0, G l0 1, G l0 2, v423, G l0 4] s420 fun v555 s556 => E v555 0 fun v557 => E v555 1 fun v558 => B P 3 .sub v557 (G l0 1) fun v559 => B P 3 .sub (G l0 2) v557 fun v560 => B P 3 .quo v3 (.int .i64 8) fun v561 => B P 3 .lss v559 v560 fun v562 => Q v562 (B P 3 .geq v559 v561 fun v563 => AC P w0 n_slices_pdqsortCmpFunc_impl_Mark [G l0 0, G l0 1, v557, G l0 3, G l0 4] s556 fun v564 s565 => B P 3 .add v557 (.int .i64 1) fun v566 => K1 .normal [G l0 0, v566, G l0 2, G l0 3, G l0 4, v563, v558] s565) (B P 3 .geq v560 v561 fun v567 => B P 3 .add v557 (.int .i64 1) fun v568 => AC P w0 n_slices_pdqsortCmpFunc_impl_Mark [G l0 0, v568, G l0 2, G l0 3, G l0 4] s556 fun v569 s570 => K1 .normal [G l0 0, G l0 1, v557, G l0 3, G l0 4, v567, v558] s570)))) (B P 3 .gtr (G l0 1) (.int .i64 0) fun v571 => Q v571 (B P 3 .sub (G l0 1) (.int .i64 1) fun v572 => X 2 (G l0 0) v572 fun v573 => L w0 2 v573 s420 fun g574 => X 2 (G l0 0) v423 fun v575 => L w0 2 v575 s420 fun g576 => pCallV (fun n577 l578 s579 K580 => AC P w0 n577 l578 s579 K580) (G l0 4) ([.agg (⟨[g574 0, g574 1]⟩), .agg (⟨[g576 0, g576 1]⟩)]) s420 fun v581 s582 => B P 3 .lss v581 (.int .i64 0) fun v583 => pUn .not v583 fun v584 => Q v584 (AC P w0 n_slices_partitionEqualCmpFunc_impl_Mark [G l0 0, G l0 1, G l0 2, v423, G l0 4] s582 fun v585 s586 => K1 .normal [G l0 0, v585, G l0 2, G l0 3, G l0 4, G l0 5, G l0 6] s586) (AC P w0 n_slices_partitionCmpFunc_impl_Mark [G l0 0, G l0 1, G l0 2, v423, G l0 4] s582 fun v587 s588 => E v587 0 fun v589 => E v587 1 fun v590 => B P 3 .sub v589 (G l0 1) fun v591 => B P 3 .sub (G l0 2) v589 fun v592 => B P 3 .quo v3 (.int .i64 8) fun v593 => B P 3 .lss v591 v592 fun v594 => Q v594 (B P 3 .geq v591 v593 fun v595 => AC P w0 n_slices_pdqsortCmpFunc_impl_Mark [G l0 0, G l0 1, v589, G l0 3, G l0 4] s588 fun v596 s597 => B P 3 .add v589 (.int .i64 1) fun v598 => K1 .normal [G l0 0, v598, G l0 2, G l0 3, G l0 4, v595, v590] s597) (B P 3 .geq v592 v593 fun v599 => B P 3 .add v589 (.int .i64 1) fun v600 => AC P w0 n_slices_pdqsortCmpFunc_impl_Mark [G l0 0, v600, G l0 2, G l0 3, G l0 4] s588 fun v601 s602 => K1 .normal [G l0 0, G l0 1, v589, G l0 3, G l0 4, v599, v590] s602))) (AC P w0 n_slices_partitionCmpFunc_impl_Mark [G l0 0, G l0 1, G l0 2, v423, G l0 4] s420 fun v603 s604 => E v603 0 fun v605 => E v603 1 fun v606 => B P 3 .sub v605 (G l0 1) fun v607 => B P 3 .sub (G l0 2) v605 fun v608 => B P 3 .quo v3 (.int .i64 8) fun v609 => B P 3 .lss v607 v608 fun v610 => Q v610 (B P 3 .geq v607 v609 fun v611 => AC P w0 n_slices_pdqsortCmpFunc_impl_Mark [G l0 0, G l0 1, v605, G l0 3, G l0 4] s604 fun v612 s613 => B P 3 .add v605 (.int .i64 1) fun v614 => K1 .normal [G l0 0, v614, G l0 2, G l0 3, G l0 4, v611, v606] s613) (B P 3 .geq v608 v609 fun v615 => B P 3 .add v605 (.int .i64 1) fun v616 => AC P w0 n_slices_pdqsortCmpFunc_impl_Mark [G l0 0, v616, G l0 2, G l0 3, G l0 4] s604 fun v617 s618 => K1 .normal [G l0 0, G l0 1, v605, G l0 3, G l0 4, v615, v606] s618)))) (Q (G l0 5) (Q (G l0 6) (B P 162 .eql v417 (.int .i64 1) fun v619 => Q v619 (AC P w0 n_slices_partialInsertionSortCmpFunc_impl_Mark [G l0 0, G l0 1, G l0 2, G l0 4] s415 fun v620 s621 => Q v620 (K1 .ret [G l0 0, G l0 1, G l0 2, G l0 3, G l0 4, G l0 5, G l0 6] s621) (B P 3 .gtr (G l0 1) (.int .i64 0) fun v622 => Q v622 (B P 3 .sub (G l0 1) (.int .i64 1) fun v623 => X 2 (G l0 0) v623 fun v624 => L w0 2 v624 s621 fun g625 => X 2 (G l0 0) v416 fun v626 => L w0 2 v626 s621 fun g627 => pCallV (fun n628 l629 s630 K631 => AC P w0 n628 l629 s630 K631) (G l0 4) ([.agg (⟨[g625 0, g625 1]⟩), .agg (⟨[g627 0, g627 1]⟩)]) s621 fun v632 s633 => B P 3 .lss v632 (.int .i64 0) fun v634 => pUn .not v634 fun v635 => Q v635 (AC P w0 n_slices_partitionEqualCmpFunc_impl_Mark [G l0 0, G l0 1, G l0 2, v416, G l0 4] s633 fun v636 s637 => K1 .normal [G l0 0, v636, G l0 2, G l0 3, G l0 4, G l0 5, G l0 6] s637) (AC P w0 n_slices_partitionCmpFunc_impl_Mark [G l0 0, G l0 1, G l0 2, v416, G l0 4] s633 fun v638 s639 => E v638 0 fun v640 => E v638 1 fun v641 => B P 3 .sub v640 (G l0 1) fun v642 => B P 3 .sub (G l0 2) v640 fun v643 => B P 3 .quo v3 (.int .i64 8) fun v644 => B P 3 .lss v642 v643 fun v645 => Q v645 (B P 3 .geq v642 v644 fun v646 => AC P w0 n_slices_pdqsortCmpFunc_impl_Mark [G l0 0, G l0 1, v640, G l0 3, G l0 4] s639 fun v647 s648 => B P 3 .add v640 (.int .i64 1) fun v649 => K1 .normal [G l0 0, v649, G l0 2, G l0 3, G l0 4, v646, v641] s648) (B P 3 .geq v643 v644 fun v650 => B P 3 .add v640 (.int .i64 1) fun v651 => AC P w0 n_slices_pdqsortCmpFunc_impl_Mark [G l0 0, v651, G l0 2, G l0 3, G l0 4] s639 fun v652 s653 => K1 .normal [G l0 0, G l0 1, v640, G l0 3, G l0 4, v650, v641] s653))) (AC P w0 n_slices_partitionCmpFunc_impl_Mark [G l0 0, G l0 1, G l0 2, v416, G l0 4] s621 fun v654 s655 => E v654 0 fun v656 => E v654 1 fun v657 => B P 3 .sub v656 (G l0 1) fun v658 => B P 3 .sub (G l0 2) v656 fun v659 => B P 3 .quo v3 (.int .i64 8) fun v660 => B P 3 .lss v658 v659 fun v661 => Q v661 (B P 3 .geq v658 v660 fun v662 => AC P w0 n_slices_pdqsortCmpFunc_impl_Mark [G l0 0, G l0 1, v656, G l0 3, G l0 4] s655 fun v663 s664 => B P 3 .add v656 (.int .i64 1) fun v665 => K1 .normal [G l0 0, v665, G l0 2, G l0 3, G l0 4, v662, v657] s664) (B P 3 .geq v659 v660 fun v666 => B P 3 .add v656 (.int .i64 1) fun v667 => AC P w0 n_slices_pdqsortCmpFunc_impl_Mark [G l0 0, v667, G l0 2, G l0 3, G l0 4] s655 fun v668 s669 => K1 .normal [G l0 0, G l0 1, v656, G l0 3, G l0 4, v666, v657] s669)))) (B P 3 .gtr (G l0 1) (.int .i64 0) fun v670 => Q v670 (B P 3 .sub (G l0 1) (.int .i64 1) fun v671 => X 2 (G l0 0) v671 fun v672 => L w0 2 v672 s415 fun g673 => X 2 (G l0 0) v416 fun v674 => L w0 2 v674 s415 fun g675 => pCallV (fun n676 l677 s678 K679 => AC P w0 n676 l677 s678 K679) (G l0 4) ([.agg (⟨[g673 0, g673 1]⟩), .agg (⟨[g675 0, g675 1]⟩)]) s415 fun v680 s681 => B P 3 .lss v680 (.int .i64 0) fun v682 => pUn .not v682 fun v683 => Q v683 (AC P w0 n_slices_partitionEqualCmpFunc_impl_Mark [G l0 0, G l0 1, G l0 2, v416, G l0 4] s681 fun v684 s685 => K1 .normal [G l0 0, v684, G l0 2, G l0 3, G l0 4, G l0 5, G l0 6] s685) (AC P w0 n_slices_partitionCmpFunc_impl_Mark [G l0 0, G l0 1, G l0 2, v416, G l0 4] s681 fun v686 s687 => E v686 0 fun v688 => E v686 1 fun v689 => B P 3 .sub v688 (G l0 1) fun v690 => B P 3 .sub (G l0 2) v688 fun v691 => B P 3 .quo v3 (.int .i64 8) fun v692 => B P 3 .lss v690 v691 fun v693 => Q v693 (B P 3 .geq v690 v692 fun v694 => AC P w0 n_slices_pdqsortCmpFunc_impl_Mark [G l0 0, G l0 1, v688, G l0 3, G l0 4] s687 fun v695 s696 => B P 3 .add v688 (.int .i64 1) fun v697 => K1 .normal [G l0 0, v697, G l0 2, G l0 3, G l0 4, v694, v689] s696) (B P 3 .geq v691 v692 fun v698 => B P 3 .add v688 (.int .i64 1) fun v699 => AC P w0 n_slices_pdqsortCmpFunc_impl_Mark [G l0 0, v699, G l0 2, G l0 3, G l0 4] s687 fun v700 s701 => K1 .normal [G l0 0, G l0 1, v688, G l0 3, G l0 4, v698, v689] s701))) (AC P w0 n_slices_partitionCmpFunc_impl_Mark [G l0 0, G l0 1, G l0 2, v416, G l0 4] s415 fun v702 s703 => E v702 0 fun v704 => E v702 1 fun v705 => B P 3 .sub v704 (G l0 1) fun v706 => B P 3 .sub (G l0 2) v704 fun v707 => B P 3 .quo v3 (.int .i64 8) fun v708 => B P 3 .lss v706 v707 fun v709 => Q v709 (B P 3 .geq v706 v708 fun v710 => AC P w0 n_slices_pdqsortCmpFunc_impl_Mark [G l0 0, G l0 1, v704, G l0 3, G l0 4] s703 fun v711 s712 => B P 3 .add v704 (.int .i64 1) fun v713 => K1 .normal [G l0 0, v713, G l0 2, G l0 3, G l0 4, v710, v705] s712) (B P 3 .geq v707 v708 fun v714 => B P 3 .add v704 (.int .i64 1) fun v715 => AC P w0 n_slices_pdqsortCmpFunc_impl_Mark [G l0 0, v715, G l0 2, G l0 3, G l0 4] s703 fun v716 s717 => K1 .normal [G l0 0, G l0 1, v704, G l0 3, G l0 4, v714, v705] s717)))) (B P 3 .gtr (G l0 1) (.int .i64 0) fun v718 => Q v718 (B P 3 .sub (G l0 1) (.int .i64 1) fun v719 => X 2 (G l0 0) v719 fun v720 => L w0 2 v720 s415 fun g721 => X 2 (G l0 0) v416 fun v722 => L w0 2 v722 s415 fun g723 => pCallV (fun n724 l725 s726 K727 => AC P w0 n724 l725 s726 K727) (G l0 4) ([.agg (⟨[g721 0, g721 1]⟩), .agg (⟨[g723 0, g723 1]⟩)]) s415 fun v728 s729 => B P 3 .lss v728 (.int .i64 0) fun v730 => pUn .not v730 fun v731 => Q v731 (AC P w0 n_slices_partitionEqualCmpFunc_impl_Mark [G l0 0, G l0 1, G l0 2, v416, G l0 4] s729 fun v732 s733 => K1 .normal [G l0 0, v732, G l0 2, G l0 3, G l0 4, G l0 5, G l0 6] s733) (AC P w0 n_slices_partitionCmpFunc_impl_Mark [G l0 0, G l0 1, G l0 2, v416, G l0 4] s729 fun v734 s735 => E v734 0 fun v736 => E v734 1 fun v737 => B P 3 .sub v736 (G l0 1) fun v738 => B P 3 .sub (G l0 2) v736 fun v739 => B P 3 .quo v3 (.int .i64 8) fun v740 => B P 3 .lss v738 v739 fun v741 => Q v741 (B P 3 .geq v738 v740 fun v742 => AC P w0 n_slices_pdqsortCmpFunc_impl_Mark [G l0 0, G l0 1, v736, G l0 3, G l0 4] s735 fun v743 s744 => B P 3 .add v736 (.int .i64 1) fun v745 => K1 .normal [G l0 0, v745, G l0 2, G l0 3, G l0 4, v742, v737] s744) (B P 3 .geq v739 v740 fun v746 => B P 3 .add v736 (.int .i64 1) fun v747 => AC P w0 n_slices_pdqsortCmpFunc_impl_Mark [G l0 0, v747, G l0 2, G l0 3, G l0 4] s735 fun v748 s749 => K1 .normal [G l0 0, G l0 1, v736, G l0 3, G l0 4, v746, v737] s749))) (AC P w0 n_slices_partitionCmpFunc_impl_Mark [G l0 0, G l0 1, G l0 2, v416, G l0 4] s415 fun v750 s751 => E v750 0 fun v752 => E v750 1 fun v753 => B P 3 .sub v752 (G l0 1) fun v754 => B P 3 .sub (G l0 2) v752 fun v755 => B P 3 .quo v3 (.int .i64 8) fun v756 => B P 3 .lss v754 v755 fun v757 => Q v757 (B P 3 .geq v754 v756 fun v758 => AC P w0 n_slices_pdqsortCmpFunc_impl_Mark [G l0 0, G l0 1, v752, G l0 3, G l0 4] s751 fun v759 s760 => B P 3 .add v752 (.int .i64 1) fun v761 => K1 .normal [G l0 0, v761, G l0 2, G l0 3, G l0 4, v758, v753] s760) (B P 3 .geq v755 v756 fun v762 => B P 3 .add v752 (.int .i64 1) fun v763 => AC P w0 n_slices_pdqsortCmpFunc_impl_Mark [G l0 0, v763, G l0 2, G l0 3, G l0 4] s751 fun v764 s765 => K1 .normal [G l0 0, G l0 1, v752, G l0 3, G l0 4, v762, v753] s765)))) (B P 3 .gtr (G l0 1) (.int .i64 0) fun v766 => Q v766 (B P 3 .sub (G l0 1) (.int .i64 1) fun v767 => X 2 (G l0 0) v767 fun v768 => L w0 2 v768 s415 fun g769 => X 2 (G l0 0) v416 fun v770 => L w0 2 v770 s415 fun g771 => pCallV (fun n772 l773 s774 K775 => AC P w0 n772 l773 s774 K775) (G l0 4) ([.agg (⟨[g769 0, g769 1]⟩), .agg (⟨[g771 0, g771 1]⟩)]) s415 fun v776 s777 => B P 3 .lss v776 (.int .i64 0) fun v778 => pUn .not v778 fun v779 => Q v779 (AC P w0 n_slices_partitionEqualCmpFunc_impl_Mark [G l0 0, G l0 1, G l0 2, v416, G l0 4] s777 fun v780 s781 => K1 .normal [G l0 0, v780, G l0 2, G l0 3, G l0 4, G l0 5, G l0 6] s781) (AC P w0 n_slices_partitionCmpFunc_impl_Mark [G l0 0, G l0 1, G l0 2, v416, G l0 4] s777 fun v782 s783 => E v782 0 fun v784 => E v782 1 fun v785 => B P 3 .sub v784 (G l0 1) fun v786 => B P 3 .sub (G l0 2) v784 fun v787 => B P 3 .quo v3 (.int .i64 8) fun v788 => B P 3 .lss v786 v787 fun v789 => Q v789 (B P 3 .geq v786 v788 fun v790 => AC P w0 n_slices_pdqsortCmpFunc_impl_Mark [G l0 0, G l0 1, v784, G l0 3, G l0 4] s783 fun v791 s792 => B P 3 .add v784 (.int .i64 1) fun v793 => K1 .normal [G l0 0, v793, G l0 2, G l0 3, G l0 4, v790, v785] s792) (B P 3 .geq v787 v788 fun v794 => B P 3 .add v784 (.int .i64 1) fun v795 => AC P w0 n_slices_pdqsortCmpFunc_impl_Mark [G l0 0, v795, G l0 2, G l0 3, G l0 4] s783 fun v796 s797 => K1 .normal [G l0 0, G l0 1, v784, G l0 3, G l0 4, v794, v785] s797))) (AC P w0 n_slices_partitionCmpFunc_impl_Mark [G l0 0, G l0 1, G l0 2, v416, G l0 4] s415 fun v798 s799 => E v798 0 fun v800 => E v798 1 fun v801 => B P 3 .sub v800 (G l0 1) fun v802 => B P 3 .sub (G l0 2) v800 fun v803 => B P 3 .quo v3 (.int .i64 8) fun v804 => B P 3 .lss v802 v803 fun v805 => Q v805 (B P 3 .geq v802 v804 fun v806 => AC P w0 n_slices_pdqsortCmpFunc_impl_Mark [G l0 0, G l0 1, v800, G l0 3, G l0 4] s799 fun v807 s808 => B P 3 .add v800 (.int .i64 1) fun v809 => K1 .normal [G l0 0, v809, G l0 2, G l0 3, G l0 4, v806, v801] s808) (B P 3 .geq v803 v804 fun v810 => B P 3 .add v800 (.int .i64 1) fun v811 => AC P w0 n_slices_pdqsortCmpFunc_impl_Mark [G l0 0, v811, G l0 2, G l0 3, G l0 4] s799 fun v812 s813 => K1 .normal [G l0 0, G l0 1, v800, G l0 3, G l0 4, v810, v801] s813)))))))) [a0, a1, a2, a3, a4, .bool true, .bool true] σ fun x814 l815 s816 => match x814 with | .normal => R (.tuple ⟨[]⟩) s816 | .ret => R (.tuple ⟨[]⟩) s816 | .exit i817 => (match Nat.beq i817 0 with | true => R (.tuple ⟨[]⟩) s816 | false => False)
theorem vc_slices_pdqsortCmpFunc_impl_Mark_eq (w0 : World) (a0 a1 a2 a3 a4 : Value) (σ : Vw) (R : Value → Vw → Prop) : vc_slices_pdqsortCmpFunc_impl_Mark w0 a0 a1 a2 a3 a4 σ R = den Tryz.prog w0 kp_slices_pdqsortCmpFunc_impl_Mark esc_slices_pdqsortCmpFunc_impl_Mark (Tryz.f146.body.getD .skip) (entry Tryz.f146.ntmps [a0, a1, a2, a3, a4]) σ (retK Tryz.prog Tryz.f146.results.toList R) := by kernel_rfl
theorem ac_slices_pdqsortCmpFunc_impl_Mark {w0 : World} {a0 a1 a2 a3 a4 : Value} {σ : Vw} {R : Value → Vw → Prop} (h : vc_slices_pdqsortCmpFunc_impl_Mark w0 a0 a1 a2 a3 a4 σ R) : AC Tryz.prog w0 n_slices_pdqsortCmpFunc_impl_Mark [a0, a1, a2, a3, a4] σ R := by
  refine ac_rule (fn := Tryz.f146) (c := Tryz.f146.body.getD .skip) kp_slices_pdqsortCmpFunc_impl_Mark esc_slices_pdqsortCmpFunc_impl_Mark Tryz.func146 (by kernel_rfl) (by kernel_rfl) ?_
  rw [← vc_slices_pdqsortCmpFunc_impl_Mark_eq]
  exact h

/-- math/bits.Len -/
def kp_math_bits_Len : Nat → Keep
  | _ => ⟨[], [], [], .done, []⟩
def esc_math_bits_Len : Nat → Bool
  | _ => false
def vc_math_bits_Len (w0 : World) (a0 : Value) (σ : Vw) (R : Value → Vw → Prop) : Prop :=
  AC P w0 n_math_bits_Len64 [a0] σ fun v0 s1 => R v0 s1
theorem vc_math_bits_Len_eq (w0 : World) (a0 : Value) (σ : Vw) (R : Value → Vw → Prop) : vc_math_bits_Len w0 a0 σ R = den Tryz.prog w0 kp_math_bits_Len esc_math_bits_Len (Tryz.f147.body.getD .skip) (entry Tryz.f147.ntmps [a0]) σ (retK Tryz.prog Tryz.f147.results.toList R) := by kernel_rfl
theorem ac_math_bits_Len {w0 : World} {a0 : Value} {σ : Vw} {R : Value → Vw → Prop} (h : vc_math_bits_Len w0 a0 σ R) : AC Tryz.prog w0 n_math_bits_Len [a0] σ R := by
  refine ac_rule (fn := Tryz.f147) (c := Tryz.f147.body.getD .skip) kp_math_bits_Len esc_math_bits_Len Tryz.func147 (by kernel_rfl) (by kernel_rfl) ?_
  rw [← vc_math_bits_Len_eq]
  exact h

/-- spec.l1NameOk -/
def kp_spec_l1NameOk : Nat → Keep
  | 2 => ⟨[0, 2, 3], [], [], .done, []⟩
  | _ => ⟨[], [], [], .done, []⟩
def esc_spec_l1NameOk : Nat → Bool
  | _ => false
def vc_spec_l1NameOk (w0 : World) (a0 : Value) (σ : Vw) (R : Value → Vw → Prop) : Prop :=
  pLoop (fun l0 K1 s2 => pLenS (G l0 0) fun v3 => B P 3 .lss (G l0 2) v3 fun v4 => Q v4 (pIndexStr (G l0 0) (G l0 2) fun v5 => B P 5 .geq v5 (.int .u8 97) fun v6 => Q v6 (pIndexStr (G l0 0) (G l0 2) fun v7 => B P 5 .leq v7 (.int .u8 122) fun v8 => Q v8 (pUn .not (.bool true) fun v9 => Q v9 (K1 .ret [G l0 0, .bool false, G l0 2] s2) (B P 3 .add (G l0 2) (.int .i64 1) fun v10 => K1 .normal [G l0 0, G l0 1, v10] s2)) (pIndexStr (G l0 0) (G l0 2) fun v11 => B P 5 .geq v11 (.int .u8 48) fun v12 => Q v12 (pIndexStr (G l0 0) (G l0 2) fun v13 => B P 5 .leq v13 (.int .u8 57) fun v14 => pUn .not v14 fun v15 => Q v15 (K1 .ret [G l0 0, .bool false, G l0 2] s2) (B P 3 .add (G l0 2) (.int .i64 1) fun v16 => K1 .normal [G l0 0, G l0 1, v16] s2)) (pUn .not (.bool false) fun v17 => Q v17 (K1 .ret [G l0 0, .bool false, G l0 2] s2) (B P 3 .add (G l0 2) (.int .i64 1) fun v18 => K1 .normal [G l0 0, G l0 1, v18] s2)))) (pIndexStr (G l0 0) (G l0 2) fun v19 => B P 5 .geq v19 (.int .u8 48) fun v20 => Q v20 (pIndexStr (G l0 0) (G l0 2) fun v21 => B P 5 .leq v21 (.int .u8 57) fun v22 => pUn .not v22 fun v23 => Q v23 (K1 .ret [G l0 0, .bool false, G l0 2] s2) (B P 3 .add (G l0 2) (.int .i64 1) fun v24 => K1 .normal [G l0 0, G l0 1, v24] s2)) (pUn .not (.bool false) fun v25 => Q v25 (K1 .ret [G l0 0, .bool false, G l0 2] s2) (B P 3 .add (G l0 2) (.int .i64 1) fun v26 => K1 .normal [G l0 0, G l0 1, v26] s2)))) (K1 (.exit 0) [G l0 0, G l0 1, G l0 2] s2)) [a0, .bool false, .int .i64 0] σ fun x27 l28 s29 => match x27 with | .normal => pLenS (G l28 0) (fun v30 => AC P w0 n_spec_l1In [v30, .int .i64 1, .int .i64 5] s29 fun v31 s32 => R v31 s32) | .ret => R (G l28 1) s29 | .exit i33 => (match Nat.beq i33 0 with | true => pLenS (G l28 0) (fun v34 => AC P w0 n_spec_l1In [v34, .int .i64 1, .int .i64 5] s29 fun v35 s36 => R v35 s36) | false => False)
theorem vc_spec_l1NameOk_eq (w0 : World) (a0 : Value) (σ : Vw) (R : Value → Vw → Prop) : vc_spec_l1NameOk w0 a0 σ R = den Tryz.prog w0 kp_spec_l1NameOk esc_spec_l1NameOk (Tryz.f148.body.getD .skip) (entry Tryz.f148.ntmps [a0]) σ (retK Tryz.prog Tryz.f148.results.toList R) := by kernel_rfl
theorem ac_spec_l1NameOk {w0 : World} {a0 : Value} {σ : Vw} {R : Value → Vw → Prop} (h : vc_spec_l1NameOk w0 a0 σ R) : AC Tryz.prog w0 n_spec_l1NameOk [a0] σ R := by
  refine ac_rule (fn := Tryz.f148) (c := Tryz.f148.body.getD .skip) kp_spec_l1NameOk esc_spec_l1NameOk Tryz.func148 (by kernel_rfl) (by kernel_rfl) ?_
  rw [← vc_spec_l1NameOk_eq]
  exact h

/-- cmp.isNaN[string] -/
def kp_cmp_isNaN_string : Nat → Keep
  | _ => ⟨[], [], [], .done, []⟩
def esc_cmp_isNaN_string : Nat → Bool
  | _ => false
def vc_cmp_isNaN_string (w0 : World) (a0 : Value) (σ : Vw) (R : Value → Vw → Prop) : Prop :=
  B P 9 .neq a0 a0 fun v0 => R v0 σ
theorem vc_cmp_isNaN_string_eq (w0 : World) (a0 : Value) (σ : Vw) (R : Value → Vw → Prop) : vc_cmp_isNaN_string w0 a0 σ R = den Tryz.prog w0 kp_cmp_isNaN_string esc_cmp_isNaN_string (Tryz.f149.body.getD .skip) (entry Tryz.f149.ntmps [a0]) σ (retK Tryz.prog Tryz.f149.results.toList R) := by kernel_rfl
theorem ac_cmp_isNaN_string {w0 : World} {a0 : Value} {σ : Vw} {R : Value → Vw → Prop} (h : vc_cmp_isNaN_string w0 a0 σ R) : AC Tryz.prog w0 n_cmp_isNaN_string [a0] σ R := by
  refine ac_rule (fn := Tryz.f149) (c := Tryz.f149.body.getD .skip) kp_cmp_isNaN_string esc_cmp_isNaN_string Tryz.func149 (by kernel_rfl) (by kernel_rfl) ?_
  rw [← vc_cmp_isNaN_string_eq]
  exact h

/-- spec.l4Full -/
def kp_spec_l4Full : Nat → Keep
  | 3 => ⟨[0, 4], [(2, 5), (3, 5)], [2, 3], .done, []⟩
  | 5 => ⟨[], [], [], .step 0 (.step 1 (.step 2 (.step 3 (.step 4 (.step 5 (.step 6 (.step 7 (.step 8 (.step 9 (.step 10 (.step 11 (.done)))))))))))), [(2, [1]), (3, [1, 2]), (4, [1, 2, 3]), (5, [1, 2, 3, 4]), (6, [1, 2, 3, 4, 5]), (7, [0, 1, 2, 3, 4, 5, 6]), (8, [0, 1, 2, 3, 4, 5, 6, 7]), (9, [0, 1, 2, 3, 4, 5, 6, 7, 8]), (10, [0, 1, 2, 3, 4, 5, 6, 7, 8]), (11, [0, 1, 2, 3, 4, 5, 6, 7, 8, 9])]⟩
  | _ => ⟨[], [], [], .done, []⟩
def esc_spec_l4Full : Nat → Bool
  | 19 => true
  | _ => false
def vc_spec_l4Full (w0 : World) (a0 : Value) (σ : Vw) (R : Value → Vw → Prop) : Prop :=
  V false 1 (.bool true) (V true 5 (.agg (⟨[.bool true, .int .i64 0, .string ({ data := #[] }), .slice none 0 0, .slice none 0 0]⟩)) (pLoop (fun l0 K1 s2 => AC P w0 n_p_spec_l1Rd_pick [G l0 0, .int .i64 3] s2 fun v3 s4 => B P 3 .sub (.int .i64 30) v3 fun v5 => B P 3 .lss (G l0 1) v5 fun v6 => Q v6 (B P 3 .add (.int .i64 100) (G l0 1) fun v7 => AC P w0 n_spec_l1Dec [v7] s4 fun v8 s9 => B P 9 .add (.string ({ data := #[102] })) v8 fun v10 => V false 1 v10 (W w0 9 [v10] s9 fun n11 s12 => V false 1 (.int .i64 2) (V false 1 (.slice (some (Addr.mk n11 0 none)) 1 1) (AC P w0 n_spec_TreeDo ([.agg (⟨[G l0 7, G l0 8, G l0 9, G l0 10, G l0 11]⟩), .agg (⟨[.int .i64 2, .slice (some (Addr.mk n11 0 none)) 1 1, .slice none 0 0, .int .i64 0, .string ({ data := #[] })]⟩)]) s12 fun v13 s14 => E v13 0 fun v15 => E v13 1 fun v16 => V true 5 v15 (B P 3 .add (G l0 1) (.int .i64 1) fun v17 => K1 .normal [G l0 0, v17, G l0 2, G l0 3, G l0 4, G l0 5, G l0 6, C v15 0, C v15 1, C v15 2, C v15 3, C v15 4] s14))))) (K1 (.exit 0) [G l0 0, G l0 1, G l0 2, G l0 3, G l0 4, G l0 5, G l0 6, G l0 7, G l0 8, G l0 9, G l0 10, G l0 11] s4)) ([a0, .int .i64 0, .bool false, .int .i64 0, .string ({ data := #[] }), .slice none 0 0, .slice none 0 0, .bool true, .int .i64 0, .string ({ data := #[] }), .slice none 0 0, .slice none 0 0]) σ fun x18 l19 s20 => match x18 with | .normal => V true 5 (.agg (⟨[G l19 7, G l19 8, G l19 9, G l19 10, G l19 11]⟩)) (R (.agg (⟨[G l19 7, G l19 8, G l19 9, G l19 10, G l19 11]⟩)) s20) | .ret => R (.agg (⟨[G l19 2, G l19 3, G l19 4, G l19 5, G l19 6]⟩)) s20 | .exit i21 => (match Nat.beq i21 0 with | true => V true 5 (.agg (⟨[G l19 7, G l19 8, G l19 9, G l19 10, G l19 11]⟩)) (R (.agg (⟨[G l19 7, G l19 8, G l19 9, G l19 10, G l19 11]⟩)) s20) | false => False)))
theorem vc_spec_l4Full_eq (w0 : World) (a0 : Value) (σ : Vw) (R : Value → Vw → Prop) : vc_spec_l4Full w0 a0 σ R = den Tryz.prog w0 kp_spec_l4Full esc_spec_l4Full (Tryz.f150.body.getD .skip) (entry Tryz.f150.ntmps [a0]) σ (retK Tryz.prog Tryz.f150.results.toList R) := by kernel_rfl
theorem ac_spec_l4Full {w0 : World} {a0 : Value} {σ : Vw} {R : Value → Vw → Prop} (h : vc_spec_l4Full w0 a0 σ R) : AC Tryz.prog w0 n_spec_l4Full [a0] σ R := by
  refine ac_rule (fn := Tryz.f150) (c := Tryz.f150.body.getD .skip) kp_spec_l4Full esc_spec_l4Full Tryz.func150 (by kernel_rfl) (by kernel_rfl) ?_
  rw [← vc_spec_l4Full_eq]
  exact h

/-- spec.l2Parent -/
def kp_spec_l2Parent : Nat → Keep
  | 1 => ⟨[], [], [], .step 0 (.step 1 (.step 2 (.step 3 (.step 4 (.step 5 (.step 10 (.step 6 (.step 7 (.step 8 (.step 9 (.step 11 (.step 12 (.done))))))))))))), [(3, [2]), (4, [2, 3]), (5, [1, 2, 3, 4]), (6, [0, 1, 2, 3, 4, 5]), (7, [0, 1, 2, 3, 4, 5, 6]), (8, [0, 1, 2, 3, 4, 5, 6, 7]), (9, [0, 1, 2, 3, 4, 5, 6, 7]), (11, [0, 1, 2, 3, 4, 5, 6, 7, 8, 10]), (12, [0, 1, 2, 3, 4, 5, 6, 7, 8, 9, 10, 11])]⟩
  | _ => ⟨[], [], [], .done, []⟩
def esc_spec_l2Parent : Nat → Bool
  | _ => false
def vc_spec_l2Parent (w0 : World) (a0 a1 : Value) (σ : Vw) (R : Value → Vw → Prop) : Prop :=
  V true 5 a0 (N a1 fun v0 => B P 3 .sub v0 (.int .i64 1) fun v1 => pSlice 1 a1 none (some v1) fun v2 => AC P w0 n_spec_l1At ([.agg (⟨[C a0 0, C a0 1, C a0 2, C a0 3, C a0 4]⟩), v2]) σ fun v3 s4 => E v3 0 fun v5 => E v3 1 fun v6 => V true 5 v5 (pUn .not v6 fun v7 => Q v7 (R (.int .i64 3) s4) (pUn .not (C v5 0) fun v8 => Q v8 (R (.int .i64 4) s4) (R (.int .i64 0) s4))))
theorem vc_spec_l2Parent_eq (w0 : World) (a0 a1 : Value) (σ : Vw) (R : Value → Vw → Prop) : vc_spec_l2Parent w0 a0 a1 σ R = den Tryz.prog w0 kp_spec_l2Parent esc_spec_l2Parent (Tryz.f151.body.getD .skip) (entry Tryz.f151.ntmps [a0, a1]) σ (retK Tryz.prog Tryz.f151.results.toList R) := by kernel_rfl
theorem ac_spec_l2Parent {w0 : World} {a0 a1 : Value} {σ : Vw} {R : Value → Vw → Prop} (h : vc_spec_l2Parent w0 a0 a1 σ R) : AC Tryz.prog w0 n_spec_l2Parent [a0, a1] σ R := by
  refine ac_rule (fn := Tryz.f151) (c := Tryz.f151.body.getD .skip) kp_spec_l2Parent esc_spec_l2Parent Tryz.func151 (by kernel_rfl) (by kernel_rfl) ?_
  rw [← vc_spec_l2Parent_eq]
  exact h

/-- spec.l2Fits -/
def kp_spec_l2Fits : Nat → Keep
  | _ => ⟨[], [], [], .done, []⟩
def esc_spec_l2Fits : Nat → Bool
  | _ => false
def vc_spec_l2Fits (w0 : World) (a0 a1 : Value) (σ : Vw) (R : Value → Vw → Prop) : Prop :=
  V true 5 a0 (V true 5 a1 (AC P w0 n_spec_TreeOk ([.agg (⟨[C a0 0, C a0 1, C a0 2, C a0 3, C a0 4]⟩)]) σ fun v0 s1 => pUn .not v0 fun v2 => Q v2 (V true 5 (.agg (⟨[C a1 0, C a1 1, C a1 2, C a1 3, C a1 4]⟩)) (R (.tuple (⟨[.agg (⟨[C a1 0, C a1 1, C a1 2, C a1 3, C a1 4]⟩), .int .i64 6]⟩)) s1)) (V true 5 (.agg (⟨[C a0 0, C a0 1, C a0 2, C a0 3, C a0 4]⟩)) (R (.tuple (⟨[.agg (⟨[C a0 0, C a0 1, C a0 2, C a0 3, C a0 4]⟩), .int .i64 0]⟩)) s1))))
theorem vc_spec_l2Fits_eq (w0 : World) (a0 a1 : Value) (σ : Vw) (R : Value → Vw → Prop) : vc_spec_l2Fits w0 a0 a1 σ R = den Tryz.prog w0 kp_spec_l2Fits esc_spec_l2Fits (Tryz.f152.body.getD .skip) (entry Tryz.f152.ntmps [a0, a1]) σ (retK Tryz.prog Tryz.f152.results.toList R) := by kernel_rfl
theorem ac_spec_l2Fits {w0 : World} {a0 a1 : Value} {σ : Vw} {R : Value → Vw → Prop} (h : vc_spec_l2Fits w0 a0 a1 σ R) : AC Tryz.prog w0 n_spec_l2Fits [a0, a1] σ R := by
  refine ac_rule (fn := Tryz.f152) (c := Tryz.f152.body.getD .skip) kp_spec_l2Fits esc_spec_l2Fits Tryz.func152 (by kernel_rfl) (by kernel_rfl) ?_
  rw [← vc_spec_l2Fits_eq]
  exact h

/-- spec.l2Set -/
def kp_spec_l2Set : Nat → Keep
  | 4 => ⟨[1, 3, 10, 11], [(4, 5), (6, 5), (8, 5), (9, 5)], [4, 6, 8, 9], .done, []⟩
  | 8 => ⟨[], [], [], .step 0 (.step 1 (.step 2 (.step 3 (.step 4 (.step 5 (.step 6 (.step 7 (.step 8 (.done))))))))), [(1, [0]), (3, [2]), (4, [2, 3]), (5, [2, 3, 4]), (6, [0, 1, 2, 3, 4, 5]), (7, [0, 1, 2, 3, 4, 5, 6]), (8, [0, 1, 2, 3, 4, 5, 6, 7])]⟩
  | 14 => ⟨[], [], [], .step 0 (.step 1 (.step 2 (.step 3 (.step 4 (.step 5 (.step 6 (.done))))))), [(2, [1]), (5, [0, 1, 2, 3, 4]), (6, [0, 1, 2, 3, 4, 5])]⟩
  | 18 => ⟨[], [], [], .step 0 (.step 1 (.step 2 (.step 3 (.step 4 (.step 5 (.step 6 (.step 7 (.step 8 (.done))))))))), [(1, [0]), (3, [2]), (4, [2, 3]), (5, [2, 3, 4]), (6, [0, 1, 2, 3, 4, 5]), (7, [0, 1, 2, 3, 4, 5, 6]), (8, [0, 1, 2, 3, 4, 5, 6, 7])]⟩
  | _ => ⟨[], [], [], .done, []⟩
def esc_spec_l2Set : Nat → Bool
  | _ => false
def vc_spec_l2Set (w0 : World) (a0 a1 a2 a3 : Value) (σ : Vw) (R : Value → Vw → Prop) : Prop :=
  V true 5 a0 (V true 5 a2 (V false 1 (C a0 0) (V false 1 (C a0 1) (V false 1 (C a0 2) (V true 5 (.agg (⟨[C a0 0, C a0 1, C a0 2, .slice none 0 0, .slice none 0 0]⟩)) (pLoop (fun l0 K1 s2 => N (G l0 7) fun v3 => B P 3 .lss (G l0 3) v3 fun v4 => Q v4 (X 1 (G l0 7) (G l0 3) fun v5 => L w0 1 v5 s2 fun g6 => N (G l0 0) fun v7 => B P 3 .eql v7 (.int .i64 1) fun v8 => Q v8 (pUn .not (G l0 2) fun v9 => Q v9 (pUn .not (G l0 1) fun v10 => Q v10 (X 1 (G l0 0) (.int .i64 0) fun v11 => L w0 1 v11 s2 fun g12 => B P 9 .geq (g6 0) (g12 0) fun v13 => Q v13 (X 1 (G l0 0) (.int .i64 0) fun v14 => L w0 1 v14 s2 fun g15 => V false 1 (g15 0) ((allOne [g15 0]) ∧ (A w0 9 1 16 (G l0 22) 1 [g15 0] s2 fun v16 s17 => V false 1 v16 (V true 5 (.agg (⟨[G l0 9, G l0 10, G l0 11, G l0 12, G l0 13]⟩)) ((allOne [G l0 9, G l0 10, G l0 11, G l0 12, G l0 13]) ∧ (A w0 26 5 80 (G l0 23) 1 [G l0 9, G l0 10, G l0 11, G l0 12, G l0 13] s17 fun v18 s19 => V false 1 v18 (X 1 (G l0 0) (.int .i64 0) fun v20 => L w0 1 v20 s19 fun g21 => B P 9 .eql (g6 0) (g21 0) fun v22 => Q v22 (N (G l0 0) fun v23 => B P 3 .eql v23 (.int .i64 1) fun v24 => Q v24 (B P 3 .add (G l0 3) (.int .i64 1) fun v25 => K1 .normal [G l0 0, G l0 1, .bool true, v25, G l0 4, G l0 5, G l0 6, G l0 7, G l0 8, G l0 9, G l0 10, G l0 11, G l0 12, G l0 13, G l0 14, G l0 15, G l0 16, G l0 17, G l0 18, G l0 19, G l0 20, G l0 21, v16, v18] s19) (X 5 (G l0 8) (G l0 3) fun v26 => L w0 5 v26 s19 fun g27 => V true 5 (.agg (⟨[g27 0, g27 1, g27 2, g27 3, g27 4]⟩)) (X 1 (G l0 0) (.int .i64 0) fun v28 => L w0 1 v28 s19 fun g29 => B P 9 .eql (g6 0) (g29 0) fun v30 => Q v30 (pSlice 1 (G l0 0) (some (.int .i64 1)) none fun v31 => AC P w0 n_spec_l2Set ([.agg (⟨[g27 0, g27 1, g27 2, g27 3, g27 4]⟩), v31, .agg (⟨[G l0 9, G l0 10, G l0 11, G l0 12, G l0 13]⟩), G l0 1]) s19 fun v32 s33 => V true 5 v32 (V false 1 (g6 0) ((allOne [g6 0]) ∧ (A w0 9 1 16 v16 1 [g6 0] s33 fun v34 s35 => V false 1 v34 (V true 5 (.agg (⟨[C v32 0, C v32 1, C v32 2, C v32 3, C v32 4]⟩)) ((allOne [C v32 0, C v32 1, C v32 2, C v32 3, C v32 4]) ∧ (A w0 26 5 80 v18 1 [C v32 0, C v32 1, C v32 2, C v32 3, C v32 4] s35 fun v36 s37 => V false 1 v36 (B P 3 .add (G l0 3) (.int .i64 1) fun v38 => K1 .normal [G l0 0, G l0 1, .bool true, v38, G l0 4, G l0 5, G l0 6, G l0 7, G l0 8, G l0 9, G l0 10, G l0 11, G l0 12, G l0 13, G l0 14, G l0 15, G l0 16, G l0 17, G l0 18, G l0 19, G l0 20, G l0 21, v34, v36] s37)))))))) (V false 1 (g6 0) ((allOne [g6 0]) ∧ (A w0 9 1 16 v16 1 [g6 0] s19 fun v39 s40 => V false 1 v39 (V true 5 (.agg (⟨[g27 0, g27 1, g27 2, g27 3, g27 4]⟩)) ((allOne [g27 0, g27 1, g27 2, g27 3, g27 4]) ∧ (A w0 26 5 80 v18 1 [g27 0, g27 1, g27 2, g27 3, g27 4] s40 fun v41 s42 => V false 1 v41 (B P 3 .add (G l0 3) (.int .i64 1) fun v43 => K1 .normal [G l0 0, G l0 1, .bool true, v43, G l0 4, G l0 5, G l0 6, G l0 7, G l0 8, G l0 9, G l0 10, G l0 11, G l0 12, G l0 13, G l0 14, G l0 15, G l0 16, G l0 17, G l0 18, G l0 19, G l0 20, G l0 21, v39, v41] s42)))))))))) (X 5 (G l0 8) (G l0 3) fun v44 => L w0 5 v44 s19 fun g45 => V true 5 (.agg (⟨[g45 0, g45 1, g45 2, g45 3, g45 4]⟩)) (X 1 (G l0 0) (.int .i64 0) fun v46 => L w0 1 v46 s19 fun g47 => B P 9 .eql (g6 0) (g47 0) fun v48 => Q v48 (pSlice 1 (G l0 0) (some (.int .i64 1)) none fun v49 => AC P w0 n_spec_l2Set ([.agg (⟨[g45 0, g45 1, g45 2, g45 3, g45 4]⟩), v49, .agg (⟨[G l0 9, G l0 10, G l0 11, G l0 12, G l0 13]⟩), G l0 1]) s19 fun v50 s51 => V true 5 v50 (V false 1 (g6 0) ((allOne [g6 0]) ∧ (A w0 9 1 16 v16 1 [g6 0] s51 fun v52 s53 => V false 1 v52 (V true 5 (.agg (⟨[C v50 0, C v50 1, C v50 2, C v50 3, C v50 4]⟩)) ((allOne [C v50 0, C v50 1, C v50 2, C v50 3, C v50 4]) ∧ (A w0 26 5 80 v18 1 [C v50 0, C v50 1, C v50 2, C v50 3, C v50 4] s53 fun v54 s55 => V false 1 v54 (B P 3 .add (G l0 3) (.int .i64 1) fun v56 => K1 .normal [G l0 0, G l0 1, .bool true, v56, G l0 4, G l0 5, G l0 6, G l0 7, G l0 8, G l0 9, G l0 10, G l0 11, G l0 12, G l0 13, G l0 14, G l0 15, G l0 16, G l0 17, G l0 18, G l0 19, G l0 20, G l0 21, v52, v54] s55)))))))) (V false 1 (g6 0) ((allOne [g6 0]) ∧ (A w0 9 1 16 v16 1 [g6 0] s19 fun v57 s58 => V false 1 v57 (V true 5 (.agg (⟨[g45 0, g45 1, g45 2, g45 3, g45 4]⟩)) ((allOne [g45 0, g45 1, g45 2, g45 3, g45 4]) ∧ (A w0 26 5 80 v18 1 [g45 0, g45 1, g45 2, g45 3, g45 4] s58 fun v59 s60 => V false 1 v59 (B P 3 .add (G l0 3) (.int .i64 1) fun v61 => K1 .normal [G l0 0, G l0 1, .bool true, v61, G l0 4, G l0 5, G l0 6, G l0 7, G l0 8, G l0 9, G l0 10, G l0 11, G l0 12, G l0 13, G l0 14, G l0 15, G l0 16, G l0 17, G l0 18, G l0 19, G l0 20, G l0 21, v57, v59] s60)))))))))))))))) (X 1 (G l0 0) (.int .i64 0) fun v62 => L w0 1 v62 s2 fun g63 => B P 9 .eql (g6 0) (g63 0) fun v64 => Q v64 (N (G l0 0) fun v65 => B P 3 .eql v65 (.int .i64 1) fun v66 => Q v66 (B P 3 .add (G l0 3) (.int .i64 1) fun v67 => K1 .normal [G l0 0, G l0 1, G l0 2, v67, G l0 4, G l0 5, G l0 6, G l0 7, G l0 8, G l0 9, G l0 10, G l0 11, G l0 12, G l0 13, G l0 14, G l0 15, G l0 16, G l0 17, G l0 18, G l0 19, G l0 20, G l0 21, G l0 22, G l0 23] s2) (X 5 (G l0 8) (G l0 3) fun v68 => L w0 5 v68 s2 fun g69 => V true 5 (.agg (⟨[g69 0, g69 1, g69 2, g69 3, g69 4]⟩)) (X 1 (G l0 0) (.int .i64 0) fun v70 => L w0 1 v70 s2 fun g71 => B P 9 .eql (g6 0) (g71 0) fun v72 => Q v72 (pSlice 1 (G l0 0) (some (.int .i64 1)) none fun v73 => AC P w0 n_spec_l2Set ([.agg (⟨[g69 0, g69 1, g69 2, g69 3, g69 4]⟩), v73, .agg (⟨[G l0 9, G l0 10, G l0 11, G l0 12, G l0 13]⟩), G l0 1]) s2 fun v74 s75 => V true 5 v74 (V false 1 (g6 0) ((allOne [g6 0]) ∧ (A w0 9 1 16 (G l0 22) 1 [g6 0] s75 fun v76 s77 => V false 1 v76 (V true 5 (.agg (⟨[C v74 0, C v74 1, C v74 2, C v74 3, C v74 4]⟩)) ((allOne [C v74 0, C v74 1, C v74 2, C v74 3, C v74 4]) ∧ (A w0 26 5 80 (G l0 23) 1 [C v74 0, C v74 1, C v74 2, C v74 3, C v74 4] s77 fun v78 s79 => V false 1 v78 (B P 3 .add (G l0 3) (.int .i64 1) fun v80 => K1 .normal [G l0 0, G l0 1, G l0 2, v80, G l0 4, G l0 5, G l0 6, G l0 7, G l0 8, G l0 9, G l0 10, G l0 11, G l0 12, G l0 13, G l0 14, G l0 15, G l0 16, G l0 17, G l0 18, G l0 19, G l0 20, G l0 21, v76, v78] s79)))))))) (V false 1 (g6 0) ((allOne [g6 0]) ∧ (A w0 9 1 16 (G l0 22) 1 [g6 0] s2 fun v81 s82 => V false 1 v81 (V true 5 (.agg (⟨[g69 0, g69 1, g69 2, g69 3, g69 4]⟩)) ((allOne [g69 0, g69 1, g69 2, g69 3, g69 4]) ∧ (A w0 26 5 80 (G l0 23) 1 [g69 0, g69 1, g69 2, g69 3, g69 4] s82 fun v83 s84 => V false 1 v83 (B P 3 .add (G l0 3) (.int .i64 1) fun v85 => K1 .normal [G l0 0, G l0 1, G l0 2, v85, G l0 4, G l0 5, G l0 6, G l0 7, G l0 8, G l0 9, G l0 10, G l0 11, G l0 12, G l0 13, G l0 14, G l0 15, G l0 16, G l0 17, G l0 18, G l0 19, G l0 20, G l0 21, v81, v83] s84)))))))))) (X 5 (G l0 8) (G l0 3) fun v86 => L w0 5 v86 s2 fun g87 => V true 5 (.agg (⟨[g87 0, g87 1, g87 2, g87 3, g87 4]⟩)) (X 1 (G l0 0) (.int .i64 0) fun v88 => L w0 1 v88 s2 fun g89 => B P 9 .eql (g6 0) (g89 0) fun v90 => Q v90 (pSlice 1 (G l0 0) (some (.int .i64 1)) none fun v91 => AC P w0 n_spec_l2Set ([.agg (⟨[g87 0, g87 1, g87 2, g87 3, g87 4]⟩), v91, .agg (⟨[G l0 9, G l0 10, G l0 11, G l0 12, G l0 13]⟩), G l0 1]) s2 fun v92 s93 => V true 5 v92 (V false 1 (g6 0) ((allOne [g6 0]) ∧ (A w0 9 1 16 (G l0 22) 1 [g6 0] s93 fun v94 s95 => V false 1 v94 (V true 5 (.agg (⟨[C v92 0, C v92 1, C v92 2, C v92 3, C v92 4]⟩)) ((allOne [C v92 0, C v92 1, C v92 2, C v92 3, C v92 4]) ∧ (A w0 26 5 80 (G l0 23) 1 [C v92 0, C v92 1, C v92 2, C v92 3, C v92 4] s95 fun v96 s97 => V false 1 v96 (B P 3 .add (G l0 3) (.int .i64 1) fun v98 => K1 .normal [G l0 0, G l0 1, G l0 2, v98, G l0 4, G l0 5, G l0 6, G l0 7, G l0 8, G l0 9, G l0 10, G l0 11, G l0 12, G l0 13, G l0 14, G l0 15, G l0 16, G l0 17, G l0 18, G l0 19, G l0 20, G l0 21, v94, v96] s97)))))))) (V false 1 (g6 0) ((allOne [g6 0]) ∧ (A w0 9 1 16 (G l0 22) 1 [g6 0] s2 fun v99 s100 => V false 1 v99 (V true 5 (.agg (⟨[g87 0, g87 1, g87 2, g87 3, g87 4]⟩)) ((allOne [g87 0, g87 1, g87 2, g87 3, g87 4]) ∧ (A w0 26 5 80 (G l0 23) 1 [g87 0, g87 1, g87 2, g87 3, g87 4] s100 fun v101 s102 => V false 1 v101 (B P 3 .add (G l0 3) (.int .i64 1) fun v103 => K1 .normal [G l0 0, G l0 1, G l0 2, v103, G l0 4, G l0 5, G l0 6, G l0 7, G l0 8, G l0 9, G l0 10, G l0 11, G l0 12, G l0 13, G l0 14, G l0 15, G l0 16, G l0 17, G l0 18, G l0 19, G l0 20, G l0 21, v99, v101] s102))))))))))) (X 1 (G l0 0) (.int .i64 0) fun v104 => L w0 1 v104 s2 fun g105 => B P 9 .eql (g6 0) (g105 0) fun v106 => Q v106 (N (G l0 0) fun v107 => B P 3 .eql v107 (.int .i64 1) fun v108 => Q v108 (B P 3 .add (G l0 3) (.int .i64 1) fun v109 => K1 .normal [G l0 0, G l0 1, G l0 2, v109, G l0 4, G l0 5, G l0 6, G l0 7, G l0 8, G l0 9, G l0 10, G l0 11, G l0 12, G l0 13, G l0 14, G l0 15, G l0 16, G l0 17, G l0 18, G l0 19, G l0 20, G l0 21, G l0 22, G l0 23] s2) (X 5 (G l0 8) (G l0 3) fun v110 => L w0 5 v110 s2 fun g111 => V true 5 (.agg (⟨[g111 0, g111 1, g111 2, g111 3, g111 4]⟩)) (X 1 (G l0 0) (.int .i64 0) fun v112 => L w0 1 v112 s2 fun g113 => B P 9 .eql (g6 0) (g113 0) fun v114 => Q v114 (pSlice 1 (G l0 0) (some (.int .i64 1)) none fun v115 => AC P w0 n_spec_l2Set ([.agg (⟨[g111 0, g111 1, g111 2, g111 3, g111 4]⟩), v115, .agg (⟨[G l0 9, G l0 10, G l0 11, G l0 12, G l0 13]⟩), G l0 1]) s2 fun v116 s117 => V true 5 v116 (V false 1 (g6 0) ((allOne [g6 0]) ∧ (A w0 9 1 16 (G l0 22) 1 [g6 0] s117 fun v118 s119 => V false 1 v118 (V true 5 (.agg (⟨[C v116 0, C v116 1, C v116 2, C v116 3, C v116 4]⟩)) ((allOne [C v116 0, C v116 1, C v116 2, C v116 3, C v116 4]) ∧ (A w0 26 5 80 (G l0 23) 1 [C v116 0, C v116 1, C v116 2, C v116 3, C v116 4] s119 fun v120 s121 => V false 1 v120 (B P 3 .add (G l0 3) (.int .i64 1) fun v122 => K1 .normal [G l0 0, G l0 1, G l0 2, v122, G l0 4, G l0 5, G l0 6, G l0 7, G l0 8, G l0 9, G l0 10, G l0 11, G l0 12, G l0 13, G l0 14, G l0 15, G l0 16, G l0 17, G l0 18, G l0 19, G l0 20, G l0 21, v118, v120] s121)))))))) (V false 1 (g6 0) ((allOne [g6 0]) ∧ (A w0 9 1 16 (G l0 22) 1 [g6 0] s2 fun v123 s124 => V false 1 v123 (V true 5 (.agg (⟨[g111 0, g111 1, g111 2, g111 3, g111 4]⟩)) ((allOne [g111 0, g111 1, g111 2, g111 3, g111 4]) ∧ (A w0 26 5 80 (G l0 23) 1 [g111 0, g111 1, g111 2, g111 3, g111 4] s124 fun v125 s126 => V false 1 v125 (B P 3 .add (G l0 3) (.int .i64 1) fun v127 => K1 .normal [G l0 0, G l0 1, G l0 2, v127, G l0 4, G l0 5, G l0 6, G l0 7, G l0 8, G l0 9, G l0 10, G l0 11, G l0 12, G l0 13, G l0 14, G l0 15, G l0 16, G l0 17, G l0 18, G l0 19, G l0 20, G l0 21, v123, v125] s126)))))))))) (X 5 (G l0 8) (G l0 3) fun v128 => L w0 5 v128 s2 fun g129 => V true 5 (.agg (⟨[g129 0, g129 1, g129 2, g129 3, g129 4]⟩)) (X 1 (G l0 0) (.int .i64 0) fun v130 => L w0 1 v130 s2 fun g131 => B P 9 .eql (g6 0) (g131 0) fun v132 => Q v132 (pSlice 1 (G l0 0) (some (.int .i64 1)) none fun v133 => AC P w0 n_spec_l2Set ([.agg (⟨[g129 0, g129 1, g129 2, g129 3, g129 4]⟩), v133, .agg (⟨[G l0 9, G l0 10, G l0 11, G l0 12, G l0 13]⟩), G l0 1]) s2 fun v134 s135 => V true 5 v134 (V false 1 (g6 0) ((allOne [g6 0]) ∧ (A w0 9 1 16 (G l0 22) 1 [g6 0] s135 fun v136 s137 => V false 1 v136 (V true 5 (.agg (⟨[C v134 0, C v134 1, C v134 2, C v134 3, C v134 4]⟩)) ((allOne [C v134 0, C v134 1, C v134 2, C v134 3, C v134 4]) ∧ (A w0 26 5 80 (G l0 23) 1 [C v134 0, C v134 1, C v134 2, C v134 3, C v134 4] s137 fun v138 s139 => V false 1 v138 (B P 3 .add (G l0 3) (.int .i64 1) fun v140 => K1 .normal [G l0 0, G l0 1, G l0 2, v140, G l0 4, G l0 5, G l0 6, G l0 7, G l0 8, G l0 9, G l0 10, G l0 11, G l0 12, G l0 13, G l0 14, G l0 15, G l0 16, G l0 17, G l0 18, G l0 19, G l0 20, G l0 21, v136, v138] s139)))))))) (V false 1 (g6 0) ((allOne [g6 0]) ∧ (A w0 9 1 16 (G l0 22) 1 [g6 0] s2 fun v141 s142 => V false 1 v141 (V true 5 (.agg (⟨[g129 0, g129 1, g129 2, g129 3, g129 4]⟩)) ((allOne [g129 0, g129 1, g129 2, g129 3, g129 4]) ∧ (A w0 26 5 80 (G l0 23) 1 [g129 0, g129 1, g129 2, g129 3, g129 4] s142 fun v143 s144 => V false 1 v143 (B P 3 .add (G l0 3) (.int .i64 1) fun v145 => K1 .normal [G l0 0, G l0 1, G l0 2, v145, G l0 4, G l0 5, G l0 6, G l0 7, G l0 8, G l0 9, G l0 10, G l0 11, G l0 12, G l0 13, G l0 14, G l0 15, G l0 16, G l0 17, G l0 18, G l0 19, G l0 20, G l0 21, v141, v143] s144))))))))))) (X 1 (G l0 0) (.int .i64 0) fun v146 => L w0 1 v146 s2 fun g147 => B P 9 .eql (g6 0) (g147 0) fun v148 => Q v148 (N (G l0 0) fun v149 => B P 3 .eql v149 (.int .i64 1) fun v150 => Q v150 (B P 3 .add (G l0 3) (.int .i64 1) fun v151 => K1 .normal [G l0 0, G l0 1, G l0 2, v151, G l0 4, G l0 5, G l0 6, G l0 7, G l0 8, G l0 9, G l0 10, G l0 11, G l0 12, G l0 13, G l0 14, G l0 15, G l0 16, G l0 17, G l0 18, G l0 19, G l0 20, G l0 21, G l0 22, G l0 23] s2) (X 5 (G l0 8) (G l0 3) fun v152 => L w0 5 v152 s2 fun g153 => V true 5 (.agg (⟨[g153 0, g153 1, g153 2, g153 3, g153 4]⟩)) (X 1 (G l0 0) (.int .i64 0) fun v154 => L w0 1 v154 s2 fun g155 => B P 9 .eql (g6 0) (g155 0) fun v156 => Q v156 (pSlice 1 (G l0 0) (some (.int .i64 1)) none fun v157 => AC P w0 n_spec_l2Set ([.agg (⟨[g153 0, g153 1, g153 2, g153 3, g153 4]⟩), v157, .agg (⟨[G l0 9, G l0 10, G l0 11, G l0 12, G l0 13]⟩), G l0 1]) s2 fun v158 s159 => V true 5 v158 (V false 1 (g6 0) ((allOne [g6 0]) ∧ (A w0 9 1 16 (G l0 22) 1 [g6 0] s159 fun v160 s161 => V false 1 v160 (V true 5 (.agg (⟨[C v158 0, C v158 1, C v158 2, C v158 3, C v158 4]⟩)) ((allOne [C v158 0, C v158 1, C v158 2, C v158 3, C v158 4]) ∧ (A w0 26 5 80 (G l0 23) 1 [C v158 0, C v158 1, C v158 2, C v158 3, C v158 4] s161 fun v162 s163 => V false 1 v162 (B P 3 .add (G l0 3) (.int .i64 1) fun v164 => K1 .normal [G l0 0, G l0 1, G l0 2, v164, G l0 4, G l0 5, G l0 6, G l0 7, G l0 8, G l0 9, G l0 10, G l0 11, G l0 12, G l0 13, G l0 14, G l0 15, G l0 16, G l0 17, G l0 18, G l0 19, G l0 20, G l0 21, v160, v162] s163)))))))) (V false 1 (g6 0) ((allOne [g6 0]) ∧ (A w0 9 1 16 (G l0 22) 1 [g6 0] s2 fun v165 s166 => V false 1 v165 (V true 5 (.agg (⟨[g153 0, g153 1, g153 2, g153 3, g153 4]⟩)) ((allOne [g153 0, g153 1, g153 2, g153 3, g153 4]) ∧ (A w0 26 5 80 (G l0 23) 1 [g153 0, g153 1, g153 2, g153 3, g153 4] s166 fun v167 s168 => V false 1 v167 (B P 3 .add (G l0 3) (.int .i64 1) fun v169 => K1 .normal [G l0 0, G l0 1, G l0 2, v169, G l0 4, G l0 5, G l0 6, G l0 7, G l0 8, G l0 9, G l0 10, G l0 11, G l0 12, G l0 13, G l0 14, G l0 15, G l0 16, G l0 17, G l0 18, G l0 19, G l0 20, G l0 21, v165, v167] s168)))))))))) (X 5 (G l0 8) (G l0 3) fun v170 => L w0 5 v170 s2 fun g171 => V true 5 (.agg (⟨[g171 0, g171 1, g171 2, g171 3, g171 4]⟩)) (X 1 (G l0 0) (.int .i64 0) fun v172 => L w0 1 v172 s2 fun g173 => B P 9 .eql (g6 0) (g173 0) fun v174 => Q v174 (pSlice 1 (G l0 0) (some (.int .i64 1)) none fun v175 => AC P w0 n_spec_l2Set ([.agg (⟨[g171 0, g171 1, g171 2, g171 3, g171 4]⟩), v175, .agg (⟨[G l0 9, G l0 10, G l0 11, G l0 12, G l0 13]⟩), G l0 1]) s2 fun v176 s177 => V true 5 v176 (V false 1 (g6 0) ((allOne [g6 0]) ∧ (A w0 9 1 16 (G l0 22) 1 [g6 0] s177 fun v178 s179 => V false 1 v178 (V true 5 (.agg (⟨[C v176 0, C v176 1, C v176 2, C v176 3, C v176 4]⟩)) ((allOne [C v176 0, C v176 1, C v176 2, C v176 3, C v176 4]) ∧ (A w0 26 5 80 (G l0 23) 1 [C v176 0, C v176 1, C v176 2, C v176 3, C v176 4] s179 fun v180 s181 => V false 1 v180 (B P 3 .add (G l0 3) (.int .i64 1) fun v182 => K1 .normal [G l0 0, G l0 1, G l0 2, v182, G l0 4, G l0 5, G l0 6, G l0 7, G l0 8, G l0 9, G l0 10, G l0 11, G l0 12, G l0 13, G l0 14, G l0 15, G l0 16, G l0 17, G l0 18, G l0 19, G l0 20, G l0 21, v178, v180] s181)))))))) (V false 1 (g6 0) ((allOne [g6 0]) ∧ (A w0 9 1 16 (G l0 22) 1 [g6 0] s2 fun v183 s184 => V false 1 v183 (V true 5 (.agg (⟨[g171 0, g171 1, g171 2, g171 3, g171 4]⟩)) ((allOne [g171 0, g171 1, g171 2, g171 3, g171 4]) ∧ (A w0 26 5 80 (G l0 23) 1 [g171 0, g171 1, g171 2, g171 3, g171 4] s184 fun v185 s186 => V false 1 v185 (B P 3 .add (G l0 3) (.int .i64 1) fun v187 => K1 .normal [G l0 0, G l0 1, G l0 2, v187, G l0 4, G l0 5, G l0 6, G l0 7, G l0 8, G l0 9, G l0 10, G l0 11, G l0 12, G l0 13, G l0 14, G l0 15, G l0 16, G l0 17, G l0 18, G l0 19, G l0 20, G l0 21, v183, v185] s186))))))))))) (X 1 (G l0 0) (.int .i64 0) fun v188 => L w0 1 v188 s2 fun g189 => B P 9 .eql (g6 0) (g189 0) fun v190 => Q v190 (N (G l0 0) fun v191 => B P 3 .eql v191 (.int .i64 1) fun v192 => Q v192 (B P 3 .add (G l0 3) (.int .i64 1) fun v193 => K1 .normal [G l0 0, G l0 1, G l0 2, v193, G l0 4, G l0 5, G l0 6, G l0 7, G l0 8, G l0 9, G l0 10, G l0 11, G l0 12, G l0 13, G l0 14, G l0 15, G l0 16, G l0 17, G l0 18, G l0 19, G l0 20, G l0 21, G l0 22, G l0 23] s2) (X 5 (G l0 8) (G l0 3) fun v194 => L w0 5 v194 s2 fun g195 => V true 5 (.agg (⟨[g195 0, g195 1, g195 2, g195 3, g195 4]⟩)) (X 1 (G l0 0) (.int .i64 0) fun v196 => L w0 1 v196 s2 fun g197 => B P 9 .eql (g6 0) (g197 0) fun v198 => Q v198 (pSlice 1 (G l0 0) (some (.int .i64 1)) none fun v199 => AC P w0 n_spec_l2Set ([.agg (⟨[g195 0, g195 1, g195 2, g195 3, g195 4]⟩), v199, .agg (⟨[G l0 9, G l0 10, G l0 11, G l0 12, G l0 13]⟩), G l0 1]) s2 fun v200 s201 => V true 5 v200 (V false 1 (g6 0) ((allOne [g6 0]) ∧ (A w0 9 1 16 (G l0 22) 1 [g6 0] s201 fun v202 s203 => V false 1 v202 (V true 5 (.agg (⟨[C v200 0, C v200 1, C v200 2, C v200 3, C v200 4]⟩)) ((allOne [C v200 0, C v200 1, C v200 2, C v200 3, C v200 4]) ∧ (A w0 26 5 80 (G l0 23) 1 [C v200 0, C v200 1, C v200 2, C v200 3, C v200 4] s203 fun v204 s205 => V false 1 v204 (B P 3 .add (G l0 3) (.int .i64 1) fun v206 => K1 .normal [G l0 0, G l0 1, G l0 2, v206, G l0 4, G l0 5, G l0 6, G l0 7, G l0 8, G l0 9, G l0 10, G l0 11, G l0 12, G l0 13, G l0 14, G l0 15, G l0 16, G l0 17, G l0 18, G l0 19, G l0 20, G l0 21, v202, v204] s205)))))))) (V false 1 (g6 0) ((allOne [g6 0]) ∧ (A w0 9 1 16 (G l0 22) 1 [g6 0] s2 fun v207 s208 => V false 1 v207 (V true 5 (.agg (⟨[g195 0, g195 1, g195 2, g195 3, g195 4]⟩)) ((allOne [g195 0, g195 1, g195 2, g195 3, g195 4]) ∧ (A w0 26 5 80 (G l0 23) 1 [g195 0, g195 1, g195 2, g195 3, g195 4] s208 fun v209 s210 => V false 1 v209 (B P 3 .add (G l0 3) (.int .i64 1) fun v211 => K1 .normal [G l0 0, G l0 1, G l0 2, v211, G l0 4, G l0 5, G l0 6, G l0 7, G l0 8, G l0 9, G l0 10, G l0 11, G l0 12, G l0 13, G l0 14, G l0 15, G l0 16, G l0 17, G l0 18, G l0 19, G l0 20, G l0 21, v207, v209] s210)))))))))) (X 5 (G l0 8) (G l0 3) fun v212 => L w0 5 v212 s2 fun g213 => V true 5 (.agg (⟨[g213 0, g213 1, g213 2, g213 3, g213 4]⟩)) (X 1 (G l0 0) (.int .i64 0) fun v214 => L w0 1 v214 s2 fun g215 => B P 9 .eql (g6 0) (g215 0) fun v216 => Q v216 (pSlice 1 (G l0 0) (some (.int .i64 1)) none fun v217 => AC P w0 n_spec_l2Set ([.agg (⟨[g213 0, g213 1, g213 2, g213 3, g213 4]⟩), v217, .agg (⟨[G l0 9, G l0 10, G l0 11, G l0 12, G l0 13]⟩), G l0 1]) s2 fun v218 s219 => V true 5 v218 (V false 1 (g6 0) ((allOne [g6 0]) ∧ (A w0 9 1 16 (G l0 22) 1 [g6 0] s219 fun v220 s221 => V false 1 v220 (V true 5 (.agg (⟨[C v218 0, C v218 1, C v218 2, C v218 3, C v218 4]⟩)) ((allOne [C v218 0, C v218 1, C v218 2, C v218 3, C v218 4]) ∧ (A w0 26 5 80 (G l0 23) 1 [C v218 0, C v218 1, C v218 2, C v218 3, C v218 4] s221 fun v222 s223 => V false 1 v222 (B P 3 .add (G l0 3) (.int .i64 1) fun v224 => K1 .normal [G l0 0, G l0 1, G l0 2, v224, G l0 4, G l0 5, G l0 6, G l0 7, G l0 8, G l0 9, G l0 10, G l0 11, G l0 12, G l0 13, G l0 14, G l0 15, G l0 16, G l0 17, G l0 18, G l0 19, G l0 20, G l0 21, v220, v222] s223)))))))) (V false 1 (g6 0) ((allOne [g6 0]) ∧ (A w0 9 1 16 (G l0 22) 1 [g6 0] s2 fun v225 s226 => V false 1 v225 (V true 5 (.agg (⟨[g213 0, g213 1, g213 2, g213 3, g213 4]⟩)) ((allOne [g213 0, g213 1, g213 2, g213 3, g213 4]) ∧ (A w0 26 5 80 (G l0 23) 1 [g213 0, g213 1, g213 2, g213 3, g213 4] s226 fun v227 s228 => V false 1 v227 (B P 3 .add (G l0 3) (.int .i64 1) fun v229 => K1 .normal [G l0 0, G l0 1, G l0 2, v229, G l0 4, G l0 5, G l0 6, G l0 7, G l0 8, G l0 9, G l0 10, G l0 11, G l0 12, G l0 13, G l0 14, G l0 15, G l0 16, G l0 17, G l0 18, G l0 19, G l0 20, G l0 21, v225, v227] s228))))))))))) (K1 (.exit 0) [G l0 0, G l0 1, G l0 2, G l0 3, G l0 4, G l0 5, G l0 6, G l0 7, G l0 8, G l0 9, G l0 10, G l0 11, G l0 12, G l0 13, G l0 14, G l0 15, G l0 16, G l0 17, G l0 18, G l0 19, G l0 20, G l0 21, G l0 22, G l0 23] s2)) ([a1, a3, .bool false, .int .i64 0, C a0 0, C a0 1, C a0 2, C a0 3, C a0 4, C a2 0, C a2 1, C a2 2, C a2 3, C a2 4, .bool false, .int .i64 0, .string ({ data := #[] }), .slice none 0 0, .slice none 0 0, C a0 0, C a0 1, C a0 2, .slice none 0 0, .slice none 0 0]) σ fun x230 l231 s232 => match x230 with | .normal => N (G l231 0) (fun v233 => B P 3 .eql v233 (.int .i64 1) fun v234 => Q v234 (pUn .not (G l231 2) fun v235 => Q v235 (pUn .not (G l231 1) fun v236 => Q v236 (X 1 (G l231 0) (.int .i64 0) fun v237 => L w0 1 v237 s232 fun g238 => V false 1 (g238 0) ((allOne [g238 0]) ∧ (A w0 9 1 16 (G l231 22) 1 [g238 0] s232 fun v239 s240 => V false 1 v239 (V true 5 (.agg (⟨[G l231 9, G l231 10, G l231 11, G l231 12, G l231 13]⟩)) ((allOne [G l231 9, G l231 10, G l231 11, G l231 12, G l231 13]) ∧ (A w0 26 5 80 (G l231 23) 1 [G l231 9, G l231 10, G l231 11, G l231 12, G l231 13] s240 fun v241 s242 => V false 1 v241 (V true 5 (.agg (⟨[G l231 19, G l231 20, G l231 21, v239, v241]⟩)) (R (.agg (⟨[G l231 19, G l231 20, G l231 21, v239, v241]⟩)) s242)))))))) (V true 5 (.agg (⟨[G l231 19, G l231 20, G l231 21, G l231 22, G l231 23]⟩)) (R (.agg (⟨[G l231 19, G l231 20, G l231 21, G l231 22, G l231 23]⟩)) s232))) (V true 5 (.agg (⟨[G l231 19, G l231 20, G l231 21, G l231 22, G l231 23]⟩)) (R (.agg (⟨[G l231 19, G l231 20, G l231 21, G l231 22, G l231 23]⟩)) s232))) (V true 5 (.agg (⟨[G l231 19, G l231 20, G l231 21, G l231 22, G l231 23]⟩)) (R (.agg (⟨[G l231 19, G l231 20, G l231 21, G l231 22, G l231 23]⟩)) s232))) | .ret => R (.agg (⟨[G l231 14, G l231 15, G l231 16, G l231 17, G l231 18]⟩)) s232 | .exit i243 => (match Nat.beq i243 0 with | true => N (G l231 0) (fun v244 => B P 3 .eql v244 (.int .i64 1) fun v245 => Q v245 (pUn .not (G l231 2) fun v246 => Q v246 (pUn .not (G l231 1) fun v247 => Q v247 (X 1 (G l231 0) (.int .i64 0) fun v248 => L w0 1 v248 s232 fun g249 => V false 1 (g249 0) ((allOne [g249 0]) ∧ (A w0 9 1 16 (G l231 22) 1 [g249 0] s232 fun v250 s251 => V false 1 v250 (V true 5 (.agg (⟨[G l231 9, G l231 10, G l231 11, G l231 12, G l231 13]⟩)) ((allOne [G l231 9, G l231 10, G l231 11, G l231 12, G l231 13]) ∧ (A w0 26 5 80 (G l231 23) 1 [G l231 9, G l231 10, G l231 11, G l231 12, G l231 13] s251 fun v252 s253 => V false 1 v252 (V true 5 (.agg (⟨[G l231 19, G l231 20, G l231 21, v250, v252]⟩)) (R (.agg (⟨[G l231 19, G l231 20, G l231 21, v250, v252]⟩)) s253)))))))) (V true 5 (.agg (⟨[G l231 19, G l231 20, G l231 21, G l231 22, G l231 23]⟩)) (R (.agg (⟨[G l231 19, G l231 20, G l231 21, G l231 22, G l231 23]⟩)) s232))) (V true 5 (.agg (⟨[G l231 19, G l231 20, G l231 21, G l231 22, G l231 23]⟩)) (R (.agg (⟨[G l231 19, G l231 20, G l231 21, G l231 22, G l231 23]⟩)) s232))) (V true 5 (.agg (⟨[G l231 19, G l231 20, G l231 21, G l231 22, G l231 23]⟩)) (R (.agg (⟨[G l231 19, G l231 20, G l231 21, G l231 22, G l231 23]⟩)) s232))) | false => False)))))))
theorem vc_spec_l2Set_eq (w0 : World) (a0 a1 a2 a3 : Value) (σ : Vw) (R : Value → Vw → Prop) : vc_spec_l2Set w0 a0 a1 a2 a3 σ R = den Tryz.prog w0 kp_spec_l2Set esc_spec_l2Set (Tryz.f153.body.getD .skip) (entry Tryz.f153.ntmps [a0, a1, a2, a3]) σ (retK Tryz.prog Tryz.f153.results.toList R) := by kernel_rfl
theorem ac_spec_l2Set {w0 : World} {a0 a1 a2 a3 : Value} {σ : Vw} {R : Value → Vw → Prop} (h : vc_spec_l2Set w0 a0 a1 a2 a3 σ R) : AC Tryz.prog w0 n_spec_l2Set [a0, a1, a2, a3] σ R := by
  refine ac_rule (fn := Tryz.f153) (c := Tryz.f153.body.getD .skip) kp_spec_l2Set esc_spec_l2Set Tryz.func153 (by kernel_rfl) (by kernel_rfl) ?_
  rw [← vc_spec_l2Set_eq]
  exact h

/-- spec.l2File -/
def kp_spec_l2File : Nat → Keep
  | 14 => ⟨[], [], [], .step 0 (.step 1 (.step 2 (.step 3 (.step 5 (.step 4 (.step 6 (.step 7 (.step 8 (.step 9 (.step 10 (.done))))))))))), [(2, [1]), (4, [0, 1, 2, 3]), (6, [0, 1, 2, 3, 4, 5]), (7, [0, 1, 2, 3, 4, 5, 6]), (8, [0, 1, 2, 3, 4, 5, 6]), (9, [0, 1, 2, 3, 4, 5, 6, 7, 8]), (10, [0, 1, 2, 3, 4, 5, 6, 7, 8, 9])]⟩
  | _ => ⟨[], [], [], .done, []⟩
def esc_spec_l2File : Nat → Bool
  | _ => false
def vc_spec_l2File (w0 : World) (a0 a1 : Value) (σ : Vw) (R : Value → Vw → Prop) : Prop :=
  V true 5 a0 (V true 5 a1 (AC P w0 n_spec_l1At ([.agg (⟨[C a0 0, C a0 1, C a0 2, C a0 3, C a0 4]⟩), C a1 1]) σ fun v0 s1 => E v0 0 fun v2 => E v0 1 fun v3 => V true 5 v2 (Q v3 (Q (C v2 0) (V true 5 (.agg (⟨[C a0 0, C a0 1, C a0 2, C a0 3, C a0 4]⟩)) (R (.tuple (⟨[.agg (⟨[C a0 0, C a0 1, C a0 2, C a0 3, C a0 4]⟩), .int .i64 4]⟩)) s1)) (pUn .not v3 fun v4 => Q v4 (B P 3 .eql (C a1 0) (.int .i64 3) fun v5 => Q v5 (V true 5 (.agg (⟨[C a0 0, C a0 1, C a0 2, C a0 3, C a0 4]⟩)) (R (.tuple (⟨[.agg (⟨[C a0 0, C a0 1, C a0 2, C a0 3, C a0 4]⟩), .int .i64 3]⟩)) s1)) (B P 3 .eql (C a1 0) (.int .i64 3) fun v6 => Q v6 (pLenS (C v2 2) fun v7 => B P 3 .gtr v7 (C a1 3) fun v8 => Q v8 (pSliceStr (C v2 2) none (some (C a1 3)) fun v9 => AC P w0 n_spec_l2Write ([v9, C a1 3, .string ({ data := #[] })]) s1 fun v10 s11 => V false 1 v10 (AC P w0 n_spec_l2Set ([.agg (⟨[C a0 0, C a0 1, C a0 2, C a0 3, C a0 4]⟩), C a1 1, .agg (⟨[C v2 0, C v2 1, v10, C v2 3, C v2 4]⟩), .bool false]) s11 fun v12 s13 => AC P w0 n_spec_l2Fits ([v12, .agg (⟨[C a0 0, C a0 1, C a0 2, C a0 3, C a0 4]⟩)]) s13 fun v14 s15 => E v14 0 fun v16 => E v14 1 fun v17 => V true 5 v16 (R (.tuple (⟨[.agg (⟨[C v16 0, C v16 1, C v16 2, C v16 3, C v16 4]⟩), v17]⟩)) s15))) (AC P w0 n_spec_l2Write ([C v2 2, C a1 3, .string ({ data := #[] })]) s1 fun v18 s19 => V false 1 v18 (AC P w0 n_spec_l2Set ([.agg (⟨[C a0 0, C a0 1, C a0 2, C a0 3, C a0 4]⟩), C a1 1, .agg (⟨[C v2 0, C v2 1, v18, C v2 3, C v2 4]⟩), .bool false]) s19 fun v20 s21 => AC P w0 n_spec_l2Fits ([v20, .agg (⟨[C a0 0, C a0 1, C a0 2, C a0 3, C a0 4]⟩)]) s21 fun v22 s23 => E v22 0 fun v24 => E v22 1 fun v25 => V true 5 v24 (R (.tuple (⟨[.agg (⟨[C v24 0, C v24 1, C v24 2, C v24 3, C v24 4]⟩), v25]⟩)) s23)))) (pLenS (C a1 4) fun v26 => B P 3 .add v26 (C a1 3) fun v27 => B P 3 .gtr v27 (.int .i64 24) fun v28 => Q v28 (V true 5 (.agg (⟨[C a0 0, C a0 1, C a0 2, C a0 3, C a0 4]⟩)) (R (.tuple (⟨[.agg (⟨[C a0 0, C a0 1, C a0 2, C a0 3, C a0 4]⟩), .int .i64 6]⟩)) s1)) (AC P w0 n_spec_l2Write [C v2 2, C a1 3, C a1 4] s1 fun v29 s30 => V false 1 v29 (AC P w0 n_spec_l2Set ([.agg (⟨[C a0 0, C a0 1, C a0 2, C a0 3, C a0 4]⟩), C a1 1, .agg (⟨[C v2 0, C v2 1, v29, C v2 3, C v2 4]⟩), .bool false]) s30 fun v31 s32 => AC P w0 n_spec_l2Fits ([v31, .agg (⟨[C a0 0, C a0 1, C a0 2, C a0 3, C a0 4]⟩)]) s32 fun v33 s34 => E v33 0 fun v35 => E v33 1 fun v36 => V true 5 v35 (R (.tuple (⟨[.agg (⟨[C v35 0, C v35 1, C v35 2, C v35 3, C v35 4]⟩), v36]⟩)) s34)))))) (B P 3 .eql (C a1 0) (.int .i64 3) fun v37 => Q v37 (pLenS (C v2 2) fun v38 => B P 3 .gtr v38 (C a1 3) fun v39 => Q v39 (pSliceStr (C v2 2) none (some (C a1 3)) fun v40 => AC P w0 n_spec_l2Write ([v40, C a1 3, .string ({ data := #[] })]) s1 fun v41 s42 => V false 1 v41 (AC P w0 n_spec_l2Set ([.agg (⟨[C a0 0, C a0 1, C a0 2, C a0 3, C a0 4]⟩), C a1 1, .agg (⟨[C v2 0, C v2 1, v41, C v2 3, C v2 4]⟩), .bool false]) s42 fun v43 s44 => AC P w0 n_spec_l2Fits ([v43, .agg (⟨[C a0 0, C a0 1, C a0 2, C a0 3, C a0 4]⟩)]) s44 fun v45 s46 => E v45 0 fun v47 => E v45 1 fun v48 => V true 5 v47 (R (.tuple (⟨[.agg (⟨[C v47 0, C v47 1, C v47 2, C v47 3, C v47 4]⟩), v48]⟩)) s46))) (AC P w0 n_spec_l2Write ([C v2 2, C a1 3, .string ({ data := #[] })]) s1 fun v49 s50 => V false 1 v49 (AC P w0 n_spec_l2Set ([.agg (⟨[C a0 0, C a0 1, C a0 2, C a0 3, C a0 4]⟩), C a1 1, .agg (⟨[C v2 0, C v2 1, v49, C v2 3, C v2 4]⟩), .bool false]) s50 fun v51 s52 => AC P w0 n_spec_l2Fits ([v51, .agg (⟨[C a0 0, C a0 1, C a0 2, C a0 3, C a0 4]⟩)]) s52 fun v53 s54 => E v53 0 fun v55 => E v53 1 fun v56 => V true 5 v55 (R (.tuple (⟨[.agg (⟨[C v55 0, C v55 1, C v55 2, C v55 3, C v55 4]⟩), v56]⟩)) s54)))) (pLenS (C a1 4) fun v57 => B P 3 .add v57 (C a1 3) fun v58 => B P 3 .gtr v58 (.int .i64 24) fun v59 => Q v59 (V true 5 (.agg (⟨[C a0 0, C a0 1, C a0 2, C a0 3, C a0 4]⟩)) (R (.tuple (⟨[.agg (⟨[C a0 0, C a0 1, C a0 2, C a0 3, C a0 4]⟩), .int .i64 6]⟩)) s1)) (AC P w0 n_spec_l2Write [C v2 2, C a1 3, C a1 4] s1 fun v60 s61 => V false 1 v60 (AC P w0 n_spec_l2Set ([.agg (⟨[C a0 0, C a0 1, C a0 2, C a0 3, C a0 4]⟩), C a1 1, .agg (⟨[C v2 0, C v2 1, v60, C v2 3, C v2 4]⟩), .bool false]) s61 fun v62 s63 => AC P w0 n_spec_l2Fits ([v62, .agg (⟨[C a0 0, C a0 1, C a0 2, C a0 3, C a0 4]⟩)]) s63 fun v64 s65 => E v64 0 fun v66 => E v64 1 fun v67 => V true 5 v66 (R (.tuple (⟨[.agg (⟨[C v66 0, C v66 1, C v66 2, C v66 3, C v66 4]⟩), v67]⟩)) s65))))))) (pUn .not v3 fun v68 => Q v68 (B P 3 .eql (C a1 0) (.int .i64 3) fun v69 => Q v69 (V true 5 (.agg (⟨[C a0 0, C a0 1, C a0 2, C a0 3, C a0 4]⟩)) (R (.tuple (⟨[.agg (⟨[C a0 0, C a0 1, C a0 2, C a0 3, C a0 4]⟩), .int .i64 3]⟩)) s1)) (B P 3 .eql (C a1 0) (.int .i64 3) fun v70 => Q v70 (pLenS (C v2 2) fun v71 => B P 3 .gtr v71 (C a1 3) fun v72 => Q v72 (pSliceStr (C v2 2) none (some (C a1 3)) fun v73 => AC P w0 n_spec_l2Write ([v73, C a1 3, .string ({ data := #[] })]) s1 fun v74 s75 => V false 1 v74 (AC P w0 n_spec_l2Set ([.agg (⟨[C a0 0, C a0 1, C a0 2, C a0 3, C a0 4]⟩), C a1 1, .agg (⟨[C v2 0, C v2 1, v74, C v2 3, C v2 4]⟩), .bool false]) s75 fun v76 s77 => AC P w0 n_spec_l2Fits ([v76, .agg (⟨[C a0 0, C a0 1, C a0 2, C a0 3, C a0 4]⟩)]) s77 fun v78 s79 => E v78 0 fun v80 => E v78 1 fun v81 => V true 5 v80 (R (.tuple (⟨[.agg (⟨[C v80 0, C v80 1, C v80 2, C v80 3, C v80 4]⟩), v81]⟩)) s79))) (AC P w0 n_spec_l2Write ([C v2 2, C a1 3, .string ({ data := #[] })]) s1 fun v82 s83 => V false 1 v82 (AC P w0 n_spec_l2Set ([.agg (⟨[C a0 0, C a0 1, C a0 2, C a0 3, C a0 4]⟩), C a1 1, .agg (⟨[C v2 0, C v2 1, v82, C v2 3, C v2 4]⟩), .bool false]) s83 fun v84 s85 => AC P w0 n_spec_l2Fits ([v84, .agg (⟨[C a0 0, C a0 1, C a0 2, C a0 3, C a0 4]⟩)]) s85 fun v86 s87 => E v86 0 fun v88 => E v86 1 fun v89 => V true 5 v88 (R (.tuple (⟨[.agg (⟨[C v88 0, C v88 1, C v88 2, C v88 3, C v88 4]⟩), v89]⟩)) s87)))) (pLenS (C a1 4) fun v90 => B P 3 .add v90 (C a1 3) fun v91 => B P 3 .gtr v91 (.int .i64 24) fun v92 => Q v92 (V true 5 (.agg (⟨[C a0 0, C a0 1, C a0 2, C a0 3, C a0 4]⟩)) (R (.tuple (⟨[.agg (⟨[C a0 0, C a0 1, C a0 2, C a0 3, C a0 4]⟩), .int .i64 6]⟩)) s1)) (AC P w0 n_spec_l2Write [C v2 2, C a1 3, C a1 4] s1 fun v93 s94 => V false 1 v93 (AC P w0 n_spec_l2Set ([.agg (⟨[C a0 0, C a0 1, C a0 2, C a0 3, C a0 4]⟩), C a1 1, .agg (⟨[C v2 0, C v2 1, v93, C v2 3, C v2 4]⟩), .bool false]) s94 fun v95 s96 => AC P w0 n_spec_l2Fits ([v95, .agg (⟨[C a0 0, C a0 1, C a0 2, C a0 3, C a0 4]⟩)]) s96 fun v97 s98 => E v97 0 fun v99 => E v97 1 fun v100 => V true 5 v99 (R (.tuple (⟨[.agg (⟨[C v99 0, C v99 1, C v99 2, C v99 3, C v99 4]⟩), v100]⟩)) s98)))))) (B P 3 .eql (C a1 0) (.int .i64 3) fun v101 => Q v101 (pLenS (C v2 2) fun v102 => B P 3 .gtr v102 (C a1 3) fun v103 => Q v103 (pSliceStr (C v2 2) none (some (C a1 3)) fun v104 => AC P w0 n_spec_l2Write ([v104, C a1 3, .string ({ data := #[] })]) s1 fun v105 s106 => V false 1 v105 (AC P w0 n_spec_l2Set ([.agg (⟨[C a0 0, C a0 1, C a0 2, C a0 3, C a0 4]⟩), C a1 1, .agg (⟨[C v2 0, C v2 1, v105, C v2 3, C v2 4]⟩), .bool false]) s106 fun v107 s108 => AC P w0 n_spec_l2Fits ([v107, .agg (⟨[C a0 0, C a0 1, C a0 2, C a0 3, C a0 4]⟩)]) s108 fun v109 s110 => E v109 0 fun v111 => E v109 1 fun v112 => V true 5 v111 (R (.tuple (⟨[.agg (⟨[C v111 0, C v111 1, C v111 2, C v111 3, C v111 4]⟩), v112]⟩)) s110))) (AC P w0 n_spec_l2Write ([C v2 2, C a1 3, .string ({ data := #[] })]) s1 fun v113 s114 => V false 1 v113 (AC P w0 n_spec_l2Set ([.agg (⟨[C a0 0, C a0 1, C a0 2, C a0 3, C a0 4]⟩), C a1 1, .agg (⟨[C v2 0, C v2 1, v113, C v2 3, C v2 4]⟩), .bool false]) s114 fun v115 s116 => AC P w0 n_spec_l2Fits ([v115, .agg (⟨[C a0 0, C a0 1, C a0 2, C a0 3, C a0 4]⟩)]) s116 fun v117 s118 => E v117 0 fun v119 => E v117 1 fun v120 => V true 5 v119 (R (.tuple (⟨[.agg (⟨[C v119 0, C v119 1, C v119 2, C v119 3, C v119 4]⟩), v120]⟩)) s118)))) (pLenS (C a1 4) fun v121 => B P 3 .add v121 (C a1 3) fun v122 => B P 3 .gtr v122 (.int .i64 24) fun v123 => Q v123 (V true 5 (.agg (⟨[C a0 0, C a0 1, C a0 2, C a0 3, C a0 4]⟩)) (R (.tuple (⟨[.agg (⟨[C a0 0, C a0 1, C a0 2, C a0 3, C a0 4]⟩), .int .i64 6]⟩)) s1)) (AC P w0 n_spec_l2Write [C v2 2, C a1 3, C a1 4] s1 fun v124 s125 => V false 1 v124 (AC P w0 n_spec_l2Set ([.agg (⟨[C a0 0, C a0 1, C a0 2, C a0 3, C a0 4]⟩), C a1 1, .agg (⟨[C v2 0, C v2 1, v124, C v2 3, C v2 4]⟩), .bool false]) s125 fun v126 s127 => AC P w0 n_spec_l2Fits ([v126, .agg (⟨[C a0 0, C a0 1, C a0 2, C a0 3, C a0 4]⟩)]) s127 fun v128 s129 => E v128 0 fun v130 => E v128 1 fun v131 => V true 5 v130 (R (.tuple (⟨[.agg (⟨[C v130 0, C v130 1, C v130 2, C v130 3, C v130 4]⟩), v131]⟩)) s129)))))))))
theorem vc_spec_l2File_eq (w0 : World) (a0 a1 : Value) (σ : Vw) (R : Value → Vw → Prop) : vc_spec_l2File w0 a0 a1 σ R = den Tryz.prog w0 kp_spec_l2File esc_spec_l2File (Tryz.f154.body.getD .skip) (entry Tryz.f154.ntmps [a0, a1]) σ (retK Tryz.prog Tryz.f154.results.toList R) := by kernel_rfl
theorem ac_spec_l2File {w0 : World} {a0 a1 : Value} {σ : Vw} {R : Value → Vw → Prop} (h : vc_spec_l2File w0 a0 a1 σ R) : AC Tryz.prog w0 n_spec_l2File [a0, a1] σ R := by
  refine ac_rule (fn := Tryz.f154) (c := Tryz.f154.body.getD .skip) kp_spec_l2File esc_spec_l2File Tryz.func154 (by kernel_rfl) (by kernel_rfl) ?_
  rw [← vc_spec_l2File_eq]
  exact h

/-- spec.l2Rename -/
def kp_spec_l2Rename : Nat → Keep
  | 12 => ⟨[], [], [], .step 0 (.step 1 (.step 2 (.step 3 (.step 5 (.step 6 (.step 7 (.step 9 (.step 4 (.step 8 (.step 10 (.step 11 (.step 12 (.step 13 (.step 14 (.done))))))))))))))), [(2, [1]), (4, [0, 1, 2, 3]), (6, [5]), (8, [0, 1, 2, 3, 4, 5, 6, 7]), (10, [0, 1, 2, 3, 4, 5, 6, 7, 8, 9]), (11, [0, 1, 2, 3, 4, 5, 6, 7, 8, 9, 10]), (12, [0, 1, 2, 3, 4, 5, 6, 7, 8, 9, 10]), (13, [0, 1, 2, 3, 4, 5, 6, 7, 8, 9, 10, 11, 12]), (14, [0, 1, 2, 3, 4, 5, 6, 7, 8, 9, 10, 11, 12, 13])]⟩
  | _ => ⟨[], [], [], .done, []⟩
def esc_spec_l2Rename : Nat → Bool
  | _ => false
def vc_spec_l2Rename (w0 : World) (a0 a1 : Value) (σ : Vw) (R : Value → Vw → Prop) : Prop :=
  V true 5 a0 (V true 5 a1 (AC P w0 n_spec_l1At ([.agg (⟨[C a0 0, C a0 1, C a0 2, C a0 3, C a0 4]⟩), C a1 1]) σ fun v0 s1 => E v0 0 fun v2 => E v0 1 fun v3 => V true 5 v2 (pUn .not v3 fun v4 => Q v4 (V true 5 (.agg (⟨[C a0 0, C a0 1, C a0 2, C a0 3, C a0 4]⟩)) (R (.tuple (⟨[.agg (⟨[C a0 0, C a0 1, C a0 2, C a0 3, C a0 4]⟩), .int .i64 3]⟩)) s1)) (AC P w0 n_spec_l2Within [C a1 2, C a1 1] s1 fun v5 s6 => Q v5 (V true 5 (.agg (⟨[C a0 0, C a0 1, C a0 2, C a0 3, C a0 4]⟩)) (R (.tuple (⟨[.agg (⟨[C a0 0, C a0 1, C a0 2, C a0 3, C a0 4]⟩), .int .i64 7]⟩)) s6)) (AC P w0 n_spec_l2Parent ([.agg (⟨[C a0 0, C a0 1, C a0 2, C a0 3, C a0 4]⟩), C a1 2]) s6 fun v7 s8 => B P 3 .neq v7 (.int .i64 0) fun v9 => Q v9 (V true 5 (.agg (⟨[C a0 0, C a0 1, C a0 2, C a0 3, C a0 4]⟩)) (R (.tuple (⟨[.agg (⟨[C a0 0, C a0 1, C a0 2, C a0 3, C a0 4]⟩), v7]⟩)) s8)) (AC P w0 n_spec_l1At ([.agg (⟨[C a0 0, C a0 1, C a0 2, C a0 3, C a0 4]⟩), C a1 2]) s8 fun v10 s11 => E v10 0 fun v12 => E v10 1 fun v13 => V true 5 v12 (Q v13 (V true 5 (.agg (⟨[C a0 0, C a0 1, C a0 2, C a0 3, C a0 4]⟩)) (R (.tuple (⟨[.agg (⟨[C a0 0, C a0 1, C a0 2, C a0 3, C a0 4]⟩), .int .i64 5]⟩)) s11)) (AC P w0 n_spec_l2Set ([.agg (⟨[C a0 0, C a0 1, C a0 2, C a0 3, C a0 4]⟩), C a1 1, .agg (⟨[.bool false, .int .i64 0, .string ({ data := #[] }), .slice none 0 0, .slice none 0 0]⟩), .bool true]) s11 fun v14 s15 => AC P w0 n_spec_l2Set ([v14, C a1 2, .agg (⟨[C v2 0, C v2 1, C v2 2, C v2 3, C v2 4]⟩), .bool false]) s15 fun v16 s17 => AC P w0 n_spec_l2Fits ([v16, .agg (⟨[C a0 0, C a0 1, C a0 2, C a0 3, C a0 4]⟩)]) s17 fun v18 s19 => E v18 0 fun v20 => E v18 1 fun v21 => V true 5 v20 (R (.tuple (⟨[.agg (⟨[C v20 0, C v20 1, C v20 2, C v20 3, C v20 4]⟩), v21]⟩)) s19)))))))))
theorem vc_spec_l2Rename_eq (w0 : World) (a0 a1 : Value) (σ : Vw) (R : Value → Vw → Prop) : vc_spec_l2Rename w0 a0 a1 σ R = den Tryz.prog w0 kp_spec_l2Rename esc_spec_l2Rename (Tryz.f155.body.getD .skip) (entry Tryz.f155.ntmps [a0, a1]) σ (retK Tryz.prog Tryz.f155.results.toList R) := by kernel_rfl
theorem ac_spec_l2Rename {w0 : World} {a0 a1 : Value} {σ : Vw} {R : Value → Vw → Prop} (h : vc_spec_l2Rename w0 a0 a1 σ R) : AC Tryz.prog w0 n_spec_l2Rename [a0, a1] σ R := by
  refine ac_rule (fn := Tryz.f155) (c := Tryz.f155.body.getD .skip) kp_spec_l2Rename esc_spec_l2Rename Tryz.func155 (by kernel_rfl) (by kernel_rfl) ?_
  rw [← vc_spec_l2Rename_eq]
  exact h

/-- slices.IndexFunc[[]impl.Mark,impl.Mark] -/
def kp_slices_IndexFunc_impl_Mark_impl_Mark : Nat → Keep
  | 2 => ⟨[0, 1, 4, 7, 8], [], [], .done, []⟩
  | _ => ⟨[], [], [], .done, []⟩
def esc_slices_IndexFunc_impl_Mark_impl_Mark : Nat → Bool
  | _ => false
def vc_slices_IndexFunc_impl_Mark_impl_Mark (w0 : World) (a0 a1 : Value) (σ : Vw) (R : Value → Vw → Prop) : Prop :=
  N a0 fun v0 => pLoop (fun l1 K2 s3 => B P 3 .lss (G l1 4) (G l1 3) fun v4 => Q v4 (X 2 (G l1 0) (G l1 4) fun v5 => L w0 2 v5 s3 fun g6 => pCallV (fun n7 l8 s9 K10 => AC P w0 n7 l8 s9 K10) (G l1 1) ([.agg (⟨[g6 0, g6 1]⟩)]) s3 fun v11 s12 => Q v11 (K2 .ret [G l1 0, G l1 1, G l1 4, G l1 3, G l1 4] s12) (B P 3 .add (G l1 4) (.int .i64 1) fun v13 => K2 .normal [G l1 0, G l1 1, G l1 2, G l1 3, v13] s12)) (K2 (.exit 0) [G l1 0, G l1 1, G l1 2, G l1 3, G l1 4] s3)) [a0, a1, .int .i64 0, v0, .int .i64 0] σ fun x14 l15 s16 => match x14 with | .normal => R (.int .i64 (-1)) s16 | .ret => R (G l15 2) s16 | .exit i17 => (match Nat.beq i17 0 with | true => R (.int .i64 (-1)) s16 | false => False)
theorem vc_slices_IndexFunc_impl_Mark_impl_Mark_eq (w0 : World) (a0 a1 : Value) (σ : Vw) (R : Value → Vw → Prop) : vc_slices_IndexFunc_impl_Mark_impl_Mark w0 a0 a1 σ R = den Tryz.prog w0 kp_slices_IndexFunc_impl_Mark_impl_Mark esc_slices_IndexFunc_impl_Mark_impl_Mark (Tryz.f156.body.getD .skip) (entry Tryz.f156.ntmps [a0, a1]) σ (retK Tryz.prog Tryz.f156.results.toList R) := by kernel_rfl
theorem ac_slices_IndexFunc_impl_Mark_impl_Mark {w0 : World} {a0 a1 : Value} {σ : Vw} {R : Value → Vw → Prop} (h : vc_slices_IndexFunc_impl_Mark_impl_Mark w0 a0 a1 σ R) : AC Tryz.prog w0 n_slices_IndexFunc_impl_Mark_impl_Mark [a0, a1] σ R := by
  refine ac_rule (fn := Tryz.f156) (c := Tryz.f156.body.getD .skip) kp_slices_IndexFunc_impl_Mark_impl_Mark esc_slices_IndexFunc_impl_Mark_impl_Mark Tryz.func156 (by kernel_rfl) (by kernel_rfl) ?_
  rw [← vc_slices_IndexFunc_impl_Mark_impl_Mark_eq]
  exact h

/-- slices.insertionSortCmpFunc[impl.Mark] -/
def kp_slices_insertionSortCmpFunc_impl_Mark : Nat → Keep
  | 1 => ⟨[0, 1, 2, 3, 8], [], [], .done, []⟩
  | 4 => ⟨[0, 1, 2, 3, 8, 9], [], [], .step 0 (.step 1 (.step 2 (.step 3 (.step 4 (.step 5 (.step 6 (.step 7 (.step 8 (.step 9 (.step 10 (.step 11 (.step 12 (.step 13 (.step 14 (.step 15 (.step 16 (.done))))))))))))))))), [(2, [0, 1]), (3, [0, 1, 2]), (4, [0, 1, 2, 3]), (5, [0, 1, 2, 3]), (6, [0, 1, 2, 3]), (7, [0, 1, 2, 3, 5, 6]), (8, [0, 1, 2, 3, 5, 6, 7]), (9, [0, 1, 2, 3]), (10, [0, 1, 2, 3]), (11, [0, 1, 2, 3, 10]), (12, [0, 1, 2, 3, 9, 10, 11]), (13, [0, 1, 2, 3, 9, 10, 11, 12]), (14, [0, 1, 2, 3, 4, 5, 6, 7, 8, 9, 10, 11, 12, 13]), (15, [0, 1, 2, 3, 4, 5, 6, 7, 8, 9, 10, 11, 12, 13, 14]), (16, [0, 1, 2, 3, 4, 5, 6, 7, 8, 9, 10, 11, 12, 13, 14, 15])]⟩
  | 6 => ⟨[], [], [], .step 0 (.step 1 (.step 2 (.step 3 (.step 4 (.step 5 (.step 6 (.step 7 (.step 8 (.step 9 (.step 10 (.step 11 (.step 12 (.step 13 (.step 14 (.step 15 (.step 16 (.step 17 (.done)))))))))))))))))), [(4, [3]), (7, [6]), (8, [5, 6, 7]), (9, [5, 6, 7, 8]), (12, [10, 11]), (13, [10, 11, 12]), (14, [0, 1, 5, 6, 7, 8, 9, 10, 11, 12, 13]), (15, [0, 1, 5, 6, 7, 8, 9, 10, 11, 12, 13, 14]), (16, [0, 1, 2, 3, 4, 5, 6, 7, 8, 9, 10, 11, 12, 13, 14, 15]), (17, [0, 1, 2, 3, 4, 5, 6, 7, 8, 9, 10, 11, 12, 13, 14, 15, 16])]⟩
  | _ => ⟨[], [], [], .done, []⟩
def esc_slices_insertionSortCmpFunc_impl_Mark : Nat → Bool
  | _ => false
def vc_slices_insertionSortCmpFunc_impl_Mark (w0 : World) (a0 a1 a2 a3 : Value) (σ : Vw) (R : Value → Vw → Prop) : Prop :=
  B P 3 .add a1 (.int .i64 1) fun v0 => pLoop (fun l1 K2 s3 => B P 3 .lss (G l1 4) (G l1 2) fun v4 => Q v4 (pLoop (fun l5 K6 s7 => B P 3 .gtr (G l5 5) (G l5 1) fun v8 => Q v8 (X 2 (G l5 0) (G l5 5) fun v9 => L w0 2 v9 s7 fun g10 => B P 3 .sub (G l5 5) (.int .i64 1) fun v11 => X 2 (G l5 0) v11 fun v12 => L w0 2 v12 s7 fun g13 => pCallV (fun n14 l15 s16 K17 => AC P w0 n14 l15 s16 K17) (G l5 3) ([.agg (⟨[g10 0, g10 1]⟩), .agg (⟨[g13 0, g13 1]⟩)]) s7 fun v18 s19 => B P 3 .lss v18 (.int .i64 0) fun v20 => Q v20 (B P 3 .sub (G l5 5) (.int .i64 1) fun v21 => B P 3 .sub (G l5 5) (.int .i64 1) fun v22 => X 2 (G l5 0) v22 fun v23 => L w0 2 v23 s19 fun g24 => X 2 (G l5 0) (G l5 5) fun v25 => L w0 2 v25 s19 fun g26 => X 2 (G l5 0) (G l5 5) fun v27 => V true 2 (.agg (⟨[g24 0, g24 1]⟩)) (pStore v27 [g24 0, g24 1] s19 fun s28 => X 2 (G l5 0) v21 fun v29 => V true 2 (.agg (⟨[g26 0, g26 1]⟩)) (pStore v29 [g26 0, g26 1] s28 fun s30 => B P 3 .sub (G l5 5) (.int .i64 1) fun v31 => K6 .normal [G l5 0, G l5 1, G l5 2, G l5 3, G l5 4, v31] s30))) (K6 (.exit 2) [G l5 0, G l5 1, G l5 2, G l5 3, G l5 4, G l5 5] s19)) (K6 (.exit 2) [G l5 0, G l5 1, G l5 2, G l5 3, G l5 4, G l5 5] s7)) [G l1 0, G l1 1, G l1 2, G l1 3, G l1 4, G l1 4] s3 fun x32 l33 s34 => match x32 with | .normal => B P 3 .add (G l33 4) (.int .i64 1) (fun v35 => K2 .normal [G l33 0, G l33 1, G l33 2, G l33 3, v35] s34) | .ret => K2 .ret [G l33 0, G l33 1, G l33 2, G l33 3, G l33 4] s34 | .exit i36 => (match Nat.beq i36 2 with | true => B P 3 .add (G l33 4) (.int .i64 1) (fun v37 => K2 .normal [G l33 0, G l33 1, G l33 2, G l33 3, v37] s34) | false => (match Nat.beq i36 1 with | true => B P 3 .add (G l33 4) (.int .i64 1) (fun v38 => K2 .normal [G l33 0, G l33 1, G l33 2, G l33 3, v38] s34) | false => K2 (.exit i36) [G l33 0, G l33 1, G l33 2, G l33 3, G l33 4] s34))) (K2 (.exit 0) [G l1 0, G l1 1, G l1 2, G l1 3, G l1 4] s3)) [a0, a1, a2, a3, v0] σ fun x39 l40 s41 => match x39 with | .normal => R (.tuple ⟨[]⟩) s41 | .ret => R (.tuple ⟨[]⟩) s41 | .exit i42 => (match Nat.beq i42 0 with | true => R (.tuple ⟨[]⟩) s41 | false => False)
theorem vc_slices_insertionSortCmpFunc_impl_Mark_eq (w0 : World) (a0 a1 a2 a3 : Value) (σ : Vw) (R : Value → Vw → Prop) : vc_slices_insertionSortCmpFunc_impl_Mark w0 a0 a1 a2 a3 σ R = den Tryz.prog w0 kp_slices_insertionSortCmpFunc_impl_Mark esc_slices_insertionSortCmpFunc_impl_Mark (Tryz.f158.body.getD .skip) (entry Tryz.f158.ntmps [a0, a1, a2, a3]) σ (retK Tryz.prog Tryz.f158.results.toList R) := by kernel_rfl
theorem ac_slices_insertionSortCmpFunc_impl_Mark {w0 : World} {a0 a1 a2 a3 : Value} {σ : Vw} {R : Value → Vw → Prop} (h : vc_slices_insertionSortCmpFunc_impl_Mark w0 a0 a1 a2 a3 σ R) : AC Tryz.prog w0 n_slices_insertionSortCmpFunc_impl_Mark [a0, a1, a2, a3] σ R := by
  refine ac_rule (fn := Tryz.f158) (c := Tryz.f158.body.getD .skip) kp_slices_insertionSortCmpFunc_impl_Mark esc_slices_insertionSortCmpFunc_impl_Mark Tryz.func158 (by kernel_rfl) (by kernel_rfl) ?_
  rw [← vc_slices_insertionSortCmpFunc_impl_Mark_eq]
  exact h

end Go.Proofs.YtkbhjejalkbogaaGreat

/- What each function owes, reckoned out, part 6. MADE BY PROGRAM (emit.py). -/
set_option linter.unusedVariables false
namespace Go.Proofs.YtkbhjejalkbogaaGreat
open Go.Av renaming vget → G, cellOf → C, pVal → V, pBin → B, pIndexAddr → X, pLoad → L, pField → F, pIf → Q, pExtract → E, pAppend → A, pLen → N, pNew → W
open Go.Proofs.Tryz renaming prog → P
open Go Go.Av

def vc_slices_breakPatternsCmpFunc_impl_Mark (w0 : World) (a0 a1 a2 a3 : Value) (σ : Vw) (R : Value → Vw → Prop) : Prop :=
  B P 3 .sub a2 a1 fun v0 => B P 3 .geq v0 (.int .i64 8) fun v1 => Q v1 (pConvInt .u64 v0 fun v2 => W w0 180 [.int .u64 0] σ fun n3 s4 => V false 1 v2 (pStore (.pointer (some (Addr.mk n3 0 none))) [v2] s4 fun s5 => AC P w0 n_slices_nextPowerOfTwo [v0] s5 fun v6 s7 => B P 3 .quo v0 (.int .i64 4) fun v8 => B P 3 .mul v8 (.int .i64 2) fun v9 => B P 3 .add a1 v9 fun v10 => B P 3 .sub v10 (.int .i64 1) fun v11 => pLoop (fun l12 K13 s14 => B P 3 .quo (G l12 2) (.int .i64 4) fun v15 => B P 3 .mul v15 (.int .i64 2) fun v16 => B P 3 .add (G l12 1) v16 fun v17 => B P 3 .add v17 (.int .i64 1) fun v18 => B P 3 .leq (G l12 5) v18 fun v19 => Q v19 (AC P w0 n_p_slices_xorshift_Next [G l12 3] s14 fun v20 s21 => B P 155 .sub (G l12 4) (.int .u64 1) fun v22 => B P 155 .and v20 v22 fun v23 => pConvInt .i64 v23 fun v24 => B P 3 .geq v24 (G l12 2) fun v25 => Q v25 (B P 3 .sub v24 (G l12 2) fun v26 => B P 3 .add (G l12 1) v26 fun v27 => B P 3 .add (G l12 1) v26 fun v28 => X 2 (G l12 0) v28 fun v29 => L w0 2 v29 s21 fun g30 => X 2 (G l12 0) (G l12 5) fun v31 => L w0 2 v31 s21 fun g32 => X 2 (G l12 0) (G l12 5) fun v33 => V true 2 (.agg (⟨[g30 0, g30 1]⟩)) (pStore v33 [g30 0, g30 1] s21 fun s34 => X 2 (G l12 0) v27 fun v35 => V true 2 (.agg (⟨[g32 0, g32 1]⟩)) (pStore v35 [g32 0, g32 1] s34 fun s36 => B P 3 .add (G l12 5) (.int .i64 1) fun v37 => K13 .normal [G l12 0, G l12 1, G l12 2, G l12 3, G l12 4, v37] s36))) (B P 3 .add (G l12 1) v24 fun v38 => B P 3 .add (G l12 1) v24 fun v39 => X 2 (G l12 0) v39 fun v40 => L w0 2 v40 s21 fun g41 => X 2 (G l12 0) (G l12 5) fun v42 => L w0 2 v42 s21 fun g43 => X 2 (G l12 0) (G l12 5) fun v44 => V true 2 (.agg (⟨[g41 0, g41 1]⟩)) (pStore v44 [g41 0, g41 1] s21 fun s45 => X 2 (G l12 0) v38 fun v46 => V true 2 (.agg (⟨[g43 0, g43 1]⟩)) (pStore v46 [g43 0, g43 1] s45 fun s47 => B P 3 .add (G l12 5) (.int .i64 1) fun v48 => K13 .normal [G l12 0, G l12 1, G l12 2, G l12 3, G l12 4, v48] s47)))) (K13 (.exit 0) [G l12 0, G l12 1, G l12 2, G l12 3, G l12 4, G l12 5] s14)) [a0, a1, v0, .pointer (some (Addr.mk n3 0 none)), v6, v11] s7 fun x49 l50 s51 => match x49 with | .normal => R (.tuple ⟨[]⟩) s51 | .ret => R (.tuple ⟨[]⟩) s51 | .exit i52 => (match Nat.beq i52 0 with | true => R (.tuple ⟨[]⟩) s51 | false => False))) (R (.tuple ⟨[]⟩) σ)
/-- slices.choosePivotCmpFunc[impl.Mark] -/
def kp_slices_choosePivotCmpFunc_impl_Mark : Nat → Keep
  | _ => ⟨[], [], [], .done, []⟩
/-- spec.l2Write -/
def kp_spec_l2Write : Nat → Keep
  | 2 => ⟨[1, 2, 7], [], [], .done, []⟩
  | 5 => ⟨[1, 2, 7, 8], [], [], .done, []⟩
  | _ => ⟨[], [], [], .done, []⟩
def esc_spec_l2Write : Nat → Bool
  | _ => false
def vc_spec_l2Write (w0 : World) (a0 a1 a2 : Value) (σ : Vw) (R : Value → Vw → Prop) : Prop :=
  pBytes w0 5 a0 σ fun v0 s1 => pLoop (fun l2 K3 s4 => N (G l2 2) fun v5 => pLenS (G l2 1) fun v6 => B P 3 .add (G l2 0) v6 fun v7 => B P 3 .lss v5 v7 fun v8 => Q v8 (V false 1 (.int .u8 0) ((allOne [.int .u8 0]) ∧ (A w0 5 1 1 (G l2 2) 1 [.int .u8 0] s4 fun v9 s10 => K3 .normal [G l2 0, G l2 1, v9] s10))) (K3 (.exit 0) [G l2 0, G l2 1, G l2 2] s4)) [a1, a2, v0] s1 fun x11 l12 s13 => match x11 with | .normal => pLoop (fun l14 K15 s16 => pLenS (G l14 1) fun v17 => B P 3 .lss (G l14 3) v17 fun v18 => Q v18 (B P 3 .add (G l14 0) (G l14 3) fun v19 => pIndexStr (G l14 1) (G l14 3) fun v20 => X 1 (G l14 2) v19 fun v21 => V false 1 v20 (pStore v21 [v20] s16 fun s22 => B P 3 .add (G l14 3) (.int .i64 1) fun v23 => K15 .normal [G l14 0, G l14 1, G l14 2, v23] s22)) (K15 (.exit 2) [G l14 0, G l14 1, G l14 2, G l14 3] s16)) [G l12 0, G l12 1, G l12 2, .int .i64 0] s13 (fun x24 l25 s26 => match x24 with | .normal => pStr w0 (G l25 2) s26 (fun v27 => R v27 s26) | .ret => False | .exit i28 => (match Nat.beq i28 2 with | true => pStr w0 (G l25 2) s26 (fun v29 => R v29 s26) | false => False)) | .ret => False | .exit i30 => (match Nat.beq i30 0 with | true => pLoop (fun l31 K32 s33 => pLenS (G l31 1) fun v34 => B P 3 .lss (G l31 3) v34 fun v35 => Q v35 (B P 3 .add (G l31 0) (G l31 3) fun v36 => pIndexStr (G l31 1) (G l31 3) fun v37 => X 1 (G l31 2) v36 fun v38 => V false 1 v37 (pStore v38 [v37] s33 fun s39 => B P 3 .add (G l31 3) (.int .i64 1) fun v40 => K32 .normal [G l31 0, G l31 1, G l31 2, v40] s39)) (K32 (.exit 2) [G l31 0, G l31 1, G l31 2, G l31 3] s33)) [G l12 0, G l12 1, G l12 2, .int .i64 0] s13 (fun x41 l42 s43 => match x41 with | .normal => pStr w0 (G l42 2) s43 (fun v44 => R v44 s43) | .ret => False | .exit i45 => (match Nat.beq i45 2 with | true => pStr w0 (G l42 2) s43 (fun v46 => R v46 s43) | false => False)) | false => False)
theorem vc_spec_l2Write_eq (w0 : World) (a0 a1 a2 : Value) (σ : Vw) (R : Value → Vw → Prop) : vc_spec_l2Write w0 a0 a1 a2 σ R = den Tryz.prog w0 kp_spec_l2Write esc_spec_l2Write (Tryz.f168.body.getD .skip) (entry Tryz.f168.ntmps [a0, a1, a2]) σ (retK Tryz.prog Tryz.f168.results.toList R) := by kernel_rfl
theorem ac_spec_l2Write {w0 : World} {a0 a1 a2 : Value} {σ : Vw} {R : Value → Vw → Prop} (h : vc_spec_l2Write w0 a0 a1 a2 σ R) : AC Tryz.prog w0 n_spec_l2Write [a0, a1, a2] σ R := by
  refine ac_rule (fn := Tryz.f168) (c := Tryz.f168.body.getD .skip) kp_spec_l2Write esc_spec_l2Write Tryz.func168 (by kernel_rfl) (by kernel_rfl) ?_
  rw [← vc_spec_l2Write_eq]
  exact h

end Go.Proofs.YtkbhjejalkbogaaGreat

/- What each function owes: all parts. MADE BY PROGRAM (emit.py). -/


/- The lists of texts: their size, their copy, their comparison. -/
set_option linter.unusedVariables false
set_option linter.unusedSimpArgs false
namespace Go.Proofs.YtkbhjejalkbogaaGreat
open Go Go.Av

section
variable {w0 : World} {σ : Vw}

def sumS : List ByteArray → Nat
  | [] => 0
  | s :: r => s.size + sumS r
/-- What is left of n. -/
def left (n : Int) (t : Nat) : Int := if n - t < 0 then -1 else n - t

end
end Go.Proofs.YtkbhjejalkbogaaGreat

/- The lists of texts: their copy, their comparison. -/
set_option linter.unusedVariables false
set_option linter.unusedSimpArgs false
namespace Go.Proofs.YtkbhjejalkbogaaGreat
open Go Go.Av

section
variable {w0 : World} {σ : Vw}


end
end Go.Proofs.YtkbhjejalkbogaaGreat

/- The lists of texts in rows of their own; marks (a path and a bool) and their lists: size, copy, comparison. -/
set_option linter.unusedVariables false
set_option linter.unusedSimpArgs false
namespace Go.Proofs.YtkbhjejalkbogaaGreat
open Go Go.Av

/-- A text needs no row. -/
def OStr (σ : Vw) (F : List Nat) (es : List Value) (s : ByteArray) : Prop := F = [] ∧ es = [.string s] ∧ s.size ≤ 9223372036854775807

section
variable {w0 : World} {σ : Vw}

theorem ok_str (w0 : World) : OOk w0 1 RS OStr := by
  refine ⟨?_, ?_, ?_, ?_, ?_, ?_⟩
  · rintro σ F es x ⟨_, h1, h2⟩; exact ⟨h1, h2⟩
  · rintro σ σ' F es x h _; exact h
  · rintro σ F es x ⟨rfl, _, _⟩ b hb; cases hb
  · rintro σ F es x ⟨rfl, _, _⟩; exact List.nodup_nil
  · rintro σ F es x ⟨_, rfl, _⟩; rfl
  · rintro σ F es x ⟨_, rfl, _⟩ c hc; rw [List.mem_singleton.1 hc]; rfl

abbrev OStrs (w0 : World) := OSl w0 1 OStr
/-- A mark: a path, and a bool. -/
abbrev Mk := List ByteArray × Bool
def RMk (rd : Addr → Option Value) (es : List Value) (m : Mk) : Prop := ∃ v, es = [v, .bool m.2] ∧ RSl 1 RS rd v m.1
def OMk (w0 : World) (σ : Vw) (F : List Nat) (es : List Value) (m : Mk) : Prop := ∃ v, es = [v, .bool m.2] ∧ OStrs w0 σ F v m.1
theorem OSl.one' {α : Type} {n : Nat} {O : Vw → List Nat → List Value → α → Prop} {F : List Nat} {v : Value} {xs : List α} (h : OSl w0 n O σ F v xs) : v.oneCell' = true := by
  obtain ⟨_, _, ⟨rfl, _⟩ | ⟨_, _, _, _, _, _, _, _, rfl, _⟩⟩ := h <;> rfl

theorem ok_mk (w0 : World) : OOk w0 2 RMk (OMk w0) := by
  refine ⟨?_, ?_, ?_, ?_, ?_, ?_⟩
  · rintro σ F es x ⟨v, h1, h2⟩; exact ⟨v, h1, h2.rel (ok_str w0)⟩
  · rintro σ σ' F es x ⟨v, h1, h2⟩ hF; exact ⟨v, h1, h2.frame (ok_str w0) hF⟩
  · rintro σ F es x ⟨v, h1, h2⟩; exact h2.dom (ok_str w0)
  · rintro σ F es x ⟨v, h1, h2⟩; exact h2.2.1
  · rintro σ F es x ⟨v, rfl, h2⟩; rfl
  · rintro σ F es x ⟨v, rfl, h2⟩ c hc
    simp at hc
    rcases hc with rfl | rfl
    · exact OSl.one' h2
    · rfl
theorem mono_mk {rd rd' : Addr → Option Value} {es : List Value} {x : Mk} (hl : Le rd rd') (h : RMk rd es x) : RMk rd' es x := by
  obtain ⟨v, h1, h2⟩ := h; exact ⟨v, h1, h2.mono hl fun _ _ h => h⟩

theorem sumS_eq (xs : List ByteArray) : sumS xs = sumBy ByteArray.size xs := by
  induction xs with
  | nil => rfl
  | cons a r ih => simp [sumS, sumBy, ih]

end
end Go.Proofs.YtkbhjejalkbogaaGreat

/- Names: their letters and their length. -/
set_option linter.unusedVariables false
set_option linter.unusedSimpArgs false
namespace Go.Proofs.YtkbhjejalkbogaaGreat
open Go Go.Av

theorem pIndexStr_s {s : ByteArray} {j : Nat} {K : Value → Prop} (h : j < s.size) (hK : K (.int .u8 ((s[j]'h).toNat : Int))) : pIndexStr (.string s) (.int .i64 j) K :=
  ⟨s, .i64, j, rfl, rfl, by omega, h, hK⟩

def okB (n : Nat) : Prop := (97 ≤ n ∧ n ≤ 122) ∨ (48 ≤ n ∧ n ≤ 57)
/-- Within two bounds. -/
def inB (n lo hi : Int) : Bool := decide (lo ≤ n ∧ n ≤ hi)
def lettersOk (s : ByteArray) : Prop := ∀ (i : Nat) (h : i < s.size), okB (s[i]'h).toNat
open Classical in
noncomputable def nameOk (s : ByteArray) : Bool := decide (lettersOk s) && inB s.size 1 5

section
variable {w0 : World} {σ : Vw}

theorem spec_In {n lo hi : Int} {R : Value → Vw → Prop} (hR : R (.bool (inB n lo hi)) σ) : AC Tryz.prog w0 n_spec_l1In [.int .i64 n, .int .i64 lo, .int .i64 hi] σ R := by
  refine ac_spec_l1In ?_
  unfold vc_spec_l1In
  rw [pBin_ge, pIf_d]
  refine ⟨fun h => ?_, fun h => ?_⟩
  · rw [pBin_le]
    have : inB n lo hi = decide (n ≤ hi) := by simp [inB, h]
    rw [this] at hR; exact hR
  · have : inB n lo hi = false := by simp [inB, h]
    rw [this] at hR; exact hR
theorem impl_within {n lo hi : Int} {R : Value → Vw → Prop} (hR : R (.bool (inB n lo hi)) σ) : AC Tryz.prog w0 n_impl_within [.int .i64 n, .int .i64 lo, .int .i64 hi] σ R := by
  refine ac_impl_within ?_
  unfold vc_impl_within
  rw [pBin_ge, pIf_d]
  refine ⟨fun h => ?_, fun h => ?_⟩
  · rw [pBin_le]
    have : inB n lo hi = decide (n ≤ hi) := by simp [inB, h]
    rw [this] at hR; exact hR
  · have : inB n lo hi = false := by simp [inB, h]
    rw [this] at hR; exact hR

theorem nameOk_bad {s : ByteArray} {j : Nat} (h : j < s.size) (hb : ¬ okB (s[j]'h).toNat) : nameOk s = false := by
  have : ¬ lettersOk s := fun h' => hb (h' j h)
  simp [nameOk, this]
theorem nameOk_good {s : ByteArray} (h : lettersOk s) : nameOk s = inB s.size 1 5 := by simp [nameOk, h]

theorem spec_nameOk {s : ByteArray} (hs : s.size ≤ 9223372036854775807) {R : Value → Vw → Prop} (hR : R (.bool (nameOk s)) σ) : AC Tryz.prog w0 n_spec_l1NameOk [.string s] σ R := by
  refine ac_spec_l1NameOk ?_
  unfold vc_spec_l1NameOk
  refine loop_rule (m := s.size) (fun m l t => ∃ j, t = σ ∧ m + j = s.size ∧ (∀ (i : Nat) (h : i < s.size), i < j → okB (s[i]'h).toNat) ∧ l = [.string s, .bool false, .int .i64 (j : Nat)]) ?_ ⟨0, rfl, by omega, fun i h h' => by omega, rfl⟩
  rintro m l t L ⟨j, rfl, hm, ht, rfl⟩ hL
  simp only [vget, List.getD_cons_zero, List.getD_cons_succ]
  rw [pLenS_s, pBin_lt, pIf_d]
  refine ⟨fun hj => ?_, fun hj => ?_⟩
  · have hj' : j < s.size := by omega
    have bad : ¬ okB (s[j]'hj').toNat → R (.bool false) t := fun h => by rw [nameOk_bad hj' h] at hR; exact hR
    have good : okB (s[j]'hj').toNat → L [.string s, .bool false, .int .i64 ((j + 1 : Nat) : Int)] t := fun h => hL _ _ (m - 1) (by omega) ⟨j + 1, rfl, by omega, fun i hi hij => by
      by_cases e : i = j
      · subst e; exact h
      · exact ht i hi (by omega), rfl⟩
    have add : ∀ K : Value → Prop, pBin Tryz.prog 3 .add (.int .i64 j) (.int .i64 1) K ↔ K (.int .i64 ((j + 1 : Nat) : Int)) := fun K => pBin_add (by omega)
    have idx : ∀ K : Value → Prop, K (.int .u8 ((s[j]'hj').toNat : Int)) → pIndexStr (.string s) (.int .i64 j) K := fun K hK => pIndexStr_s hj' hK
    simp only [add, pUn_not, pIf_b, Bool.not_true, Bool.not_false, forall_const, Bool.false_eq_true, false_imp_iff, true_imp_iff, true_and, and_true, reduceCtorEq]
    refine idx _ ?_
    rw [pBin_ge, pIf_d]
    refine ⟨fun h1 => idx _ ?_, fun h1 => idx _ ?_⟩
    · rw [pBin_le, pIf_d]
      refine ⟨fun h2 => good (.inl ⟨by omega, by omega⟩), fun h2 => idx _ ?_⟩
      rw [pBin_ge, pIf_d]
      refine ⟨fun h3 => idx _ ?_, fun h3 => bad fun h => by unfold okB at h; omega⟩
      rw [pBin_le, pUn_not, pIf_b]
      refine ⟨fun h4 => bad fun h => ?_, fun h4 => good ?_⟩
      · unfold okB at h; simp at h4; omega
      · simp at h4; exact .inr ⟨by omega, by omega⟩
    · rw [pBin_ge, pIf_d]
      refine ⟨fun h3 => idx _ ?_, fun h3 => bad fun h => by unfold okB at h; omega⟩
      rw [pBin_le, pUn_not, pIf_b]
      refine ⟨fun h4 => bad fun h => ?_, fun h4 => good ?_⟩
      · unfold okB at h; simp at h4; omega
      · simp at h4; exact .inr ⟨by omega, by omega⟩
  · have hj' : j = s.size := by omega
    subst hj'
    show pLenS (.string s) _
    rw [pLenS_s]
    refine spec_In ?_
    rw [nameOk_good fun i h => ht i h h] at hR
    exact hR

theorem impl_nameOk {s : ByteArray} (hs : s.size ≤ 9223372036854775807) {R : Value → Vw → Prop} (hR : R (.bool (nameOk s)) σ) : AC Tryz.prog w0 n_impl_nameOk [.string s] σ R := by
  refine ac_impl_nameOk ?_
  unfold vc_impl_nameOk
  rw [pLenS_s]
  refine loop_rule (m := s.size) (fun m l t => ∃ j, t = σ ∧ m + j = s.size ∧ (∀ (i : Nat) (h : i < s.size), i < j → okB (s[i]'h).toNat) ∧ l = [.string s, .bool false, .int .i64 s.size, .int .i64 (j : Nat)]) ?_ ⟨0, rfl, by omega, fun i h h' => by omega, rfl⟩
  rintro m l t L ⟨j, rfl, hm, ht, rfl⟩ hL
  simp only [vget, List.getD_cons_zero, List.getD_cons_succ]
  rw [pBin_lt, pIf_d]
  refine ⟨fun hj => ?_, fun hj => ?_⟩
  · have hj' : j < s.size := by omega
    have bad : ¬ okB (s[j]'hj').toNat → R (.bool false) t := fun h => by rw [nameOk_bad hj' h] at hR; exact hR
    have good : okB (s[j]'hj').toNat → L [.string s, .bool false, .int .i64 s.size, .int .i64 ((j + 1 : Nat) : Int)] t := fun h => hL _ _ (m - 1) (by omega) ⟨j + 1, rfl, by omega, fun i hi hij => by
      by_cases e : i = j
      · subst e; exact h
      · exact ht i hi (by omega), rfl⟩
    have add : ∀ K : Value → Prop, pBin Tryz.prog 3 .add (.int .i64 j) (.int .i64 1) K ↔ K (.int .i64 ((j + 1 : Nat) : Int)) := fun K => pBin_add (by omega)
    have idx : ∀ K : Value → Prop, K (.int .u8 ((s[j]'hj').toNat : Int)) → pIndexStr (.string s) (.int .i64 j) K := fun K hK => pIndexStr_s hj' hK
    simp only [add]
    refine idx _ ?_
    rw [pBin_lt, pIf_d]
    refine ⟨fun h1 => idx _ ?_, fun h1 => idx _ ?_⟩
    · rw [pBin_lt, pIf_d]
      refine ⟨fun h2 => bad fun h => by unfold okB at h; omega, fun h2 => idx _ ?_⟩
      rw [pBin_gt, pIf_d]
      exact ⟨fun h3 => bad fun h => by unfold okB at h; omega, fun h3 => good (.inr ⟨by omega, by omega⟩)⟩
    · rw [pBin_gt, pIf_d]
      refine ⟨fun h2 => idx _ ?_, fun h2 => good (.inl ⟨by omega, by omega⟩)⟩
      rw [pBin_lt, pIf_d]
      refine ⟨fun h2 => bad fun h => by unfold okB at h; omega, fun h2 => idx _ ?_⟩
      rw [pBin_gt, pIf_d]
      exact ⟨fun h3 => bad fun h => by unfold okB at h; omega, fun h3 => good (.inr ⟨by omega, by omega⟩)⟩
  · have hj' : j = s.size := by omega
    subst hj'
    show pLenS (.string s) _
    rw [pLenS_s]
    refine impl_within ?_
    rw [nameOk_good fun i h => ht i h h] at hR
    exact hR
end
end Go.Proofs.YtkbhjejalkbogaaGreat

/- Paths: their names, their order, what lies within what. -/
set_option linter.unusedVariables false
set_option linter.unusedSimpArgs false
namespace Go.Proofs.YtkbhjejalkbogaaGreat
open Go Go.Av

def strLt (a b : ByteArray) : Bool := Op.bytesLess a.toList b.toList
theorem bl_irrefl : ∀ (a : List UInt8), Op.bytesLess a a = false
  | [] => rfl
  | x :: r => by simp [Op.bytesLess, bl_irrefl r]
theorem bl_total : ∀ (a b : List UInt8), Op.bytesLess a b = false → Op.bytesLess b a = false → a = b
  | [], [], _, _ => rfl
  | [], _ :: _, h, _ => by simp [Op.bytesLess] at h
  | _ :: _, [], _, h => by simp [Op.bytesLess] at h
  | x :: r, y :: q, h, h' => by
    simp only [Op.bytesLess] at h h'
    by_cases e : x = y
    · subst e
      simp at h h'
      rw [bl_total r q h h']
    · exfalso
      rcases UInt8.lt_or_lt_of_ne e with h1 | h1
      · simp [h1] at h
      · simp [h1] at h'
theorem strLt_irrefl (a : ByteArray) : strLt a a = false := bl_irrefl _
theorem strLt_total {a b : ByteArray} (h : strLt a b = false) (h' : strLt b a = false) : a = b := bytes_inj (bl_total _ _ h h')

noncomputable def allNames : List ByteArray → Bool
  | [] => true
  | s :: r => nameOk s && allNames r
theorem allNames_iff {xs : List ByteArray} : allNames xs = true ↔ ∀ (j : Nat) (x : ByteArray), xs[j]? = some x → nameOk x = true := by
  induction xs with
  | nil => simp [allNames]
  | cons a r ih =>
    simp only [allNames, Bool.and_eq_true, ih]
    constructor
    · rintro ⟨h1, h2⟩ j x hj
      cases j with
      | zero => simp at hj; subst hj; exact h1
      | succ j => exact h2 j x (by simpa using hj)
    · intro h
      exact ⟨h 0 a rfl, fun j x hj => h (j + 1) x (by simpa using hj)⟩
theorem allNames_bad {xs : List ByteArray} {j : Nat} {x : ByteArray} (hj : xs[j]? = some x) (h : nameOk x = false) : allNames xs = false := by
  cases hc : allNames xs with
  | false => rfl
  | true => have := allNames_iff.1 hc j x hj; rw [h] at this; cases this

def lexLt : List ByteArray → List ByteArray → Bool
  | _, [] => false
  | [], _ :: _ => true
  | a :: r, b :: q => if a = b then lexLt r q else strLt a b

theorem lexLt_at : ∀ {j : Nat} {xs ys : List ByteArray} {a b : ByteArray}, xs.take j = ys.take j → xs[j]? = some a → ys[j]? = some b → a ≠ b → lexLt xs ys = strLt a b
  | 0, x :: xs, y :: ys, a, b, _, h1, h2, h3 => by simp at h1 h2; subst h1 h2; simp [lexLt, h3]
  | j + 1, x :: xs, y :: ys, a, b, h, h1, h2, h3 => by
    simp only [List.take_succ_cons, List.cons.injEq] at h
    obtain ⟨rfl, h⟩ := h
    simp only [lexLt, if_true]
    exact lexLt_at h (by simpa using h1) (by simpa using h2) h3
  | _, [], _, a, b, _, h1, _, _ => by simp at h1
  | _, _ :: _, [], a, b, _, _, h2, _ => by simp at h2
theorem lexLt_end : ∀ {j : Nat} {xs ys : List ByteArray}, xs.take j = ys.take j → (j = xs.length ∧ j ≤ ys.length ∨ j = ys.length ∧ j ≤ xs.length) → lexLt xs ys = decide (xs.length < ys.length)
  | 0, xs, ys, _, h => by
    rcases h with ⟨h, _⟩ | ⟨h, _⟩
    · have : xs = [] := List.length_eq_zero_iff.1 h.symm
      subst this
      cases ys <;> simp [lexLt]
    · have : ys = [] := List.length_eq_zero_iff.1 h.symm
      subst this
      simp [lexLt]
  | j + 1, x :: xs, y :: ys, h, hl => by
    simp only [List.take_succ_cons, List.cons.injEq] at h
    obtain ⟨rfl, h⟩ := h
    simp only [lexLt, if_true, List.length_cons]
    rw [lexLt_end h (by simp at hl; omega)]
    simp
  | j + 1, [], ys, _, hl => by simp at hl
  | j + 1, _ :: _, [], _, hl => by simp at hl

/-- The path b lies at or under a. -/
def within (b a : List ByteArray) : Bool := decide (a.length ≤ b.length ∧ b.take a.length = a)


section
variable {w0 : World} {σ : Vw}

theorem pBin_slt {P : Program} {T : Nat} {a b : ByteArray} {K : Value → Prop} : pBin P T .lss (.string a) (.string b) K ↔ K (.bool (strLt a b)) := pBin_s rfl
theorem pBin_sgt {P : Program} {T : Nat} {a b : ByteArray} {K : Value → Prop} : pBin P T .gtr (.string a) (.string b) K ↔ K (.bool (!(strLt a b || decide (a = b)))) := pBin_s (by simp only [astr, toList_eq]; rfl)

theorem RSl.at1 {v : Value} {xs : List ByteArray} (h : RSl 1 RS (Av.get w0 σ) v xs) {j : Nat} {x : ByteArray} (hj : xs[j]? = some x) {K : (Nat → Value) → Prop} (hK : ∀ g : Nat → Value, g 0 = .string x → x.size ≤ 9223372036854775807 → K g) :
    pIndexAddr 1 v (.int .i64 j) fun p => pLoad w0 1 p σ K := by
  refine h.at hj fun g hg => ?_
  obtain ⟨hg, hs⟩ := hg
  simp only [expl, List.cons.injEq, and_true] at hg
  exact hK g hg hs

theorem spec_PathOk {v : Value} {xs : List ByteArray} (h : RSl 1 RS (Av.get w0 σ) v xs) {R : Value → Vw → Prop} (hR : R (.bool (allNames xs && inB xs.length 1 4)) σ) : AC Tryz.prog w0 n_spec_l2PathOk [v] σ R := by
  refine ac_spec_l2PathOk ?_
  unfold vc_spec_l2PathOk
  have hl := h.le
  refine loop_rule (m := xs.length) (fun m l t => ∃ j, t = σ ∧ m + j = xs.length ∧ (∀ (i : Nat) (x : ByteArray), i < j → xs[i]? = some x → nameOk x = true) ∧ l = [v, .bool false, .int .i64 (j : Nat)]) ?_ ⟨0, rfl, by omega, fun i x h => by omega, rfl⟩
  rintro m l t L ⟨j, rfl, hm, ht, rfl⟩ hL
  simp only [vget, List.getD_cons_zero, List.getD_cons_succ]
  rw [h.len, pBin_lt, pIf_d]
  refine ⟨fun hj => ?_, fun hj => ?_⟩
  · have hj' : j < xs.length := by omega
    have hx := List.getElem?_eq_getElem hj'
    refine RSl.at1 h hx fun g hg hs => ?_
    rw [hg]
    refine spec_nameOk hs ?_
    rw [pUn_not, pIf_b]
    refine ⟨fun hb => ?_, fun hb => ?_⟩
    · rw [allNames_bad hx (by simpa using hb)] at hR; exact hR
    · rw [pBin_add (by omega)]
      refine hL _ _ (m - 1) (by omega) ⟨j + 1, rfl, by omega, fun i x hi he => ?_, rfl⟩
      by_cases e : i = j
      · subst e; rw [hx] at he; cases he; simpa using hb
      · exact ht i x (by omega) he
  · have hj' : j = xs.length := by omega
    subst hj'
    show pLen v _
    rw [h.len]
    refine spec_In ?_
    rw [allNames_iff.2 fun i x he => ht i x (List.getElem?_eq_some_iff.1 he).1 he] at hR
    exact hR

theorem impl_namesOk {v : Value} {xs : List ByteArray} {lo : Int} (h : RSl 1 RS (Av.get w0 σ) v xs) {R : Value → Vw → Prop} (hR : R (.bool (allNames xs && inB xs.length lo 4)) σ) : AC Tryz.prog w0 n_impl_namesOk [v, .int .i64 lo] σ R := by
  refine ac_impl_namesOk ?_
  unfold vc_impl_namesOk
  have hl := h.le
  rw [h.len]
  refine loop_rule (m := xs.length) (fun m l t => ∃ j, t = σ ∧ m + j = xs.length ∧ (∀ (i : Nat) (x : ByteArray), i < j → xs[i]? = some x → nameOk x = true) ∧ l = [v, .int .i64 lo, .bool false, v, .int .i64 xs.length, .int .i64 (j : Nat)]) ?_ ⟨0, rfl, by omega, fun i x h => by omega, rfl⟩
  rintro m l t L ⟨j, rfl, hm, ht, rfl⟩ hL
  simp only [vget, List.getD_cons_zero, List.getD_cons_succ]
  rw [pBin_lt, pIf_d]
  refine ⟨fun hj => ?_, fun hj => ?_⟩
  · have hj' : j < xs.length := by omega
    have hx := List.getElem?_eq_getElem hj'
    refine RSl.at1 h hx fun g hg hs => ?_
    rw [hg]
    refine impl_nameOk hs ?_
    rw [pUn_not, pIf_b]
    refine ⟨fun hb => ?_, fun hb => ?_⟩
    · rw [allNames_bad hx (by simpa using hb)] at hR; exact hR
    · rw [pBin_add (by omega)]
      refine hL _ _ (m - 1) (by omega) ⟨j + 1, rfl, by omega, fun i x hi he => ?_, rfl⟩
      by_cases e : i = j
      · subst e; rw [hx] at he; cases he; simpa using hb
      · exact ht i x (by omega) he
  · have hj' : j = xs.length := by omega
    subst hj'
    show pLen v _
    rw [h.len]
    refine impl_within ?_
    rw [allNames_iff.2 fun i x he => ht i x (List.getElem?_eq_some_iff.1 he).1 he] at hR
    exact hR
end
end Go.Proofs.YtkbhjejalkbogaaGreat

/- Paths: their order, what lies within what; marks. -/
set_option linter.unusedVariables false
set_option linter.unusedSimpArgs false
namespace Go.Proofs.YtkbhjejalkbogaaGreat
open Go Go.Av

section
variable {w0 : World} {σ : Vw}

theorem spec_Less {v v' : Value} {xs ys : List ByteArray} (h : RSl 1 RS (Av.get w0 σ) v xs) (h' : RSl 1 RS (Av.get w0 σ) v' ys) {R : Value → Vw → Prop} (hR : R (.bool (lexLt xs ys)) σ) : AC Tryz.prog w0 n_spec_l11Less [v, v'] σ R := by
  refine ac_spec_l11Less ?_
  unfold vc_spec_l11Less
  have hl := h.le
  refine loop_rule (m := xs.length) (fun m l t => ∃ j, t = σ ∧ m + j = xs.length ∧ j ≤ ys.length ∧ xs.take j = ys.take j ∧ l = [v, v', .bool false, .int .i64 (j : Nat)]) ?_ ⟨0, rfl, by omega, by omega, by simp, rfl⟩
  rintro m l t L ⟨j, rfl, hm, hy, ht, rfl⟩ hL
  simp only [vget, List.getD_cons_zero, List.getD_cons_succ]
  have fin : j = xs.length ∨ j = ys.length → pLen v (fun v21 => pLen v' (fun v22 => pBin Tryz.prog 3 .lss v21 v22 (fun v23 => R v23 t))) := by
    intro hj
    rw [h.len, h'.len, pBin_lt]
    rw [lexLt_end ht (by omega)] at hR
    have : (decide (xs.length < ys.length)) = decide ((xs.length : Int) < ys.length) := by congr 1; apply propext; omega
    rw [this] at hR; exact hR
  rw [h.len, pBin_lt, pIf_d]
  refine ⟨fun hj => ?_, fun hj => fin (.inl (by omega))⟩
  rw [h'.len, pBin_lt, pIf_d]
  refine ⟨fun hj2 => ?_, fun hj2 => fin (.inr (by omega))⟩
  have hx := List.getElem?_eq_getElem (show j < xs.length by omega)
  have hy' := List.getElem?_eq_getElem (show j < ys.length by omega)
  refine RSl.at1 h hx fun g hg hs => ?_
  refine RSl.at1 h' hy' fun g' hg' hs' => ?_
  rw [hg, hg', pBin_sne, pIf_d]
  refine ⟨fun hne => ?_, fun heq => ?_⟩
  · refine RSl.at1 h hx fun g hg hs => ?_
    refine RSl.at1 h' hy' fun g' hg' hs' => ?_
    rw [hg, hg', pBin_slt]
    rw [lexLt_at ht hx hy' hne] at hR; exact hR
  · have heq' := Decidable.not_not.1 heq
    rw [pBin_add (by omega)]
    exact hL _ _ (m - 1) (by omega) ⟨j + 1, rfl, by omega, by omega, by rw [List.take_add_one, List.take_add_one, hx, hy', ht, heq'], rfl⟩

/-- What Go's comparison of texts gives. -/
def cmpS (a b : ByteArray) : Int := if strLt a b then -1 else if a = b then 0 else 1
theorem cmp_Compare {a b : ByteArray} {R : Value → Vw → Prop} (hR : R (.int .i64 (cmpS a b)) σ) : AC Tryz.prog w0 n_cmp_Compare_string [.string a, .string b] σ R := by
  refine ac_cmp_Compare_string ?_
  unfold vc_cmp_Compare_string
  have nan : ∀ (a : ByteArray) (s : Vw) (K : Value → Vw → Prop), K (.bool false) s → AC Tryz.prog w0 n_cmp_isNaN_string [.string a] s K := fun a s K hK => by
    refine ac_cmp_isNaN_string ?_
    unfold vc_cmp_isNaN_string
    rw [pBin_sne]; simpa using hK
  refine nan _ _ _ (nan _ _ _ ?_)
  rw [pIf_b, pIf_b, pIf_b]
  refine ⟨nofun, fun _ => ⟨nofun, fun _ => ?_⟩⟩
  rw [pBin_slt, pIf_b]
  refine ⟨fun h => by simpa [cmpS, h] using hR, fun h => ?_⟩
  rw [pBin_sgt, pIf_b]
  by_cases e : a = b
  · subst e; simpa [cmpS, h] using hR
  · simpa [cmpS, h, e] using hR

theorem Compare {v v' : Value} {xs ys : List ByteArray} (h : RSl 1 RS (Av.get w0 σ) v xs) (h' : RSl 1 RS (Av.get w0 σ) v' ys) {R : Value → Vw → Prop} (hR : ∀ c : Int, (c < 0 ↔ lexLt xs ys = true) → R (.int .i64 c) σ) : AC Tryz.prog w0 n_slices_Compare_string_string [v, v'] σ R := by
  refine ac_slices_Compare_string_string ?_
  unfold vc_slices_Compare_string_string
  have hl := h.le
  rw [h.len]
  refine loop_rule (m := xs.length) (fun m l t => ∃ j, t = σ ∧ m + j = xs.length ∧ j ≤ ys.length ∧ xs.take j = ys.take j ∧ l = [v, v', .int .i64 0, v, .int .i64 xs.length, .int .i64 (j : Nat)]) ?_ ⟨0, rfl, by omega, by omega, by simp, rfl⟩
  rintro m l t L ⟨j, rfl, hm, hy, ht, rfl⟩ hL
  simp only [vget, List.getD_cons_zero, List.getD_cons_succ]
  rw [pBin_lt, pIf_d]
  refine ⟨fun hj => ?_, fun hj => ?_⟩
  · have hx := List.getElem?_eq_getElem (show j < xs.length by omega)
    refine RSl.at1 h hx fun g hg hs => ?_
    rw [h'.len, pBin_ge, pIf_d]
    refine ⟨fun hj2 => ?_, fun hj2 => ?_⟩
    · refine hR 1 ?_
      rw [lexLt_end ht (by omega)]
      simp; omega
    · have hy' := List.getElem?_eq_getElem (show j < ys.length by omega)
      refine RSl.at1 h' hy' fun g' hg' hs' => ?_
      rw [hg, hg']
      refine cmp_Compare ?_
      rw [pBin_ne, pIf_d]
      refine ⟨fun hne => ?_, fun heq => ?_⟩
      · refine hR _ ?_
        have hab : xs[j] ≠ ys[j] := fun e => by
          apply hne
          rw [e, cmpS, strLt_irrefl]; simp
        rw [lexLt_at ht hx hy' hab]
        unfold cmpS
        cases hlt : strLt xs[j] ys[j] <;> simp [hab]
      · have heq' : xs[j] = ys[j] := by
          unfold cmpS at heq
          split at heq
          · simp at heq
          · split at heq
            · assumption
            · simp at heq
        rw [pBin_add (by omega)]
        exact hL _ _ (m - 1) (by omega) ⟨j + 1, rfl, by omega, by omega, by rw [List.take_add_one, List.take_add_one, hx, hy', ht, heq'], rfl⟩
  · have hj' : j = xs.length := by omega
    show pLen v _
    rw [h.len, h'.len, pBin_lt, pIf_d]
    have e := lexLt_end ht (by omega)
    refine ⟨fun hlt => hR (-1) ?_, fun hlt => hR 0 ?_⟩
    · rw [e]; simp; omega
    · rw [e]; simp; omega

theorem within_false {xs ys : List ByteArray} {j : Nat} {a b : ByteArray} (hx : xs[j]? = some a) (hy : ys[j]? = some b) (h : a ≠ b) : within xs ys = false := by
  unfold within
  simp only [decide_eq_false_iff_not]
  rintro ⟨h1, h2⟩
  have hlt := (List.getElem?_eq_some_iff.1 hy).1
  rw [← h2, List.getElem?_take_of_lt hlt, hx] at hy
  cases hy; exact h rfl

theorem spec_Within {v v' : Value} {xs ys : List ByteArray} (h : RSl 1 RS (Av.get w0 σ) v xs) (h' : RSl 1 RS (Av.get w0 σ) v' ys) {R : Value → Vw → Prop} (hR : R (.bool (within xs ys)) σ) : AC Tryz.prog w0 n_spec_l2Within [v, v'] σ R := by
  refine ac_spec_l2Within ?_
  unfold vc_spec_l2Within
  have hl := h'.le
  rw [h.len, h'.len, pBin_lt, pIf_d]
  refine ⟨fun hlt => ?_, fun hge => ?_⟩
  · have : within xs ys = false := by unfold within; simp; omega
    rw [this] at hR; exact hR
  refine loop_rule (m := ys.length) (fun m l t => ∃ j, t = σ ∧ m + j = ys.length ∧ xs.take j = ys.take j ∧ l = [v, v', .bool false, .int .i64 (j : Nat)]) ?_ ⟨0, rfl, by omega, by simp, rfl⟩
  rintro m l t L ⟨j, rfl, hm, ht, rfl⟩ hL
  simp only [vget, List.getD_cons_zero, List.getD_cons_succ]
  rw [h'.len, pBin_lt, pIf_d]
  refine ⟨fun hj => ?_, fun hj => ?_⟩
  · have hx := List.getElem?_eq_getElem (show j < xs.length by omega)
    have hy' := List.getElem?_eq_getElem (show j < ys.length by omega)
    refine RSl.at1 h hx fun g hg hs => ?_
    refine RSl.at1 h' hy' fun g' hg' hs' => ?_
    rw [hg, hg', pBin_sne, pIf_d]
    refine ⟨fun hne => ?_, fun heq => ?_⟩
    · rw [within_false hx hy' hne] at hR; exact hR
    · have heq' := Decidable.not_not.1 heq
      rw [pBin_add (by omega)]
      exact hL _ _ (m - 1) (by omega) ⟨j + 1, rfl, by omega, by rw [List.take_add_one, List.take_add_one, hx, hy', ht, heq'], rfl⟩
  · have hj' : j = ys.length := by omega
    subst hj'
    rw [List.take_length] at ht
    have : within xs ys = true := by unfold within; simp [ht]; omega
    rw [this] at hR; exact hR

theorem impl_begins {v v' : Value} {xs ys : List ByteArray} (h : RSl 1 RS (Av.get w0 σ) v xs) (h' : RSl 1 RS (Av.get w0 σ) v' ys) {R : Value → Vw → Prop} (hR : R (.bool (within xs ys)) σ) : AC Tryz.prog w0 n_impl_begins [v, v'] σ R := by
  refine ac_impl_begins ?_
  unfold vc_impl_begins
  have hl := h'.le
  rw [h.len, h'.len, pBin_lt, pIf_d]
  refine ⟨fun hlt => ?_, fun hge => ?_⟩
  · have : within xs ys = false := by unfold within; simp; omega
    rw [this] at hR; exact hR
  rw [h'.len]
  refine loop_rule (m := ys.length) (fun m l t => ∃ j, t = σ ∧ m + j = ys.length ∧ xs.take j = ys.take j ∧ l = [v, v', .bool false, .int .i64 ys.length, .int .i64 (j : Nat)]) ?_ ⟨0, rfl, by omega, by simp, rfl⟩
  rintro m l t L ⟨j, rfl, hm, ht, rfl⟩ hL
  simp only [vget, List.getD_cons_zero, List.getD_cons_succ]
  rw [pBin_lt, pIf_d]
  refine ⟨fun hj => ?_, fun hj => ?_⟩
  · have hx := List.getElem?_eq_getElem (show j < xs.length by omega)
    have hy' := List.getElem?_eq_getElem (show j < ys.length by omega)
    refine RSl.at1 h hx fun g hg hs => ?_
    refine RSl.at1 h' hy' fun g' hg' hs' => ?_
    rw [hg, hg', pBin_sne, pIf_d]
    refine ⟨fun hne => ?_, fun heq => ?_⟩
    · rw [within_false hx hy' hne] at hR; exact hR
    · have heq' := Decidable.not_not.1 heq
      rw [pBin_add (by omega)]
      exact hL _ _ (m - 1) (by omega) ⟨j + 1, rfl, by omega, by rw [List.take_add_one, List.take_add_one, hx, hy', ht, heq'], rfl⟩
  · have hj' : j = ys.length := by omega
    subst hj'
    rw [List.take_length] at ht
    have : within xs ys = true := by unfold within; simp [ht]; omega
    rw [this] at hR; exact hR

noncomputable def markOkB (x : Mk) : Bool := if x.1 = [] then x.2 else allNames x.1 && inB x.1.length 1 4

theorem spec_MarkOk {es : List Value} {x : Mk} {R : Value → Vw → Prop} (h : RMk (Av.get w0 σ) es x) (hR : R (.bool (markOkB x)) σ) : AC Tryz.prog w0 n_spec_l11MarkOk [.agg ⟨es⟩] σ R := by
  obtain ⟨v, rfl, h2⟩ := h
  refine ac_spec_l11MarkOk ?_
  unfold vc_spec_l11MarkOk
  rw [pVal_2 h2.one rfl]
  show pLen v _
  rw [h2.len, pBin_eq, pIf_d]
  refine ⟨fun h0 => ?_, fun h0 => ?_⟩
  · have : x.1 = [] := List.length_eq_zero_iff.1 (by omega)
    rw [markOkB, if_pos this] at hR; exact hR
  · have : x.1 ≠ [] := fun e => h0 (by rw [e]; rfl)
    rw [markOkB, if_neg this] at hR
    exact spec_PathOk h2 hR

theorem impl_markOk {es : List Value} {x : Mk} {R : Value → Vw → Prop} (h : RMk (Av.get w0 σ) es x) (hR : R (.bool (markOkB x)) σ) : AC Tryz.prog w0 n_impl_markOk [.agg ⟨es⟩] σ R := by
  obtain ⟨v, rfl, h2⟩ := h
  refine ac_impl_markOk ?_
  unfold vc_impl_markOk
  rw [pVal_2 h2.one rfl]
  refine impl_namesOk h2 ?_
  rw [pIf_b]
  by_cases e : x.1 = []
  · rw [markOkB, if_pos e] at hR
    refine ⟨fun _ => ?_, fun h0 => ?_⟩
    · show pLen v _
      rw [h2.len, pBin_gt, pIf_d]
      refine ⟨fun h => by rw [e] at h; simp at h, fun _ => hR⟩
    · rw [e] at h0; simp [allNames, inB] at h0
  · rw [markOkB, if_neg e] at hR
    have hpos : 1 ≤ x.1.length := by
      rcases Nat.eq_zero_or_pos x.1.length with h0 | h0
      · exact absurd (List.length_eq_zero_iff.1 h0) e
      · exact h0
    have hin : inB x.1.length 0 4 = inB x.1.length 1 4 := by unfold inB; congr 1; apply propext; omega
    rw [hin]
    refine ⟨fun h0 => ?_, fun h0 => ?_⟩
    · show pLen v _
      rw [h2.len, pBin_gt, pIf_d]
      refine ⟨fun _ => ?_, fun h => by omega⟩
      rw [h0] at hR; exact hR
    · rw [h0] at hR; exact hR
end
end Go.Proofs.YtkbhjejalkbogaaGreat

/- Trails: when one is sound; the law 'TrailOk', of the functions alone. -/
set_option linter.unusedVariables false
set_option linter.unusedSimpArgs false
namespace Go.Proofs.YtkbhjejalkbogaaGreat
open Go Go.Av

def underB (ms : List Mk) (p : List ByteArray) : Bool := ms.any fun m => m.2 && within p m.1
def afterB (ms : List Mk) (j : Nat) (x : Mk) : Bool :=
  match j with
  | 0 => true
  | i + 1 => match ms[i]? with
    | some y => lexLt y.1 x.1
    | none => true
noncomputable def goodAt (ms : List Mk) (j : Nat) (x : Mk) : Bool := markOkB x && (afterB ms j x && !underB (ms.take j) x.1)
def allGood (ms : List Mk) : Prop := ∀ (j : Nat) (x : Mk), ms[j]? = some x → goodAt ms j x = true
open Classical in
noncomputable def trailOk (ms : List Mk) : Bool := decide (allGood ms) && decide ((ms.length : Int) ≤ 6)
theorem trail_bad {ms : List Mk} {j : Nat} {x : Mk} (h : ms[j]? = some x) (hb : goodAt ms j x = false) : trailOk ms = false := by
  have : ¬ allGood ms := fun h' => by rw [h' j x h] at hb; cases hb
  simp [trailOk, this]
theorem trail_good {ms : List Mk} (h : allGood ms) : trailOk ms = decide ((ms.length : Int) ≤ 6) := by simp [trailOk, h]

section
variable {w0 : World} {σ : Vw}

theorem RSl.fld {α : Type} {n : Nat} {Rl : (Addr → Option Value) → List Value → α → Prop} {v : Value} {xs : List α} (h : RSl n Rl (Av.get w0 σ) v xs) {j : Nat} {x : α} (hj : xs[j]? = some x) {off : Nat} (ho : off < n) {K : (Nat → Value) → Prop} (hK : ∀ (g : Nat → Value) (es : List Value), Rl (Av.get w0 σ) es x → es[off]? = some (g 0) → K g) :
    pIndexAddr n v (.int .i64 j) fun p => pField off p fun q => pLoad w0 1 q σ K := by
  obtain ⟨A, cap, rfl, _, h3⟩ := h
  obtain ⟨a, es, rfl, h5, h6, h7⟩ := h3 j x hj
  have hlt : j < xs.length := (List.getElem?_eq_some_iff.1 hj).1
  have he : es[off]? = some (es.getD off undef) := by
    rw [List.getD_eq_getElem?_getD, List.getElem?_eq_getElem (by omega)]; rfl
  refine ⟨a, xs.length, cap, .i64, j, rfl, rfl, by omega, by omega, _, rfl, (a.add (j * n)).add off, fun _ => es.getD off undef, rfl, fun i hi => ?_, hK _ es h7 he⟩
  have : i = 0 := by omega
  subst this
  rw [add_add, add_add, Nat.add_zero]
  rw [h6 off ho]; exact he

theorem RSl.take {α : Type} {n : Nat} {Rl : (Addr → Option Value) → List Value → α → Prop} {v : Value} {xs : List α} (h : RSl n Rl (Av.get w0 σ) v xs) {j : Nat} (hj : j ≤ xs.length) {K : Value → Prop} (hK : ∀ v', RSl n Rl (Av.get w0 σ) v' (xs.take j) → K v') : pSlice n v none (some (.int .i64 j)) K := by
  obtain ⟨A, cap, rfl, hc, h3⟩ := h
  refine ⟨A, xs.length, cap, 0, j, rfl, rfl, rfl, by omega, by omega, by omega, hK _ ?_⟩
  have hl : (xs.take j).length = j := by simp; omega
  refine ⟨if cap = (0 : Int).toNat then A else A.map (·.add ((0 : Int).toNat * n)), cap - (0 : Int).toNat, by rw [hl]; simp, ⟨by rw [hl]; simp; omega, by simp; omega⟩, fun i x hi => ?_⟩
  have hij : i < j := by have := (List.getElem?_eq_some_iff.1 hi).1; rw [hl] at this; exact this
  rw [List.getElem?_take_of_lt hij] at hi
  obtain ⟨a, es, rfl, h5, h6, h7⟩ := h3 i x hi
  refine ⟨a, es, ?_, h5, h6, h7⟩
  split
  · rfl
  · simp [Addr.add]

theorem underB_take {ms : List Mk} {p : List ByteArray} {j : Nat} {x : Mk} (h : ms[j]? = some x) : underB (ms.take (j + 1)) p = (underB (ms.take j) p || (x.2 && within p x.1)) := by
  rw [List.take_add_one, h]
  simp [underB, List.any_append]
theorem under_hit {ms : List Mk} {p : List ByteArray} {j : Nat} {x : Mk} (h : ms[j]? = some x) (h1 : x.2 = true) (h2 : within p x.1 = true) : underB ms p = true := by
  simp only [underB, List.any_eq_true]
  exact ⟨x, List.mem_of_getElem? h, by simp [h1, h2]⟩

theorem impl_under {v v' : Value} {ms : List Mk} {p : List ByteArray} (h : RSl 2 RMk (Av.get w0 σ) v ms) (h' : RSl 1 RS (Av.get w0 σ) v' p) {R : Value → Vw → Prop} (hR : R (.bool (underB ms p)) σ) : AC Tryz.prog w0 n_impl_under [v, v'] σ R := by
  refine ac_impl_under ?_
  unfold vc_impl_under
  have hl := h.le
  rw [h.len]
  refine loop_rule (m := ms.length) (fun m l t => ∃ j, t = σ ∧ m + j = ms.length ∧ underB (ms.take j) p = false ∧ l = [v', .bool false, v, .int .i64 ms.length, .int .i64 (j : Nat)]) ?_ ⟨0, rfl, by omega, rfl, rfl⟩
  rintro m l t L ⟨j, rfl, hm, ht, rfl⟩ hL
  simp only [vget, List.getD_cons_zero, List.getD_cons_succ]
  rw [pBin_lt, pIf_d]
  refine ⟨fun hj => ?_, fun hj => ?_⟩
  · have hx := List.getElem?_eq_getElem (show j < ms.length by omega)
    refine h.at hx fun g hg => ?_
    obtain ⟨u, hu, hur⟩ := hg
    simp only [expl, List.cons.injEq, and_true] at hu
    obtain ⟨hu0, hu1⟩ := hu
    rw [hu0, hu1, pVal_2 hur.one rfl, pIf_b]
    have next : underB (ms.take (j + 1)) p = false → L [v', .bool false, v, .int .i64 ms.length, .int .i64 ((j : Int) + 1)] t := fun hf => hL _ _ (m - 1) (by omega) ⟨j + 1, rfl, by omega, hf, rfl⟩
    have hstep := underB_take (p := p) hx
    refine ⟨fun hheld => ?_, fun hheld => ?_⟩
    · refine impl_begins h' hur ?_
      rw [pIf_b]
      refine ⟨fun hw => ?_, fun hw => ?_⟩
      · rw [under_hit hx hheld hw] at hR; exact hR
      · rw [pBin_add (by omega)]
        exact next (by rw [hstep, ht, hw]; simp)
    · rw [pBin_add (by omega)]
      exact next (by rw [hstep, ht, hheld]; simp)
  · have hj' : j = ms.length := by omega
    subst hj'
    rw [List.take_length] at ht
    rw [ht] at hR; exact hR

theorem impl_TrailOk {v : Value} {ms : List Mk} (h : RSl 2 RMk (Av.get w0 σ) v ms) {R : Value → Vw → Prop} (hR : R (.bool (trailOk ms)) σ) : AC Tryz.prog w0 n_impl_TrailOk [v] σ R := by
  refine ac_impl_TrailOk ?_
  unfold vc_impl_TrailOk
  have hl := h.le
  rw [h.len]
  refine loop_rule (m := ms.length) (fun m l t => ∃ j, t = σ ∧ m + j = ms.length ∧ (∀ (i : Nat) (x : Mk), i < j → ms[i]? = some x → goodAt ms i x = true) ∧ l = [v, .bool false, v, .int .i64 ms.length, .int .i64 (j : Nat)]) ?_ ⟨0, rfl, by omega, fun i x h => by omega, rfl⟩
  rintro m l t L ⟨j, rfl, hm, ht, rfl⟩ hL
  simp only [vget, List.getD_cons_zero, List.getD_cons_succ]
  rw [pBin_lt, pIf_d]
  refine ⟨fun hj => ?_, fun hj => ?_⟩
  · have hx := List.getElem?_eq_getElem (show j < ms.length by omega)
    generalize hxj : ms[j] = x at hx
    refine h.at hx fun g hg => ?_
    have hg0 := hg
    obtain ⟨u, hu, hur⟩ := hg
    simp only [expl, List.cons.injEq, and_true] at hu
    obtain ⟨hu0, hu1⟩ := hu
    rw [hu0, hu1, pVal_2 hur.one rfl]
    have bad : goodAt ms j x = false → R (.bool false) t := fun hb => by rw [trail_bad hx hb] at hR; exact hR
    refine impl_markOk (x := x) ⟨u, rfl, hur⟩ ?_
    rw [pUn_not, pIf_b]
    refine ⟨fun hmk => bad (by simp at hmk; simp [goodAt, hmk]), fun hmk => ?_⟩
    have hmk' : markOkB x = true := by simpa using hmk
    have last : afterB ms j x = true → pSlice 2 v none (some (.int .i64 j)) (fun v18 => AC Tryz.prog w0 n_impl_under [v18, u] t (fun v19 s20 => pIf v19 (R (.bool false) s20) (pBin Tryz.prog 3 .add (.int .i64 j) (.int .i64 1) (fun v21 => L [v, .bool false, v, .int .i64 ms.length, v21] s20)))) := by
      intro haf
      refine RSl.take h (by omega) fun v' hv' => ?_
      refine impl_under hv' hur ?_
      rw [pIf_b]
      refine ⟨fun hb => bad (by simp [goodAt, hb]), fun hb => ?_⟩
      rw [pBin_add (by omega)]
      refine hL _ _ (m - 1) (by omega) ⟨j + 1, rfl, by omega, fun i y hi he => ?_, rfl⟩
      by_cases e : i = j
      · subst e; rw [hx] at he; cases he; simp [goodAt, hmk', haf, hb]
      · exact ht i y (by omega) he
    rw [pBin_gt, pIf_d]
    refine ⟨fun hpos => ?_, fun h0 => ?_⟩
    · obtain ⟨i, rfl⟩ : ∃ i, j = i + 1 := ⟨j - 1, by omega⟩
      rw [pBin_sub (by omega)]
      have hy := List.getElem?_eq_getElem (show i < ms.length by omega)
      generalize hyi : ms[i] = y at hy
      rw [show ((i + 1 : Nat) : Int) - 1 = (i : Nat) by omega]
      refine RSl.fld h hy (by omega) fun g2 es hes he => ?_
      obtain ⟨u2, rfl, hu2⟩ := hes
      simp at he
      rw [← he]
      refine Compare hu2 hur fun c hc => ?_
      have haf : afterB ms (i + 1) x = lexLt y.1 x.1 := by simp [afterB, hy]
      rw [pBin_ge, pIf_d]
      refine ⟨fun hge => bad ?_, fun hlt => last ?_⟩
      · have : lexLt y.1 x.1 = false := by
          cases hc2 : lexLt y.1 x.1 with
          | false => rfl
          | true => have := hc.2 hc2; omega
        simp [goodAt, haf, this]
      · rw [haf]; exact hc.1 (by omega)
    · have : j = 0 := by omega
      subst this
      exact last rfl
  · have hj' : j = ms.length := by omega
    subst hj'
    show pLen v _
    rw [h.len, pBin_le]
    rw [trail_good fun i x he => ht i x (List.getElem?_eq_some_iff.1 he).1 he] at hR
    exact hR

theorem spec_TrailOk {v : Value} {ms : List Mk} (h : RSl 2 RMk (Av.get w0 σ) v ms) {R : Value → Vw → Prop} (hR : R (.bool (trailOk ms)) σ) : AC Tryz.prog w0 n_spec_TrailOk [v] σ R := by
  refine ac_spec_TrailOk ?_
  unfold vc_spec_TrailOk
  have hl := h.le
  refine loop_rule (m := ms.length) (fun m l t => ∃ j, t = σ ∧ m + j = ms.length ∧ (∀ (i : Nat) (x : Mk), i < j → ms[i]? = some x → goodAt ms i x = true) ∧ l = [v, .bool false, .int .i64 (j : Nat)]) ?_ ⟨0, rfl, by omega, fun i x h => by omega, rfl⟩
  rintro m l t L ⟨j, rfl, hm, ht, rfl⟩ hL
  simp only [vget, List.getD_cons_zero, List.getD_cons_succ]
  rw [h.len, pBin_lt, pIf_d]
  refine ⟨fun hj => ?_, fun hj => ?_⟩
  · have hx := List.getElem?_eq_getElem (show j < ms.length by omega)
    generalize hxj : ms[j] = x at hx
    refine h.at hx fun g hg => ?_
    obtain ⟨u, hu, hur⟩ := hg
    simp only [expl, List.cons.injEq, and_true] at hu
    obtain ⟨hu0, hu1⟩ := hu
    rw [hu0, hu1]
    have bad : goodAt ms j x = false → R (.bool false) t := fun hb => by rw [trail_bad hx hb] at hR; exact hR
    refine spec_MarkOk (x := x) ⟨u, rfl, hur⟩ ?_
    rw [pUn_not, pIf_b]
    refine ⟨fun hmk => bad (by simp at hmk; simp [goodAt, hmk]), fun hmk => ?_⟩
    have hmk' : markOkB x = true := by simpa using hmk
    have next : afterB ms j x = true → underB (ms.take j) x.1 = false → L [v, .bool false, .int .i64 ((j : Int) + 1)] t := fun haf hb => hL _ _ (m - 1) (by omega) ⟨j + 1, rfl, by omega, fun i y hi he => by
      by_cases e : i = j
      · subst e; rw [hx] at he; cases he; simp [goodAt, hmk', haf, hb]
      · exact ht i y (by omega) he, rfl⟩
    have split : (0 < (j : Int) → afterB ms j x = true → True) := fun _ _ => trivial
    rw [pBin_gt, pIf_d]
    have step : ∀ {K : AX → List Value → Vw → Prop} {B : List Value → (AX → List Value → Vw → Prop) → Vw → Prop}, B = (fun l21 K22 s23 => pBin Tryz.prog 3 .lss (vget l21 3) (vget l21 2) (fun v24 => pIf v24 (pIndexAddr 2 (vget l21 0) (vget l21 3) (fun v25 => pField 1 v25 (fun v26 => pLoad w0 1 v26 s23 (fun g27 => pIf (g27 0)
          (pIndexAddr 2 (vget l21 0) (vget l21 2) (fun v28 => pField 0 v28 (fun v29 => pLoad w0 1 v29 s23 (fun g30 => pIndexAddr 2 (vget l21 0) (vget l21 3) (fun v31 => pField 0 v31 (fun v32 => pLoad w0 1 v32 s23 (fun g33 => AC Tryz.prog w0 n_spec_l2Within [g30 0, g33 0] s23 (fun v34 s35 => pIf v34 (K22 .ret [vget l21 0, .bool false, vget l21 2, vget l21 3] s35)
            (pBin Tryz.prog 3 .add (vget l21 3) (.int .i64 1) (fun v36 => K22 .normal [vget l21 0, vget l21 1, vget l21 2, v36] s35))))))))))
          (pBin Tryz.prog 3 .add (vget l21 3) (.int .i64 1) (fun v37 => K22 .normal [vget l21 0, vget l21 1, vget l21 2, v37] s23)))))) (K22 (.exit 2) [vget l21 0, vget l21 1, vget l21 2, vget l21 3] s23))) →
        afterB ms j x = true → (∀ k : Value, R (.bool false) t → K .ret [v, .bool false, .int .i64 j, k] t) → (∀ k : Value, underB (ms.take j) x.1 = false → K (.exit 2) [v, .bool false, .int .i64 j, k] t) →
        pLoop B [v, .bool false, .int .i64 j, .int .i64 0] t K := by
      rintro K B rfl haf hret hex
      refine loop_rule (m := j) (fun m' l s => ∃ k, s = t ∧ m' + k = j ∧ underB (ms.take k) x.1 = false ∧ l = [v, .bool false, .int .i64 j, .int .i64 (k : Nat)]) ?_ ⟨0, rfl, by omega, rfl, rfl⟩
      rintro m' l s L' ⟨k, rfl, hm', hu', rfl⟩ hL'
      simp only [vget, List.getD_cons_zero, List.getD_cons_succ]
      rw [pBin_lt, pIf_d]
      refine ⟨fun hk => ?_, fun hk => ?_⟩
      · have hy := List.getElem?_eq_getElem (show k < ms.length by omega)
        generalize hyk : ms[k] = y at hy
        have hstep := underB_take (p := x.1) hy
        have nx : underB (ms.take (k + 1)) x.1 = false → L' [v, .bool false, .int .i64 j, .int .i64 ((k : Int) + 1)] s := fun hf => hL' _ _ (m' - 1) (by omega) ⟨k + 1, rfl, by omega, hf, rfl⟩
        refine RSl.fld h hy (by omega) fun g1 es hes he => ?_
        obtain ⟨u1, rfl, hu1'⟩ := hes
        simp at he
        rw [← he, pIf_b]
        refine ⟨fun hheld => ?_, fun hheld => ?_⟩
        · refine RSl.fld h hx (by omega) fun g2 es hes he => ?_
          obtain ⟨u2, rfl, hu2'⟩ := hes
          simp at he
          refine RSl.fld h hy (by omega) fun g3 es hes he' => ?_
          obtain ⟨u3, rfl, hu3'⟩ := hes
          simp at he'
          rw [← he, ← he']
          refine spec_Within hu2' hu3' ?_
          rw [pIf_b]
          refine ⟨fun hw => hret _ (bad ?_), fun hw => ?_⟩
          · have : underB (ms.take j) x.1 = true := under_hit (j := k) (x := y) (by rw [List.getElem?_take_of_lt (by omega)]; exact hy) hheld hw
            simp [goodAt, this]
          · rw [pBin_add (by omega)]
            exact nx (by rw [hstep, hu', hw]; simp)
        · rw [pBin_add (by omega)]
          exact nx (by rw [hstep, hu', hheld]; simp)
      · have : k = j := by omega
        subst this
        exact hex _ hu'
    refine ⟨fun hpos => ?_, fun h0 => ?_⟩
    · obtain ⟨i, rfl⟩ : ∃ i, j = i + 1 := ⟨j - 1, by omega⟩
      rw [pBin_sub (by omega)]
      have hy := List.getElem?_eq_getElem (show i < ms.length by omega)
      generalize hyi : ms[i] = y at hy
      rw [show ((i + 1 : Nat) : Int) - 1 = (i : Nat) by omega]
      refine RSl.fld h hy (by omega) fun g2 es hes he => ?_
      obtain ⟨u2, rfl, hu2⟩ := hes
      simp at he
      refine RSl.fld h hx (by omega) fun g3 es hes he3 => ?_
      obtain ⟨u3, rfl, hu3⟩ := hes
      simp at he3
      rw [← he, ← he3]
      have haf : afterB ms (i + 1) x = lexLt y.1 x.1 := by simp [afterB, hy]
      refine spec_Less hu2 hu3 ?_
      rw [pUn_not, pIf_b]
      refine ⟨fun hb => bad (by simp at hb; simp [goodAt, haf, hb]), fun hg => ?_⟩
      have hg' : afterB ms (i + 1) x = true := by rw [haf]; simpa using hg
      refine step rfl hg' (fun k hr => hr) (fun k hu => ?_)
      show pBin Tryz.prog 3 .add (.int .i64 ((i + 1 : Nat) : Int)) (.int .i64 1) _
      rw [pBin_add (by omega)]
      exact next hg' hu
    · have : j = 0 := by omega
      subst this
      refine step rfl rfl (fun k hr => hr) (fun k hu => ?_)
      show pBin Tryz.prog 3 .add (.int .i64 ((0 : Nat) : Int)) (.int .i64 1) _
      rw [pBin_add (by omega)]
      exact next rfl hu
  · have hj' : j = ms.length := by omega
    subst hj'
    show pLen v _
    rw [h.len, pBin_le]
    rw [trail_good fun i x he => ht i x (List.getElem?_eq_some_iff.1 he).1 he] at hR
    exact hR
end
end Go.Proofs.YtkbhjejalkbogaaGreat

/- The law 'TrailOk', of the functions alone. -/
set_option linter.unusedVariables false
set_option linter.unusedSimpArgs false
namespace Go.Proofs.YtkbhjejalkbogaaGreat
open Go Go.Av

section
variable {w0 : World} {σ : Vw}

theorem sumBy_mem {α : Type} {f : α → Nat} : ∀ {xs : List α} {x : α}, x ∈ xs → f x ≤ sumBy f xs
  | a :: r, x, h => by
    simp only [sumBy]
    rcases List.mem_cons.1 h with e | e
    · subst e; omega
    · have := sumBy_mem (f := f) e; omega

end
end Go.Proofs.YtkbhjejalkbogaaGreat

/- Trees: what is read of one; their size, their copy, their comparison. -/
set_option linter.unusedVariables false
set_option linter.unusedSimpArgs false
namespace Go.Proofs.YtkbhjejalkbogaaGreat
open Go Go.Av

inductive Tr where
  | mk (dir : Bool) (mode : Int) (text : ByteArray) (names : List ByteArray) (kids : List Tr)
noncomputable instance : DecidableEq Tr := fun _ _ => Classical.propDecidable _

/-- What is read: n bounds the depth. -/
def RT : Nat → (Addr → Option Value) → List Value → Tr → Prop
  | 0, _, _, _ => False
  | n + 1, rd, es, .mk d m t ns ks => ∃ u w, es = [.bool d, .int .i64 m, .string t, u, w] ∧ (-9223372036854775808 ≤ m ∧ m ≤ 9223372036854775807) ∧ t.size ≤ 9223372036854775807 ∧ RSl 1 RS rd u ns ∧ RSl 5 (RT n) rd w ks
def OT (w0 : World) : Nat → Vw → List Nat → List Value → Tr → Prop
  | 0, _, _, _, _ => False
  | n + 1, σ, F, es, .mk d m t ns ks => ∃ u w F1 F2, es = [.bool d, .int .i64 m, .string t, u, w] ∧ (-9223372036854775808 ≤ m ∧ m ≤ 9223372036854775807) ∧ t.size ≤ 9223372036854775807 ∧ OStrs w0 σ F1 u ns ∧ OSl w0 5 (OT w0 n) σ F2 w ks ∧ F = F1 ++ F2 ∧ F.Nodup
def szT : Nat → Tr → Nat
  | 0, _ => 0
  | n + 1, .mk d m t ns ks => t.size + (ns.length + sumS ns) + (ks.length + sumBy (szT n) ks)

theorem mono_rt : ∀ (n : Nat) (rd rd' : Addr → Option Value) (es : List Value) (x : Tr), Le rd rd' → RT n rd es x → RT n rd' es x
  | 0, _, _, _, _, _, h => h
  | n + 1, rd, rd', es, .mk d m t ns ks, hl, h => by
    obtain ⟨u, w, h1, h2, h3, h4, h5⟩ := h
    exact ⟨u, w, h1, h2, h3, h4.mono hl fun _ _ h => h, h5.mono hl fun es x => mono_rt n _ _ es x hl⟩

section
variable {w0 : World} {σ : Vw}

theorem ok_rt (w0 : World) : ∀ n, OOk w0 5 (RT n) (OT w0 n)
  | 0 => ⟨fun _ _ _ _ h => h.elim, fun _ _ _ _ _ h => h.elim, fun _ _ _ _ h => h.elim, fun _ _ _ _ h => h.elim, fun _ _ _ _ h => h.elim, fun _ _ _ _ h => h.elim⟩
  | n + 1 => by
    have ih := ok_rt w0 n
    refine ⟨?_, ?_, ?_, ?_, ?_, ?_⟩
    · rintro σ F es ⟨d, m, t, ns, ks⟩ ⟨u, w, F1, F2, h1, h2, h3, h4, h5, h6, h7⟩
      exact ⟨u, w, h1, h2, h3, h4.rel (ok_str w0), h5.rel ih⟩
    · rintro σ σ' F es ⟨d, m, t, ns, ks⟩ ⟨u, w, F1, F2, h1, h2, h3, h4, h5, h6, h7⟩ hF
      subst h6
      exact ⟨u, w, F1, F2, h1, h2, h3, h4.frame (ok_str w0) fun b hb => hF b (List.mem_append_left _ hb), h5.frame ih fun b hb => hF b (List.mem_append_right _ hb), rfl, h7⟩
    · rintro σ F es ⟨d, m, t, ns, ks⟩ ⟨u, w, F1, F2, h1, h2, h3, h4, h5, h6, h7⟩ b hb
      subst h6
      rcases List.mem_append.1 hb with h | h
      · exact h4.dom (ok_str w0) b h
      · exact h5.dom ih b h
    · rintro σ F es ⟨d, m, t, ns, ks⟩ ⟨u, w, F1, F2, h1, h2, h3, h4, h5, h6, h7⟩; exact h7
    · rintro σ F es ⟨d, m, t, ns, ks⟩ ⟨u, w, F1, F2, rfl, h2, h3, h4, h5, h6, h7⟩; rfl
    · rintro σ F es ⟨d, m, t, ns, ks⟩ ⟨u, w, F1, F2, rfl, h2, h3, h4, h5, h6, h7⟩ c hc
      simp at hc
      rcases hc with rfl | rfl | rfl | rfl | rfl
      · rfl
      · rfl
      · rfl
      · exact OSl.one' h4
      · exact OSl.one' h5

theorem pVal_5 {a b c d e : Value} {A : Prop} (h1 : a.oneCell' = true) (h2 : b.oneCell' = true) (h3 : c.oneCell' = true) (h4 : d.oneCell' = true) (h5 : e.oneCell' = true) : pVal true 5 (.agg ⟨[a, b, c, d, e]⟩) A ↔ A := pValN rfl (by simp [h1, h2, h3, h4, h5])

end
end Go.Proofs.YtkbhjejalkbogaaGreat

/- Trees: their copy, their comparison. -/
set_option linter.unusedVariables false
set_option linter.unusedSimpArgs false
namespace Go.Proofs.YtkbhjejalkbogaaGreat
open Go Go.Av

section
variable {w0 : World}

/-- No list in it is too long. -/
def fitT : Nat → Tr → Prop
  | 0, _ => True
  | n + 1, .mk d m t ns ks => ns.length ≤ 1000000000000 ∧ ks.length ≤ 1000000000000 ∧ ∀ k, k ∈ ks → fitT n k
theorem fit_of : ∀ (n : Nat) (x : Tr), szT n x ≤ 1000000000000 → fitT n x
  | 0, _, _ => trivial
  | n + 1, .mk d m t ns ks, h => by
    simp only [szT] at h
    refine ⟨by omega, by omega, fun k hk => fit_of n k ?_⟩
    have := sumBy_mem (f := szT n) hk
    omega

end
end Go.Proofs.YtkbhjejalkbogaaGreat

/- Trees: when one is sound. -/
set_option linter.unusedVariables false
set_option linter.unusedSimpArgs false
namespace Go.Proofs.YtkbhjejalkbogaaGreat
open Go Go.Av

def prevLt (ns : List ByteArray) (j : Nat) (x : ByteArray) : Bool :=
  match j with
  | 0 => true
  | i + 1 => match ns[i]? with
    | some y => strLt y x
    | none => true
noncomputable def nameAt (ns : List ByteArray) (j : Nat) (x : ByteArray) : Bool := nameOk x && prevLt ns j x
def namesP (ns : List ByteArray) : Prop := ∀ (j : Nat) (x : ByteArray), ns[j]? = some x → nameAt ns j x = true
open Classical in
noncomputable def plainB : Tr → Bool
  | .mk d m t ns ks => inB m 0 7 && (decide (ns.length = ks.length) && (if d = true then decide (namesP ns) && decide (t = ⟨#[]⟩) else decide (t.size ≤ 24) && decide (ns.length = 0)))
def allB {α : Type} (p : α → Bool) : List α → Bool
  | [] => true
  | a :: r => p a && allB p r
theorem allB_iff {α : Type} {p : α → Bool} {xs : List α} : allB p xs = true ↔ ∀ (j : Nat) (x : α), xs[j]? = some x → p x = true := by
  induction xs with
  | nil => simp [allB]
  | cons a r ih =>
    simp only [allB, Bool.and_eq_true, ih]
    constructor
    · rintro ⟨h1, h2⟩ j x hj
      cases j with
      | zero => simp at hj; subst hj; exact h1
      | succ j => exact h2 j x (by simpa using hj)
    · intro h
      exact ⟨h 0 a rfl, fun j x hj => h (j + 1) x (by simpa using hj)⟩
theorem allB_bad {α : Type} {p : α → Bool} {xs : List α} {j : Nat} {x : α} (hj : xs[j]? = some x) (h : p x = false) : allB p xs = false := by
  cases hc : allB p xs with
  | false => rfl
  | true => have := allB_iff.1 hc j x hj; rw [h] at this; cases this
noncomputable def soundB : Nat → Tr → Int → Bool
  | 0, _, _ => false
  | n + 1, .mk d m t ns ks, k => plainB (.mk d m t ns ks) && (decide (k ≤ 4) && allB (fun x => soundB n x (k + 1)) ks)

section
variable {w0 : World} {σ : Vw}

theorem pBin_sge {P : Program} {T : Nat} {a b : ByteArray} {K : Value → Prop} : pBin P T .geq (.string a) (.string b) K ↔ K (.bool (!strLt a b)) := pBin_s rfl

theorem spec_Plain {n : Nat} {es : List Value} {x : Tr} {R : Value → Vw → Prop} (h : RT n (Av.get w0 σ) es x) (hR : R (.bool (plainB x)) σ) : AC Tryz.prog w0 n_spec_l1Plain [.agg ⟨es⟩] σ R := by
  obtain _ | n := n
  · exact h.elim
  obtain ⟨d, m, t, ns, ks⟩ := x
  obtain ⟨u, w, rfl, h2, h3, h4, h5⟩ := h
  refine ac_spec_l1Plain ?_
  unfold vc_spec_l1Plain
  have hl := h4.le
  rw [pVal_5 rfl rfl rfl h4.one h5.one]
  simp only [cellOf_agg, List.getD_cons_zero, List.getD_cons_succ]
  refine spec_In ?_
  rw [pUn_not, pIf_b]
  refine ⟨fun hb => ?_, fun hm => ?_⟩
  · have : plainB (.mk d m t ns ks) = false := by simp at hb; simp [plainB, hb]
    rw [this] at hR; exact hR
  have hm' : inB m 0 7 = true := by simpa using hm
  rw [h4.len, h5.len, pBin_ne, pIf_d]
  refine ⟨fun hne => ?_, fun heq => ?_⟩
  · have : plainB (.mk d m t ns ks) = false := by
      have : ¬ ns.length = ks.length := by omega
      simp [plainB, this]
    rw [this] at hR; exact hR
  have heq' : ns.length = ks.length := by omega
  rw [pUn_not, pIf_b]
  refine ⟨fun hd => ?_, fun hd => ?_⟩
  · have hd' : d = false := by simpa using hd
    subst hd'
    have hp : plainB (.mk false m t ns ks) = (decide (t.size ≤ 24) && decide (ns.length = 0)) := by simp [plainB, hm', heq']
    rw [hp] at hR
    rw [pLenS_s, pBin_le, pIf_d]
    refine ⟨fun ht => ?_, fun ht => ?_⟩
    · rw [h4.len, pBin_eq]
      have e1 : decide (t.size ≤ 24) = true := by simp; omega
      have e2 : decide (ns.length = 0) = decide ((ns.length : Int) = 0) := by congr 1; apply propext; omega
      rw [e1, e2] at hR; exact hR
    · have e1 : decide (t.size ≤ 24) = false := by simp; omega
      rw [e1] at hR; exact hR
  · have hd' : d = true := by simpa using hd
    subst hd'
    have hp : ∀ b, b = plainB (.mk true m t ns ks) → R (.bool b) σ := fun b e => e ▸ hR
    refine loop_rule (m := ns.length) (fun k l s => ∃ j, s = σ ∧ k + j = ns.length ∧ (∀ (i : Nat) (x : ByteArray), i < j → ns[i]? = some x → nameAt ns i x = true) ∧ l = [.bool false, .int .i64 (j : Nat), .bool true, .int .i64 m, .string t, u, w]) ?_ ⟨0, rfl, by omega, fun i x h => by omega, rfl⟩
    rintro k l s L ⟨j, rfl, hk, ht, rfl⟩ hL
    simp only [vget, List.getD_cons_zero, List.getD_cons_succ]
    rw [h4.len, pBin_lt, pIf_d]
    refine ⟨fun hj => ?_, fun hj => ?_⟩
    · have hx := List.getElem?_eq_getElem (show j < ns.length by omega)
      generalize hxj : ns[j] = x at hx
      have bad : nameAt ns j x = false → R (.bool false) s := fun hb => hp false (by
        have : ¬ namesP ns := fun hh => by rw [hh j x hx] at hb; cases hb
        simp [plainB, this])
      have next : nameAt ns j x = true → L [.bool false, .int .i64 ((j : Int) + 1), .bool true, .int .i64 m, .string t, u, w] s := fun hg => hL _ _ (k - 1) (by omega) ⟨j + 1, rfl, by omega, fun i y hi he => by
        by_cases e : i = j
        · subst e; rw [hx] at he; cases he; exact hg
        · exact ht i y (by omega) he, rfl⟩
      refine RSl.at1 h4 hx fun g hg hs => ?_
      rw [hg]
      refine spec_nameOk hs ?_
      rw [pUn_not, pIf_b]
      refine ⟨fun hb => bad (by simp at hb; simp [nameAt, hb]), fun hg => ?_⟩
      have hg' : nameOk x = true := by simpa using hg
      rw [pBin_gt, pIf_d]
      refine ⟨fun hpos => ?_, fun h0 => ?_⟩
      · obtain ⟨i, rfl⟩ : ∃ i, j = i + 1 := ⟨j - 1, by omega⟩
        rw [pBin_sub (by omega)]
        have hy := List.getElem?_eq_getElem (show i < ns.length by omega)
        generalize hyi : ns[i] = y at hy
        rw [show ((i + 1 : Nat) : Int) - 1 = (i : Nat) by omega]
        refine RSl.at1 h4 hy fun g2 hg2 hs2 => ?_
        refine RSl.at1 h4 hx fun g3 hg3 hs3 => ?_
        have hpl : prevLt ns (i + 1) x = strLt y x := by simp [prevLt, hy]
        rw [hg2, hg3, pBin_sge, pIf_b]
        refine ⟨fun hb => bad (by simp at hb; simp [nameAt, hpl, hb]), fun hb => ?_⟩
        rw [pBin_add (by omega)]
        exact next (by simp at hb; simp [nameAt, hg', hpl, hb])
      · have : j = 0 := by omega
        subst this
        rw [pBin_add (by omega)]
        exact next (by simp [nameAt, hg', prevLt])
    · have hj' : j = ns.length := by omega
      subst hj'
      show pBin Tryz.prog 9 .eql (.string t) (.string ⟨#[]⟩) _
      rw [pBin_seq]
      refine hp _ ?_
      have : namesP ns := fun i x he => ht i x (List.getElem?_eq_some_iff.1 he).1 he
      simp [plainB, hm', heq', this]
end
end Go.Proofs.YtkbhjejalkbogaaGreat
