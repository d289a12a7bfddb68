/- The law FnDiffNone holds: it returns true, and the input reads as it did. No condition. This is part 3 of 5 of its proof. -/
import Derived.Test.YtkbhjejalkbogaaXFnDiffNone2

/- What each function owes, reckoned out, part 3. MADE BY PROGRAM (emit.py). -/
set_option linter.unusedVariables false
namespace Go.Proofs.Ytkbhjejalkbogaa
open Go Go.Av

/-- impl.either -/
def kp_impl_either : Nat → Keep
  | 1 => ⟨[], [], [], .step 1 (.step 2 (.step 3 (.step 4 (.step 6 (.step 7 (.step 8 (.step 9 (.step 0 (.step 5 (.step 10 (.step 11 (.done)))))))))))), [(2, [1]), (3, [1, 2]), (4, [1, 2, 3]), (5, [0, 1, 2, 3, 4]), (7, [6]), (8, [6, 7]), (9, [6, 7, 8]), (10, [0, 1, 2, 3, 4, 5, 6, 7, 8, 9]), (11, [0, 1, 2, 3, 4, 5, 6, 7, 8, 9, 10])]⟩
  | _ => ⟨[], [], [], .done, []⟩
def esc_impl_either : Nat → Bool
  | 6 => true
  | _ => false
def vc_impl_either (w0 : World) (a0 a1 : Value) (σ : Vw) (R : Value → Vw → Prop) : Prop :=
  pNil a0 (pField 3 a0 (fun v0 => pLoad w0 1 v0 σ (fun g1 => pNil a1 (pField 3 a1 (fun v2 => pLoad w0 1 v2 σ (fun g3 => pNew w0 9 [] σ (fun n4 s5 => (Stay w0 σ s5 v2 1) ∧ ((Stay w0 σ s5 v0 1) ∧ (pAppendS w0 9 1 16 (Value.slice (Option.some (Addr.mk n4 0 Option.none)) 0 0) (g1 0) s5 (fun v6 s7 => (Stay w0 s5 s7 v2 1) ∧ (pAppendS w0 9 1 16 v6 (g3 0) s7 (fun v8 s9 => AC Try.prog w0 n_slices_Sort_string_string [v8] s9 (fun v10 s11 => AC Try.prog w0 n_slices_Compact_string_string [v8] s11 (fun v12 s13 => R v12 s13))))))))))))))
theorem vc_impl_either_eq (w0 : World) (a0 a1 : Value) (σ : Vw) (R : Value → Vw → Prop) : vc_impl_either w0 a0 a1 σ R = den Try.prog w0 kp_impl_either esc_impl_either (Try.f82.body.getD .skip) (entry Try.f82.ntmps [a0, a1]) σ (retK Try.prog Try.f82.results.toList R) := by kernel_rfl
theorem ac_impl_either {w0 : World} {a0 a1 : Value} {σ : Vw} {R : Value → Vw → Prop} (h : vc_impl_either w0 a0 a1 σ R) : AC Try.prog w0 n_impl_either [a0, a1] σ R := by
  refine ac_rule (fn := Try.f82) (c := Try.f82.body.getD .skip) kp_impl_either esc_impl_either Try.func82 (by kernel_rfl) (by kernel_rfl) ?_
  rw [← vc_impl_either_eq]
  exact h

/-- spec.l3Path -/
def kp_spec_l3Path : Nat → Keep
  | _ => ⟨[], [], [], .done, []⟩
def esc_spec_l3Path : Nat → Bool
  | 5 => true
  | _ => false
def vc_spec_l3Path (w0 : World) (a0 a1 : Value) (σ : Vw) (R : Value → Vw → Prop) : Prop :=
  pNew w0 9 [] σ (fun n0 s1 => pAppendS w0 9 1 16 (Value.slice (Option.some (Addr.mk n0 0 Option.none)) 0 0) a0 s1 (fun v2 s3 => pVal false 1 a1 ((allOne [a1]) ∧ (pAppend w0 9 1 16 v2 1 [a1] s3 (fun v4 s5 => R v4 s5)))))
theorem vc_spec_l3Path_eq (w0 : World) (a0 a1 : Value) (σ : Vw) (R : Value → Vw → Prop) : vc_spec_l3Path w0 a0 a1 σ R = den Try.prog w0 kp_spec_l3Path esc_spec_l3Path (Try.f84.body.getD .skip) (entry Try.f84.ntmps [a0, a1]) σ (retK Try.prog Try.f84.results.toList R) := by kernel_rfl
theorem ac_spec_l3Path {w0 : World} {a0 a1 : Value} {σ : Vw} {R : Value → Vw → Prop} (h : vc_spec_l3Path w0 a0 a1 σ R) : AC Try.prog w0 n_spec_l3Path [a0, a1] σ R := by
  refine ac_rule (fn := Try.f84) (c := Try.f84.body.getD .skip) kp_spec_l3Path esc_spec_l3Path Try.func84 (by kernel_rfl) (by kernel_rfl) ?_
  rw [← vc_spec_l3Path_eq]
  exact h

/-- impl.below -/
def kp_impl_below : Nat → Keep
  | _ => ⟨[], [], [], .done, []⟩
def esc_impl_below : Nat → Bool
  | 5 => true
  | _ => false
def vc_impl_below (w0 : World) (a0 a1 : Value) (σ : Vw) (R : Value → Vw → Prop) : Prop :=
  pNew w0 9 [] σ (fun n0 s1 => pAppendS w0 9 1 16 (Value.slice (Option.some (Addr.mk n0 0 Option.none)) 0 0) a0 s1 (fun v2 s3 => pVal false 1 a1 ((allOne [a1]) ∧ (pAppend w0 9 1 16 v2 1 [a1] s3 (fun v4 s5 => R v4 s5)))))
theorem vc_impl_below_eq (w0 : World) (a0 a1 : Value) (σ : Vw) (R : Value → Vw → Prop) : vc_impl_below w0 a0 a1 σ R = den Try.prog w0 kp_impl_below esc_impl_below (Try.f86.body.getD .skip) (entry Try.f86.ntmps [a0, a1]) σ (retK Try.prog Try.f86.results.toList R) := by kernel_rfl
theorem ac_impl_below {w0 : World} {a0 a1 : Value} {σ : Vw} {R : Value → Vw → Prop} (h : vc_impl_below w0 a0 a1 σ R) : AC Try.prog w0 n_impl_below [a0, a1] σ R := by
  refine ac_rule (fn := Try.f86) (c := Try.f86.body.getD .skip) kp_impl_below esc_impl_below Try.func86 (by kernel_rfl) (by kernel_rfl) ?_
  rw [← vc_impl_below_eq]
  exact h

/-- spec.TreeDo -/
def kp_spec_TreeDo : Nat → Keep
  | _ => ⟨[], [], [], .done, []⟩
def esc_spec_TreeDo : Nat → Bool
  | _ => false
def vc_spec_TreeDo (w0 : World) (a0 a1 : Value) (σ : Vw) (R : Value → Vw → Prop) : Prop :=
  pVal true 5 a0 (pVal true 5 a1 (AC Try.prog w0 n_spec_TreeOk ([Value.agg (⟨[cellOf a0 0, cellOf a0 1, cellOf a0 2, cellOf a0 3, cellOf a0 4]⟩)]) σ (fun v0 s1 => pUn UnOp.not v0 (fun v2 => pIf v2 (pVal true 5 (Value.agg (⟨[Value.bool false, Value.int IntKind.i64 0, Value.string ({ data := #[] }), Value.slice Option.none 0 0, Value.slice Option.none 0 0]⟩)) (R (Value.tuple (⟨[Value.agg (⟨[Value.bool false, Value.int IntKind.i64 0, Value.string ({ data := #[] }), Value.slice Option.none 0 0, Value.slice Option.none 0 0]⟩), Value.int IntKind.i64 1]⟩)) s1)) (AC Try.prog w0 n_spec_l2CallOk ([Value.agg (⟨[cellOf a1 0, cellOf a1 1, cellOf a1 2, cellOf a1 3, cellOf a1 4]⟩)]) s1 (fun v3 s4 => pUn UnOp.not v3 (fun v5 => pIf v5 (AC Try.prog w0 n_spec_l1Copy ([Value.agg (⟨[cellOf a0 0, cellOf a0 1, cellOf a0 2, cellOf a0 3, cellOf a0 4]⟩)]) s4 (fun v6 s7 => pVal true 5 v6 (R (Value.tuple (⟨[Value.agg (⟨[cellOf v6 0, cellOf v6 1, cellOf v6 2, cellOf v6 3, cellOf v6 4]⟩), Value.int IntKind.i64 2]⟩)) s7))) (AC Try.prog w0 n_spec_l2Do ([Value.agg (⟨[cellOf a0 0, cellOf a0 1, cellOf a0 2, cellOf a0 3, cellOf a0 4]⟩), Value.agg (⟨[cellOf a1 0, cellOf a1 1, cellOf a1 2, cellOf a1 3, cellOf a1 4]⟩)]) s4 (fun v8 s9 => pExtract v8 0 (fun v10 => pExtract v8 1 (fun v11 => pVal true 5 v10 (AC Try.prog w0 n_spec_l1Copy ([Value.agg (⟨[cellOf v10 0, cellOf v10 1, cellOf v10 2, cellOf v10 3, cellOf v10 4]⟩)]) s9 (fun v12 s13 => pVal true 5 v12 (R (Value.tuple (⟨[Value.agg (⟨[cellOf v12 0, cellOf v12 1, cellOf v12 2, cellOf v12 3, cellOf v12 4]⟩), v11]⟩)) s13))))))))))))))
theorem vc_spec_TreeDo_eq (w0 : World) (a0 a1 : Value) (σ : Vw) (R : Value → Vw → Prop) : vc_spec_TreeDo w0 a0 a1 σ R = den Try.prog w0 kp_spec_TreeDo esc_spec_TreeDo (Try.f87.body.getD .skip) (entry Try.f87.ntmps [a0, a1]) σ (retK Try.prog Try.f87.results.toList R) := by kernel_rfl
theorem ac_spec_TreeDo {w0 : World} {a0 a1 : Value} {σ : Vw} {R : Value → Vw → Prop} (h : vc_spec_TreeDo w0 a0 a1 σ R) : AC Try.prog w0 n_spec_TreeDo [a0, a1] σ R := by
  refine ac_rule (fn := Try.f87) (c := Try.f87.body.getD .skip) kp_spec_TreeDo esc_spec_TreeDo Try.func87 (by kernel_rfl) (by kernel_rfl) ?_
  rw [← vc_spec_TreeDo_eq]
  exact h

/-- spec.l4Call -/
def kp_spec_l4Call : Nat → Keep
  | 1 => ⟨[], [], [], .step 0 (.step 3 (.step 4 (.step 7 (.step 1 (.step 2 (.step 5 (.step 6 (.step 8 (.done))))))))), [(1, [0]), (2, [0, 1]), (5, [0, 1, 3, 4]), (6, [0, 1, 2, 3, 4, 5]), (8, [0, 1, 2, 3, 4, 5, 6, 7])]⟩
  | _ => ⟨[], [], [], .done, []⟩
def esc_spec_l4Call : Nat → Bool
  | 45 => true
  | 63 => true
  | 71 => true
  | 75 => true
  | 80 => true
  | 87 => true
  | _ => false
def vc_spec_l4Call (w0 : World) (a0 a1 : Value) (σ : Vw) (R : Value → Vw → Prop) : Prop :=
  pVal true 5 a1 (AC Try.prog w0 n_p_spec_l1Rd_pick [a0, Value.int IntKind.i64 6] σ (fun v0 s1 => pBin Try.prog 3 BinOp.add (Value.int IntKind.i64 1) v0 (fun v2 => AC Try.prog w0 n_spec_l4Path ([a0, Value.agg (⟨[cellOf a1 0, cellOf a1 1, cellOf a1 2, cellOf a1 3, cellOf a1 4]⟩)]) s1 (fun v3 s4 => pVal false 1 v2 (pVal false 1 v3 (pVal true 5 (Value.agg (⟨[v2, v3, Value.slice Option.none 0 0, Value.int IntKind.i64 0, Value.string ({ data := #[] })]⟩)) (pBin Try.prog 3 BinOp.eql v2 (Value.int IntKind.i64 1) (fun v5 => pIf v5 (pIf v5 (AC Try.prog w0 n_p_spec_l1Rd_pick [a0, Value.int IntKind.i64 8] s4 (fun v6 s7 => pVal false 1 v6 (AC Try.prog w0 n_p_spec_l1Rd_pick [a0, Value.int IntKind.i64 40] s7 (fun v8 s9 => pBin Try.prog 3 BinOp.eql v8 (Value.int IntKind.i64 0) (fun v10 => pIf v10 (pVal false 1 (Value.int IntKind.i64 0) (pVal false 1 (Value.int IntKind.i64 7) (pVal false 1 (Value.int IntKind.i64 (-1)) (pNew w0 3 [Value.int IntKind.i64 0, Value.int IntKind.i64 7, Value.int IntKind.i64 (-1)] s9 (fun n11 s12 => AC Try.prog w0 n_p_spec_l1Rd_pick [a0, Value.int IntKind.i64 3] s12 (fun v13 s14 => pIndexAddr 1 (Value.slice (Option.some (Addr.mk n11 0 Option.none)) 3 3) v13 (fun v15 => pLoad w0 1 v15 s14 (fun g16 => pVal false 1 (g16 0) (pVal true 5 (Value.agg (⟨[g16 0, v3, Value.slice Option.none 0 0, v6, Value.string ({ data := #[] })]⟩)) (R (Value.agg (⟨[g16 0, v3, Value.slice Option.none 0 0, v6, Value.string ({ data := #[] })]⟩)) s14)))))))))) (pBin Try.prog 3 BinOp.eql v8 (Value.int IntKind.i64 1) (fun v17 => pIf v17 (pNew w0 9 [] s9 (fun n18 s19 => pVal false 1 (Value.slice (Option.some (Addr.mk n18 0 Option.none)) 0 0) (pVal true 5 (Value.agg (⟨[v2, Value.slice (Option.some (Addr.mk n18 0 Option.none)) 0 0, Value.slice Option.none 0 0, v6, Value.string ({ data := #[] })]⟩)) (R (Value.agg (⟨[v2, Value.slice (Option.some (Addr.mk n18 0 Option.none)) 0 0, Value.slice Option.none 0 0, v6, Value.string ({ data := #[] })]⟩)) s19)))) (pBin Try.prog 3 BinOp.eql v8 (Value.int IntKind.i64 2) (fun v20 => pIf v20 (pNew w0 9 [] s9 (fun n21 s22 => pAppendS w0 9 1 16 (Value.slice (Option.some (Addr.mk n21 0 Option.none)) 0 0) v3 s22 (fun v23 s24 => pVal false 1 (Value.string ({ data := #[] })) (pVal false 1 (Value.string ({ data := #[65] })) (pVal false 1 (Value.string ({ data := #[116, 111, 111, 108, 111, 110, 103] })) (pVal false 1 (Value.string ({ data := #[120] })) (pVal false 1 (Value.string ({ data := #[121] })) (pNew w0 9 ([Value.string ({ data := #[] }), Value.string ({ data := #[65] }), Value.string ({ data := #[116, 111, 111, 108, 111, 110, 103] }), Value.string ({ data := #[120] }), Value.string ({ data := #[121] })]) s24 (fun n25 s26 => AC Try.prog w0 n_p_spec_l1Rd_of [a0, Value.slice (Option.some (Addr.mk n25 0 Option.none)) 5 5] s26 (fun v27 s28 => pVal false 1 v27 ((allOne [v27]) ∧ (pAppend w0 9 1 16 v23 1 [v27] s28 (fun v29 s30 => pVal false 1 v29 (pVal true 5 (Value.agg (⟨[v2, v29, Value.slice Option.none 0 0, v6, Value.string ({ data := #[] })]⟩)) (R (Value.agg (⟨[v2, v29, Value.slice Option.none 0 0, v6, Value.string ({ data := #[] })]⟩)) s30))))))))))))))) (pBin Try.prog 3 BinOp.eql v8 (Value.int IntKind.i64 3) (fun v31 => pIf v31 (pVal false 1 (Value.int IntKind.i64 (-1)) (pVal false 1 (Value.int IntKind.i64 8) (pVal false 1 (Value.int IntKind.i64 24) (pVal false 1 (Value.int IntKind.i64 25) (pNew w0 3 [Value.int IntKind.i64 (-1), Value.int IntKind.i64 8, Value.int IntKind.i64 24, Value.int IntKind.i64 25] s9 (fun n32 s33 => AC Try.prog w0 n_p_spec_l1Rd_pick [a0, Value.int IntKind.i64 4] s33 (fun v34 s35 => pIndexAddr 1 (Value.slice (Option.some (Addr.mk n32 0 Option.none)) 4 4) v34 (fun v36 => pLoad w0 1 v36 s35 (fun g37 => pVal false 1 (g37 0) (pVal true 5 (Value.agg (⟨[v2, v3, Value.slice Option.none 0 0, g37 0, Value.string ({ data := #[] })]⟩)) (R (Value.agg (⟨[v2, v3, Value.slice Option.none 0 0, g37 0, Value.string ({ data := #[] })]⟩)) s35))))))))))) (pBin Try.prog 3 BinOp.eql v8 (Value.int IntKind.i64 4) (fun v38 => pIf v38 (AC Try.prog w0 n_p_spec_l1Rd_pick [a0, Value.int IntKind.i64 2] s9 (fun v39 s40 => pBin Try.prog 3 BinOp.add (Value.int IntKind.i64 24) v39 (fun v41 => AC Try.prog w0 n_spec_l1Many ([Value.string ({ data := #[113] }), v41]) s40 (fun v42 s43 => pVal false 1 v42 (pVal true 5 (Value.agg (⟨[v2, v3, Value.slice Option.none 0 0, v6, v42]⟩)) (R (Value.agg (⟨[v2, v3, Value.slice Option.none 0 0, v6, v42]⟩)) s43)))))) (pVal true 5 (Value.agg (⟨[v2, v3, Value.slice Option.none 0 0, v6, Value.string ({ data := #[] })]⟩)) (R (Value.agg (⟨[v2, v3, Value.slice Option.none 0 0, v6, Value.string ({ data := #[] })]⟩)) s9))))))))))))))) (pBin Try.prog 3 BinOp.eql v2 (Value.int IntKind.i64 2) (fun v44 => pIf v44 (pIf v44 (AC Try.prog w0 n_p_spec_l1Rd_pick [a0, Value.int IntKind.i64 4] s4 (fun v45 s46 => AC Try.prog w0 n_p_spec_l1Rd_pick [a0, Value.int IntKind.i64 4] s46 (fun v47 s48 => pBin Try.prog 3 BinOp.mul v45 v47 (fun v49 => pVal false 1 v49 (pBin Try.prog 3 BinOp.eql v2 (Value.int IntKind.i64 2) (fun v50 => pIf v50 (AC Try.prog w0 n_spec_l4Data [a0] s48 (fun v51 s52 => pVal false 1 v51 (AC Try.prog w0 n_p_spec_l1Rd_pick [a0, Value.int IntKind.i64 40] s52 (fun v53 s54 => pBin Try.prog 3 BinOp.eql v53 (Value.int IntKind.i64 0) (fun v55 => pIf v55 (pVal false 1 (Value.int IntKind.i64 0) (pVal false 1 (Value.int IntKind.i64 7) (pVal false 1 (Value.int IntKind.i64 (-1)) (pNew w0 3 [Value.int IntKind.i64 0, Value.int IntKind.i64 7, Value.int IntKind.i64 (-1)] s54 (fun n56 s57 => AC Try.prog w0 n_p_spec_l1Rd_pick [a0, Value.int IntKind.i64 3] s57 (fun v58 s59 => pIndexAddr 1 (Value.slice (Option.some (Addr.mk n56 0 Option.none)) 3 3) v58 (fun v60 => pLoad w0 1 v60 s59 (fun g61 => pVal false 1 (g61 0) (pVal true 5 (Value.agg (⟨[g61 0, v3, Value.slice Option.none 0 0, v49, v51]⟩)) (R (Value.agg (⟨[g61 0, v3, Value.slice Option.none 0 0, v49, v51]⟩)) s59)))))))))) (pBin Try.prog 3 BinOp.eql v53 (Value.int IntKind.i64 1) (fun v62 => pIf v62 (pNew w0 9 [] s54 (fun n63 s64 => pVal false 1 (Value.slice (Option.some (Addr.mk n63 0 Option.none)) 0 0) (pVal true 5 (Value.agg (⟨[v2, Value.slice (Option.some (Addr.mk n63 0 Option.none)) 0 0, Value.slice Option.none 0 0, v49, v51]⟩)) (R (Value.agg (⟨[v2, Value.slice (Option.some (Addr.mk n63 0 Option.none)) 0 0, Value.slice Option.none 0 0, v49, v51]⟩)) s64)))) (pBin Try.prog 3 BinOp.eql v53 (Value.int IntKind.i64 2) (fun v65 => pIf v65 (pNew w0 9 [] s54 (fun n66 s67 => pAppendS w0 9 1 16 (Value.slice (Option.some (Addr.mk n66 0 Option.none)) 0 0) v3 s67 (fun v68 s69 => pVal false 1 (Value.string ({ data := #[] })) (pVal false 1 (Value.string ({ data := #[65] })) (pVal false 1 (Value.string ({ data := #[116, 111, 111, 108, 111, 110, 103] })) (pVal false 1 (Value.string ({ data := #[120] })) (pVal false 1 (Value.string ({ data := #[121] })) (pNew w0 9 ([Value.string ({ data := #[] }), Value.string ({ data := #[65] }), Value.string ({ data := #[116, 111, 111, 108, 111, 110, 103] }), Value.string ({ data := #[120] }), Value.string ({ data := #[121] })]) s69 (fun n70 s71 => AC Try.prog w0 n_p_spec_l1Rd_of [a0, Value.slice (Option.some (Addr.mk n70 0 Option.none)) 5 5] s71 (fun v72 s73 => pVal false 1 v72 ((allOne [v72]) ∧ (pAppend w0 9 1 16 v68 1 [v72] s73 (fun v74 s75 => pVal false 1 v74 (pVal true 5 (Value.agg (⟨[v2, v74, Value.slice Option.none 0 0, v49, v51]⟩)) (R (Value.agg (⟨[v2, v74, Value.slice Option.none 0 0, v49, v51]⟩)) s75))))))))))))))) (pBin Try.prog 3 BinOp.eql v53 (Value.int IntKind.i64 3) (fun v76 => pIf v76 (pVal false 1 (Value.int IntKind.i64 (-1)) (pVal false 1 (Value.int IntKind.i64 8) (pVal false 1 (Value.int IntKind.i64 24) (pVal false 1 (Value.int IntKind.i64 25) (pNew w0 3 [Value.int IntKind.i64 (-1), Value.int IntKind.i64 8, Value.int IntKind.i64 24, Value.int IntKind.i64 25] s54 (fun n77 s78 => AC Try.prog w0 n_p_spec_l1Rd_pick [a0, Value.int IntKind.i64 4] s78 (fun v79 s80 => pIndexAddr 1 (Value.slice (Option.some (Addr.mk n77 0 Option.none)) 4 4) v79 (fun v81 => pLoad w0 1 v81 s80 (fun g82 => pVal false 1 (g82 0) (pVal true 5 (Value.agg (⟨[v2, v3, Value.slice Option.none 0 0, g82 0, v51]⟩)) (R (Value.agg (⟨[v2, v3, Value.slice Option.none 0 0, g82 0, v51]⟩)) s80))))))))))) (pBin Try.prog 3 BinOp.eql v53 (Value.int IntKind.i64 4) (fun v83 => pIf v83 (AC Try.prog w0 n_p_spec_l1Rd_pick [a0, Value.int IntKind.i64 2] s54 (fun v84 s85 => pBin Try.prog 3 BinOp.add (Value.int IntKind.i64 24) v84 (fun v86 => AC Try.prog w0 n_spec_l1Many ([Value.string ({ data := #[113] }), v86]) s85 (fun v87 s88 => pVal false 1 v87 (pVal true 5 (Value.agg (⟨[v2, v3, Value.slice Option.none 0 0, v49, v87]⟩)) (R (Value.agg (⟨[v2, v3, Value.slice Option.none 0 0, v49, v87]⟩)) s88)))))) (pVal true 5 (Value.agg (⟨[v2, v3, Value.slice Option.none 0 0, v49, v51]⟩)) (R (Value.agg (⟨[v2, v3, Value.slice Option.none 0 0, v49, v51]⟩)) s54))))))))))))))) (AC Try.prog w0 n_p_spec_l1Rd_pick [a0, Value.int IntKind.i64 40] s48 (fun v89 s90 => pBin Try.prog 3 BinOp.eql v89 (Value.int IntKind.i64 0) (fun v91 => pIf v91 (pVal false 1 (Value.int IntKind.i64 0) (pVal false 1 (Value.int IntKind.i64 7) (pVal false 1 (Value.int IntKind.i64 (-1)) (pNew w0 3 [Value.int IntKind.i64 0, Value.int IntKind.i64 7, Value.int IntKind.i64 (-1)] s90 (fun n92 s93 => AC Try.prog w0 n_p_spec_l1Rd_pick [a0, Value.int IntKind.i64 3] s93 (fun v94 s95 => pIndexAddr 1 (Value.slice (Option.some (Addr.mk n92 0 Option.none)) 3 3) v94 (fun v96 => pLoad w0 1 v96 s95 (fun g97 => pVal false 1 (g97 0) (pVal true 5 (Value.agg (⟨[g97 0, v3, Value.slice Option.none 0 0, v49, Value.string ({ data := #[] })]⟩)) (R (Value.agg (⟨[g97 0, v3, Value.slice Option.none 0 0, v49, Value.string ({ data := #[] })]⟩)) s95)))))))))) (pBin Try.prog 3 BinOp.eql v89 (Value.int IntKind.i64 1) (fun v98 => pIf v98 (pNew w0 9 [] s90 (fun n99 s100 => pVal false 1 (Value.slice (Option.some (Addr.mk n99 0 Option.none)) 0 0) (pVal true 5 (Value.agg (⟨[v2, Value.slice (Option.some (Addr.mk n99 0 Option.none)) 0 0, Value.slice Option.none 0 0, v49, Value.string ({ data := #[] })]⟩)) (R (Value.agg (⟨[v2, Value.slice (Option.some (Addr.mk n99 0 Option.none)) 0 0, Value.slice Option.none 0 0, v49, Value.string ({ data := #[] })]⟩)) s100)))) (pBin Try.prog 3 BinOp.eql v89 (Value.int IntKind.i64 2) (fun v101 => pIf v101 (pNew w0 9 [] s90 (fun n102 s103 => pAppendS w0 9 1 16 (Value.slice (Option.some (Addr.mk n102 0 Option.none)) 0 0) v3 s103 (fun v104 s105 => pVal false 1 (Value.string ({ data := #[] })) (pVal false 1 (Value.string ({ data := #[65] })) (pVal false 1 (Value.string ({ data := #[116, 111, 111, 108, 111, 110, 103] })) (pVal false 1 (Value.string ({ data := #[120] })) (pVal false 1 (Value.string ({ data := #[121] })) (pNew w0 9 ([Value.string ({ data := #[] }), Value.string ({ data := #[65] }), Value.string ({ data := #[116, 111, 111, 108, 111, 110, 103] }), Value.string ({ data := #[120] }), Value.string ({ data := #[121] })]) s105 (fun n106 s107 => AC Try.prog w0 n_p_spec_l1Rd_of [a0, Value.slice (Option.some (Addr.mk n106 0 Option.none)) 5 5] s107 (fun v108 s109 => pVal false 1 v108 ((allOne [v108]) ∧ (pAppend w0 9 1 16 v104 1 [v108] s109 (fun v110 s111 => pVal false 1 v110 (pVal true 5 (Value.agg (⟨[v2, v110, Value.slice Option.none 0 0, v49, Value.string ({ data := #[] })]⟩)) (R (Value.agg (⟨[v2, v110, Value.slice Option.none 0 0, v49, Value.string ({ data := #[] })]⟩)) s111))))))))))))))) (pBin Try.prog 3 BinOp.eql v89 (Value.int IntKind.i64 3) (fun v112 => pIf v112 (pVal false 1 (Value.int IntKind.i64 (-1)) (pVal false 1 (Value.int IntKind.i64 8) (pVal false 1 (Value.int IntKind.i64 24) (pVal false 1 (Value.int IntKind.i64 25) (pNew w0 3 [Value.int IntKind.i64 (-1), Value.int IntKind.i64 8, Value.int IntKind.i64 24, Value.int IntKind.i64 25] s90 (fun n113 s114 => AC Try.prog w0 n_p_spec_l1Rd_pick [a0, Value.int IntKind.i64 4] s114 (fun v115 s116 => pIndexAddr 1 (Value.slice (Option.some (Addr.mk n113 0 Option.none)) 4 4) v115 (fun v117 => pLoad w0 1 v117 s116 (fun g118 => pVal false 1 (g118 0) (pVal true 5 (Value.agg (⟨[v2, v3, Value.slice Option.none 0 0, g118 0, Value.string ({ data := #[] })]⟩)) (R (Value.agg (⟨[v2, v3, Value.slice Option.none 0 0, g118 0, Value.string ({ data := #[] })]⟩)) s116))))))))))) (pBin Try.prog 3 BinOp.eql v89 (Value.int IntKind.i64 4) (fun v119 => pIf v119 (AC Try.prog w0 n_p_spec_l1Rd_pick [a0, Value.int IntKind.i64 2] s90 (fun v120 s121 => pBin Try.prog 3 BinOp.add (Value.int IntKind.i64 24) v120 (fun v122 => AC Try.prog w0 n_spec_l1Many ([Value.string ({ data := #[113] }), v122]) s121 (fun v123 s124 => pVal false 1 v123 (pVal true 5 (Value.agg (⟨[v2, v3, Value.slice Option.none 0 0, v49, v123]⟩)) (R (Value.agg (⟨[v2, v3, Value.slice Option.none 0 0, v49, v123]⟩)) s124)))))) (pVal true 5 (Value.agg (⟨[v2, v3, Value.slice Option.none 0 0, v49, Value.string ({ data := #[] })]⟩)) (R (Value.agg (⟨[v2, v3, Value.slice Option.none 0 0, v49, Value.string ({ data := #[] })]⟩)) s90))))))))))))))))))) (pBin Try.prog 3 BinOp.eql v2 (Value.int IntKind.i64 5) (fun v125 => pIf v125 (AC Try.prog w0 n_spec_l4Path ([a0, Value.agg (⟨[cellOf a1 0, cellOf a1 1, cellOf a1 2, cellOf a1 3, cellOf a1 4]⟩)]) s4 (fun v126 s127 => pVal false 1 v126 (AC Try.prog w0 n_p_spec_l1Rd_pick [a0, Value.int IntKind.i64 2] s127 (fun v128 s129 => pBin Try.prog 3 BinOp.eql v128 (Value.int IntKind.i64 0) (fun v130 => pIf v130 (pNew w0 9 [] s129 (fun n131 s132 => pLen v126 (fun v133 => pBin Try.prog 3 BinOp.sub v133 (Value.int IntKind.i64 1) (fun v134 => pSlice 1 v126 Option.none (Option.some v134) (fun v135 => pAppendS w0 9 1 16 (Value.slice (Option.some (Addr.mk n131 0 Option.none)) 0 0) v135 s132 (fun v136 s137 => AC Try.prog w0 n_spec_l4Name [a0] s137 (fun v138 s139 => pVal false 1 v138 ((allOne [v138]) ∧ (pAppend w0 9 1 16 v136 1 [v138] s139 (fun v140 s141 => pVal false 1 v140 (AC Try.prog w0 n_p_spec_l1Rd_pick [a0, Value.int IntKind.i64 40] s141 (fun v142 s143 => pBin Try.prog 3 BinOp.eql v142 (Value.int IntKind.i64 0) (fun v144 => pIf v144 (pVal false 1 (Value.int IntKind.i64 0) (pVal false 1 (Value.int IntKind.i64 7) (pVal false 1 (Value.int IntKind.i64 (-1)) (pNew w0 3 [Value.int IntKind.i64 0, Value.int IntKind.i64 7, Value.int IntKind.i64 (-1)] s143 (fun n145 s146 => AC Try.prog w0 n_p_spec_l1Rd_pick [a0, Value.int IntKind.i64 3] s146 (fun v147 s148 => pIndexAddr 1 (Value.slice (Option.some (Addr.mk n145 0 Option.none)) 3 3) v147 (fun v149 => pLoad w0 1 v149 s148 (fun g150 => pVal false 1 (g150 0) (pVal true 5 (Value.agg (⟨[g150 0, v3, v140, Value.int IntKind.i64 0, Value.string ({ data := #[] })]⟩)) (R (Value.agg (⟨[g150 0, v3, v140, Value.int IntKind.i64 0, Value.string ({ data := #[] })]⟩)) s148)))))))))) (pBin Try.prog 3 BinOp.eql v142 (Value.int IntKind.i64 1) (fun v151 => pIf v151 (pNew w0 9 [] s143 (fun n152 s153 => pVal false 1 (Value.slice (Option.some (Addr.mk n152 0 Option.none)) 0 0) (pVal true 5 (Value.agg (⟨[v2, Value.slice (Option.some (Addr.mk n152 0 Option.none)) 0 0, v140, Value.int IntKind.i64 0, Value.string ({ data := #[] })]⟩)) (R (Value.agg (⟨[v2, Value.slice (Option.some (Addr.mk n152 0 Option.none)) 0 0, v140, Value.int IntKind.i64 0, Value.string ({ data := #[] })]⟩)) s153)))) (pBin Try.prog 3 BinOp.eql v142 (Value.int IntKind.i64 2) (fun v154 => pIf v154 (pNew w0 9 [] s143 (fun n155 s156 => pAppendS w0 9 1 16 (Value.slice (Option.some (Addr.mk n155 0 Option.none)) 0 0) v3 s156 (fun v157 s158 => pVal false 1 (Value.string ({ data := #[] })) (pVal false 1 (Value.string ({ data := #[65] })) (pVal false 1 (Value.string ({ data := #[116, 111, 111, 108, 111, 110, 103] })) (pVal false 1 (Value.string ({ data := #[120] })) (pVal false 1 (Value.string ({ data := #[121] })) (pNew w0 9 ([Value.string ({ data := #[] }), Value.string ({ data := #[65] }), Value.string ({ data := #[116, 111, 111, 108, 111, 110, 103] }), Value.string ({ data := #[120] }), Value.string ({ data := #[121] })]) s158 (fun n159 s160 => AC Try.prog w0 n_p_spec_l1Rd_of [a0, Value.slice (Option.some (Addr.mk n159 0 Option.none)) 5 5] s160 (fun v161 s162 => pVal false 1 v161 ((allOne [v161]) ∧ (pAppend w0 9 1 16 v157 1 [v161] s162 (fun v163 s164 => pVal false 1 v163 (pVal true 5 (Value.agg (⟨[v2, v163, v140, Value.int IntKind.i64 0, Value.string ({ data := #[] })]⟩)) (R (Value.agg (⟨[v2, v163, v140, Value.int IntKind.i64 0, Value.string ({ data := #[] })]⟩)) s164))))))))))))))) (pBin Try.prog 3 BinOp.eql v142 (Value.int IntKind.i64 3) (fun v165 => pIf v165 (pVal false 1 (Value.int IntKind.i64 (-1)) (pVal false 1 (Value.int IntKind.i64 8) (pVal false 1 (Value.int IntKind.i64 24) (pVal false 1 (Value.int IntKind.i64 25) (pNew w0 3 [Value.int IntKind.i64 (-1), Value.int IntKind.i64 8, Value.int IntKind.i64 24, Value.int IntKind.i64 25] s143 (fun n166 s167 => AC Try.prog w0 n_p_spec_l1Rd_pick [a0, Value.int IntKind.i64 4] s167 (fun v168 s169 => pIndexAddr 1 (Value.slice (Option.some (Addr.mk n166 0 Option.none)) 4 4) v168 (fun v170 => pLoad w0 1 v170 s169 (fun g171 => pVal false 1 (g171 0) (pVal true 5 (Value.agg (⟨[v2, v3, v140, g171 0, Value.string ({ data := #[] })]⟩)) (R (Value.agg (⟨[v2, v3, v140, g171 0, Value.string ({ data := #[] })]⟩)) s169))))))))))) (pBin Try.prog 3 BinOp.eql v142 (Value.int IntKind.i64 4) (fun v172 => pIf v172 (AC Try.prog w0 n_p_spec_l1Rd_pick [a0, Value.int IntKind.i64 2] s143 (fun v173 s174 => pBin Try.prog 3 BinOp.add (Value.int IntKind.i64 24) v173 (fun v175 => AC Try.prog w0 n_spec_l1Many ([Value.string ({ data := #[113] }), v175]) s174 (fun v176 s177 => pVal false 1 v176 (pVal true 5 (Value.agg (⟨[v2, v3, v140, Value.int IntKind.i64 0, v176]⟩)) (R (Value.agg (⟨[v2, v3, v140, Value.int IntKind.i64 0, v176]⟩)) s177)))))) (pVal true 5 (Value.agg (⟨[v2, v3, v140, Value.int IntKind.i64 0, Value.string ({ data := #[] })]⟩)) (R (Value.agg (⟨[v2, v3, v140, Value.int IntKind.i64 0, Value.string ({ data := #[] })]⟩)) s143))))))))))))))))))))))) (AC Try.prog w0 n_p_spec_l1Rd_pick [a0, Value.int IntKind.i64 40] s129 (fun v178 s179 => pBin Try.prog 3 BinOp.eql v178 (Value.int IntKind.i64 0) (fun v180 => pIf v180 (pVal false 1 (Value.int IntKind.i64 0) (pVal false 1 (Value.int IntKind.i64 7) (pVal false 1 (Value.int IntKind.i64 (-1)) (pNew w0 3 [Value.int IntKind.i64 0, Value.int IntKind.i64 7, Value.int IntKind.i64 (-1)] s179 (fun n181 s182 => AC Try.prog w0 n_p_spec_l1Rd_pick [a0, Value.int IntKind.i64 3] s182 (fun v183 s184 => pIndexAddr 1 (Value.slice (Option.some (Addr.mk n181 0 Option.none)) 3 3) v183 (fun v185 => pLoad w0 1 v185 s184 (fun g186 => pVal false 1 (g186 0) (pVal true 5 (Value.agg (⟨[g186 0, v3, v126, Value.int IntKind.i64 0, Value.string ({ data := #[] })]⟩)) (R (Value.agg (⟨[g186 0, v3, v126, Value.int IntKind.i64 0, Value.string ({ data := #[] })]⟩)) s184)))))))))) (pBin Try.prog 3 BinOp.eql v178 (Value.int IntKind.i64 1) (fun v187 => pIf v187 (pNew w0 9 [] s179 (fun n188 s189 => pVal false 1 (Value.slice (Option.some (Addr.mk n188 0 Option.none)) 0 0) (pVal true 5 (Value.agg (⟨[v2, Value.slice (Option.some (Addr.mk n188 0 Option.none)) 0 0, v126, Value.int IntKind.i64 0, Value.string ({ data := #[] })]⟩)) (R (Value.agg (⟨[v2, Value.slice (Option.some (Addr.mk n188 0 Option.none)) 0 0, v126, Value.int IntKind.i64 0, Value.string ({ data := #[] })]⟩)) s189)))) (pBin Try.prog 3 BinOp.eql v178 (Value.int IntKind.i64 2) (fun v190 => pIf v190 (pNew w0 9 [] s179 (fun n191 s192 => pAppendS w0 9 1 16 (Value.slice (Option.some (Addr.mk n191 0 Option.none)) 0 0) v3 s192 (fun v193 s194 => pVal false 1 (Value.string ({ data := #[] })) (pVal false 1 (Value.string ({ data := #[65] })) (pVal false 1 (Value.string ({ data := #[116, 111, 111, 108, 111, 110, 103] })) (pVal false 1 (Value.string ({ data := #[120] })) (pVal false 1 (Value.string ({ data := #[121] })) (pNew w0 9 ([Value.string ({ data := #[] }), Value.string ({ data := #[65] }), Value.string ({ data := #[116, 111, 111, 108, 111, 110, 103] }), Value.string ({ data := #[120] }), Value.string ({ data := #[121] })]) s194 (fun n195 s196 => AC Try.prog w0 n_p_spec_l1Rd_of [a0, Value.slice (Option.some (Addr.mk n195 0 Option.none)) 5 5] s196 (fun v197 s198 => pVal false 1 v197 ((allOne [v197]) ∧ (pAppend w0 9 1 16 v193 1 [v197] s198 (fun v199 s200 => pVal false 1 v199 (pVal true 5 (Value.agg (⟨[v2, v199, v126, Value.int IntKind.i64 0, Value.string ({ data := #[] })]⟩)) (R (Value.agg (⟨[v2, v199, v126, Value.int IntKind.i64 0, Value.string ({ data := #[] })]⟩)) s200))))))))))))))) (pBin Try.prog 3 BinOp.eql v178 (Value.int IntKind.i64 3) (fun v201 => pIf v201 (pVal false 1 (Value.int IntKind.i64 (-1)) (pVal false 1 (Value.int IntKind.i64 8) (pVal false 1 (Value.int IntKind.i64 24) (pVal false 1 (Value.int IntKind.i64 25) (pNew w0 3 [Value.int IntKind.i64 (-1), Value.int IntKind.i64 8, Value.int IntKind.i64 24, Value.int IntKind.i64 25] s179 (fun n202 s203 => AC Try.prog w0 n_p_spec_l1Rd_pick [a0, Value.int IntKind.i64 4] s203 (fun v204 s205 => pIndexAddr 1 (Value.slice (Option.some (Addr.mk n202 0 Option.none)) 4 4) v204 (fun v206 => pLoad w0 1 v206 s205 (fun g207 => pVal false 1 (g207 0) (pVal true 5 (Value.agg (⟨[v2, v3, v126, g207 0, Value.string ({ data := #[] })]⟩)) (R (Value.agg (⟨[v2, v3, v126, g207 0, Value.string ({ data := #[] })]⟩)) s205))))))))))) (pBin Try.prog 3 BinOp.eql v178 (Value.int IntKind.i64 4) (fun v208 => pIf v208 (AC Try.prog w0 n_p_spec_l1Rd_pick [a0, Value.int IntKind.i64 2] s179 (fun v209 s210 => pBin Try.prog 3 BinOp.add (Value.int IntKind.i64 24) v209 (fun v211 => AC Try.prog w0 n_spec_l1Many ([Value.string ({ data := #[113] }), v211]) s210 (fun v212 s213 => pVal false 1 v212 (pVal true 5 (Value.agg (⟨[v2, v3, v126, Value.int IntKind.i64 0, v212]⟩)) (R (Value.agg (⟨[v2, v3, v126, Value.int IntKind.i64 0, v212]⟩)) s213)))))) (pVal true 5 (Value.agg (⟨[v2, v3, v126, Value.int IntKind.i64 0, Value.string ({ data := #[] })]⟩)) (R (Value.agg (⟨[v2, v3, v126, Value.int IntKind.i64 0, Value.string ({ data := #[] })]⟩)) s179)))))))))))))))))) (AC Try.prog w0 n_p_spec_l1Rd_pick [a0, Value.int IntKind.i64 40] s4 (fun v214 s215 => pBin Try.prog 3 BinOp.eql v214 (Value.int IntKind.i64 0) (fun v216 => pIf v216 (pVal false 1 (Value.int IntKind.i64 0) (pVal false 1 (Value.int IntKind.i64 7) (pVal false 1 (Value.int IntKind.i64 (-1)) (pNew w0 3 [Value.int IntKind.i64 0, Value.int IntKind.i64 7, Value.int IntKind.i64 (-1)] s215 (fun n217 s218 => AC Try.prog w0 n_p_spec_l1Rd_pick [a0, Value.int IntKind.i64 3] s218 (fun v219 s220 => pIndexAddr 1 (Value.slice (Option.some (Addr.mk n217 0 Option.none)) 3 3) v219 (fun v221 => pLoad w0 1 v221 s220 (fun g222 => pVal false 1 (g222 0) (pVal true 5 (Value.agg (⟨[g222 0, v3, Value.slice Option.none 0 0, Value.int IntKind.i64 0, Value.string ({ data := #[] })]⟩)) (R (Value.agg (⟨[g222 0, v3, Value.slice Option.none 0 0, Value.int IntKind.i64 0, Value.string ({ data := #[] })]⟩)) s220)))))))))) (pBin Try.prog 3 BinOp.eql v214 (Value.int IntKind.i64 1) (fun v223 => pIf v223 (pNew w0 9 [] s215 (fun n224 s225 => pVal false 1 (Value.slice (Option.some (Addr.mk n224 0 Option.none)) 0 0) (pVal true 5 (Value.agg (⟨[v2, Value.slice (Option.some (Addr.mk n224 0 Option.none)) 0 0, Value.slice Option.none 0 0, Value.int IntKind.i64 0, Value.string ({ data := #[] })]⟩)) (R (Value.agg (⟨[v2, Value.slice (Option.some (Addr.mk n224 0 Option.none)) 0 0, Value.slice Option.none 0 0, Value.int IntKind.i64 0, Value.string ({ data := #[] })]⟩)) s225)))) (pBin Try.prog 3 BinOp.eql v214 (Value.int IntKind.i64 2) (fun v226 => pIf v226 (pNew w0 9 [] s215 (fun n227 s228 => pAppendS w0 9 1 16 (Value.slice (Option.some (Addr.mk n227 0 Option.none)) 0 0) v3 s228 (fun v229 s230 => pVal false 1 (Value.string ({ data := #[] })) (pVal false 1 (Value.string ({ data := #[65] })) (pVal false 1 (Value.string ({ data := #[116, 111, 111, 108, 111, 110, 103] })) (pVal false 1 (Value.string ({ data := #[120] })) (pVal false 1 (Value.string ({ data := #[121] })) (pNew w0 9 ([Value.string ({ data := #[] }), Value.string ({ data := #[65] }), Value.string ({ data := #[116, 111, 111, 108, 111, 110, 103] }), Value.string ({ data := #[120] }), Value.string ({ data := #[121] })]) s230 (fun n231 s232 => AC Try.prog w0 n_p_spec_l1Rd_of [a0, Value.slice (Option.some (Addr.mk n231 0 Option.none)) 5 5] s232 (fun v233 s234 => pVal false 1 v233 ((allOne [v233]) ∧ (pAppend w0 9 1 16 v229 1 [v233] s234 (fun v235 s236 => pVal false 1 v235 (pVal true 5 (Value.agg (⟨[v2, v235, Value.slice Option.none 0 0, Value.int IntKind.i64 0, Value.string ({ data := #[] })]⟩)) (R (Value.agg (⟨[v2, v235, Value.slice Option.none 0 0, Value.int IntKind.i64 0, Value.string ({ data := #[] })]⟩)) s236))))))))))))))) (pBin Try.prog 3 BinOp.eql v214 (Value.int IntKind.i64 3) (fun v237 => pIf v237 (pVal false 1 (Value.int IntKind.i64 (-1)) (pVal false 1 (Value.int IntKind.i64 8) (pVal false 1 (Value.int IntKind.i64 24) (pVal false 1 (Value.int IntKind.i64 25) (pNew w0 3 [Value.int IntKind.i64 (-1), Value.int IntKind.i64 8, Value.int IntKind.i64 24, Value.int IntKind.i64 25] s215 (fun n238 s239 => AC Try.prog w0 n_p_spec_l1Rd_pick [a0, Value.int IntKind.i64 4] s239 (fun v240 s241 => pIndexAddr 1 (Value.slice (Option.some (Addr.mk n238 0 Option.none)) 4 4) v240 (fun v242 => pLoad w0 1 v242 s241 (fun g243 => pVal false 1 (g243 0) (pVal true 5 (Value.agg (⟨[v2, v3, Value.slice Option.none 0 0, g243 0, Value.string ({ data := #[] })]⟩)) (R (Value.agg (⟨[v2, v3, Value.slice Option.none 0 0, g243 0, Value.string ({ data := #[] })]⟩)) s241))))))))))) (pBin Try.prog 3 BinOp.eql v214 (Value.int IntKind.i64 4) (fun v244 => pIf v244 (AC Try.prog w0 n_p_spec_l1Rd_pick [a0, Value.int IntKind.i64 2] s215 (fun v245 s246 => pBin Try.prog 3 BinOp.add (Value.int IntKind.i64 24) v245 (fun v247 => AC Try.prog w0 n_spec_l1Many ([Value.string ({ data := #[113] }), v247]) s246 (fun v248 s249 => pVal false 1 v248 (pVal true 5 (Value.agg (⟨[v2, v3, Value.slice Option.none 0 0, Value.int IntKind.i64 0, v248]⟩)) (R (Value.agg (⟨[v2, v3, Value.slice Option.none 0 0, Value.int IntKind.i64 0, v248]⟩)) s249)))))) (pVal true 5 (Value.agg (⟨[v2, v3, Value.slice Option.none 0 0, Value.int IntKind.i64 0, Value.string ({ data := #[] })]⟩)) (R (Value.agg (⟨[v2, v3, Value.slice Option.none 0 0, Value.int IntKind.i64 0, Value.string ({ data := #[] })]⟩)) s215)))))))))))))))) (pBin Try.prog 3 BinOp.eql v2 (Value.int IntKind.i64 3) (fun v250 => pIf v250 (AC Try.prog w0 n_p_spec_l1Rd_pick [a0, Value.int IntKind.i64 4] s4 (fun v251 s252 => AC Try.prog w0 n_p_spec_l1Rd_pick [a0, Value.int IntKind.i64 4] s252 (fun v253 s254 => pBin Try.prog 3 BinOp.mul v251 v253 (fun v255 => pVal false 1 v255 (pBin Try.prog 3 BinOp.eql v2 (Value.int IntKind.i64 2) (fun v256 => pIf v256 (AC Try.prog w0 n_spec_l4Data [a0] s254 (fun v257 s258 => pVal false 1 v257 (AC Try.prog w0 n_p_spec_l1Rd_pick [a0, Value.int IntKind.i64 40] s258 (fun v259 s260 => pBin Try.prog 3 BinOp.eql v259 (Value.int IntKind.i64 0) (fun v261 => pIf v261 (pVal false 1 (Value.int IntKind.i64 0) (pVal false 1 (Value.int IntKind.i64 7) (pVal false 1 (Value.int IntKind.i64 (-1)) (pNew w0 3 [Value.int IntKind.i64 0, Value.int IntKind.i64 7, Value.int IntKind.i64 (-1)] s260 (fun n262 s263 => AC Try.prog w0 n_p_spec_l1Rd_pick [a0, Value.int IntKind.i64 3] s263 (fun v264 s265 => pIndexAddr 1 (Value.slice (Option.some (Addr.mk n262 0 Option.none)) 3 3) v264 (fun v266 => pLoad w0 1 v266 s265 (fun g267 => pVal false 1 (g267 0) (pVal true 5 (Value.agg (⟨[g267 0, v3, Value.slice Option.none 0 0, v255, v257]⟩)) (R (Value.agg (⟨[g267 0, v3, Value.slice Option.none 0 0, v255, v257]⟩)) s265)))))))))) (pBin Try.prog 3 BinOp.eql v259 (Value.int IntKind.i64 1) (fun v268 => pIf v268 (pNew w0 9 [] s260 (fun n269 s270 => pVal false 1 (Value.slice (Option.some (Addr.mk n269 0 Option.none)) 0 0) (pVal true 5 (Value.agg (⟨[v2, Value.slice (Option.some (Addr.mk n269 0 Option.none)) 0 0, Value.slice Option.none 0 0, v255, v257]⟩)) (R (Value.agg (⟨[v2, Value.slice (Option.some (Addr.mk n269 0 Option.none)) 0 0, Value.slice Option.none 0 0, v255, v257]⟩)) s270)))) (pBin Try.prog 3 BinOp.eql v259 (Value.int IntKind.i64 2) (fun v271 => pIf v271 (pNew w0 9 [] s260 (fun n272 s273 => pAppendS w0 9 1 16 (Value.slice (Option.some (Addr.mk n272 0 Option.none)) 0 0) v3 s273 (fun v274 s275 => pVal false 1 (Value.string ({ data := #[] })) (pVal false 1 (Value.string ({ data := #[65] })) (pVal false 1 (Value.string ({ data := #[116, 111, 111, 108, 111, 110, 103] })) (pVal false 1 (Value.string ({ data := #[120] })) (pVal false 1 (Value.string ({ data := #[121] })) (pNew w0 9 ([Value.string ({ data := #[] }), Value.string ({ data := #[65] }), Value.string ({ data := #[116, 111, 111, 108, 111, 110, 103] }), Value.string ({ data := #[120] }), Value.string ({ data := #[121] })]) s275 (fun n276 s277 => AC Try.prog w0 n_p_spec_l1Rd_of [a0, Value.slice (Option.some (Addr.mk n276 0 Option.none)) 5 5] s277 (fun v278 s279 => pVal false 1 v278 ((allOne [v278]) ∧ (pAppend w0 9 1 16 v274 1 [v278] s279 (fun v280 s281 => pVal false 1 v280 (pVal true 5 (Value.agg (⟨[v2, v280, Value.slice Option.none 0 0, v255, v257]⟩)) (R (Value.agg (⟨[v2, v280, Value.slice Option.none 0 0, v255, v257]⟩)) s281))))))))))))))) (pBin Try.prog 3 BinOp.eql v259 (Value.int IntKind.i64 3) (fun v282 => pIf v282 (pVal false 1 (Value.int IntKind.i64 (-1)) (pVal false 1 (Value.int IntKind.i64 8) (pVal false 1 (Value.int IntKind.i64 24) (pVal false 1 (Value.int IntKind.i64 25) (pNew w0 3 [Value.int IntKind.i64 (-1), Value.int IntKind.i64 8, Value.int IntKind.i64 24, Value.int IntKind.i64 25] s260 (fun n283 s284 => AC Try.prog w0 n_p_spec_l1Rd_pick [a0, Value.int IntKind.i64 4] s284 (fun v285 s286 => pIndexAddr 1 (Value.slice (Option.some (Addr.mk n283 0 Option.none)) 4 4) v285 (fun v287 => pLoad w0 1 v287 s286 (fun g288 => pVal false 1 (g288 0) (pVal true 5 (Value.agg (⟨[v2, v3, Value.slice Option.none 0 0, g288 0, v257]⟩)) (R (Value.agg (⟨[v2, v3, Value.slice Option.none 0 0, g288 0, v257]⟩)) s286))))))))))) (pBin Try.prog 3 BinOp.eql v259 (Value.int IntKind.i64 4) (fun v289 => pIf v289 (AC Try.prog w0 n_p_spec_l1Rd_pick [a0, Value.int IntKind.i64 2] s260 (fun v290 s291 => pBin Try.prog 3 BinOp.add (Value.int IntKind.i64 24) v290 (fun v292 => AC Try.prog w0 n_spec_l1Many ([Value.string ({ data := #[113] }), v292]) s291 (fun v293 s294 => pVal false 1 v293 (pVal true 5 (Value.agg (⟨[v2, v3, Value.slice Option.none 0 0, v255, v293]⟩)) (R (Value.agg (⟨[v2, v3, Value.slice Option.none 0 0, v255, v293]⟩)) s294)))))) (pVal true 5 (Value.agg (⟨[v2, v3, Value.slice Option.none 0 0, v255, v257]⟩)) (R (Value.agg (⟨[v2, v3, Value.slice Option.none 0 0, v255, v257]⟩)) s260))))))))))))))) (AC Try.prog w0 n_p_spec_l1Rd_pick [a0, Value.int IntKind.i64 40] s254 (fun v295 s296 => pBin Try.prog 3 BinOp.eql v295 (Value.int IntKind.i64 0) (fun v297 => pIf v297 (pVal false 1 (Value.int IntKind.i64 0) (pVal false 1 (Value.int IntKind.i64 7) (pVal false 1 (Value.int IntKind.i64 (-1)) (pNew w0 3 [Value.int IntKind.i64 0, Value.int IntKind.i64 7, Value.int IntKind.i64 (-1)] s296 (fun n298 s299 => AC Try.prog w0 n_p_spec_l1Rd_pick [a0, Value.int IntKind.i64 3] s299 (fun v300 s301 => pIndexAddr 1 (Value.slice (Option.some (Addr.mk n298 0 Option.none)) 3 3) v300 (fun v302 => pLoad w0 1 v302 s301 (fun g303 => pVal false 1 (g303 0) (pVal true 5 (Value.agg (⟨[g303 0, v3, Value.slice Option.none 0 0, v255, Value.string ({ data := #[] })]⟩)) (R (Value.agg (⟨[g303 0, v3, Value.slice Option.none 0 0, v255, Value.string ({ data := #[] })]⟩)) s301)))))))))) (pBin Try.prog 3 BinOp.eql v295 (Value.int IntKind.i64 1) (fun v304 => pIf v304 (pNew w0 9 [] s296 (fun n305 s306 => pVal false 1 (Value.slice (Option.some (Addr.mk n305 0 Option.none)) 0 0) (pVal true 5 (Value.agg (⟨[v2, Value.slice (Option.some (Addr.mk n305 0 Option.none)) 0 0, Value.slice Option.none 0 0, v255, Value.string ({ data := #[] })]⟩)) (R (Value.agg (⟨[v2, Value.slice (Option.some (Addr.mk n305 0 Option.none)) 0 0, Value.slice Option.none 0 0, v255, Value.string ({ data := #[] })]⟩)) s306)))) (pBin Try.prog 3 BinOp.eql v295 (Value.int IntKind.i64 2) (fun v307 => pIf v307 (pNew w0 9 [] s296 (fun n308 s309 => pAppendS w0 9 1 16 (Value.slice (Option.some (Addr.mk n308 0 Option.none)) 0 0) v3 s309 (fun v310 s311 => pVal false 1 (Value.string ({ data := #[] })) (pVal false 1 (Value.string ({ data := #[65] })) (pVal false 1 (Value.string ({ data := #[116, 111, 111, 108, 111, 110, 103] })) (pVal false 1 (Value.string ({ data := #[120] })) (pVal false 1 (Value.string ({ data := #[121] })) (pNew w0 9 ([Value.string ({ data := #[] }), Value.string ({ data := #[65] }), Value.string ({ data := #[116, 111, 111, 108, 111, 110, 103] }), Value.string ({ data := #[120] }), Value.string ({ data := #[121] })]) s311 (fun n312 s313 => AC Try.prog w0 n_p_spec_l1Rd_of [a0, Value.slice (Option.some (Addr.mk n312 0 Option.none)) 5 5] s313 (fun v314 s315 => pVal false 1 v314 ((allOne [v314]) ∧ (pAppend w0 9 1 16 v310 1 [v314] s315 (fun v316 s317 => pVal false 1 v316 (pVal true 5 (Value.agg (⟨[v2, v316, Value.slice Option.none 0 0, v255, Value.string ({ data := #[] })]⟩)) (R (Value.agg (⟨[v2, v316, Value.slice Option.none 0 0, v255, Value.string ({ data := #[] })]⟩)) s317))))))))))))))) (pBin Try.prog 3 BinOp.eql v295 (Value.int IntKind.i64 3) (fun v318 => pIf v318 (pVal false 1 (Value.int IntKind.i64 (-1)) (pVal false 1 (Value.int IntKind.i64 8) (pVal false 1 (Value.int IntKind.i64 24) (pVal false 1 (Value.int IntKind.i64 25) (pNew w0 3 [Value.int IntKind.i64 (-1), Value.int IntKind.i64 8, Value.int IntKind.i64 24, Value.int IntKind.i64 25] s296 (fun n319 s320 => AC Try.prog w0 n_p_spec_l1Rd_pick [a0, Value.int IntKind.i64 4] s320 (fun v321 s322 => pIndexAddr 1 (Value.slice (Option.some (Addr.mk n319 0 Option.none)) 4 4) v321 (fun v323 => pLoad w0 1 v323 s322 (fun g324 => pVal false 1 (g324 0) (pVal true 5 (Value.agg (⟨[v2, v3, Value.slice Option.none 0 0, g324 0, Value.string ({ data := #[] })]⟩)) (R (Value.agg (⟨[v2, v3, Value.slice Option.none 0 0, g324 0, Value.string ({ data := #[] })]⟩)) s322))))))))))) (pBin Try.prog 3 BinOp.eql v295 (Value.int IntKind.i64 4) (fun v325 => pIf v325 (AC Try.prog w0 n_p_spec_l1Rd_pick [a0, Value.int IntKind.i64 2] s296 (fun v326 s327 => pBin Try.prog 3 BinOp.add (Value.int IntKind.i64 24) v326 (fun v328 => AC Try.prog w0 n_spec_l1Many ([Value.string ({ data := #[113] }), v328]) s327 (fun v329 s330 => pVal false 1 v329 (pVal true 5 (Value.agg (⟨[v2, v3, Value.slice Option.none 0 0, v255, v329]⟩)) (R (Value.agg (⟨[v2, v3, Value.slice Option.none 0 0, v255, v329]⟩)) s330)))))) (pVal true 5 (Value.agg (⟨[v2, v3, Value.slice Option.none 0 0, v255, Value.string ({ data := #[] })]⟩)) (R (Value.agg (⟨[v2, v3, Value.slice Option.none 0 0, v255, Value.string ({ data := #[] })]⟩)) s296))))))))))))))))))) (pBin Try.prog 3 BinOp.eql v2 (Value.int IntKind.i64 5) (fun v331 => pIf v331 (AC Try.prog w0 n_spec_l4Path ([a0, Value.agg (⟨[cellOf a1 0, cellOf a1 1, cellOf a1 2, cellOf a1 3, cellOf a1 4]⟩)]) s4 (fun v332 s333 => pVal false 1 v332 (AC Try.prog w0 n_p_spec_l1Rd_pick [a0, Value.int IntKind.i64 2] s333 (fun v334 s335 => pBin Try.prog 3 BinOp.eql v334 (Value.int IntKind.i64 0) (fun v336 => pIf v336 (pNew w0 9 [] s335 (fun n337 s338 => pLen v332 (fun v339 => pBin Try.prog 3 BinOp.sub v339 (Value.int IntKind.i64 1) (fun v340 => pSlice 1 v332 Option.none (Option.some v340) (fun v341 => pAppendS w0 9 1 16 (Value.slice (Option.some (Addr.mk n337 0 Option.none)) 0 0) v341 s338 (fun v342 s343 => AC Try.prog w0 n_spec_l4Name [a0] s343 (fun v344 s345 => pVal false 1 v344 ((allOne [v344]) ∧ (pAppend w0 9 1 16 v342 1 [v344] s345 (fun v346 s347 => pVal false 1 v346 (AC Try.prog w0 n_p_spec_l1Rd_pick [a0, Value.int IntKind.i64 40] s347 (fun v348 s349 => pBin Try.prog 3 BinOp.eql v348 (Value.int IntKind.i64 0) (fun v350 => pIf v350 (pVal false 1 (Value.int IntKind.i64 0) (pVal false 1 (Value.int IntKind.i64 7) (pVal false 1 (Value.int IntKind.i64 (-1)) (pNew w0 3 [Value.int IntKind.i64 0, Value.int IntKind.i64 7, Value.int IntKind.i64 (-1)] s349 (fun n351 s352 => AC Try.prog w0 n_p_spec_l1Rd_pick [a0, Value.int IntKind.i64 3] s352 (fun v353 s354 => pIndexAddr 1 (Value.slice (Option.some (Addr.mk n351 0 Option.none)) 3 3) v353 (fun v355 => pLoad w0 1 v355 s354 (fun g356 => pVal false 1 (g356 0) (pVal true 5 (Value.agg (⟨[g356 0, v3, v346, Value.int IntKind.i64 0, Value.string ({ data := #[] })]⟩)) (R (Value.agg (⟨[g356 0, v3, v346, Value.int IntKind.i64 0, Value.string ({ data := #[] })]⟩)) s354)))))))))) (pBin Try.prog 3 BinOp.eql v348 (Value.int IntKind.i64 1) (fun v357 => pIf v357 (pNew w0 9 [] s349 (fun n358 s359 => pVal false 1 (Value.slice (Option.some (Addr.mk n358 0 Option.none)) 0 0) (pVal true 5 (Value.agg (⟨[v2, Value.slice (Option.some (Addr.mk n358 0 Option.none)) 0 0, v346, Value.int IntKind.i64 0, Value.string ({ data := #[] })]⟩)) (R (Value.agg (⟨[v2, Value.slice (Option.some (Addr.mk n358 0 Option.none)) 0 0, v346, Value.int IntKind.i64 0, Value.string ({ data := #[] })]⟩)) s359)))) (pBin Try.prog 3 BinOp.eql v348 (Value.int IntKind.i64 2) (fun v360 => pIf v360 (pNew w0 9 [] s349 (fun n361 s362 => pAppendS w0 9 1 16 (Value.slice (Option.some (Addr.mk n361 0 Option.none)) 0 0) v3 s362 (fun v363 s364 => pVal false 1 (Value.string ({ data := #[] })) (pVal false 1 (Value.string ({ data := #[65] })) (pVal false 1 (Value.string ({ data := #[116, 111, 111, 108, 111, 110, 103] })) (pVal false 1 (Value.string ({ data := #[120] })) (pVal false 1 (Value.string ({ data := #[121] })) (pNew w0 9 ([Value.string ({ data := #[] }), Value.string ({ data := #[65] }), Value.string ({ data := #[116, 111, 111, 108, 111, 110, 103] }), Value.string ({ data := #[120] }), Value.string ({ data := #[121] })]) s364 (fun n365 s366 => AC Try.prog w0 n_p_spec_l1Rd_of [a0, Value.slice (Option.some (Addr.mk n365 0 Option.none)) 5 5] s366 (fun v367 s368 => pVal false 1 v367 ((allOne [v367]) ∧ (pAppend w0 9 1 16 v363 1 [v367] s368 (fun v369 s370 => pVal false 1 v369 (pVal true 5 (Value.agg (⟨[v2, v369, v346, Value.int IntKind.i64 0, Value.string ({ data := #[] })]⟩)) (R (Value.agg (⟨[v2, v369, v346, Value.int IntKind.i64 0, Value.string ({ data := #[] })]⟩)) s370))))))))))))))) (pBin Try.prog 3 BinOp.eql v348 (Value.int IntKind.i64 3) (fun v371 => pIf v371 (pVal false 1 (Value.int IntKind.i64 (-1)) (pVal false 1 (Value.int IntKind.i64 8) (pVal false 1 (Value.int IntKind.i64 24) (pVal false 1 (Value.int IntKind.i64 25) (pNew w0 3 [Value.int IntKind.i64 (-1), Value.int IntKind.i64 8, Value.int IntKind.i64 24, Value.int IntKind.i64 25] s349 (fun n372 s373 => AC Try.prog w0 n_p_spec_l1Rd_pick [a0, Value.int IntKind.i64 4] s373 (fun v374 s375 => pIndexAddr 1 (Value.slice (Option.some (Addr.mk n372 0 Option.none)) 4 4) v374 (fun v376 => pLoad w0 1 v376 s375 (fun g377 => pVal false 1 (g377 0) (pVal true 5 (Value.agg (⟨[v2, v3, v346, g377 0, Value.string ({ data := #[] })]⟩)) (R (Value.agg (⟨[v2, v3, v346, g377 0, Value.string ({ data := #[] })]⟩)) s375))))))))))) (pBin Try.prog 3 BinOp.eql v348 (Value.int IntKind.i64 4) (fun v378 => pIf v378 (AC Try.prog w0 n_p_spec_l1Rd_pick [a0, Value.int IntKind.i64 2] s349 (fun v379 s380 => pBin Try.prog 3 BinOp.add (Value.int IntKind.i64 24) v379 (fun v381 => AC Try.prog w0 n_spec_l1Many ([Value.string ({ data := #[113] }), v381]) s380 (fun v382 s383 => pVal false 1 v382 (pVal true 5 (Value.agg (⟨[v2, v3, v346, Value.int IntKind.i64 0, v382]⟩)) (R (Value.agg (⟨[v2, v3, v346, Value.int IntKind.i64 0, v382]⟩)) s383)))))) (pVal true 5 (Value.agg (⟨[v2, v3, v346, Value.int IntKind.i64 0, Value.string ({ data := #[] })]⟩)) (R (Value.agg (⟨[v2, v3, v346, Value.int IntKind.i64 0, Value.string ({ data := #[] })]⟩)) s349))))))))))))))))))))))) (AC Try.prog w0 n_p_spec_l1Rd_pick [a0, Value.int IntKind.i64 40] s335 (fun v384 s385 => pBin Try.prog 3 BinOp.eql v384 (Value.int IntKind.i64 0) (fun v386 => pIf v386 (pVal false 1 (Value.int IntKind.i64 0) (pVal false 1 (Value.int IntKind.i64 7) (pVal false 1 (Value.int IntKind.i64 (-1)) (pNew w0 3 [Value.int IntKind.i64 0, Value.int IntKind.i64 7, Value.int IntKind.i64 (-1)] s385 (fun n387 s388 => AC Try.prog w0 n_p_spec_l1Rd_pick [a0, Value.int IntKind.i64 3] s388 (fun v389 s390 => pIndexAddr 1 (Value.slice (Option.some (Addr.mk n387 0 Option.none)) 3 3) v389 (fun v391 => pLoad w0 1 v391 s390 (fun g392 => pVal false 1 (g392 0) (pVal true 5 (Value.agg (⟨[g392 0, v3, v332, Value.int IntKind.i64 0, Value.string ({ data := #[] })]⟩)) (R (Value.agg (⟨[g392 0, v3, v332, Value.int IntKind.i64 0, Value.string ({ data := #[] })]⟩)) s390)))))))))) (pBin Try.prog 3 BinOp.eql v384 (Value.int IntKind.i64 1) (fun v393 => pIf v393 (pNew w0 9 [] s385 (fun n394 s395 => pVal false 1 (Value.slice (Option.some (Addr.mk n394 0 Option.none)) 0 0) (pVal true 5 (Value.agg (⟨[v2, Value.slice (Option.some (Addr.mk n394 0 Option.none)) 0 0, v332, Value.int IntKind.i64 0, Value.string ({ data := #[] })]⟩)) (R (Value.agg (⟨[v2, Value.slice (Option.some (Addr.mk n394 0 Option.none)) 0 0, v332, Value.int IntKind.i64 0, Value.string ({ data := #[] })]⟩)) s395)))) (pBin Try.prog 3 BinOp.eql v384 (Value.int IntKind.i64 2) (fun v396 => pIf v396 (pNew w0 9 [] s385 (fun n397 s398 => pAppendS w0 9 1 16 (Value.slice (Option.some (Addr.mk n397 0 Option.none)) 0 0) v3 s398 (fun v399 s400 => pVal false 1 (Value.string ({ data := #[] })) (pVal false 1 (Value.string ({ data := #[65] })) (pVal false 1 (Value.string ({ data := #[116, 111, 111, 108, 111, 110, 103] })) (pVal false 1 (Value.string ({ data := #[120] })) (pVal false 1 (Value.string ({ data := #[121] })) (pNew w0 9 ([Value.string ({ data := #[] }), Value.string ({ data := #[65] }), Value.string ({ data := #[116, 111, 111, 108, 111, 110, 103] }), Value.string ({ data := #[120] }), Value.string ({ data := #[121] })]) s400 (fun n401 s402 => AC Try.prog w0 n_p_spec_l1Rd_of [a0, Value.slice (Option.some (Addr.mk n401 0 Option.none)) 5 5] s402 (fun v403 s404 => pVal false 1 v403 ((allOne [v403]) ∧ (pAppend w0 9 1 16 v399 1 [v403] s404 (fun v405 s406 => pVal false 1 v405 (pVal true 5 (Value.agg (⟨[v2, v405, v332, Value.int IntKind.i64 0, Value.string ({ data := #[] })]⟩)) (R (Value.agg (⟨[v2, v405, v332, Value.int IntKind.i64 0, Value.string ({ data := #[] })]⟩)) s406))))))))))))))) (pBin Try.prog 3 BinOp.eql v384 (Value.int IntKind.i64 3) (fun v407 => pIf v407 (pVal false 1 (Value.int IntKind.i64 (-1)) (pVal false 1 (Value.int IntKind.i64 8) (pVal false 1 (Value.int IntKind.i64 24) (pVal false 1 (Value.int IntKind.i64 25) (pNew w0 3 [Value.int IntKind.i64 (-1), Value.int IntKind.i64 8, Value.int IntKind.i64 24, Value.int IntKind.i64 25] s385 (fun n408 s409 => AC Try.prog w0 n_p_spec_l1Rd_pick [a0, Value.int IntKind.i64 4] s409 (fun v410 s411 => pIndexAddr 1 (Value.slice (Option.some (Addr.mk n408 0 Option.none)) 4 4) v410 (fun v412 => pLoad w0 1 v412 s411 (fun g413 => pVal false 1 (g413 0) (pVal true 5 (Value.agg (⟨[v2, v3, v332, g413 0, Value.string ({ data := #[] })]⟩)) (R (Value.agg (⟨[v2, v3, v332, g413 0, Value.string ({ data := #[] })]⟩)) s411))))))))))) (pBin Try.prog 3 BinOp.eql v384 (Value.int IntKind.i64 4) (fun v414 => pIf v414 (AC Try.prog w0 n_p_spec_l1Rd_pick [a0, Value.int IntKind.i64 2] s385 (fun v415 s416 => pBin Try.prog 3 BinOp.add (Value.int IntKind.i64 24) v415 (fun v417 => AC Try.prog w0 n_spec_l1Many ([Value.string ({ data := #[113] }), v417]) s416 (fun v418 s419 => pVal false 1 v418 (pVal true 5 (Value.agg (⟨[v2, v3, v332, Value.int IntKind.i64 0, v418]⟩)) (R (Value.agg (⟨[v2, v3, v332, Value.int IntKind.i64 0, v418]⟩)) s419)))))) (pVal true 5 (Value.agg (⟨[v2, v3, v332, Value.int IntKind.i64 0, Value.string ({ data := #[] })]⟩)) (R (Value.agg (⟨[v2, v3, v332, Value.int IntKind.i64 0, Value.string ({ data := #[] })]⟩)) s385)))))))))))))))))) (AC Try.prog w0 n_p_spec_l1Rd_pick [a0, Value.int IntKind.i64 40] s4 (fun v420 s421 => pBin Try.prog 3 BinOp.eql v420 (Value.int IntKind.i64 0) (fun v422 => pIf v422 (pVal false 1 (Value.int IntKind.i64 0) (pVal false 1 (Value.int IntKind.i64 7) (pVal false 1 (Value.int IntKind.i64 (-1)) (pNew w0 3 [Value.int IntKind.i64 0, Value.int IntKind.i64 7, Value.int IntKind.i64 (-1)] s421 (fun n423 s424 => AC Try.prog w0 n_p_spec_l1Rd_pick [a0, Value.int IntKind.i64 3] s424 (fun v425 s426 => pIndexAddr 1 (Value.slice (Option.some (Addr.mk n423 0 Option.none)) 3 3) v425 (fun v427 => pLoad w0 1 v427 s426 (fun g428 => pVal false 1 (g428 0) (pVal true 5 (Value.agg (⟨[g428 0, v3, Value.slice Option.none 0 0, Value.int IntKind.i64 0, Value.string ({ data := #[] })]⟩)) (R (Value.agg (⟨[g428 0, v3, Value.slice Option.none 0 0, Value.int IntKind.i64 0, Value.string ({ data := #[] })]⟩)) s426)))))))))) (pBin Try.prog 3 BinOp.eql v420 (Value.int IntKind.i64 1) (fun v429 => pIf v429 (pNew w0 9 [] s421 (fun n430 s431 => pVal false 1 (Value.slice (Option.some (Addr.mk n430 0 Option.none)) 0 0) (pVal true 5 (Value.agg (⟨[v2, Value.slice (Option.some (Addr.mk n430 0 Option.none)) 0 0, Value.slice Option.none 0 0, Value.int IntKind.i64 0, Value.string ({ data := #[] })]⟩)) (R (Value.agg (⟨[v2, Value.slice (Option.some (Addr.mk n430 0 Option.none)) 0 0, Value.slice Option.none 0 0, Value.int IntKind.i64 0, Value.string ({ data := #[] })]⟩)) s431)))) (pBin Try.prog 3 BinOp.eql v420 (Value.int IntKind.i64 2) (fun v432 => pIf v432 (pNew w0 9 [] s421 (fun n433 s434 => pAppendS w0 9 1 16 (Value.slice (Option.some (Addr.mk n433 0 Option.none)) 0 0) v3 s434 (fun v435 s436 => pVal false 1 (Value.string ({ data := #[] })) (pVal false 1 (Value.string ({ data := #[65] })) (pVal false 1 (Value.string ({ data := #[116, 111, 111, 108, 111, 110, 103] })) (pVal false 1 (Value.string ({ data := #[120] })) (pVal false 1 (Value.string ({ data := #[121] })) (pNew w0 9 ([Value.string ({ data := #[] }), Value.string ({ data := #[65] }), Value.string ({ data := #[116, 111, 111, 108, 111, 110, 103] }), Value.string ({ data := #[120] }), Value.string ({ data := #[121] })]) s436 (fun n437 s438 => AC Try.prog w0 n_p_spec_l1Rd_of [a0, Value.slice (Option.some (Addr.mk n437 0 Option.none)) 5 5] s438 (fun v439 s440 => pVal false 1 v439 ((allOne [v439]) ∧ (pAppend w0 9 1 16 v435 1 [v439] s440 (fun v441 s442 => pVal false 1 v441 (pVal true 5 (Value.agg (⟨[v2, v441, Value.slice Option.none 0 0, Value.int IntKind.i64 0, Value.string ({ data := #[] })]⟩)) (R (Value.agg (⟨[v2, v441, Value.slice Option.none 0 0, Value.int IntKind.i64 0, Value.string ({ data := #[] })]⟩)) s442))))))))))))))) (pBin Try.prog 3 BinOp.eql v420 (Value.int IntKind.i64 3) (fun v443 => pIf v443 (pVal false 1 (Value.int IntKind.i64 (-1)) (pVal false 1 (Value.int IntKind.i64 8) (pVal false 1 (Value.int IntKind.i64 24) (pVal false 1 (Value.int IntKind.i64 25) (pNew w0 3 [Value.int IntKind.i64 (-1), Value.int IntKind.i64 8, Value.int IntKind.i64 24, Value.int IntKind.i64 25] s421 (fun n444 s445 => AC Try.prog w0 n_p_spec_l1Rd_pick [a0, Value.int IntKind.i64 4] s445 (fun v446 s447 => pIndexAddr 1 (Value.slice (Option.some (Addr.mk n444 0 Option.none)) 4 4) v446 (fun v448 => pLoad w0 1 v448 s447 (fun g449 => pVal false 1 (g449 0) (pVal true 5 (Value.agg (⟨[v2, v3, Value.slice Option.none 0 0, g449 0, Value.string ({ data := #[] })]⟩)) (R (Value.agg (⟨[v2, v3, Value.slice Option.none 0 0, g449 0, Value.string ({ data := #[] })]⟩)) s447))))))))))) (pBin Try.prog 3 BinOp.eql v420 (Value.int IntKind.i64 4) (fun v450 => pIf v450 (AC Try.prog w0 n_p_spec_l1Rd_pick [a0, Value.int IntKind.i64 2] s421 (fun v451 s452 => pBin Try.prog 3 BinOp.add (Value.int IntKind.i64 24) v451 (fun v453 => AC Try.prog w0 n_spec_l1Many ([Value.string ({ data := #[113] }), v453]) s452 (fun v454 s455 => pVal false 1 v454 (pVal true 5 (Value.agg (⟨[v2, v3, Value.slice Option.none 0 0, Value.int IntKind.i64 0, v454]⟩)) (R (Value.agg (⟨[v2, v3, Value.slice Option.none 0 0, Value.int IntKind.i64 0, v454]⟩)) s455)))))) (pVal true 5 (Value.agg (⟨[v2, v3, Value.slice Option.none 0 0, Value.int IntKind.i64 0, Value.string ({ data := #[] })]⟩)) (R (Value.agg (⟨[v2, v3, Value.slice Option.none 0 0, Value.int IntKind.i64 0, Value.string ({ data := #[] })]⟩)) s421)))))))))))))))))))) (pBin Try.prog 3 BinOp.eql v2 (Value.int IntKind.i64 6) (fun v456 => pIf v456 (AC Try.prog w0 n_p_spec_l1Rd_pick [a0, Value.int IntKind.i64 8] s4 (fun v457 s458 => pVal false 1 v457 (AC Try.prog w0 n_p_spec_l1Rd_pick [a0, Value.int IntKind.i64 40] s458 (fun v459 s460 => pBin Try.prog 3 BinOp.eql v459 (Value.int IntKind.i64 0) (fun v461 => pIf v461 (pVal false 1 (Value.int IntKind.i64 0) (pVal false 1 (Value.int IntKind.i64 7) (pVal false 1 (Value.int IntKind.i64 (-1)) (pNew w0 3 [Value.int IntKind.i64 0, Value.int IntKind.i64 7, Value.int IntKind.i64 (-1)] s460 (fun n462 s463 => AC Try.prog w0 n_p_spec_l1Rd_pick [a0, Value.int IntKind.i64 3] s463 (fun v464 s465 => pIndexAddr 1 (Value.slice (Option.some (Addr.mk n462 0 Option.none)) 3 3) v464 (fun v466 => pLoad w0 1 v466 s465 (fun g467 => pVal false 1 (g467 0) (pVal true 5 (Value.agg (⟨[g467 0, v3, Value.slice Option.none 0 0, v457, Value.string ({ data := #[] })]⟩)) (R (Value.agg (⟨[g467 0, v3, Value.slice Option.none 0 0, v457, Value.string ({ data := #[] })]⟩)) s465)))))))))) (pBin Try.prog 3 BinOp.eql v459 (Value.int IntKind.i64 1) (fun v468 => pIf v468 (pNew w0 9 [] s460 (fun n469 s470 => pVal false 1 (Value.slice (Option.some (Addr.mk n469 0 Option.none)) 0 0) (pVal true 5 (Value.agg (⟨[v2, Value.slice (Option.some (Addr.mk n469 0 Option.none)) 0 0, Value.slice Option.none 0 0, v457, Value.string ({ data := #[] })]⟩)) (R (Value.agg (⟨[v2, Value.slice (Option.some (Addr.mk n469 0 Option.none)) 0 0, Value.slice Option.none 0 0, v457, Value.string ({ data := #[] })]⟩)) s470)))) (pBin Try.prog 3 BinOp.eql v459 (Value.int IntKind.i64 2) (fun v471 => pIf v471 (pNew w0 9 [] s460 (fun n472 s473 => pAppendS w0 9 1 16 (Value.slice (Option.some (Addr.mk n472 0 Option.none)) 0 0) v3 s473 (fun v474 s475 => pVal false 1 (Value.string ({ data := #[] })) (pVal false 1 (Value.string ({ data := #[65] })) (pVal false 1 (Value.string ({ data := #[116, 111, 111, 108, 111, 110, 103] })) (pVal false 1 (Value.string ({ data := #[120] })) (pVal false 1 (Value.string ({ data := #[121] })) (pNew w0 9 ([Value.string ({ data := #[] }), Value.string ({ data := #[65] }), Value.string ({ data := #[116, 111, 111, 108, 111, 110, 103] }), Value.string ({ data := #[120] }), Value.string ({ data := #[121] })]) s475 (fun n476 s477 => AC Try.prog w0 n_p_spec_l1Rd_of [a0, Value.slice (Option.some (Addr.mk n476 0 Option.none)) 5 5] s477 (fun v478 s479 => pVal false 1 v478 ((allOne [v478]) ∧ (pAppend w0 9 1 16 v474 1 [v478] s479 (fun v480 s481 => pVal false 1 v480 (pVal true 5 (Value.agg (⟨[v2, v480, Value.slice Option.none 0 0, v457, Value.string ({ data := #[] })]⟩)) (R (Value.agg (⟨[v2, v480, Value.slice Option.none 0 0, v457, Value.string ({ data := #[] })]⟩)) s481))))))))))))))) (pBin Try.prog 3 BinOp.eql v459 (Value.int IntKind.i64 3) (fun v482 => pIf v482 (pVal false 1 (Value.int IntKind.i64 (-1)) (pVal false 1 (Value.int IntKind.i64 8) (pVal false 1 (Value.int IntKind.i64 24) (pVal false 1 (Value.int IntKind.i64 25) (pNew w0 3 [Value.int IntKind.i64 (-1), Value.int IntKind.i64 8, Value.int IntKind.i64 24, Value.int IntKind.i64 25] s460 (fun n483 s484 => AC Try.prog w0 n_p_spec_l1Rd_pick [a0, Value.int IntKind.i64 4] s484 (fun v485 s486 => pIndexAddr 1 (Value.slice (Option.some (Addr.mk n483 0 Option.none)) 4 4) v485 (fun v487 => pLoad w0 1 v487 s486 (fun g488 => pVal false 1 (g488 0) (pVal true 5 (Value.agg (⟨[v2, v3, Value.slice Option.none 0 0, g488 0, Value.string ({ data := #[] })]⟩)) (R (Value.agg (⟨[v2, v3, Value.slice Option.none 0 0, g488 0, Value.string ({ data := #[] })]⟩)) s486))))))))))) (pBin Try.prog 3 BinOp.eql v459 (Value.int IntKind.i64 4) (fun v489 => pIf v489 (AC Try.prog w0 n_p_spec_l1Rd_pick [a0, Value.int IntKind.i64 2] s460 (fun v490 s491 => pBin Try.prog 3 BinOp.add (Value.int IntKind.i64 24) v490 (fun v492 => AC Try.prog w0 n_spec_l1Many ([Value.string ({ data := #[113] }), v492]) s491 (fun v493 s494 => pVal false 1 v493 (pVal true 5 (Value.agg (⟨[v2, v3, Value.slice Option.none 0 0, v457, v493]⟩)) (R (Value.agg (⟨[v2, v3, Value.slice Option.none 0 0, v457, v493]⟩)) s494)))))) (pVal true 5 (Value.agg (⟨[v2, v3, Value.slice Option.none 0 0, v457, Value.string ({ data := #[] })]⟩)) (R (Value.agg (⟨[v2, v3, Value.slice Option.none 0 0, v457, Value.string ({ data := #[] })]⟩)) s460))))))))))))))) (pBin Try.prog 3 BinOp.eql v2 (Value.int IntKind.i64 2) (fun v495 => pIf v495 (pIf v495 (AC Try.prog w0 n_p_spec_l1Rd_pick [a0, Value.int IntKind.i64 4] s4 (fun v496 s497 => AC Try.prog w0 n_p_spec_l1Rd_pick [a0, Value.int IntKind.i64 4] s497 (fun v498 s499 => pBin Try.prog 3 BinOp.mul v496 v498 (fun v500 => pVal false 1 v500 (pBin Try.prog 3 BinOp.eql v2 (Value.int IntKind.i64 2) (fun v501 => pIf v501 (AC Try.prog w0 n_spec_l4Data [a0] s499 (fun v502 s503 => pVal false 1 v502 (AC Try.prog w0 n_p_spec_l1Rd_pick [a0, Value.int IntKind.i64 40] s503 (fun v504 s505 => pBin Try.prog 3 BinOp.eql v504 (Value.int IntKind.i64 0) (fun v506 => pIf v506 (pVal false 1 (Value.int IntKind.i64 0) (pVal false 1 (Value.int IntKind.i64 7) (pVal false 1 (Value.int IntKind.i64 (-1)) (pNew w0 3 [Value.int IntKind.i64 0, Value.int IntKind.i64 7, Value.int IntKind.i64 (-1)] s505 (fun n507 s508 => AC Try.prog w0 n_p_spec_l1Rd_pick [a0, Value.int IntKind.i64 3] s508 (fun v509 s510 => pIndexAddr 1 (Value.slice (Option.some (Addr.mk n507 0 Option.none)) 3 3) v509 (fun v511 => pLoad w0 1 v511 s510 (fun g512 => pVal false 1 (g512 0) (pVal true 5 (Value.agg (⟨[g512 0, v3, Value.slice Option.none 0 0, v500, v502]⟩)) (R (Value.agg (⟨[g512 0, v3, Value.slice Option.none 0 0, v500, v502]⟩)) s510)))))))))) (pBin Try.prog 3 BinOp.eql v504 (Value.int IntKind.i64 1) (fun v513 => pIf v513 (pNew w0 9 [] s505 (fun n514 s515 => pVal false 1 (Value.slice (Option.some (Addr.mk n514 0 Option.none)) 0 0) (pVal true 5 (Value.agg (⟨[v2, Value.slice (Option.some (Addr.mk n514 0 Option.none)) 0 0, Value.slice Option.none 0 0, v500, v502]⟩)) (R (Value.agg (⟨[v2, Value.slice (Option.some (Addr.mk n514 0 Option.none)) 0 0, Value.slice Option.none 0 0, v500, v502]⟩)) s515)))) (pBin Try.prog 3 BinOp.eql v504 (Value.int IntKind.i64 2) (fun v516 => pIf v516 (pNew w0 9 [] s505 (fun n517 s518 => pAppendS w0 9 1 16 (Value.slice (Option.some (Addr.mk n517 0 Option.none)) 0 0) v3 s518 (fun v519 s520 => pVal false 1 (Value.string ({ data := #[] })) (pVal false 1 (Value.string ({ data := #[65] })) (pVal false 1 (Value.string ({ data := #[116, 111, 111, 108, 111, 110, 103] })) (pVal false 1 (Value.string ({ data := #[120] })) (pVal false 1 (Value.string ({ data := #[121] })) (pNew w0 9 ([Value.string ({ data := #[] }), Value.string ({ data := #[65] }), Value.string ({ data := #[116, 111, 111, 108, 111, 110, 103] }), Value.string ({ data := #[120] }), Value.string ({ data := #[121] })]) s520 (fun n521 s522 => AC Try.prog w0 n_p_spec_l1Rd_of [a0, Value.slice (Option.some (Addr.mk n521 0 Option.none)) 5 5] s522 (fun v523 s524 => pVal false 1 v523 ((allOne [v523]) ∧ (pAppend w0 9 1 16 v519 1 [v523] s524 (fun v525 s526 => pVal false 1 v525 (pVal true 5 (Value.agg (⟨[v2, v525, Value.slice Option.none 0 0, v500, v502]⟩)) (R (Value.agg (⟨[v2, v525, Value.slice Option.none 0 0, v500, v502]⟩)) s526))))))))))))))) (pBin Try.prog 3 BinOp.eql v504 (Value.int IntKind.i64 3) (fun v527 => pIf v527 (pVal false 1 (Value.int IntKind.i64 (-1)) (pVal false 1 (Value.int IntKind.i64 8) (pVal false 1 (Value.int IntKind.i64 24) (pVal false 1 (Value.int IntKind.i64 25) (pNew w0 3 [Value.int IntKind.i64 (-1), Value.int IntKind.i64 8, Value.int IntKind.i64 24, Value.int IntKind.i64 25] s505 (fun n528 s529 => AC Try.prog w0 n_p_spec_l1Rd_pick [a0, Value.int IntKind.i64 4] s529 (fun v530 s531 => pIndexAddr 1 (Value.slice (Option.some (Addr.mk n528 0 Option.none)) 4 4) v530 (fun v532 => pLoad w0 1 v532 s531 (fun g533 => pVal false 1 (g533 0) (pVal true 5 (Value.agg (⟨[v2, v3, Value.slice Option.none 0 0, g533 0, v502]⟩)) (R (Value.agg (⟨[v2, v3, Value.slice Option.none 0 0, g533 0, v502]⟩)) s531))))))))))) (pBin Try.prog 3 BinOp.eql v504 (Value.int IntKind.i64 4) (fun v534 => pIf v534 (AC Try.prog w0 n_p_spec_l1Rd_pick [a0, Value.int IntKind.i64 2] s505 (fun v535 s536 => pBin Try.prog 3 BinOp.add (Value.int IntKind.i64 24) v535 (fun v537 => AC Try.prog w0 n_spec_l1Many ([Value.string ({ data := #[113] }), v537]) s536 (fun v538 s539 => pVal false 1 v538 (pVal true 5 (Value.agg (⟨[v2, v3, Value.slice Option.none 0 0, v500, v538]⟩)) (R (Value.agg (⟨[v2, v3, Value.slice Option.none 0 0, v500, v538]⟩)) s539)))))) (pVal true 5 (Value.agg (⟨[v2, v3, Value.slice Option.none 0 0, v500, v502]⟩)) (R (Value.agg (⟨[v2, v3, Value.slice Option.none 0 0, v500, v502]⟩)) s505))))))))))))))) (AC Try.prog w0 n_p_spec_l1Rd_pick [a0, Value.int IntKind.i64 40] s499 (fun v540 s541 => pBin Try.prog 3 BinOp.eql v540 (Value.int IntKind.i64 0) (fun v542 => pIf v542 (pVal false 1 (Value.int IntKind.i64 0) (pVal false 1 (Value.int IntKind.i64 7) (pVal false 1 (Value.int IntKind.i64 (-1)) (pNew w0 3 [Value.int IntKind.i64 0, Value.int IntKind.i64 7, Value.int IntKind.i64 (-1)] s541 (fun n543 s544 => AC Try.prog w0 n_p_spec_l1Rd_pick [a0, Value.int IntKind.i64 3] s544 (fun v545 s546 => pIndexAddr 1 (Value.slice (Option.some (Addr.mk n543 0 Option.none)) 3 3) v545 (fun v547 => pLoad w0 1 v547 s546 (fun g548 => pVal false 1 (g548 0) (pVal true 5 (Value.agg (⟨[g548 0, v3, Value.slice Option.none 0 0, v500, Value.string ({ data := #[] })]⟩)) (R (Value.agg (⟨[g548 0, v3, Value.slice Option.none 0 0, v500, Value.string ({ data := #[] })]⟩)) s546)))))))))) (pBin Try.prog 3 BinOp.eql v540 (Value.int IntKind.i64 1) (fun v549 => pIf v549 (pNew w0 9 [] s541 (fun n550 s551 => pVal false 1 (Value.slice (Option.some (Addr.mk n550 0 Option.none)) 0 0) (pVal true 5 (Value.agg (⟨[v2, Value.slice (Option.some (Addr.mk n550 0 Option.none)) 0 0, Value.slice Option.none 0 0, v500, Value.string ({ data := #[] })]⟩)) (R (Value.agg (⟨[v2, Value.slice (Option.some (Addr.mk n550 0 Option.none)) 0 0, Value.slice Option.none 0 0, v500, Value.string ({ data := #[] })]⟩)) s551)))) (pBin Try.prog 3 BinOp.eql v540 (Value.int IntKind.i64 2) (fun v552 => pIf v552 (pNew w0 9 [] s541 (fun n553 s554 => pAppendS w0 9 1 16 (Value.slice (Option.some (Addr.mk n553 0 Option.none)) 0 0) v3 s554 (fun v555 s556 => pVal false 1 (Value.string ({ data := #[] })) (pVal false 1 (Value.string ({ data := #[65] })) (pVal false 1 (Value.string ({ data := #[116, 111, 111, 108, 111, 110, 103] })) (pVal false 1 (Value.string ({ data := #[120] })) (pVal false 1 (Value.string ({ data := #[121] })) (pNew w0 9 ([Value.string ({ data := #[] }), Value.string ({ data := #[65] }), Value.string ({ data := #[116, 111, 111, 108, 111, 110, 103] }), Value.string ({ data := #[120] }), Value.string ({ data := #[121] })]) s556 (fun n557 s558 => AC Try.prog w0 n_p_spec_l1Rd_of [a0, Value.slice (Option.some (Addr.mk n557 0 Option.none)) 5 5] s558 (fun v559 s560 => pVal false 1 v559 ((allOne [v559]) ∧ (pAppend w0 9 1 16 v555 1 [v559] s560 (fun v561 s562 => pVal false 1 v561 (pVal true 5 (Value.agg (⟨[v2, v561, Value.slice Option.none 0 0, v500, Value.string ({ data := #[] })]⟩)) (R (Value.agg (⟨[v2, v561, Value.slice Option.none 0 0, v500, Value.string ({ data := #[] })]⟩)) s562))))))))))))))) (pBin Try.prog 3 BinOp.eql v540 (Value.int IntKind.i64 3) (fun v563 => pIf v563 (pVal false 1 (Value.int IntKind.i64 (-1)) (pVal false 1 (Value.int IntKind.i64 8) (pVal false 1 (Value.int IntKind.i64 24) (pVal false 1 (Value.int IntKind.i64 25) (pNew w0 3 [Value.int IntKind.i64 (-1), Value.int IntKind.i64 8, Value.int IntKind.i64 24, Value.int IntKind.i64 25] s541 (fun n564 s565 => AC Try.prog w0 n_p_spec_l1Rd_pick [a0, Value.int IntKind.i64 4] s565 (fun v566 s567 => pIndexAddr 1 (Value.slice (Option.some (Addr.mk n564 0 Option.none)) 4 4) v566 (fun v568 => pLoad w0 1 v568 s567 (fun g569 => pVal false 1 (g569 0) (pVal true 5 (Value.agg (⟨[v2, v3, Value.slice Option.none 0 0, g569 0, Value.string ({ data := #[] })]⟩)) (R (Value.agg (⟨[v2, v3, Value.slice Option.none 0 0, g569 0, Value.string ({ data := #[] })]⟩)) s567))))))))))) (pBin Try.prog 3 BinOp.eql v540 (Value.int IntKind.i64 4) (fun v570 => pIf v570 (AC Try.prog w0 n_p_spec_l1Rd_pick [a0, Value.int IntKind.i64 2] s541 (fun v571 s572 => pBin Try.prog 3 BinOp.add (Value.int IntKind.i64 24) v571 (fun v573 => AC Try.prog w0 n_spec_l1Many ([Value.string ({ data := #[113] }), v573]) s572 (fun v574 s575 => pVal false 1 v574 (pVal true 5 (Value.agg (⟨[v2, v3, Value.slice Option.none 0 0, v500, v574]⟩)) (R (Value.agg (⟨[v2, v3, Value.slice Option.none 0 0, v500, v574]⟩)) s575)))))) (pVal true 5 (Value.agg (⟨[v2, v3, Value.slice Option.none 0 0, v500, Value.string ({ data := #[] })]⟩)) (R (Value.agg (⟨[v2, v3, Value.slice Option.none 0 0, v500, Value.string ({ data := #[] })]⟩)) s541))))))))))))))))))) (pBin Try.prog 3 BinOp.eql v2 (Value.int IntKind.i64 5) (fun v576 => pIf v576 (AC Try.prog w0 n_spec_l4Path ([a0, Value.agg (⟨[cellOf a1 0, cellOf a1 1, cellOf a1 2, cellOf a1 3, cellOf a1 4]⟩)]) s4 (fun v577 s578 => pVal false 1 v577 (AC Try.prog w0 n_p_spec_l1Rd_pick [a0, Value.int IntKind.i64 2] s578 (fun v579 s580 => pBin Try.prog 3 BinOp.eql v579 (Value.int IntKind.i64 0) (fun v581 => pIf v581 (pNew w0 9 [] s580 (fun n582 s583 => pLen v577 (fun v584 => pBin Try.prog 3 BinOp.sub v584 (Value.int IntKind.i64 1) (fun v585 => pSlice 1 v577 Option.none (Option.some v585) (fun v586 => pAppendS w0 9 1 16 (Value.slice (Option.some (Addr.mk n582 0 Option.none)) 0 0) v586 s583 (fun v587 s588 => AC Try.prog w0 n_spec_l4Name [a0] s588 (fun v589 s590 => pVal false 1 v589 ((allOne [v589]) ∧ (pAppend w0 9 1 16 v587 1 [v589] s590 (fun v591 s592 => pVal false 1 v591 (AC Try.prog w0 n_p_spec_l1Rd_pick [a0, Value.int IntKind.i64 40] s592 (fun v593 s594 => pBin Try.prog 3 BinOp.eql v593 (Value.int IntKind.i64 0) (fun v595 => pIf v595 (pVal false 1 (Value.int IntKind.i64 0) (pVal false 1 (Value.int IntKind.i64 7) (pVal false 1 (Value.int IntKind.i64 (-1)) (pNew w0 3 [Value.int IntKind.i64 0, Value.int IntKind.i64 7, Value.int IntKind.i64 (-1)] s594 (fun n596 s597 => AC Try.prog w0 n_p_spec_l1Rd_pick [a0, Value.int IntKind.i64 3] s597 (fun v598 s599 => pIndexAddr 1 (Value.slice (Option.some (Addr.mk n596 0 Option.none)) 3 3) v598 (fun v600 => pLoad w0 1 v600 s599 (fun g601 => pVal false 1 (g601 0) (pVal true 5 (Value.agg (⟨[g601 0, v3, v591, Value.int IntKind.i64 0, Value.string ({ data := #[] })]⟩)) (R (Value.agg (⟨[g601 0, v3, v591, Value.int IntKind.i64 0, Value.string ({ data := #[] })]⟩)) s599)))))))))) (pBin Try.prog 3 BinOp.eql v593 (Value.int IntKind.i64 1) (fun v602 => pIf v602 (pNew w0 9 [] s594 (fun n603 s604 => pVal false 1 (Value.slice (Option.some (Addr.mk n603 0 Option.none)) 0 0) (pVal true 5 (Value.agg (⟨[v2, Value.slice (Option.some (Addr.mk n603 0 Option.none)) 0 0, v591, Value.int IntKind.i64 0, Value.string ({ data := #[] })]⟩)) (R (Value.agg (⟨[v2, Value.slice (Option.some (Addr.mk n603 0 Option.none)) 0 0, v591, Value.int IntKind.i64 0, Value.string ({ data := #[] })]⟩)) s604)))) (pBin Try.prog 3 BinOp.eql v593 (Value.int IntKind.i64 2) (fun v605 => pIf v605 (pNew w0 9 [] s594 (fun n606 s607 => pAppendS w0 9 1 16 (Value.slice (Option.some (Addr.mk n606 0 Option.none)) 0 0) v3 s607 (fun v608 s609 => pVal false 1 (Value.string ({ data := #[] })) (pVal false 1 (Value.string ({ data := #[65] })) (pVal false 1 (Value.string ({ data := #[116, 111, 111, 108, 111, 110, 103] })) (pVal false 1 (Value.string ({ data := #[120] })) (pVal false 1 (Value.string ({ data := #[121] })) (pNew w0 9 ([Value.string ({ data := #[] }), Value.string ({ data := #[65] }), Value.string ({ data := #[116, 111, 111, 108, 111, 110, 103] }), Value.string ({ data := #[120] }), Value.string ({ data := #[121] })]) s609 (fun n610 s611 => AC Try.prog w0 n_p_spec_l1Rd_of [a0, Value.slice (Option.some (Addr.mk n610 0 Option.none)) 5 5] s611 (fun v612 s613 => pVal false 1 v612 ((allOne [v612]) ∧ (pAppend w0 9 1 16 v608 1 [v612] s613 (fun v614 s615 => pVal false 1 v614 (pVal true 5 (Value.agg (⟨[v2, v614, v591, Value.int IntKind.i64 0, Value.string ({ data := #[] })]⟩)) (R (Value.agg (⟨[v2, v614, v591, Value.int IntKind.i64 0, Value.string ({ data := #[] })]⟩)) s615))))))))))))))) (pBin Try.prog 3 BinOp.eql v593 (Value.int IntKind.i64 3) (fun v616 => pIf v616 (pVal false 1 (Value.int IntKind.i64 (-1)) (pVal false 1 (Value.int IntKind.i64 8) (pVal false 1 (Value.int IntKind.i64 24) (pVal false 1 (Value.int IntKind.i64 25) (pNew w0 3 [Value.int IntKind.i64 (-1), Value.int IntKind.i64 8, Value.int IntKind.i64 24, Value.int IntKind.i64 25] s594 (fun n617 s618 => AC Try.prog w0 n_p_spec_l1Rd_pick [a0, Value.int IntKind.i64 4] s618 (fun v619 s620 => pIndexAddr 1 (Value.slice (Option.some (Addr.mk n617 0 Option.none)) 4 4) v619 (fun v621 => pLoad w0 1 v621 s620 (fun g622 => pVal false 1 (g622 0) (pVal true 5 (Value.agg (⟨[v2, v3, v591, g622 0, Value.string ({ data := #[] })]⟩)) (R (Value.agg (⟨[v2, v3, v591, g622 0, Value.string ({ data := #[] })]⟩)) s620))))))))))) (pBin Try.prog 3 BinOp.eql v593 (Value.int IntKind.i64 4) (fun v623 => pIf v623 (AC Try.prog w0 n_p_spec_l1Rd_pick [a0, Value.int IntKind.i64 2] s594 (fun v624 s625 => pBin Try.prog 3 BinOp.add (Value.int IntKind.i64 24) v624 (fun v626 => AC Try.prog w0 n_spec_l1Many ([Value.string ({ data := #[113] }), v626]) s625 (fun v627 s628 => pVal false 1 v627 (pVal true 5 (Value.agg (⟨[v2, v3, v591, Value.int IntKind.i64 0, v627]⟩)) (R (Value.agg (⟨[v2, v3, v591, Value.int IntKind.i64 0, v627]⟩)) s628)))))) (pVal true 5 (Value.agg (⟨[v2, v3, v591, Value.int IntKind.i64 0, Value.string ({ data := #[] })]⟩)) (R (Value.agg (⟨[v2, v3, v591, Value.int IntKind.i64 0, Value.string ({ data := #[] })]⟩)) s594))))))))))))))))))))))) (AC Try.prog w0 n_p_spec_l1Rd_pick [a0, Value.int IntKind.i64 40] s580 (fun v629 s630 => pBin Try.prog 3 BinOp.eql v629 (Value.int IntKind.i64 0) (fun v631 => pIf v631 (pVal false 1 (Value.int IntKind.i64 0) (pVal false 1 (Value.int IntKind.i64 7) (pVal false 1 (Value.int IntKind.i64 (-1)) (pNew w0 3 [Value.int IntKind.i64 0, Value.int IntKind.i64 7, Value.int IntKind.i64 (-1)] s630 (fun n632 s633 => AC Try.prog w0 n_p_spec_l1Rd_pick [a0, Value.int IntKind.i64 3] s633 (fun v634 s635 => pIndexAddr 1 (Value.slice (Option.some (Addr.mk n632 0 Option.none)) 3 3) v634 (fun v636 => pLoad w0 1 v636 s635 (fun g637 => pVal false 1 (g637 0) (pVal true 5 (Value.agg (⟨[g637 0, v3, v577, Value.int IntKind.i64 0, Value.string ({ data := #[] })]⟩)) (R (Value.agg (⟨[g637 0, v3, v577, Value.int IntKind.i64 0, Value.string ({ data := #[] })]⟩)) s635)))))))))) (pBin Try.prog 3 BinOp.eql v629 (Value.int IntKind.i64 1) (fun v638 => pIf v638 (pNew w0 9 [] s630 (fun n639 s640 => pVal false 1 (Value.slice (Option.some (Addr.mk n639 0 Option.none)) 0 0) (pVal true 5 (Value.agg (⟨[v2, Value.slice (Option.some (Addr.mk n639 0 Option.none)) 0 0, v577, Value.int IntKind.i64 0, Value.string ({ data := #[] })]⟩)) (R (Value.agg (⟨[v2, Value.slice (Option.some (Addr.mk n639 0 Option.none)) 0 0, v577, Value.int IntKind.i64 0, Value.string ({ data := #[] })]⟩)) s640)))) (pBin Try.prog 3 BinOp.eql v629 (Value.int IntKind.i64 2) (fun v641 => pIf v641 (pNew w0 9 [] s630 (fun n642 s643 => pAppendS w0 9 1 16 (Value.slice (Option.some (Addr.mk n642 0 Option.none)) 0 0) v3 s643 (fun v644 s645 => pVal false 1 (Value.string ({ data := #[] })) (pVal false 1 (Value.string ({ data := #[65] })) (pVal false 1 (Value.string ({ data := #[116, 111, 111, 108, 111, 110, 103] })) (pVal false 1 (Value.string ({ data := #[120] })) (pVal false 1 (Value.string ({ data := #[121] })) (pNew w0 9 ([Value.string ({ data := #[] }), Value.string ({ data := #[65] }), Value.string ({ data := #[116, 111, 111, 108, 111, 110, 103] }), Value.string ({ data := #[120] }), Value.string ({ data := #[121] })]) s645 (fun n646 s647 => AC Try.prog w0 n_p_spec_l1Rd_of [a0, Value.slice (Option.some (Addr.mk n646 0 Option.none)) 5 5] s647 (fun v648 s649 => pVal false 1 v648 ((allOne [v648]) ∧ (pAppend w0 9 1 16 v644 1 [v648] s649 (fun v650 s651 => pVal false 1 v650 (pVal true 5 (Value.agg (⟨[v2, v650, v577, Value.int IntKind.i64 0, Value.string ({ data := #[] })]⟩)) (R (Value.agg (⟨[v2, v650, v577, Value.int IntKind.i64 0, Value.string ({ data := #[] })]⟩)) s651))))))))))))))) (pBin Try.prog 3 BinOp.eql v629 (Value.int IntKind.i64 3) (fun v652 => pIf v652 (pVal false 1 (Value.int IntKind.i64 (-1)) (pVal false 1 (Value.int IntKind.i64 8) (pVal false 1 (Value.int IntKind.i64 24) (pVal false 1 (Value.int IntKind.i64 25) (pNew w0 3 [Value.int IntKind.i64 (-1), Value.int IntKind.i64 8, Value.int IntKind.i64 24, Value.int IntKind.i64 25] s630 (fun n653 s654 => AC Try.prog w0 n_p_spec_l1Rd_pick [a0, Value.int IntKind.i64 4] s654 (fun v655 s656 => pIndexAddr 1 (Value.slice (Option.some (Addr.mk n653 0 Option.none)) 4 4) v655 (fun v657 => pLoad w0 1 v657 s656 (fun g658 => pVal false 1 (g658 0) (pVal true 5 (Value.agg (⟨[v2, v3, v577, g658 0, Value.string ({ data := #[] })]⟩)) (R (Value.agg (⟨[v2, v3, v577, g658 0, Value.string ({ data := #[] })]⟩)) s656))))))))))) (pBin Try.prog 3 BinOp.eql v629 (Value.int IntKind.i64 4) (fun v659 => pIf v659 (AC Try.prog w0 n_p_spec_l1Rd_pick [a0, Value.int IntKind.i64 2] s630 (fun v660 s661 => pBin Try.prog 3 BinOp.add (Value.int IntKind.i64 24) v660 (fun v662 => AC Try.prog w0 n_spec_l1Many ([Value.string ({ data := #[113] }), v662]) s661 (fun v663 s664 => pVal false 1 v663 (pVal true 5 (Value.agg (⟨[v2, v3, v577, Value.int IntKind.i64 0, v663]⟩)) (R (Value.agg (⟨[v2, v3, v577, Value.int IntKind.i64 0, v663]⟩)) s664)))))) (pVal true 5 (Value.agg (⟨[v2, v3, v577, Value.int IntKind.i64 0, Value.string ({ data := #[] })]⟩)) (R (Value.agg (⟨[v2, v3, v577, Value.int IntKind.i64 0, Value.string ({ data := #[] })]⟩)) s630)))))))))))))))))) (AC Try.prog w0 n_p_spec_l1Rd_pick [a0, Value.int IntKind.i64 40] s4 (fun v665 s666 => pBin Try.prog 3 BinOp.eql v665 (Value.int IntKind.i64 0) (fun v667 => pIf v667 (pVal false 1 (Value.int IntKind.i64 0) (pVal false 1 (Value.int IntKind.i64 7) (pVal false 1 (Value.int IntKind.i64 (-1)) (pNew w0 3 [Value.int IntKind.i64 0, Value.int IntKind.i64 7, Value.int IntKind.i64 (-1)] s666 (fun n668 s669 => AC Try.prog w0 n_p_spec_l1Rd_pick [a0, Value.int IntKind.i64 3] s669 (fun v670 s671 => pIndexAddr 1 (Value.slice (Option.some (Addr.mk n668 0 Option.none)) 3 3) v670 (fun v672 => pLoad w0 1 v672 s671 (fun g673 => pVal false 1 (g673 0) (pVal true 5 (Value.agg (⟨[g673 0, v3, Value.slice Option.none 0 0, Value.int IntKind.i64 0, Value.string ({ data := #[] })]⟩)) (R (Value.agg (⟨[g673 0, v3, Value.slice Option.none 0 0, Value.int IntKind.i64 0, Value.string ({ data := #[] })]⟩)) s671)))))))))) (pBin Try.prog 3 BinOp.eql v665 (Value.int IntKind.i64 1) (fun v674 => pIf v674 (pNew w0 9 [] s666 (fun n675 s676 => pVal false 1 (Value.slice (Option.some (Addr.mk n675 0 Option.none)) 0 0) (pVal true 5 (Value.agg (⟨[v2, Value.slice (Option.some (Addr.mk n675 0 Option.none)) 0 0, Value.slice Option.none 0 0, Value.int IntKind.i64 0, Value.string ({ data := #[] })]⟩)) (R (Value.agg (⟨[v2, Value.slice (Option.some (Addr.mk n675 0 Option.none)) 0 0, Value.slice Option.none 0 0, Value.int IntKind.i64 0, Value.string ({ data := #[] })]⟩)) s676)))) (pBin Try.prog 3 BinOp.eql v665 (Value.int IntKind.i64 2) (fun v677 => pIf v677 (pNew w0 9 [] s666 (fun n678 s679 => pAppendS w0 9 1 16 (Value.slice (Option.some (Addr.mk n678 0 Option.none)) 0 0) v3 s679 (fun v680 s681 => pVal false 1 (Value.string ({ data := #[] })) (pVal false 1 (Value.string ({ data := #[65] })) (pVal false 1 (Value.string ({ data := #[116, 111, 111, 108, 111, 110, 103] })) (pVal false 1 (Value.string ({ data := #[120] })) (pVal false 1 (Value.string ({ data := #[121] })) (pNew w0 9 ([Value.string ({ data := #[] }), Value.string ({ data := #[65] }), Value.string ({ data := #[116, 111, 111, 108, 111, 110, 103] }), Value.string ({ data := #[120] }), Value.string ({ data := #[121] })]) s681 (fun n682 s683 => AC Try.prog w0 n_p_spec_l1Rd_of [a0, Value.slice (Option.some (Addr.mk n682 0 Option.none)) 5 5] s683 (fun v684 s685 => pVal false 1 v684 ((allOne [v684]) ∧ (pAppend w0 9 1 16 v680 1 [v684] s685 (fun v686 s687 => pVal false 1 v686 (pVal true 5 (Value.agg (⟨[v2, v686, Value.slice Option.none 0 0, Value.int IntKind.i64 0, Value.string ({ data := #[] })]⟩)) (R (Value.agg (⟨[v2, v686, Value.slice Option.none 0 0, Value.int IntKind.i64 0, Value.string ({ data := #[] })]⟩)) s687))))))))))))))) (pBin Try.prog 3 BinOp.eql v665 (Value.int IntKind.i64 3) (fun v688 => pIf v688 (pVal false 1 (Value.int IntKind.i64 (-1)) (pVal false 1 (Value.int IntKind.i64 8) (pVal false 1 (Value.int IntKind.i64 24) (pVal false 1 (Value.int IntKind.i64 25) (pNew w0 3 [Value.int IntKind.i64 (-1), Value.int IntKind.i64 8, Value.int IntKind.i64 24, Value.int IntKind.i64 25] s666 (fun n689 s690 => AC Try.prog w0 n_p_spec_l1Rd_pick [a0, Value.int IntKind.i64 4] s690 (fun v691 s692 => pIndexAddr 1 (Value.slice (Option.some (Addr.mk n689 0 Option.none)) 4 4) v691 (fun v693 => pLoad w0 1 v693 s692 (fun g694 => pVal false 1 (g694 0) (pVal true 5 (Value.agg (⟨[v2, v3, Value.slice Option.none 0 0, g694 0, Value.string ({ data := #[] })]⟩)) (R (Value.agg (⟨[v2, v3, Value.slice Option.none 0 0, g694 0, Value.string ({ data := #[] })]⟩)) s692))))))))))) (pBin Try.prog 3 BinOp.eql v665 (Value.int IntKind.i64 4) (fun v695 => pIf v695 (AC Try.prog w0 n_p_spec_l1Rd_pick [a0, Value.int IntKind.i64 2] s666 (fun v696 s697 => pBin Try.prog 3 BinOp.add (Value.int IntKind.i64 24) v696 (fun v698 => AC Try.prog w0 n_spec_l1Many ([Value.string ({ data := #[113] }), v698]) s697 (fun v699 s700 => pVal false 1 v699 (pVal true 5 (Value.agg (⟨[v2, v3, Value.slice Option.none 0 0, Value.int IntKind.i64 0, v699]⟩)) (R (Value.agg (⟨[v2, v3, Value.slice Option.none 0 0, Value.int IntKind.i64 0, v699]⟩)) s700)))))) (pVal true 5 (Value.agg (⟨[v2, v3, Value.slice Option.none 0 0, Value.int IntKind.i64 0, Value.string ({ data := #[] })]⟩)) (R (Value.agg (⟨[v2, v3, Value.slice Option.none 0 0, Value.int IntKind.i64 0, Value.string ({ data := #[] })]⟩)) s666)))))))))))))))) (pBin Try.prog 3 BinOp.eql v2 (Value.int IntKind.i64 3) (fun v701 => pIf v701 (AC Try.prog w0 n_p_spec_l1Rd_pick [a0, Value.int IntKind.i64 4] s4 (fun v702 s703 => AC Try.prog w0 n_p_spec_l1Rd_pick [a0, Value.int IntKind.i64 4] s703 (fun v704 s705 => pBin Try.prog 3 BinOp.mul v702 v704 (fun v706 => pVal false 1 v706 (pBin Try.prog 3 BinOp.eql v2 (Value.int IntKind.i64 2) (fun v707 => pIf v707 (AC Try.prog w0 n_spec_l4Data [a0] s705 (fun v708 s709 => pVal false 1 v708 (AC Try.prog w0 n_p_spec_l1Rd_pick [a0, Value.int IntKind.i64 40] s709 (fun v710 s711 => pBin Try.prog 3 BinOp.eql v710 (Value.int IntKind.i64 0) (fun v712 => pIf v712 (pVal false 1 (Value.int IntKind.i64 0) (pVal false 1 (Value.int IntKind.i64 7) (pVal false 1 (Value.int IntKind.i64 (-1)) (pNew w0 3 [Value.int IntKind.i64 0, Value.int IntKind.i64 7, Value.int IntKind.i64 (-1)] s711 (fun n713 s714 => AC Try.prog w0 n_p_spec_l1Rd_pick [a0, Value.int IntKind.i64 3] s714 (fun v715 s716 => pIndexAddr 1 (Value.slice (Option.some (Addr.mk n713 0 Option.none)) 3 3) v715 (fun v717 => pLoad w0 1 v717 s716 (fun g718 => pVal false 1 (g718 0) (pVal true 5 (Value.agg (⟨[g718 0, v3, Value.slice Option.none 0 0, v706, v708]⟩)) (R (Value.agg (⟨[g718 0, v3, Value.slice Option.none 0 0, v706, v708]⟩)) s716)))))))))) (pBin Try.prog 3 BinOp.eql v710 (Value.int IntKind.i64 1) (fun v719 => pIf v719 (pNew w0 9 [] s711 (fun n720 s721 => pVal false 1 (Value.slice (Option.some (Addr.mk n720 0 Option.none)) 0 0) (pVal true 5 (Value.agg (⟨[v2, Value.slice (Option.some (Addr.mk n720 0 Option.none)) 0 0, Value.slice Option.none 0 0, v706, v708]⟩)) (R (Value.agg (⟨[v2, Value.slice (Option.some (Addr.mk n720 0 Option.none)) 0 0, Value.slice Option.none 0 0, v706, v708]⟩)) s721)))) (pBin Try.prog 3 BinOp.eql v710 (Value.int IntKind.i64 2) (fun v722 => pIf v722 (pNew w0 9 [] s711 (fun n723 s724 => pAppendS w0 9 1 16 (Value.slice (Option.some (Addr.mk n723 0 Option.none)) 0 0) v3 s724 (fun v725 s726 => pVal false 1 (Value.string ({ data := #[] })) (pVal false 1 (Value.string ({ data := #[65] })) (pVal false 1 (Value.string ({ data := #[116, 111, 111, 108, 111, 110, 103] })) (pVal false 1 (Value.string ({ data := #[120] })) (pVal false 1 (Value.string ({ data := #[121] })) (pNew w0 9 ([Value.string ({ data := #[] }), Value.string ({ data := #[65] }), Value.string ({ data := #[116, 111, 111, 108, 111, 110, 103] }), Value.string ({ data := #[120] }), Value.string ({ data := #[121] })]) s726 (fun n727 s728 => AC Try.prog w0 n_p_spec_l1Rd_of [a0, Value.slice (Option.some (Addr.mk n727 0 Option.none)) 5 5] s728 (fun v729 s730 => pVal false 1 v729 ((allOne [v729]) ∧ (pAppend w0 9 1 16 v725 1 [v729] s730 (fun v731 s732 => pVal false 1 v731 (pVal true 5 (Value.agg (⟨[v2, v731, Value.slice Option.none 0 0, v706, v708]⟩)) (R (Value.agg (⟨[v2, v731, Value.slice Option.none 0 0, v706, v708]⟩)) s732))))))))))))))) (pBin Try.prog 3 BinOp.eql v710 (Value.int IntKind.i64 3) (fun v733 => pIf v733 (pVal false 1 (Value.int IntKind.i64 (-1)) (pVal false 1 (Value.int IntKind.i64 8) (pVal false 1 (Value.int IntKind.i64 24) (pVal false 1 (Value.int IntKind.i64 25) (pNew w0 3 [Value.int IntKind.i64 (-1), Value.int IntKind.i64 8, Value.int IntKind.i64 24, Value.int IntKind.i64 25] s711 (fun n734 s735 => AC Try.prog w0 n_p_spec_l1Rd_pick [a0, Value.int IntKind.i64 4] s735 (fun v736 s737 => pIndexAddr 1 (Value.slice (Option.some (Addr.mk n734 0 Option.none)) 4 4) v736 (fun v738 => pLoad w0 1 v738 s737 (fun g739 => pVal false 1 (g739 0) (pVal true 5 (Value.agg (⟨[v2, v3, Value.slice Option.none 0 0, g739 0, v708]⟩)) (R (Value.agg (⟨[v2, v3, Value.slice Option.none 0 0, g739 0, v708]⟩)) s737))))))))))) (pBin Try.prog 3 BinOp.eql v710 (Value.int IntKind.i64 4) (fun v740 => pIf v740 (AC Try.prog w0 n_p_spec_l1Rd_pick [a0, Value.int IntKind.i64 2] s711 (fun v741 s742 => pBin Try.prog 3 BinOp.add (Value.int IntKind.i64 24) v741 (fun v743 => AC Try.prog w0 n_spec_l1Many ([Value.string ({ data := #[113] }), v743]) s742 (fun v744 s745 => pVal false 1 v744 (pVal true 5 (Value.agg (⟨[v2, v3, Value.slice Option.none 0 0, v706, v744]⟩)) (R (Value.agg (⟨[v2, v3, Value.slice Option.none 0 0, v706, v744]⟩)) s745)))))) (pVal true 5 (Value.agg (⟨[v2, v3, Value.slice Option.none 0 0, v706, v708]⟩)) (R (Value.agg (⟨[v2, v3, Value.slice Option.none 0 0, v706, v708]⟩)) s711))))))))))))))) (AC Try.prog w0 n_p_spec_l1Rd_pick [a0, Value.int IntKind.i64 40] s705 (fun v746 s747 => pBin Try.prog 3 BinOp.eql v746 (Value.int IntKind.i64 0) (fun v748 => pIf v748 (pVal false 1 (Value.int IntKind.i64 0) (pVal false 1 (Value.int IntKind.i64 7) (pVal false 1 (Value.int IntKind.i64 (-1)) (pNew w0 3 [Value.int IntKind.i64 0, Value.int IntKind.i64 7, Value.int IntKind.i64 (-1)] s747 (fun n749 s750 => AC Try.prog w0 n_p_spec_l1Rd_pick [a0, Value.int IntKind.i64 3] s750 (fun v751 s752 => pIndexAddr 1 (Value.slice (Option.some (Addr.mk n749 0 Option.none)) 3 3) v751 (fun v753 => pLoad w0 1 v753 s752 (fun g754 => pVal false 1 (g754 0) (pVal true 5 (Value.agg (⟨[g754 0, v3, Value.slice Option.none 0 0, v706, Value.string ({ data := #[] })]⟩)) (R (Value.agg (⟨[g754 0, v3, Value.slice Option.none 0 0, v706, Value.string ({ data := #[] })]⟩)) s752)))))))))) (pBin Try.prog 3 BinOp.eql v746 (Value.int IntKind.i64 1) (fun v755 => pIf v755 (pNew w0 9 [] s747 (fun n756 s757 => pVal false 1 (Value.slice (Option.some (Addr.mk n756 0 Option.none)) 0 0) (pVal true 5 (Value.agg (⟨[v2, Value.slice (Option.some (Addr.mk n756 0 Option.none)) 0 0, Value.slice Option.none 0 0, v706, Value.string ({ data := #[] })]⟩)) (R (Value.agg (⟨[v2, Value.slice (Option.some (Addr.mk n756 0 Option.none)) 0 0, Value.slice Option.none 0 0, v706, Value.string ({ data := #[] })]⟩)) s757)))) (pBin Try.prog 3 BinOp.eql v746 (Value.int IntKind.i64 2) (fun v758 => pIf v758 (pNew w0 9 [] s747 (fun n759 s760 => pAppendS w0 9 1 16 (Value.slice (Option.some (Addr.mk n759 0 Option.none)) 0 0) v3 s760 (fun v761 s762 => pVal false 1 (Value.string ({ data := #[] })) (pVal false 1 (Value.string ({ data := #[65] })) (pVal false 1 (Value.string ({ data := #[116, 111, 111, 108, 111, 110, 103] })) (pVal false 1 (Value.string ({ data := #[120] })) (pVal false 1 (Value.string ({ data := #[121] })) (pNew w0 9 ([Value.string ({ data := #[] }), Value.string ({ data := #[65] }), Value.string ({ data := #[116, 111, 111, 108, 111, 110, 103] }), Value.string ({ data := #[120] }), Value.string ({ data := #[121] })]) s762 (fun n763 s764 => AC Try.prog w0 n_p_spec_l1Rd_of [a0, Value.slice (Option.some (Addr.mk n763 0 Option.none)) 5 5] s764 (fun v765 s766 => pVal false 1 v765 ((allOne [v765]) ∧ (pAppend w0 9 1 16 v761 1 [v765] s766 (fun v767 s768 => pVal false 1 v767 (pVal true 5 (Value.agg (⟨[v2, v767, Value.slice Option.none 0 0, v706, Value.string ({ data := #[] })]⟩)) (R (Value.agg (⟨[v2, v767, Value.slice Option.none 0 0, v706, Value.string ({ data := #[] })]⟩)) s768))))))))))))))) (pBin Try.prog 3 BinOp.eql v746 (Value.int IntKind.i64 3) (fun v769 => pIf v769 (pVal false 1 (Value.int IntKind.i64 (-1)) (pVal false 1 (Value.int IntKind.i64 8) (pVal false 1 (Value.int IntKind.i64 24) (pVal false 1 (Value.int IntKind.i64 25) (pNew w0 3 [Value.int IntKind.i64 (-1), Value.int IntKind.i64 8, Value.int IntKind.i64 24, Value.int IntKind.i64 25] s747 (fun n770 s771 => AC Try.prog w0 n_p_spec_l1Rd_pick [a0, Value.int IntKind.i64 4] s771 (fun v772 s773 => pIndexAddr 1 (Value.slice (Option.some (Addr.mk n770 0 Option.none)) 4 4) v772 (fun v774 => pLoad w0 1 v774 s773 (fun g775 => pVal false 1 (g775 0) (pVal true 5 (Value.agg (⟨[v2, v3, Value.slice Option.none 0 0, g775 0, Value.string ({ data := #[] })]⟩)) (R (Value.agg (⟨[v2, v3, Value.slice Option.none 0 0, g775 0, Value.string ({ data := #[] })]⟩)) s773))))))))))) (pBin Try.prog 3 BinOp.eql v746 (Value.int IntKind.i64 4) (fun v776 => pIf v776 (AC Try.prog w0 n_p_spec_l1Rd_pick [a0, Value.int IntKind.i64 2] s747 (fun v777 s778 => pBin Try.prog 3 BinOp.add (Value.int IntKind.i64 24) v777 (fun v779 => AC Try.prog w0 n_spec_l1Many ([Value.string ({ data := #[113] }), v779]) s778 (fun v780 s781 => pVal false 1 v780 (pVal true 5 (Value.agg (⟨[v2, v3, Value.slice Option.none 0 0, v706, v780]⟩)) (R (Value.agg (⟨[v2, v3, Value.slice Option.none 0 0, v706, v780]⟩)) s781)))))) (pVal true 5 (Value.agg (⟨[v2, v3, Value.slice Option.none 0 0, v706, Value.string ({ data := #[] })]⟩)) (R (Value.agg (⟨[v2, v3, Value.slice Option.none 0 0, v706, Value.string ({ data := #[] })]⟩)) s747))))))))))))))))))) (pBin Try.prog 3 BinOp.eql v2 (Value.int IntKind.i64 5) (fun v782 => pIf v782 (AC Try.prog w0 n_spec_l4Path ([a0, Value.agg (⟨[cellOf a1 0, cellOf a1 1, cellOf a1 2, cellOf a1 3, cellOf a1 4]⟩)]) s4 (fun v783 s784 => pVal false 1 v783 (AC Try.prog w0 n_p_spec_l1Rd_pick [a0, Value.int IntKind.i64 2] s784 (fun v785 s786 => pBin Try.prog 3 BinOp.eql v785 (Value.int IntKind.i64 0) (fun v787 => pIf v787 (pNew w0 9 [] s786 (fun n788 s789 => pLen v783 (fun v790 => pBin Try.prog 3 BinOp.sub v790 (Value.int IntKind.i64 1) (fun v791 => pSlice 1 v783 Option.none (Option.some v791) (fun v792 => pAppendS w0 9 1 16 (Value.slice (Option.some (Addr.mk n788 0 Option.none)) 0 0) v792 s789 (fun v793 s794 => AC Try.prog w0 n_spec_l4Name [a0] s794 (fun v795 s796 => pVal false 1 v795 ((allOne [v795]) ∧ (pAppend w0 9 1 16 v793 1 [v795] s796 (fun v797 s798 => pVal false 1 v797 (AC Try.prog w0 n_p_spec_l1Rd_pick [a0, Value.int IntKind.i64 40] s798 (fun v799 s800 => pBin Try.prog 3 BinOp.eql v799 (Value.int IntKind.i64 0) (fun v801 => pIf v801 (pVal false 1 (Value.int IntKind.i64 0) (pVal false 1 (Value.int IntKind.i64 7) (pVal false 1 (Value.int IntKind.i64 (-1)) (pNew w0 3 [Value.int IntKind.i64 0, Value.int IntKind.i64 7, Value.int IntKind.i64 (-1)] s800 (fun n802 s803 => AC Try.prog w0 n_p_spec_l1Rd_pick [a0, Value.int IntKind.i64 3] s803 (fun v804 s805 => pIndexAddr 1 (Value.slice (Option.some (Addr.mk n802 0 Option.none)) 3 3) v804 (fun v806 => pLoad w0 1 v806 s805 (fun g807 => pVal false 1 (g807 0) (pVal true 5 (Value.agg (⟨[g807 0, v3, v797, Value.int IntKind.i64 0, Value.string ({ data := #[] })]⟩)) (R (Value.agg (⟨[g807 0, v3, v797, Value.int IntKind.i64 0, Value.string ({ data := #[] })]⟩)) s805)))))))))) (pBin Try.prog 3 BinOp.eql v799 (Value.int IntKind.i64 1) (fun v808 => pIf v808 (pNew w0 9 [] s800 (fun n809 s810 => pVal false 1 (Value.slice (Option.some (Addr.mk n809 0 Option.none)) 0 0) (pVal true 5 (Value.agg (⟨[v2, Value.slice (Option.some (Addr.mk n809 0 Option.none)) 0 0, v797, Value.int IntKind.i64 0, Value.string ({ data := #[] })]⟩)) (R (Value.agg (⟨[v2, Value.slice (Option.some (Addr.mk n809 0 Option.none)) 0 0, v797, Value.int IntKind.i64 0, Value.string ({ data := #[] })]⟩)) s810)))) (pBin Try.prog 3 BinOp.eql v799 (Value.int IntKind.i64 2) (fun v811 => pIf v811 (pNew w0 9 [] s800 (fun n812 s813 => pAppendS w0 9 1 16 (Value.slice (Option.some (Addr.mk n812 0 Option.none)) 0 0) v3 s813 (fun v814 s815 => pVal false 1 (Value.string ({ data := #[] })) (pVal false 1 (Value.string ({ data := #[65] })) (pVal false 1 (Value.string ({ data := #[116, 111, 111, 108, 111, 110, 103] })) (pVal false 1 (Value.string ({ data := #[120] })) (pVal false 1 (Value.string ({ data := #[121] })) (pNew w0 9 ([Value.string ({ data := #[] }), Value.string ({ data := #[65] }), Value.string ({ data := #[116, 111, 111, 108, 111, 110, 103] }), Value.string ({ data := #[120] }), Value.string ({ data := #[121] })]) s815 (fun n816 s817 => AC Try.prog w0 n_p_spec_l1Rd_of [a0, Value.slice (Option.some (Addr.mk n816 0 Option.none)) 5 5] s817 (fun v818 s819 => pVal false 1 v818 ((allOne [v818]) ∧ (pAppend w0 9 1 16 v814 1 [v818] s819 (fun v820 s821 => pVal false 1 v820 (pVal true 5 (Value.agg (⟨[v2, v820, v797, Value.int IntKind.i64 0, Value.string ({ data := #[] })]⟩)) (R (Value.agg (⟨[v2, v820, v797, Value.int IntKind.i64 0, Value.string ({ data := #[] })]⟩)) s821))))))))))))))) (pBin Try.prog 3 BinOp.eql v799 (Value.int IntKind.i64 3) (fun v822 => pIf v822 (pVal false 1 (Value.int IntKind.i64 (-1)) (pVal false 1 (Value.int IntKind.i64 8) (pVal false 1 (Value.int IntKind.i64 24) (pVal false 1 (Value.int IntKind.i64 25) (pNew w0 3 [Value.int IntKind.i64 (-1), Value.int IntKind.i64 8, Value.int IntKind.i64 24, Value.int IntKind.i64 25] s800 (fun n823 s824 => AC Try.prog w0 n_p_spec_l1Rd_pick [a0, Value.int IntKind.i64 4] s824 (fun v825 s826 => pIndexAddr 1 (Value.slice (Option.some (Addr.mk n823 0 Option.none)) 4 4) v825 (fun v827 => pLoad w0 1 v827 s826 (fun g828 => pVal false 1 (g828 0) (pVal true 5 (Value.agg (⟨[v2, v3, v797, g828 0, Value.string ({ data := #[] })]⟩)) (R (Value.agg (⟨[v2, v3, v797, g828 0, Value.string ({ data := #[] })]⟩)) s826))))))))))) (pBin Try.prog 3 BinOp.eql v799 (Value.int IntKind.i64 4) (fun v829 => pIf v829 (AC Try.prog w0 n_p_spec_l1Rd_pick [a0, Value.int IntKind.i64 2] s800 (fun v830 s831 => pBin Try.prog 3 BinOp.add (Value.int IntKind.i64 24) v830 (fun v832 => AC Try.prog w0 n_spec_l1Many ([Value.string ({ data := #[113] }), v832]) s831 (fun v833 s834 => pVal false 1 v833 (pVal true 5 (Value.agg (⟨[v2, v3, v797, Value.int IntKind.i64 0, v833]⟩)) (R (Value.agg (⟨[v2, v3, v797, Value.int IntKind.i64 0, v833]⟩)) s834)))))) (pVal true 5 (Value.agg (⟨[v2, v3, v797, Value.int IntKind.i64 0, Value.string ({ data := #[] })]⟩)) (R (Value.agg (⟨[v2, v3, v797, Value.int IntKind.i64 0, Value.string ({ data := #[] })]⟩)) s800))))))))))))))))))))))) (AC Try.prog w0 n_p_spec_l1Rd_pick [a0, Value.int IntKind.i64 40] s786 (fun v835 s836 => pBin Try.prog 3 BinOp.eql v835 (Value.int IntKind.i64 0) (fun v837 => pIf v837 (pVal false 1 (Value.int IntKind.i64 0) (pVal false 1 (Value.int IntKind.i64 7) (pVal false 1 (Value.int IntKind.i64 (-1)) (pNew w0 3 [Value.int IntKind.i64 0, Value.int IntKind.i64 7, Value.int IntKind.i64 (-1)] s836 (fun n838 s839 => AC Try.prog w0 n_p_spec_l1Rd_pick [a0, Value.int IntKind.i64 3] s839 (fun v840 s841 => pIndexAddr 1 (Value.slice (Option.some (Addr.mk n838 0 Option.none)) 3 3) v840 (fun v842 => pLoad w0 1 v842 s841 (fun g843 => pVal false 1 (g843 0) (pVal true 5 (Value.agg (⟨[g843 0, v3, v783, Value.int IntKind.i64 0, Value.string ({ data := #[] })]⟩)) (R (Value.agg (⟨[g843 0, v3, v783, Value.int IntKind.i64 0, Value.string ({ data := #[] })]⟩)) s841)))))))))) (pBin Try.prog 3 BinOp.eql v835 (Value.int IntKind.i64 1) (fun v844 => pIf v844 (pNew w0 9 [] s836 (fun n845 s846 => pVal false 1 (Value.slice (Option.some (Addr.mk n845 0 Option.none)) 0 0) (pVal true 5 (Value.agg (⟨[v2, Value.slice (Option.some (Addr.mk n845 0 Option.none)) 0 0, v783, Value.int IntKind.i64 0, Value.string ({ data := #[] })]⟩)) (R (Value.agg (⟨[v2, Value.slice (Option.some (Addr.mk n845 0 Option.none)) 0 0, v783, Value.int IntKind.i64 0, Value.string ({ data := #[] })]⟩)) s846)))) (pBin Try.prog 3 BinOp.eql v835 (Value.int IntKind.i64 2) (fun v847 => pIf v847 (pNew w0 9 [] s836 (fun n848 s849 => pAppendS w0 9 1 16 (Value.slice (Option.some (Addr.mk n848 0 Option.none)) 0 0) v3 s849 (fun v850 s851 => pVal false 1 (Value.string ({ data := #[] })) (pVal false 1 (Value.string ({ data := #[65] })) (pVal false 1 (Value.string ({ data := #[116, 111, 111, 108, 111, 110, 103] })) (pVal false 1 (Value.string ({ data := #[120] })) (pVal false 1 (Value.string ({ data := #[121] })) (pNew w0 9 ([Value.string ({ data := #[] }), Value.string ({ data := #[65] }), Value.string ({ data := #[116, 111, 111, 108, 111, 110, 103] }), Value.string ({ data := #[120] }), Value.string ({ data := #[121] })]) s851 (fun n852 s853 => AC Try.prog w0 n_p_spec_l1Rd_of [a0, Value.slice (Option.some (Addr.mk n852 0 Option.none)) 5 5] s853 (fun v854 s855 => pVal false 1 v854 ((allOne [v854]) ∧ (pAppend w0 9 1 16 v850 1 [v854] s855 (fun v856 s857 => pVal false 1 v856 (pVal true 5 (Value.agg (⟨[v2, v856, v783, Value.int IntKind.i64 0, Value.string ({ data := #[] })]⟩)) (R (Value.agg (⟨[v2, v856, v783, Value.int IntKind.i64 0, Value.string ({ data := #[] })]⟩)) s857))))))))))))))) (pBin Try.prog 3 BinOp.eql v835 (Value.int IntKind.i64 3) (fun v858 => pIf v858 (pVal false 1 (Value.int IntKind.i64 (-1)) (pVal false 1 (Value.int IntKind.i64 8) (pVal false 1 (Value.int IntKind.i64 24) (pVal false 1 (Value.int IntKind.i64 25) (pNew w0 3 [Value.int IntKind.i64 (-1), Value.int IntKind.i64 8, Value.int IntKind.i64 24, Value.int IntKind.i64 25] s836 (fun n859 s860 => AC Try.prog w0 n_p_spec_l1Rd_pick [a0, Value.int IntKind.i64 4] s860 (fun v861 s862 => pIndexAddr 1 (Value.slice (Option.some (Addr.mk n859 0 Option.none)) 4 4) v861 (fun v863 => pLoad w0 1 v863 s862 (fun g864 => pVal false 1 (g864 0) (pVal true 5 (Value.agg (⟨[v2, v3, v783, g864 0, Value.string ({ data := #[] })]⟩)) (R (Value.agg (⟨[v2, v3, v783, g864 0, Value.string ({ data := #[] })]⟩)) s862))))))))))) (pBin Try.prog 3 BinOp.eql v835 (Value.int IntKind.i64 4) (fun v865 => pIf v865 (AC Try.prog w0 n_p_spec_l1Rd_pick [a0, Value.int IntKind.i64 2] s836 (fun v866 s867 => pBin Try.prog 3 BinOp.add (Value.int IntKind.i64 24) v866 (fun v868 => AC Try.prog w0 n_spec_l1Many ([Value.string ({ data := #[113] }), v868]) s867 (fun v869 s870 => pVal false 1 v869 (pVal true 5 (Value.agg (⟨[v2, v3, v783, Value.int IntKind.i64 0, v869]⟩)) (R (Value.agg (⟨[v2, v3, v783, Value.int IntKind.i64 0, v869]⟩)) s870)))))) (pVal true 5 (Value.agg (⟨[v2, v3, v783, Value.int IntKind.i64 0, Value.string ({ data := #[] })]⟩)) (R (Value.agg (⟨[v2, v3, v783, Value.int IntKind.i64 0, Value.string ({ data := #[] })]⟩)) s836)))))))))))))))))) (AC Try.prog w0 n_p_spec_l1Rd_pick [a0, Value.int IntKind.i64 40] s4 (fun v871 s872 => pBin Try.prog 3 BinOp.eql v871 (Value.int IntKind.i64 0) (fun v873 => pIf v873 (pVal false 1 (Value.int IntKind.i64 0) (pVal false 1 (Value.int IntKind.i64 7) (pVal false 1 (Value.int IntKind.i64 (-1)) (pNew w0 3 [Value.int IntKind.i64 0, Value.int IntKind.i64 7, Value.int IntKind.i64 (-1)] s872 (fun n874 s875 => AC Try.prog w0 n_p_spec_l1Rd_pick [a0, Value.int IntKind.i64 3] s875 (fun v876 s877 => pIndexAddr 1 (Value.slice (Option.some (Addr.mk n874 0 Option.none)) 3 3) v876 (fun v878 => pLoad w0 1 v878 s877 (fun g879 => pVal false 1 (g879 0) (pVal true 5 (Value.agg (⟨[g879 0, v3, Value.slice Option.none 0 0, Value.int IntKind.i64 0, Value.string ({ data := #[] })]⟩)) (R (Value.agg (⟨[g879 0, v3, Value.slice Option.none 0 0, Value.int IntKind.i64 0, Value.string ({ data := #[] })]⟩)) s877)))))))))) (pBin Try.prog 3 BinOp.eql v871 (Value.int IntKind.i64 1) (fun v880 => pIf v880 (pNew w0 9 [] s872 (fun n881 s882 => pVal false 1 (Value.slice (Option.some (Addr.mk n881 0 Option.none)) 0 0) (pVal true 5 (Value.agg (⟨[v2, Value.slice (Option.some (Addr.mk n881 0 Option.none)) 0 0, Value.slice Option.none 0 0, Value.int IntKind.i64 0, Value.string ({ data := #[] })]⟩)) (R (Value.agg (⟨[v2, Value.slice (Option.some (Addr.mk n881 0 Option.none)) 0 0, Value.slice Option.none 0 0, Value.int IntKind.i64 0, Value.string ({ data := #[] })]⟩)) s882)))) (pBin Try.prog 3 BinOp.eql v871 (Value.int IntKind.i64 2) (fun v883 => pIf v883 (pNew w0 9 [] s872 (fun n884 s885 => pAppendS w0 9 1 16 (Value.slice (Option.some (Addr.mk n884 0 Option.none)) 0 0) v3 s885 (fun v886 s887 => pVal false 1 (Value.string ({ data := #[] })) (pVal false 1 (Value.string ({ data := #[65] })) (pVal false 1 (Value.string ({ data := #[116, 111, 111, 108, 111, 110, 103] })) (pVal false 1 (Value.string ({ data := #[120] })) (pVal false 1 (Value.string ({ data := #[121] })) (pNew w0 9 ([Value.string ({ data := #[] }), Value.string ({ data := #[65] }), Value.string ({ data := #[116, 111, 111, 108, 111, 110, 103] }), Value.string ({ data := #[120] }), Value.string ({ data := #[121] })]) s887 (fun n888 s889 => AC Try.prog w0 n_p_spec_l1Rd_of [a0, Value.slice (Option.some (Addr.mk n888 0 Option.none)) 5 5] s889 (fun v890 s891 => pVal false 1 v890 ((allOne [v890]) ∧ (pAppend w0 9 1 16 v886 1 [v890] s891 (fun v892 s893 => pVal false 1 v892 (pVal true 5 (Value.agg (⟨[v2, v892, Value.slice Option.none 0 0, Value.int IntKind.i64 0, Value.string ({ data := #[] })]⟩)) (R (Value.agg (⟨[v2, v892, Value.slice Option.none 0 0, Value.int IntKind.i64 0, Value.string ({ data := #[] })]⟩)) s893))))))))))))))) (pBin Try.prog 3 BinOp.eql v871 (Value.int IntKind.i64 3) (fun v894 => pIf v894 (pVal false 1 (Value.int IntKind.i64 (-1)) (pVal false 1 (Value.int IntKind.i64 8) (pVal false 1 (Value.int IntKind.i64 24) (pVal false 1 (Value.int IntKind.i64 25) (pNew w0 3 [Value.int IntKind.i64 (-1), Value.int IntKind.i64 8, Value.int IntKind.i64 24, Value.int IntKind.i64 25] s872 (fun n895 s896 => AC Try.prog w0 n_p_spec_l1Rd_pick [a0, Value.int IntKind.i64 4] s896 (fun v897 s898 => pIndexAddr 1 (Value.slice (Option.some (Addr.mk n895 0 Option.none)) 4 4) v897 (fun v899 => pLoad w0 1 v899 s898 (fun g900 => pVal false 1 (g900 0) (pVal true 5 (Value.agg (⟨[v2, v3, Value.slice Option.none 0 0, g900 0, Value.string ({ data := #[] })]⟩)) (R (Value.agg (⟨[v2, v3, Value.slice Option.none 0 0, g900 0, Value.string ({ data := #[] })]⟩)) s898))))))))))) (pBin Try.prog 3 BinOp.eql v871 (Value.int IntKind.i64 4) (fun v901 => pIf v901 (AC Try.prog w0 n_p_spec_l1Rd_pick [a0, Value.int IntKind.i64 2] s872 (fun v902 s903 => pBin Try.prog 3 BinOp.add (Value.int IntKind.i64 24) v902 (fun v904 => AC Try.prog w0 n_spec_l1Many ([Value.string ({ data := #[113] }), v904]) s903 (fun v905 s906 => pVal false 1 v905 (pVal true 5 (Value.agg (⟨[v2, v3, Value.slice Option.none 0 0, Value.int IntKind.i64 0, v905]⟩)) (R (Value.agg (⟨[v2, v3, Value.slice Option.none 0 0, Value.int IntKind.i64 0, v905]⟩)) s906)))))) (pVal true 5 (Value.agg (⟨[v2, v3, Value.slice Option.none 0 0, Value.int IntKind.i64 0, Value.string ({ data := #[] })]⟩)) (R (Value.agg (⟨[v2, v3, Value.slice Option.none 0 0, Value.int IntKind.i64 0, Value.string ({ data := #[] })]⟩)) s872)))))))))))))))))))))))))))))
theorem vc_spec_l4Call_eq (w0 : World) (a0 a1 : Value) (σ : Vw) (R : Value → Vw → Prop) : vc_spec_l4Call w0 a0 a1 σ R = den Try.prog w0 kp_spec_l4Call esc_spec_l4Call (Try.f88.body.getD .skip) (entry Try.f88.ntmps [a0, a1]) σ (retK Try.prog Try.f88.results.toList R) := by kernel_rfl
theorem ac_spec_l4Call {w0 : World} {a0 a1 : Value} {σ : Vw} {R : Value → Vw → Prop} (h : vc_spec_l4Call w0 a0 a1 σ R) : AC Try.prog w0 n_spec_l4Call [a0, a1] σ R := by
  refine ac_rule (fn := Try.f88) (c := Try.f88.body.getD .skip) kp_spec_l4Call esc_spec_l4Call Try.func88 (by kernel_rfl) (by kernel_rfl) ?_
  rw [← vc_spec_l4Call_eq]
  exact h

/-- impl.fresh -/
def kp_impl_fresh : Nat → Keep
  | _ => ⟨[], [], [], .done, []⟩
def esc_impl_fresh : Nat → Bool
  | 5 => true
  | 6 => true
  | _ => false
def vc_impl_fresh (w0 : World) (a0 a1 : Value) (σ : Vw) (R : Value → Vw → Prop) : Prop :=
  pVal true 5 a1 (pNew w0 94 [] σ (fun n0 s1 => pNew w0 59 [Value.slice Option.none 0 0] s1 (fun n2 s3 => pVal false 1 (Value.slice (Option.some (Addr.mk n0 0 Option.none)) 0 0) (pStore (Value.pointer (Option.some (Addr.mk n2 0 Option.none))) [Value.slice (Option.some (Addr.mk n0 0 Option.none)) 0 0] s3 (fun s4 => AC Try.prog w0 n_impl_Tree_each ([Value.agg (⟨[cellOf a1 0, cellOf a1 1, cellOf a1 2, cellOf a1 3, cellOf a1 4]⟩), a0, Value.func (Fn.func 117) ⟨[]⟩ (⟨[Value.pointer (Option.some (Addr.mk n2 0 Option.none))]⟩)]) s4 (fun v5 s6 => pLoad w0 1 (Value.pointer (Option.some (Addr.mk n2 0 Option.none))) s6 (fun g7 => R (g7 0) s6)))))))
theorem vc_impl_fresh_eq (w0 : World) (a0 a1 : Value) (σ : Vw) (R : Value → Vw → Prop) : vc_impl_fresh w0 a0 a1 σ R = den Try.prog w0 kp_impl_fresh esc_impl_fresh (Try.f89.body.getD .skip) (entry Try.f89.ntmps [a0, a1]) σ (retK Try.prog Try.f89.results.toList R) := by kernel_rfl
theorem ac_impl_fresh {w0 : World} {a0 a1 : Value} {σ : Vw} {R : Value → Vw → Prop} (h : vc_impl_fresh w0 a0 a1 σ R) : AC Try.prog w0 n_impl_fresh [a0, a1] σ R := by
  refine ac_rule (fn := Try.f89) (c := Try.f89.body.getD .skip) kp_impl_fresh esc_impl_fresh Try.func89 (by kernel_rfl) (by kernel_rfl) ?_
  rw [← vc_impl_fresh_eq]
  exact h

/-- impl.gone -/
def kp_impl_gone : Nat → Keep
  | _ => ⟨[], [], [], .done, []⟩
def esc_impl_gone : Nat → Bool
  | 3 => true
  | _ => false
def vc_impl_gone (w0 : World) (a0 : Value) (σ : Vw) (R : Value → Vw → Prop) : Prop :=
  pNew w0 9 [] σ (fun n0 s1 => pAppendS w0 9 1 16 (Value.slice (Option.some (Addr.mk n0 0 Option.none)) 0 0) a0 s1 (fun v2 s3 => pVal false 1 v2 (pVal false 1 (Value.int IntKind.i64 1) (pVal true 5 (Value.agg (⟨[v2, Value.int IntKind.i64 1, Value.bool false, Value.int IntKind.i64 0, Value.string ({ data := #[] })]⟩)) (R (Value.agg (⟨[v2, Value.int IntKind.i64 1, Value.bool false, Value.int IntKind.i64 0, Value.string ({ data := #[] })]⟩)) s3)))))
theorem vc_impl_gone_eq (w0 : World) (a0 : Value) (σ : Vw) (R : Value → Vw → Prop) : vc_impl_gone w0 a0 σ R = den Try.prog w0 kp_impl_gone esc_impl_gone (Try.f90.body.getD .skip) (entry Try.f90.ntmps [a0]) σ (retK Try.prog Try.f90.results.toList R) := by kernel_rfl
theorem ac_impl_gone {w0 : World} {a0 : Value} {σ : Vw} {R : Value → Vw → Prop} (h : vc_impl_gone w0 a0 σ R) : AC Try.prog w0 n_impl_gone [a0] σ R := by
  refine ac_rule (fn := Try.f90) (c := Try.f90.body.getD .skip) kp_impl_gone esc_impl_gone Try.func90 (by kernel_rfl) (by kernel_rfl) ?_
  rw [← vc_impl_gone_eq]
  exact h

/-- impl.changes -/
def kp_impl_changes : Nat → Keep
  | 3 => ⟨[], [], [], .step 0 (.step 2 (.step 4 (.step 5 (.step 1 (.step 3 (.step 6 (.step 7 (.step 8 (.step 9 (.done)))))))))), [(3, [1, 2]), (5, [4]), (6, [1, 2, 3, 4, 5]), (7, [1, 2, 3, 4, 5, 6]), (8, [0, 1, 2, 3, 4, 5, 6, 7]), (9, [0, 1, 2, 3, 4, 5, 6, 7, 8])]⟩
  | 5 => ⟨[], [], [], .step 0 (.step 2 (.step 4 (.step 5 (.step 1 (.step 3 (.step 6 (.step 7 (.step 8 (.step 9 (.done)))))))))), [(3, [1, 2]), (5, [4]), (6, [1, 2, 3, 4, 5]), (7, [1, 2, 3, 4, 5, 6]), (8, [0, 1, 2, 3, 4, 5, 6, 7]), (9, [0, 1, 2, 3, 4, 5, 6, 7, 8])]⟩
  | _ => ⟨[], [], [], .done, []⟩
def esc_impl_changes : Nat → Bool
  | 8 => true
  | 15 => true
  | 29 => true
  | _ => false
def vc_impl_changes (w0 : World) (a0 a1 a2 : Value) (σ : Vw) (R : Value → Vw → Prop) : Prop :=
  pVal true 5 a1 (pVal true 5 a2 (pNew w0 94 [] σ (fun n0 s1 => pBin Try.prog 3 BinOp.neq (cellOf a1 1) (cellOf a2 1) (fun v2 => pIf v2 (pNew w0 9 [] s1 (fun n3 s4 => pAppendS w0 9 1 16 (Value.slice (Option.some (Addr.mk n3 0 Option.none)) 0 0) a0 s4 (fun v5 s6 => pVal false 1 v5 (pVal false 1 (Value.int IntKind.i64 3) (pVal false 1 (cellOf a2 1) (pVal true 5 (Value.agg (⟨[v5, Value.int IntKind.i64 3, Value.bool false, cellOf a2 1, Value.string ({ data := #[] })]⟩)) ((allOne ([v5, Value.int IntKind.i64 3, Value.bool false, cellOf a2 1, Value.string ({ data := #[] })])) ∧ (pAppend w0 94 5 64 (Value.slice (Option.some (Addr.mk n0 0 Option.none)) 0 0) 1 ([v5, Value.int IntKind.i64 3, Value.bool false, cellOf a2 1, Value.string ({ data := #[] })]) s6 (fun v7 s8 => pBin Try.prog 9 BinOp.neq (cellOf a1 2) (cellOf a2 2) (fun v9 => pIf v9 (pNew w0 9 [] s8 (fun n10 s11 => pAppendS w0 9 1 16 (Value.slice (Option.some (Addr.mk n10 0 Option.none)) 0 0) a0 s11 (fun v12 s13 => pVal false 1 v12 (pVal false 1 (Value.int IntKind.i64 4) (pVal false 1 (cellOf a2 2) (pVal true 5 (Value.agg (⟨[v12, Value.int IntKind.i64 4, Value.bool false, Value.int IntKind.i64 0, cellOf a2 2]⟩)) ((allOne [v12, Value.int IntKind.i64 4, Value.bool false, Value.int IntKind.i64 0, cellOf a2 2]) ∧ (pAppend w0 94 5 64 v7 1 [v12, Value.int IntKind.i64 4, Value.bool false, Value.int IntKind.i64 0, cellOf a2 2] s13 (fun v14 s15 => R v14 s15))))))))) (R v7 s8))))))))))) (pBin Try.prog 9 BinOp.neq (cellOf a1 2) (cellOf a2 2) (fun v16 => pIf v16 (pNew w0 9 [] s1 (fun n17 s18 => pAppendS w0 9 1 16 (Value.slice (Option.some (Addr.mk n17 0 Option.none)) 0 0) a0 s18 (fun v19 s20 => pVal false 1 v19 (pVal false 1 (Value.int IntKind.i64 4) (pVal false 1 (cellOf a2 2) (pVal true 5 (Value.agg (⟨[v19, Value.int IntKind.i64 4, Value.bool false, Value.int IntKind.i64 0, cellOf a2 2]⟩)) ((allOne [v19, Value.int IntKind.i64 4, Value.bool false, Value.int IntKind.i64 0, cellOf a2 2]) ∧ (pAppend w0 94 5 64 (Value.slice (Option.some (Addr.mk n0 0 Option.none)) 0 0) 1 [v19, Value.int IntKind.i64 4, Value.bool false, Value.int IntKind.i64 0, cellOf a2 2] s20 (fun v21 s22 => R v21 s22))))))))) (R (Value.slice (Option.some (Addr.mk n0 0 Option.none)) 0 0) s1)))))))
theorem vc_impl_changes_eq (w0 : World) (a0 a1 a2 : Value) (σ : Vw) (R : Value → Vw → Prop) : vc_impl_changes w0 a0 a1 a2 σ R = den Try.prog w0 kp_impl_changes esc_impl_changes (Try.f91.body.getD .skip) (entry Try.f91.ntmps [a0, a1, a2]) σ (retK Try.prog Try.f91.results.toList R) := by kernel_rfl
theorem ac_impl_changes {w0 : World} {a0 a1 a2 : Value} {σ : Vw} {R : Value → Vw → Prop} (h : vc_impl_changes w0 a0 a1 a2 σ R) : AC Try.prog w0 n_impl_changes [a0, a1, a2] σ R := by
  refine ac_rule (fn := Try.f91) (c := Try.f91.body.getD .skip) kp_impl_changes esc_impl_changes Try.func91 (by kernel_rfl) (by kernel_rfl) ?_
  rw [← vc_impl_changes_eq]
  exact h

/-- spec.l3Gone -/
def kp_spec_l3Gone : Nat → Keep
  | _ => ⟨[], [], [], .done, []⟩
def esc_spec_l3Gone : Nat → Bool
  | 3 => true
  | 7 => true
  | _ => false
def vc_spec_l3Gone (w0 : World) (a0 : Value) (σ : Vw) (R : Value → Vw → Prop) : Prop :=
  pNew w0 9 [] σ (fun n0 s1 => pAppendS w0 9 1 16 (Value.slice (Option.some (Addr.mk n0 0 Option.none)) 0 0) a0 s1 (fun v2 s3 => pVal false 1 v2 (pVal false 1 (Value.int IntKind.i64 1) (pVal true 5 (Value.agg (⟨[v2, Value.int IntKind.i64 1, Value.bool false, Value.int IntKind.i64 0, Value.string ({ data := #[] })]⟩)) (pNew w0 94 ([v2, Value.int IntKind.i64 1, Value.bool false, Value.int IntKind.i64 0, Value.string ({ data := #[] })]) s3 (fun n4 s5 => R (Value.slice (Option.some (Addr.mk n4 0 Option.none)) 1 1) s5))))))
theorem vc_spec_l3Gone_eq (w0 : World) (a0 : Value) (σ : Vw) (R : Value → Vw → Prop) : vc_spec_l3Gone w0 a0 σ R = den Try.prog w0 kp_spec_l3Gone esc_spec_l3Gone (Try.f92.body.getD .skip) (entry Try.f92.ntmps [a0]) σ (retK Try.prog Try.f92.results.toList R) := by kernel_rfl
theorem ac_spec_l3Gone {w0 : World} {a0 : Value} {σ : Vw} {R : Value → Vw → Prop} (h : vc_spec_l3Gone w0 a0 σ R) : AC Try.prog w0 n_spec_l3Gone [a0] σ R := by
  refine ac_rule (fn := Try.f92) (c := Try.f92.body.getD .skip) kp_spec_l3Gone esc_spec_l3Gone Try.func92 (by kernel_rfl) (by kernel_rfl) ?_
  rw [← vc_spec_l3Gone_eq]
  exact h

/-- spec.l3New -/
def kp_spec_l3New : Nat → Keep
  | 1 => ⟨[], [], [], .step 1 (.step 3 (.step 4 (.step 5 (.step 6 (.step 7 (.step 8 (.step 0 (.step 2 (.step 9 (.step 10 (.step 11 (.done)))))))))))), [(2, [0, 1]), (4, [3]), (6, [5]), (8, [7]), (9, [0, 1, 2, 3, 4, 5, 6, 7, 8]), (10, [0, 1, 2, 3, 4, 5, 6, 7, 8, 9]), (11, [0, 1, 2, 3, 4, 5, 6, 7, 8, 9, 10])]⟩
  | 3 => ⟨[0, 5, 6], [(3, 5)], [3], .done, []⟩
  | 5 => ⟨[], [], [], .step 0 (.step 1 (.step 2 (.step 3 (.step 4 (.step 5 (.step 6 (.step 8 (.step 9 (.step 10 (.step 11 (.step 12 (.step 7 (.step 13 (.step 14 (.step 15 (.done)))))))))))))))), [(3, [2]), (5, [2, 3, 4]), (6, [2, 3, 4, 5]), (7, [1, 2, 3, 4, 5, 6]), (9, [8]), (11, [8, 9, 10]), (12, [8, 9, 10, 11]), (13, [1, 2, 3, 4, 5, 6, 7, 8, 9, 10, 11, 12]), (14, [0, 1, 2, 3, 4, 5, 6, 7, 8, 9, 10, 11, 12, 13]), (15, [0, 1, 2, 3, 4, 5, 6, 7, 8, 9, 10, 11, 12, 13, 14])]⟩
  | _ => ⟨[], [], [], .done, []⟩
def esc_spec_l3New : Nat → Bool
  | 7 => true
  | 17 => true
  | _ => false
def vc_spec_l3New (w0 : World) (a0 a1 : Value) (σ : Vw) (R : Value → Vw → Prop) : Prop :=
  pVal true 5 a1 (pNew w0 9 [] σ (fun n0 s1 => pAppendS w0 9 1 16 (Value.slice (Option.some (Addr.mk n0 0 Option.none)) 0 0) a0 s1 (fun v2 s3 => pVal false 1 v2 (pVal false 1 (Value.int IntKind.i64 2) (pVal false 1 (cellOf a1 0) (pVal false 1 (cellOf a1 1) (pVal false 1 (cellOf a1 2) (pVal true 5 (Value.agg (⟨[v2, Value.int IntKind.i64 2, cellOf a1 0, cellOf a1 1, cellOf a1 2]⟩)) (pNew w0 94 [v2, Value.int IntKind.i64 2, cellOf a1 0, cellOf a1 1, cellOf a1 2] s3 (fun n4 s5 => pLoop (fun l6 K7 s8 => pLen (vget l6 6) (fun v9 => pBin Try.prog 3 BinOp.lss (vget l6 2) v9 (fun v10 => pIf v10 (pIndexAddr 1 (vget l6 6) (vget l6 2) (fun v11 => pLoad w0 1 v11 s8 (fun g12 => pIndexAddr 5 (vget l6 7) (vget l6 2) (fun v13 => pLoad w0 5 v13 s8 (fun g14 => AC Try.prog w0 n_spec_l3Path [vget l6 0, g12 0] s8 (fun v15 s16 => (Stay w0 s8 s16 v13 5) ∧ (AC Try.prog w0 n_spec_l3New ([v15, Value.agg (⟨[g14 0, g14 1, g14 2, g14 3, g14 4]⟩)]) s16 (fun v17 s18 => pAppendS w0 94 5 64 (vget l6 1) v17 s18 (fun v19 s20 => pBin Try.prog 3 BinOp.add (vget l6 2) (Value.int IntKind.i64 1) (fun v21 => K7 AX.normal [vget l6 0, v19, v21, vget l6 3, vget l6 4, vget l6 5, vget l6 6, vget l6 7] s20)))))))))) (K7 (AX.exit 0) [vget l6 0, vget l6 1, vget l6 2, vget l6 3, vget l6 4, vget l6 5, vget l6 6, vget l6 7] s8)))) [a0, Value.slice (Option.some (Addr.mk n4 0 Option.none)) 1 1, Value.int IntKind.i64 0, cellOf a1 0, cellOf a1 1, cellOf a1 2, cellOf a1 3, cellOf a1 4] s5 (fun x22 l23 s24 => match x22 with | .normal => R (vget l23 1) s24 | .ret => False | .exit i25 => (match Nat.beq i25 0 with | true => R (vget l23 1) s24 | false => False))))))))))))
theorem vc_spec_l3New_eq (w0 : World) (a0 a1 : Value) (σ : Vw) (R : Value → Vw → Prop) : vc_spec_l3New w0 a0 a1 σ R = den Try.prog w0 kp_spec_l3New esc_spec_l3New (Try.f93.body.getD .skip) (entry Try.f93.ntmps [a0, a1]) σ (retK Try.prog Try.f93.results.toList R) := by kernel_rfl
theorem ac_spec_l3New {w0 : World} {a0 a1 : Value} {σ : Vw} {R : Value → Vw → Prop} (h : vc_spec_l3New w0 a0 a1 σ R) : AC Try.prog w0 n_spec_l3New [a0, a1] σ R := by
  refine ac_rule (fn := Try.f93) (c := Try.f93.body.getD .skip) kp_spec_l3New esc_spec_l3New Try.func93 (by kernel_rfl) (by kernel_rfl) ?_
  rw [← vc_spec_l3New_eq]
  exact h

/-- spec.l3Part -/
def kp_spec_l3Part : Nat → Keep
  | 3 => ⟨[], [], [], .step 0 (.step 2 (.step 4 (.step 5 (.step 1 (.step 3 (.step 6 (.step 7 (.step 8 (.step 9 (.done)))))))))), [(3, [1, 2]), (5, [4]), (6, [1, 2, 3, 4, 5]), (7, [1, 2, 3, 4, 5, 6]), (8, [0, 1, 2, 3, 4, 5, 6, 7]), (9, [0, 1, 2, 3, 4, 5, 6, 7, 8])]⟩
  | 5 => ⟨[], [], [], .step 0 (.step 2 (.step 4 (.step 5 (.step 1 (.step 3 (.step 6 (.step 7 (.step 8 (.step 9 (.done)))))))))), [(3, [1, 2]), (5, [4]), (6, [1, 2, 3, 4, 5]), (7, [1, 2, 3, 4, 5, 6]), (8, [0, 1, 2, 3, 4, 5, 6, 7]), (9, [0, 1, 2, 3, 4, 5, 6, 7, 8])]⟩
  | _ => ⟨[], [], [], .done, []⟩
def esc_spec_l3Part : Nat → Bool
  | 8 => true
  | 15 => true
  | 29 => true
  | _ => false
def vc_spec_l3Part (w0 : World) (a0 a1 a2 : Value) (σ : Vw) (R : Value → Vw → Prop) : Prop :=
  pVal true 5 a1 (pVal true 5 a2 (pNew w0 94 [] σ (fun n0 s1 => pBin Try.prog 3 BinOp.neq (cellOf a1 1) (cellOf a2 1) (fun v2 => pIf v2 (pNew w0 9 [] s1 (fun n3 s4 => pAppendS w0 9 1 16 (Value.slice (Option.some (Addr.mk n3 0 Option.none)) 0 0) a0 s4 (fun v5 s6 => pVal false 1 v5 (pVal false 1 (Value.int IntKind.i64 3) (pVal false 1 (cellOf a2 1) (pVal true 5 (Value.agg (⟨[v5, Value.int IntKind.i64 3, Value.bool false, cellOf a2 1, Value.string ({ data := #[] })]⟩)) ((allOne ([v5, Value.int IntKind.i64 3, Value.bool false, cellOf a2 1, Value.string ({ data := #[] })])) ∧ (pAppend w0 94 5 64 (Value.slice (Option.some (Addr.mk n0 0 Option.none)) 0 0) 1 ([v5, Value.int IntKind.i64 3, Value.bool false, cellOf a2 1, Value.string ({ data := #[] })]) s6 (fun v7 s8 => pBin Try.prog 9 BinOp.neq (cellOf a1 2) (cellOf a2 2) (fun v9 => pIf v9 (pNew w0 9 [] s8 (fun n10 s11 => pAppendS w0 9 1 16 (Value.slice (Option.some (Addr.mk n10 0 Option.none)) 0 0) a0 s11 (fun v12 s13 => pVal false 1 v12 (pVal false 1 (Value.int IntKind.i64 4) (pVal false 1 (cellOf a2 2) (pVal true 5 (Value.agg (⟨[v12, Value.int IntKind.i64 4, Value.bool false, Value.int IntKind.i64 0, cellOf a2 2]⟩)) ((allOne [v12, Value.int IntKind.i64 4, Value.bool false, Value.int IntKind.i64 0, cellOf a2 2]) ∧ (pAppend w0 94 5 64 v7 1 [v12, Value.int IntKind.i64 4, Value.bool false, Value.int IntKind.i64 0, cellOf a2 2] s13 (fun v14 s15 => R v14 s15))))))))) (R v7 s8))))))))))) (pBin Try.prog 9 BinOp.neq (cellOf a1 2) (cellOf a2 2) (fun v16 => pIf v16 (pNew w0 9 [] s1 (fun n17 s18 => pAppendS w0 9 1 16 (Value.slice (Option.some (Addr.mk n17 0 Option.none)) 0 0) a0 s18 (fun v19 s20 => pVal false 1 v19 (pVal false 1 (Value.int IntKind.i64 4) (pVal false 1 (cellOf a2 2) (pVal true 5 (Value.agg (⟨[v19, Value.int IntKind.i64 4, Value.bool false, Value.int IntKind.i64 0, cellOf a2 2]⟩)) ((allOne [v19, Value.int IntKind.i64 4, Value.bool false, Value.int IntKind.i64 0, cellOf a2 2]) ∧ (pAppend w0 94 5 64 (Value.slice (Option.some (Addr.mk n0 0 Option.none)) 0 0) 1 [v19, Value.int IntKind.i64 4, Value.bool false, Value.int IntKind.i64 0, cellOf a2 2] s20 (fun v21 s22 => R v21 s22))))))))) (R (Value.slice (Option.some (Addr.mk n0 0 Option.none)) 0 0) s1)))))))
theorem vc_spec_l3Part_eq (w0 : World) (a0 a1 a2 : Value) (σ : Vw) (R : Value → Vw → Prop) : vc_spec_l3Part w0 a0 a1 a2 σ R = den Try.prog w0 kp_spec_l3Part esc_spec_l3Part (Try.f94.body.getD .skip) (entry Try.f94.ntmps [a0, a1, a2]) σ (retK Try.prog Try.f94.results.toList R) := by kernel_rfl
theorem ac_spec_l3Part {w0 : World} {a0 a1 a2 : Value} {σ : Vw} {R : Value → Vw → Prop} (h : vc_spec_l3Part w0 a0 a1 a2 σ R) : AC Try.prog w0 n_spec_l3Part [a0, a1, a2] σ R := by
  refine ac_rule (fn := Try.f94) (c := Try.f94.body.getD .skip) kp_spec_l3Part esc_spec_l3Part Try.func94 (by kernel_rfl) (by kernel_rfl) ?_
  rw [← vc_spec_l3Part_eq]
  exact h

/-- (*spec.l1Rd).of -/
def kp_p_spec_l1Rd_of : Nat → Keep
  | _ => ⟨[], [], [], .done, []⟩
def esc_p_spec_l1Rd_of : Nat → Bool
  | _ => false
def vc_p_spec_l1Rd_of (w0 : World) (a0 a1 : Value) (σ : Vw) (R : Value → Vw → Prop) : Prop :=
  pLen a1 (fun v0 => AC Try.prog w0 n_p_spec_l1Rd_pick [a0, v0] σ (fun v1 s2 => pIndexAddr 1 a1 v1 (fun v3 => pLoad w0 1 v3 s2 (fun g4 => R (g4 0) s2))))
theorem vc_p_spec_l1Rd_of_eq (w0 : World) (a0 a1 : Value) (σ : Vw) (R : Value → Vw → Prop) : vc_p_spec_l1Rd_of w0 a0 a1 σ R = den Try.prog w0 kp_p_spec_l1Rd_of esc_p_spec_l1Rd_of (Try.f95.body.getD .skip) (entry Try.f95.ntmps [a0, a1]) σ (retK Try.prog Try.f95.results.toList R) := by kernel_rfl
theorem ac_p_spec_l1Rd_of {w0 : World} {a0 a1 : Value} {σ : Vw} {R : Value → Vw → Prop} (h : vc_p_spec_l1Rd_of w0 a0 a1 σ R) : AC Try.prog w0 n_p_spec_l1Rd_of [a0, a1] σ R := by
  refine ac_rule (fn := Try.f95) (c := Try.f95.body.getD .skip) kp_p_spec_l1Rd_of esc_p_spec_l1Rd_of Try.func95 (by kernel_rfl) (by kernel_rfl) ?_
  rw [← vc_p_spec_l1Rd_of_eq]
  exact h

/-- spec.l1Many -/
def kp_spec_l1Many : Nat → Keep
  | 2 => ⟨[0, 1, 5], [], [], .done, []⟩
  | _ => ⟨[], [], [], .done, []⟩
def esc_spec_l1Many : Nat → Bool
  | _ => false
def vc_spec_l1Many (w0 : World) (a0 a1 : Value) (σ : Vw) (R : Value → Vw → Prop) : Prop :=
  pLoop (fun l0 K1 s2 => pBin Try.prog 3 BinOp.gtr (vget l0 1) (Value.int IntKind.i64 0) (fun v3 => pIf v3 (pBin Try.prog 3 BinOp.rem (vget l0 1) (Value.int IntKind.i64 2) (fun v4 => pBin Try.prog 3 BinOp.eql v4 (Value.int IntKind.i64 1) (fun v5 => pIf v5 (pBin Try.prog 9 BinOp.add (vget l0 2) (vget l0 0) (fun v6 => pBin Try.prog 9 BinOp.add (vget l0 0) (vget l0 0) (fun v7 => pBin Try.prog 3 BinOp.quo (vget l0 1) (Value.int IntKind.i64 2) (fun v8 => K1 AX.normal [v7, v8, v6] s2)))) (pBin Try.prog 9 BinOp.add (vget l0 0) (vget l0 0) (fun v9 => pBin Try.prog 3 BinOp.quo (vget l0 1) (Value.int IntKind.i64 2) (fun v10 => K1 AX.normal [v9, v10, vget l0 2] s2)))))) (K1 (AX.exit 0) [vget l0 0, vget l0 1, vget l0 2] s2))) ([a0, a1, Value.string ({ data := #[] })]) σ (fun x11 l12 s13 => match x11 with | .normal => R (vget l12 2) s13 | .ret => False | .exit i14 => (match Nat.beq i14 0 with | true => R (vget l12 2) s13 | false => False))
theorem vc_spec_l1Many_eq (w0 : World) (a0 a1 : Value) (σ : Vw) (R : Value → Vw → Prop) : vc_spec_l1Many w0 a0 a1 σ R = den Try.prog w0 kp_spec_l1Many esc_spec_l1Many (Try.f96.body.getD .skip) (entry Try.f96.ntmps [a0, a1]) σ (retK Try.prog Try.f96.results.toList R) := by kernel_rfl
theorem ac_spec_l1Many {w0 : World} {a0 a1 : Value} {σ : Vw} {R : Value → Vw → Prop} (h : vc_spec_l1Many w0 a0 a1 σ R) : AC Try.prog w0 n_spec_l1Many [a0, a1] σ R := by
  refine ac_rule (fn := Try.f96) (c := Try.f96.body.getD .skip) kp_spec_l1Many esc_spec_l1Many Try.func96 (by kernel_rfl) (by kernel_rfl) ?_
  rw [← vc_spec_l1Many_eq]
  exact h

/-- spec.l1Dec -/
def kp_spec_l1Dec : Nat → Keep
  | 7 => ⟨[], [], [], .step 0 (.step 1 (.step 3 (.step 4 (.step 5 (.step 6 (.both (.step 2 (.step 7 (.step 8 (.step 9 (.step 10 (.done)))))) (.step 7 (.step 8 (.step 2 (.step 9 (.step 10 (.done)))))))))))), [(1, [0]), (2, [0, 1]), (4, [3]), (5, [3, 4]), (6, [3, 4, 5]), (7, [3, 4, 5, 6]), (8, [3, 4, 5, 6, 7]), (9, [0, 1, 2, 3, 4, 5, 6, 7, 8]), (10, [0, 1, 2, 3, 4, 5, 6, 7, 8, 9])]⟩
  | _ => ⟨[], [], [], .done, []⟩
def esc_spec_l1Dec : Nat → Bool
  | 16 => true
  | 25 => true
  | _ => false
def vc_spec_l1Dec (w0 : World) (a0 : Value) (σ : Vw) (R : Value → Vw → Prop) : Prop :=
  pBin Try.prog 3 BinOp.lss a0 (Value.int IntKind.i64 (-9223372036854775807)) (fun v0 => pIf v0 (R (Value.string ({ data := #[45, 57, 50, 50, 51, 51, 55, 50, 48, 51, 54, 56, 53, 52, 55, 55, 53, 56, 48, 56] })) σ) (pBin Try.prog 3 BinOp.lss a0 (Value.int IntKind.i64 0) (fun v1 => pIf v1 (pUn UnOp.neg a0 (fun v2 => AC Try.prog w0 n_spec_l1Dec [v2] σ (fun v3 s4 => pBin Try.prog 9 BinOp.add (Value.string ({ data := #[45] })) v3 (fun v5 => R v5 s4)))) (pBin Try.prog 3 BinOp.lss a0 (Value.int IntKind.i64 10) (fun v6 => pIf v6 (pBin Try.prog 3 BinOp.add (Value.int IntKind.i64 48) a0 (fun v7 => pConvInt IntKind.u8 v7 (fun v8 => pVal false 1 v8 (pNew w0 5 [v8] σ (fun n9 s10 => pStr w0 (Value.slice (Option.some (Addr.mk n9 0 Option.none)) 1 1) s10 (fun v11 => R v11 s10)))))) (pBin Try.prog 3 BinOp.quo a0 (Value.int IntKind.i64 10) (fun v12 => pBin Try.prog 3 BinOp.rem a0 (Value.int IntKind.i64 10) (fun v13 => pBin Try.prog 3 BinOp.add (Value.int IntKind.i64 48) v13 (fun v14 => pConvInt IntKind.u8 v14 (fun v15 => (AC Try.prog w0 n_spec_l1Dec [v12] σ (fun v16 s17 => pVal false 1 v15 (pNew w0 5 [v15] s17 (fun n18 s19 => pStr w0 (Value.slice (Option.some (Addr.mk n18 0 Option.none)) 1 1) s19 (fun v20 => pBin Try.prog 9 BinOp.add v16 v20 (fun v21 => R v21 s19)))))) ∧ (pVal false 1 v15 (pNew w0 5 [v15] σ (fun n22 s23 => pStr w0 (Value.slice (Option.some (Addr.mk n22 0 Option.none)) 1 1) s23 (fun v24 => AC Try.prog w0 n_spec_l1Dec [v12] s23 (fun v25 s26 => (Ext s23 s26) ∧ (pBin Try.prog 9 BinOp.add v25 v24 (fun v27 => R v27 s26)))))))))))))))))
theorem vc_spec_l1Dec_eq (w0 : World) (a0 : Value) (σ : Vw) (R : Value → Vw → Prop) : vc_spec_l1Dec w0 a0 σ R = den Try.prog w0 kp_spec_l1Dec esc_spec_l1Dec (Try.f97.body.getD .skip) (entry Try.f97.ntmps [a0]) σ (retK Try.prog Try.f97.results.toList R) := by kernel_rfl
theorem ac_spec_l1Dec {w0 : World} {a0 : Value} {σ : Vw} {R : Value → Vw → Prop} (h : vc_spec_l1Dec w0 a0 σ R) : AC Try.prog w0 n_spec_l1Dec [a0] σ R := by
  refine ac_rule (fn := Try.f97) (c := Try.f97.body.getD .skip) kp_spec_l1Dec esc_spec_l1Dec Try.func97 (by kernel_rfl) (by kernel_rfl) ?_
  rw [← vc_spec_l1Dec_eq]
  exact h

/-- spec.l4Data -/
def kp_spec_l4Data : Nat → Keep
  | _ => ⟨[], [], [], .done, []⟩
def esc_spec_l4Data : Nat → Bool
  | 7 => true
  | _ => false
def vc_spec_l4Data (w0 : World) (a0 : Value) (σ : Vw) (R : Value → Vw → Prop) : Prop :=
  AC Try.prog w0 n_p_spec_l1Rd_pick [a0, Value.int IntKind.i64 25] σ (fun v0 s1 => AC Try.prog w0 n_spec_l1Many ([Value.string ({ data := #[122] }), v0]) s1 (fun v2 s3 => pVal false 1 (Value.string ({ data := #[] })) (pVal false 1 (Value.string ({ data := #[120] })) (pVal false 1 (Value.string ({ data := #[104, 101, 108, 108, 111] })) (pVal false 1 (Value.string ({ data := #[0, 255] })) (pVal false 1 (Value.string ({ data := #[48, 49, 50, 51, 52, 53, 54, 55, 56, 57] })) (pVal false 1 v2 (pNew w0 9 ([Value.string ({ data := #[] }), Value.string ({ data := #[120] }), Value.string ({ data := #[104, 101, 108, 108, 111] }), Value.string ({ data := #[0, 255] }), Value.string ({ data := #[48, 49, 50, 51, 52, 53, 54, 55, 56, 57] }), v2]) s3 (fun n4 s5 => AC Try.prog w0 n_p_spec_l1Rd_of [a0, Value.slice (Option.some (Addr.mk n4 0 Option.none)) 6 6] s5 (fun v6 s7 => R v6 s7))))))))))
theorem vc_spec_l4Data_eq (w0 : World) (a0 : Value) (σ : Vw) (R : Value → Vw → Prop) : vc_spec_l4Data w0 a0 σ R = den Try.prog w0 kp_spec_l4Data esc_spec_l4Data (Try.f98.body.getD .skip) (entry Try.f98.ntmps [a0]) σ (retK Try.prog Try.f98.results.toList R) := by kernel_rfl
theorem ac_spec_l4Data {w0 : World} {a0 : Value} {σ : Vw} {R : Value → Vw → Prop} (h : vc_spec_l4Data w0 a0 σ R) : AC Try.prog w0 n_spec_l4Data [a0] σ R := by
  refine ac_rule (fn := Try.f98) (c := Try.f98.body.getD .skip) kp_spec_l4Data esc_spec_l4Data Try.func98 (by kernel_rfl) (by kernel_rfl) ?_
  rw [← vc_spec_l4Data_eq]
  exact h

/-- impl.modeOk -/
def kp_impl_modeOk : Nat → Keep
  | _ => ⟨[], [], [], .done, []⟩
def esc_impl_modeOk : Nat → Bool
  | _ => false
def vc_impl_modeOk (w0 : World) (a0 : Value) (σ : Vw) (R : Value → Vw → Prop) : Prop :=
  AC Try.prog w0 n_impl_within [a0, Value.int IntKind.i64 0, Value.int IntKind.i64 7] σ (fun v0 s1 => R v0 s1)
theorem vc_impl_modeOk_eq (w0 : World) (a0 : Value) (σ : Vw) (R : Value → Vw → Prop) : vc_impl_modeOk w0 a0 σ R = den Try.prog w0 kp_impl_modeOk esc_impl_modeOk (Try.f99.body.getD .skip) (entry Try.f99.ntmps [a0]) σ (retK Try.prog Try.f99.results.toList R) := by kernel_rfl
theorem ac_impl_modeOk {w0 : World} {a0 : Value} {σ : Vw} {R : Value → Vw → Prop} (h : vc_impl_modeOk w0 a0 σ R) : AC Try.prog w0 n_impl_modeOk [a0] σ R := by
  refine ac_rule (fn := Try.f99) (c := Try.f99.body.getD .skip) kp_impl_modeOk esc_impl_modeOk Try.func99 (by kernel_rfl) (by kernel_rfl) ?_
  rw [← vc_impl_modeOk_eq]
  exact h

/-- impl.nameOk -/
def kp_impl_nameOk : Nat → Keep
  | 2 => ⟨[0, 2, 5, 6], [], [], .done, []⟩
  | _ => ⟨[], [], [], .done, []⟩
def esc_impl_nameOk : Nat → Bool
  | _ => false
def vc_impl_nameOk (w0 : World) (a0 : Value) (σ : Vw) (R : Value → Vw → Prop) : Prop :=
  pLenS a0 (fun v0 => pLoop (fun l1 K2 s3 => pBin Try.prog 3 BinOp.lss (vget l1 3) (vget l1 2) (fun v4 => pIf v4 (pIndexStr (vget l1 0) (vget l1 3) (fun v5 => pBin Try.prog 5 BinOp.lss v5 (Value.int IntKind.u8 97) (fun v6 => pIf v6 (pIndexStr (vget l1 0) (vget l1 3) (fun v7 => pBin Try.prog 5 BinOp.lss v7 (Value.int IntKind.u8 48) (fun v8 => pIf v8 (K2 AX.ret [vget l1 0, Value.bool false, vget l1 2, vget l1 3] s3) (pIndexStr (vget l1 0) (vget l1 3) (fun v9 => pBin Try.prog 5 BinOp.gtr v9 (Value.int IntKind.u8 57) (fun v10 => pIf v10 (K2 AX.ret [vget l1 0, Value.bool false, vget l1 2, vget l1 3] s3) (pBin Try.prog 3 BinOp.add (vget l1 3) (Value.int IntKind.i64 1) (fun v11 => K2 AX.normal [vget l1 0, vget l1 1, vget l1 2, v11] s3)))))))) (pIndexStr (vget l1 0) (vget l1 3) (fun v12 => pBin Try.prog 5 BinOp.gtr v12 (Value.int IntKind.u8 122) (fun v13 => pIf v13 (pIndexStr (vget l1 0) (vget l1 3) (fun v14 => pBin Try.prog 5 BinOp.lss v14 (Value.int IntKind.u8 48) (fun v15 => pIf v15 (K2 AX.ret [vget l1 0, Value.bool false, vget l1 2, vget l1 3] s3) (pIndexStr (vget l1 0) (vget l1 3) (fun v16 => pBin Try.prog 5 BinOp.gtr v16 (Value.int IntKind.u8 57) (fun v17 => pIf v17 (K2 AX.ret [vget l1 0, Value.bool false, vget l1 2, vget l1 3] s3) (pBin Try.prog 3 BinOp.add (vget l1 3) (Value.int IntKind.i64 1) (fun v18 => K2 AX.normal [vget l1 0, vget l1 1, vget l1 2, v18] s3)))))))) (pBin Try.prog 3 BinOp.add (vget l1 3) (Value.int IntKind.i64 1) (fun v19 => K2 AX.normal [vget l1 0, vget l1 1, vget l1 2, v19] s3)))))))) (K2 (AX.exit 0) [vget l1 0, vget l1 1, vget l1 2, vget l1 3] s3))) [a0, Value.bool false, v0, Value.int IntKind.i64 0] σ (fun x20 l21 s22 => match x20 with | .normal => pLenS (vget l21 0) (fun v23 => AC Try.prog w0 n_impl_within [v23, Value.int IntKind.i64 1, Value.int IntKind.i64 5] s22 (fun v24 s25 => R v24 s25)) | .ret => R (vget l21 1) s22 | .exit i26 => (match Nat.beq i26 0 with | true => pLenS (vget l21 0) (fun v27 => AC Try.prog w0 n_impl_within [v27, Value.int IntKind.i64 1, Value.int IntKind.i64 5] s22 (fun v28 s29 => R v28 s29)) | false => False)))
theorem vc_impl_nameOk_eq (w0 : World) (a0 : Value) (σ : Vw) (R : Value → Vw → Prop) : vc_impl_nameOk w0 a0 σ R = den Try.prog w0 kp_impl_nameOk esc_impl_nameOk (Try.f100.body.getD .skip) (entry Try.f100.ntmps [a0]) σ (retK Try.prog Try.f100.results.toList R) := by kernel_rfl
theorem ac_impl_nameOk {w0 : World} {a0 : Value} {σ : Vw} {R : Value → Vw → Prop} (h : vc_impl_nameOk w0 a0 σ R) : AC Try.prog w0 n_impl_nameOk [a0] σ R := by
  refine ac_rule (fn := Try.f100) (c := Try.f100.body.getD .skip) kp_impl_nameOk esc_impl_nameOk Try.func100 (by kernel_rfl) (by kernel_rfl) ?_
  rw [← vc_impl_nameOk_eq]
  exact h

/-- slices.Index[[]string,string] -/
def kp_slices_Index_string_string : Nat → Keep
  | 2 => ⟨[0, 1, 4, 7, 8], [], [], .done, []⟩
  | _ => ⟨[], [], [], .done, []⟩
def esc_slices_Index_string_string : Nat → Bool
  | _ => false
def vc_slices_Index_string_string (w0 : World) (a0 a1 : Value) (σ : Vw) (R : Value → Vw → Prop) : Prop :=
  pLen a0 (fun v0 => pLoop (fun l1 K2 s3 => pBin Try.prog 3 BinOp.lss (vget l1 4) (vget l1 3) (fun v4 => pIf v4 (pIndexAddr 1 (vget l1 0) (vget l1 4) (fun v5 => pLoad w0 1 v5 s3 (fun g6 => pBin Try.prog 9 BinOp.eql (vget l1 1) (g6 0) (fun v7 => pIf v7 (K2 AX.ret [vget l1 0, vget l1 1, vget l1 4, vget l1 3, vget l1 4] s3) (pBin Try.prog 3 BinOp.add (vget l1 4) (Value.int IntKind.i64 1) (fun v8 => K2 AX.normal [vget l1 0, vget l1 1, vget l1 2, vget l1 3, v8] s3)))))) (K2 (AX.exit 0) [vget l1 0, vget l1 1, vget l1 2, vget l1 3, vget l1 4] s3))) [a0, a1, Value.int IntKind.i64 0, v0, Value.int IntKind.i64 0] σ (fun x9 l10 s11 => match x9 with | .normal => R (Value.int IntKind.i64 (-1)) s11 | .ret => R (vget l10 2) s11 | .exit i12 => (match Nat.beq i12 0 with | true => R (Value.int IntKind.i64 (-1)) s11 | false => False)))
theorem vc_slices_Index_string_string_eq (w0 : World) (a0 a1 : Value) (σ : Vw) (R : Value → Vw → Prop) : vc_slices_Index_string_string w0 a0 a1 σ R = den Try.prog w0 kp_slices_Index_string_string esc_slices_Index_string_string (Try.f101.body.getD .skip) (entry Try.f101.ntmps [a0, a1]) σ (retK Try.prog Try.f101.results.toList R) := by kernel_rfl
theorem ac_slices_Index_string_string {w0 : World} {a0 a1 : Value} {σ : Vw} {R : Value → Vw → Prop} (h : vc_slices_Index_string_string w0 a0 a1 σ R) : AC Try.prog w0 n_slices_Index_string_string [a0, a1] σ R := by
  refine ac_rule (fn := Try.f101) (c := Try.f101.body.getD .skip) kp_slices_Index_string_string esc_slices_Index_string_string Try.func101 (by kernel_rfl) (by kernel_rfl) ?_
  rw [← vc_slices_Index_string_string_eq]
  exact h

/-- spec.l1In -/
def kp_spec_l1In : Nat → Keep
  | _ => ⟨[], [], [], .done, []⟩
def esc_spec_l1In : Nat → Bool
  | _ => false
def vc_spec_l1In (w0 : World) (a0 a1 a2 : Value) (σ : Vw) (R : Value → Vw → Prop) : Prop :=
  pBin Try.prog 3 BinOp.geq a0 a1 (fun v0 => pIf v0 (pBin Try.prog 3 BinOp.leq a0 a2 (fun v1 => R v1 σ)) (R (Value.bool false) σ))
theorem vc_spec_l1In_eq (w0 : World) (a0 a1 a2 : Value) (σ : Vw) (R : Value → Vw → Prop) : vc_spec_l1In w0 a0 a1 a2 σ R = den Try.prog w0 kp_spec_l1In esc_spec_l1In (Try.f102.body.getD .skip) (entry Try.f102.ntmps [a0, a1, a2]) σ (retK Try.prog Try.f102.results.toList R) := by kernel_rfl
theorem ac_spec_l1In {w0 : World} {a0 a1 a2 : Value} {σ : Vw} {R : Value → Vw → Prop} (h : vc_spec_l1In w0 a0 a1 a2 σ R) : AC Try.prog w0 n_spec_l1In [a0, a1, a2] σ R := by
  refine ac_rule (fn := Try.f102) (c := Try.f102.body.getD .skip) kp_spec_l1In esc_spec_l1In Try.func102 (by kernel_rfl) (by kernel_rfl) ?_
  rw [← vc_spec_l1In_eq]
  exact h

/-- spec.l1NameOk -/
def kp_spec_l1NameOk : Nat → Keep
  | 2 => ⟨[0, 2, 3], [], [], .done, []⟩
  | _ => ⟨[], [], [], .done, []⟩
def esc_spec_l1NameOk : Nat → Bool
  | _ => false
def vc_spec_l1NameOk (w0 : World) (a0 : Value) (σ : Vw) (R : Value → Vw → Prop) : Prop :=
  pLoop (fun l0 K1 s2 => pLenS (vget l0 0) (fun v3 => pBin Try.prog 3 BinOp.lss (vget l0 2) v3 (fun v4 => pIf v4 (pIndexStr (vget l0 0) (vget l0 2) (fun v5 => pBin Try.prog 5 BinOp.geq v5 (Value.int IntKind.u8 97) (fun v6 => pIf v6 (pIndexStr (vget l0 0) (vget l0 2) (fun v7 => pBin Try.prog 5 BinOp.leq v7 (Value.int IntKind.u8 122) (fun v8 => pIf v8 (pUn UnOp.not (Value.bool true) (fun v9 => pIf v9 (K1 AX.ret [vget l0 0, Value.bool false, vget l0 2] s2) (pBin Try.prog 3 BinOp.add (vget l0 2) (Value.int IntKind.i64 1) (fun v10 => K1 AX.normal [vget l0 0, vget l0 1, v10] s2)))) (pIndexStr (vget l0 0) (vget l0 2) (fun v11 => pBin Try.prog 5 BinOp.geq v11 (Value.int IntKind.u8 48) (fun v12 => pIf v12 (pIndexStr (vget l0 0) (vget l0 2) (fun v13 => pBin Try.prog 5 BinOp.leq v13 (Value.int IntKind.u8 57) (fun v14 => pUn UnOp.not v14 (fun v15 => pIf v15 (K1 AX.ret [vget l0 0, Value.bool false, vget l0 2] s2) (pBin Try.prog 3 BinOp.add (vget l0 2) (Value.int IntKind.i64 1) (fun v16 => K1 AX.normal [vget l0 0, vget l0 1, v16] s2)))))) (pUn UnOp.not (Value.bool false) (fun v17 => pIf v17 (K1 AX.ret [vget l0 0, Value.bool false, vget l0 2] s2) (pBin Try.prog 3 BinOp.add (vget l0 2) (Value.int IntKind.i64 1) (fun v18 => K1 AX.normal [vget l0 0, vget l0 1, v18] s2)))))))))) (pIndexStr (vget l0 0) (vget l0 2) (fun v19 => pBin Try.prog 5 BinOp.geq v19 (Value.int IntKind.u8 48) (fun v20 => pIf v20 (pIndexStr (vget l0 0) (vget l0 2) (fun v21 => pBin Try.prog 5 BinOp.leq v21 (Value.int IntKind.u8 57) (fun v22 => pUn UnOp.not v22 (fun v23 => pIf v23 (K1 AX.ret [vget l0 0, Value.bool false, vget l0 2] s2) (pBin Try.prog 3 BinOp.add (vget l0 2) (Value.int IntKind.i64 1) (fun v24 => K1 AX.normal [vget l0 0, vget l0 1, v24] s2)))))) (pUn UnOp.not (Value.bool false) (fun v25 => pIf v25 (K1 AX.ret [vget l0 0, Value.bool false, vget l0 2] s2) (pBin Try.prog 3 BinOp.add (vget l0 2) (Value.int IntKind.i64 1) (fun v26 => K1 AX.normal [vget l0 0, vget l0 1, v26] s2)))))))))) (K1 (AX.exit 0) [vget l0 0, vget l0 1, vget l0 2] s2)))) [a0, Value.bool false, Value.int IntKind.i64 0] σ (fun x27 l28 s29 => match x27 with | .normal => pLenS (vget l28 0) (fun v30 => AC Try.prog w0 n_spec_l1In [v30, Value.int IntKind.i64 1, Value.int IntKind.i64 5] s29 (fun v31 s32 => R v31 s32)) | .ret => R (vget l28 1) s29 | .exit i33 => (match Nat.beq i33 0 with | true => pLenS (vget l28 0) (fun v34 => AC Try.prog w0 n_spec_l1In [v34, Value.int IntKind.i64 1, Value.int IntKind.i64 5] s29 (fun v35 s36 => R v35 s36)) | false => False))
theorem vc_spec_l1NameOk_eq (w0 : World) (a0 : Value) (σ : Vw) (R : Value → Vw → Prop) : vc_spec_l1NameOk w0 a0 σ R = den Try.prog w0 kp_spec_l1NameOk esc_spec_l1NameOk (Try.f103.body.getD .skip) (entry Try.f103.ntmps [a0]) σ (retK Try.prog Try.f103.results.toList R) := by kernel_rfl
theorem ac_spec_l1NameOk {w0 : World} {a0 : Value} {σ : Vw} {R : Value → Vw → Prop} (h : vc_spec_l1NameOk w0 a0 σ R) : AC Try.prog w0 n_spec_l1NameOk [a0] σ R := by
  refine ac_rule (fn := Try.f103) (c := Try.f103.body.getD .skip) kp_spec_l1NameOk esc_spec_l1NameOk Try.func103 (by kernel_rfl) (by kernel_rfl) ?_
  rw [← vc_spec_l1NameOk_eq]
  exact h

/-- spec.l2PathOk -/
def kp_spec_l2PathOk : Nat → Keep
  | 2 => ⟨[0, 2, 3], [], [], .done, []⟩
  | _ => ⟨[], [], [], .done, []⟩
def esc_spec_l2PathOk : Nat → Bool
  | _ => false
def vc_spec_l2PathOk (w0 : World) (a0 : Value) (σ : Vw) (R : Value → Vw → Prop) : Prop :=
  pLoop (fun l0 K1 s2 => pLen (vget l0 0) (fun v3 => pBin Try.prog 3 BinOp.lss (vget l0 2) v3 (fun v4 => pIf v4 (pIndexAddr 1 (vget l0 0) (vget l0 2) (fun v5 => pLoad w0 1 v5 s2 (fun g6 => AC Try.prog w0 n_spec_l1NameOk [g6 0] s2 (fun v7 s8 => pUn UnOp.not v7 (fun v9 => pIf v9 (K1 AX.ret [vget l0 0, Value.bool false, vget l0 2] s8) (pBin Try.prog 3 BinOp.add (vget l0 2) (Value.int IntKind.i64 1) (fun v10 => K1 AX.normal [vget l0 0, vget l0 1, v10] s8))))))) (K1 (AX.exit 0) [vget l0 0, vget l0 1, vget l0 2] s2)))) [a0, Value.bool false, Value.int IntKind.i64 0] σ (fun x11 l12 s13 => match x11 with | .normal => pLen (vget l12 0) (fun v14 => AC Try.prog w0 n_spec_l1In [v14, Value.int IntKind.i64 1, Value.int IntKind.i64 4] s13 (fun v15 s16 => R v15 s16)) | .ret => R (vget l12 1) s13 | .exit i17 => (match Nat.beq i17 0 with | true => pLen (vget l12 0) (fun v18 => AC Try.prog w0 n_spec_l1In [v18, Value.int IntKind.i64 1, Value.int IntKind.i64 4] s13 (fun v19 s20 => R v19 s20)) | false => False))
theorem vc_spec_l2PathOk_eq (w0 : World) (a0 : Value) (σ : Vw) (R : Value → Vw → Prop) : vc_spec_l2PathOk w0 a0 σ R = den Try.prog w0 kp_spec_l2PathOk esc_spec_l2PathOk (Try.f104.body.getD .skip) (entry Try.f104.ntmps [a0]) σ (retK Try.prog Try.f104.results.toList R) := by kernel_rfl
theorem ac_spec_l2PathOk {w0 : World} {a0 : Value} {σ : Vw} {R : Value → Vw → Prop} (h : vc_spec_l2PathOk w0 a0 σ R) : AC Try.prog w0 n_spec_l2PathOk [a0] σ R := by
  refine ac_rule (fn := Try.f104) (c := Try.f104.body.getD .skip) kp_spec_l2PathOk esc_spec_l2PathOk Try.func104 (by kernel_rfl) (by kernel_rfl) ?_
  rw [← vc_spec_l2PathOk_eq]
  exact h

/-- spec.l2CallOk -/
def kp_spec_l2CallOk : Nat → Keep
  | _ => ⟨[], [], [], .done, []⟩
def esc_spec_l2CallOk : Nat → Bool
  | _ => false
def vc_spec_l2CallOk (w0 : World) (a0 : Value) (σ : Vw) (R : Value → Vw → Prop) : Prop :=
  pVal true 5 a0 (pBin Try.prog 3 BinOp.eql (cellOf a0 0) (Value.int IntKind.i64 1) (fun v0 => pIf v0 (pIf v0 (AC Try.prog w0 n_spec_l2PathOk [cellOf a0 1] σ (fun v1 s2 => pIf v1 (AC Try.prog w0 n_spec_l1In [cellOf a0 3, Value.int IntKind.i64 0, Value.int IntKind.i64 7] s2 (fun v3 s4 => R v3 s4)) (R (Value.bool false) s2))) (pBin Try.prog 3 BinOp.eql (cellOf a0 0) (Value.int IntKind.i64 2) (fun v5 => pIf v5 (pIf v5 (AC Try.prog w0 n_spec_l2PathOk [cellOf a0 1] σ (fun v6 s7 => pIf v6 (AC Try.prog w0 n_spec_l1In [cellOf a0 3, Value.int IntKind.i64 0, Value.int IntKind.i64 24] s7 (fun v8 s9 => R v8 s9)) (R (Value.bool false) s7))) (pBin Try.prog 3 BinOp.eql (cellOf a0 0) (Value.int IntKind.i64 4) (fun v10 => pIf v10 (AC Try.prog w0 n_spec_l2PathOk [cellOf a0 1] σ (fun v11 s12 => R v11 s12)) (pBin Try.prog 3 BinOp.eql (cellOf a0 0) (Value.int IntKind.i64 5) (fun v13 => pIf v13 (AC Try.prog w0 n_spec_l2PathOk [cellOf a0 1] σ (fun v14 s15 => pIf v14 (AC Try.prog w0 n_spec_l2PathOk [cellOf a0 2] s15 (fun v16 s17 => R v16 s17)) (R (Value.bool false) s15))) (R (Value.bool false) σ)))))) (pBin Try.prog 3 BinOp.eql (cellOf a0 0) (Value.int IntKind.i64 3) (fun v18 => pIf v18 (AC Try.prog w0 n_spec_l2PathOk [cellOf a0 1] σ (fun v19 s20 => pIf v19 (AC Try.prog w0 n_spec_l1In [cellOf a0 3, Value.int IntKind.i64 0, Value.int IntKind.i64 24] s20 (fun v21 s22 => R v21 s22)) (R (Value.bool false) s20))) (pBin Try.prog 3 BinOp.eql (cellOf a0 0) (Value.int IntKind.i64 4) (fun v23 => pIf v23 (AC Try.prog w0 n_spec_l2PathOk [cellOf a0 1] σ (fun v24 s25 => R v24 s25)) (pBin Try.prog 3 BinOp.eql (cellOf a0 0) (Value.int IntKind.i64 5) (fun v26 => pIf v26 (AC Try.prog w0 n_spec_l2PathOk [cellOf a0 1] σ (fun v27 s28 => pIf v27 (AC Try.prog w0 n_spec_l2PathOk [cellOf a0 2] s28 (fun v29 s30 => R v29 s30)) (R (Value.bool false) s28))) (R (Value.bool false) σ)))))))))) (pBin Try.prog 3 BinOp.eql (cellOf a0 0) (Value.int IntKind.i64 6) (fun v31 => pIf v31 (AC Try.prog w0 n_spec_l2PathOk [cellOf a0 1] σ (fun v32 s33 => pIf v32 (AC Try.prog w0 n_spec_l1In [cellOf a0 3, Value.int IntKind.i64 0, Value.int IntKind.i64 7] s33 (fun v34 s35 => R v34 s35)) (R (Value.bool false) s33))) (pBin Try.prog 3 BinOp.eql (cellOf a0 0) (Value.int IntKind.i64 2) (fun v36 => pIf v36 (pIf v36 (AC Try.prog w0 n_spec_l2PathOk [cellOf a0 1] σ (fun v37 s38 => pIf v37 (AC Try.prog w0 n_spec_l1In [cellOf a0 3, Value.int IntKind.i64 0, Value.int IntKind.i64 24] s38 (fun v39 s40 => R v39 s40)) (R (Value.bool false) s38))) (pBin Try.prog 3 BinOp.eql (cellOf a0 0) (Value.int IntKind.i64 4) (fun v41 => pIf v41 (AC Try.prog w0 n_spec_l2PathOk [cellOf a0 1] σ (fun v42 s43 => R v42 s43)) (pBin Try.prog 3 BinOp.eql (cellOf a0 0) (Value.int IntKind.i64 5) (fun v44 => pIf v44 (AC Try.prog w0 n_spec_l2PathOk [cellOf a0 1] σ (fun v45 s46 => pIf v45 (AC Try.prog w0 n_spec_l2PathOk [cellOf a0 2] s46 (fun v47 s48 => R v47 s48)) (R (Value.bool false) s46))) (R (Value.bool false) σ)))))) (pBin Try.prog 3 BinOp.eql (cellOf a0 0) (Value.int IntKind.i64 3) (fun v49 => pIf v49 (AC Try.prog w0 n_spec_l2PathOk [cellOf a0 1] σ (fun v50 s51 => pIf v50 (AC Try.prog w0 n_spec_l1In [cellOf a0 3, Value.int IntKind.i64 0, Value.int IntKind.i64 24] s51 (fun v52 s53 => R v52 s53)) (R (Value.bool false) s51))) (pBin Try.prog 3 BinOp.eql (cellOf a0 0) (Value.int IntKind.i64 4) (fun v54 => pIf v54 (AC Try.prog w0 n_spec_l2PathOk [cellOf a0 1] σ (fun v55 s56 => R v55 s56)) (pBin Try.prog 3 BinOp.eql (cellOf a0 0) (Value.int IntKind.i64 5) (fun v57 => pIf v57 (AC Try.prog w0 n_spec_l2PathOk [cellOf a0 1] σ (fun v58 s59 => pIf v58 (AC Try.prog w0 n_spec_l2PathOk [cellOf a0 2] s59 (fun v60 s61 => R v60 s61)) (R (Value.bool false) s59))) (R (Value.bool false) σ)))))))))))))
theorem vc_spec_l2CallOk_eq (w0 : World) (a0 : Value) (σ : Vw) (R : Value → Vw → Prop) : vc_spec_l2CallOk w0 a0 σ R = den Try.prog w0 kp_spec_l2CallOk esc_spec_l2CallOk (Try.f114.body.getD .skip) (entry Try.f114.ntmps [a0]) σ (retK Try.prog Try.f114.results.toList R) := by kernel_rfl
theorem ac_spec_l2CallOk {w0 : World} {a0 : Value} {σ : Vw} {R : Value → Vw → Prop} (h : vc_spec_l2CallOk w0 a0 σ R) : AC Try.prog w0 n_spec_l2CallOk [a0] σ R := by
  refine ac_rule (fn := Try.f114) (c := Try.f114.body.getD .skip) kp_spec_l2CallOk esc_spec_l2CallOk Try.func114 (by kernel_rfl) (by kernel_rfl) ?_
  rw [← vc_spec_l2CallOk_eq]
  exact h

/-- spec.l2Do -/
def kp_spec_l2Do : Nat → Keep
  | 9 => ⟨[], [], [], .step 0 (.step 1 (.step 2 (.step 3 (.step 4 (.step 5 (.step 7 (.step 6 (.step 8 (.step 9 (.step 10 (.step 11 (.step 12 (.done))))))))))))), [(2, [1]), (4, [3]), (5, [3, 4]), (6, [0, 1, 2, 3, 4, 5]), (8, [0, 1, 2, 3, 4, 5, 6, 7]), (9, [0, 1, 2, 3, 4, 5, 6, 7, 8]), (10, [0, 1, 2, 3, 4, 5, 6, 7, 8]), (11, [0, 1, 2, 3, 4, 5, 6, 7, 8, 9, 10]), (12, [0, 1, 2, 3, 4, 5, 6, 7, 8, 9, 10, 11])]⟩
  | _ => ⟨[], [], [], .done, []⟩
def esc_spec_l2Do : Nat → Bool
  | _ => false
def vc_spec_l2Do (w0 : World) (a0 a1 : Value) (σ : Vw) (R : Value → Vw → Prop) : Prop :=
  pVal true 5 a0 (pVal true 5 a1 (AC Try.prog w0 n_spec_l2Parent ([Value.agg (⟨[cellOf a0 0, cellOf a0 1, cellOf a0 2, cellOf a0 3, cellOf a0 4]⟩), cellOf a1 1]) σ (fun v0 s1 => pBin Try.prog 3 BinOp.neq v0 (Value.int IntKind.i64 0) (fun v2 => pIf v2 (pVal true 5 (Value.agg (⟨[cellOf a0 0, cellOf a0 1, cellOf a0 2, cellOf a0 3, cellOf a0 4]⟩)) (R (Value.tuple (⟨[Value.agg (⟨[cellOf a0 0, cellOf a0 1, cellOf a0 2, cellOf a0 3, cellOf a0 4]⟩), v0]⟩)) s1)) (AC Try.prog w0 n_spec_l1At ([Value.agg (⟨[cellOf a0 0, cellOf a0 1, cellOf a0 2, cellOf a0 3, cellOf a0 4]⟩), cellOf a1 1]) s1 (fun v3 s4 => pExtract v3 0 (fun v5 => pExtract v3 1 (fun v6 => pVal true 5 v5 (pBin Try.prog 3 BinOp.eql (cellOf a1 0) (Value.int IntKind.i64 1) (fun v7 => pIf v7 (pIf v6 (pVal true 5 (Value.agg (⟨[cellOf a0 0, cellOf a0 1, cellOf a0 2, cellOf a0 3, cellOf a0 4]⟩)) (R (Value.tuple (⟨[Value.agg (⟨[cellOf a0 0, cellOf a0 1, cellOf a0 2, cellOf a0 3, cellOf a0 4]⟩), Value.int IntKind.i64 5]⟩)) s4)) (pVal false 1 (Value.bool true) (pVal false 1 (cellOf a1 3) (AC Try.prog w0 n_spec_l2Set ([Value.agg (⟨[cellOf a0 0, cellOf a0 1, cellOf a0 2, cellOf a0 3, cellOf a0 4]⟩), cellOf a1 1, Value.agg (⟨[Value.bool true, cellOf a1 3, Value.string ({ data := #[] }), Value.slice Option.none 0 0, Value.slice Option.none 0 0]⟩), Value.bool false]) s4 (fun v8 s9 => AC Try.prog w0 n_spec_l2Fits ([v8, Value.agg (⟨[cellOf a0 0, cellOf a0 1, cellOf a0 2, cellOf a0 3, cellOf a0 4]⟩)]) s9 (fun v10 s11 => pExtract v10 0 (fun v12 => pExtract v10 1 (fun v13 => pVal true 5 v12 (R (Value.tuple (⟨[Value.agg (⟨[cellOf v12 0, cellOf v12 1, cellOf v12 2, cellOf v12 3, cellOf v12 4]⟩), v13]⟩)) s11))))))))) (pBin Try.prog 3 BinOp.eql (cellOf a1 0) (Value.int IntKind.i64 2) (fun v14 => pIf v14 (pIf v14 (AC Try.prog w0 n_spec_l2File ([Value.agg (⟨[cellOf a0 0, cellOf a0 1, cellOf a0 2, cellOf a0 3, cellOf a0 4]⟩), Value.agg (⟨[cellOf a1 0, cellOf a1 1, cellOf a1 2, cellOf a1 3, cellOf a1 4]⟩)]) s4 (fun v15 s16 => pExtract v15 0 (fun v17 => pExtract v15 1 (fun v18 => pVal true 5 v17 (R (Value.tuple (⟨[Value.agg (⟨[cellOf v17 0, cellOf v17 1, cellOf v17 2, cellOf v17 3, cellOf v17 4]⟩), v18]⟩)) s16))))) (pBin Try.prog 3 BinOp.eql (cellOf a1 0) (Value.int IntKind.i64 5) (fun v19 => pIf v19 (AC Try.prog w0 n_spec_l2Rename ([Value.agg (⟨[cellOf a0 0, cellOf a0 1, cellOf a0 2, cellOf a0 3, cellOf a0 4]⟩), Value.agg (⟨[cellOf a1 0, cellOf a1 1, cellOf a1 2, cellOf a1 3, cellOf a1 4]⟩)]) s4 (fun v20 s21 => pExtract v20 0 (fun v22 => pExtract v20 1 (fun v23 => pVal true 5 v22 (R (Value.tuple (⟨[Value.agg (⟨[cellOf v22 0, cellOf v22 1, cellOf v22 2, cellOf v22 3, cellOf v22 4]⟩), v23]⟩)) s21))))) (pUn UnOp.not v6 (fun v24 => pIf v24 (pVal true 5 (Value.agg (⟨[cellOf a0 0, cellOf a0 1, cellOf a0 2, cellOf a0 3, cellOf a0 4]⟩)) (R (Value.tuple (⟨[Value.agg (⟨[cellOf a0 0, cellOf a0 1, cellOf a0 2, cellOf a0 3, cellOf a0 4]⟩), Value.int IntKind.i64 3]⟩)) s4)) (pBin Try.prog 3 BinOp.eql (cellOf a1 0) (Value.int IntKind.i64 4) (fun v25 => pIf v25 (pLen (cellOf v5 3) (fun v26 => pBin Try.prog 3 BinOp.gtr v26 (Value.int IntKind.i64 0) (fun v27 => pIf v27 (pVal true 5 (Value.agg (⟨[cellOf a0 0, cellOf a0 1, cellOf a0 2, cellOf a0 3, cellOf a0 4]⟩)) (R (Value.tuple (⟨[Value.agg (⟨[cellOf a0 0, cellOf a0 1, cellOf a0 2, cellOf a0 3, cellOf a0 4]⟩), Value.int IntKind.i64 5]⟩)) s4)) (AC Try.prog w0 n_spec_l2Set ([Value.agg (⟨[cellOf a0 0, cellOf a0 1, cellOf a0 2, cellOf a0 3, cellOf a0 4]⟩), cellOf a1 1, Value.agg (⟨[Value.bool false, Value.int IntKind.i64 0, Value.string ({ data := #[] }), Value.slice Option.none 0 0, Value.slice Option.none 0 0]⟩), Value.bool true]) s4 (fun v28 s29 => pVal true 5 v28 (R (Value.tuple (⟨[Value.agg (⟨[cellOf v28 0, cellOf v28 1, cellOf v28 2, cellOf v28 3, cellOf v28 4]⟩), Value.int IntKind.i64 0]⟩)) s29)))))) (pVal false 1 (cellOf a1 3) (AC Try.prog w0 n_spec_l2Set ([Value.agg (⟨[cellOf a0 0, cellOf a0 1, cellOf a0 2, cellOf a0 3, cellOf a0 4]⟩), cellOf a1 1, Value.agg (⟨[cellOf v5 0, cellOf a1 3, cellOf v5 2, cellOf v5 3, cellOf v5 4]⟩), Value.bool false]) s4 (fun v30 s31 => pVal true 5 v30 (R (Value.tuple (⟨[Value.agg (⟨[cellOf v30 0, cellOf v30 1, cellOf v30 2, cellOf v30 3, cellOf v30 4]⟩), Value.int IntKind.i64 0]⟩)) s31))))))))))) (pBin Try.prog 3 BinOp.eql (cellOf a1 0) (Value.int IntKind.i64 3) (fun v32 => pIf v32 (AC Try.prog w0 n_spec_l2File ([Value.agg (⟨[cellOf a0 0, cellOf a0 1, cellOf a0 2, cellOf a0 3, cellOf a0 4]⟩), Value.agg (⟨[cellOf a1 0, cellOf a1 1, cellOf a1 2, cellOf a1 3, cellOf a1 4]⟩)]) s4 (fun v33 s34 => pExtract v33 0 (fun v35 => pExtract v33 1 (fun v36 => pVal true 5 v35 (R (Value.tuple (⟨[Value.agg (⟨[cellOf v35 0, cellOf v35 1, cellOf v35 2, cellOf v35 3, cellOf v35 4]⟩), v36]⟩)) s34))))) (pBin Try.prog 3 BinOp.eql (cellOf a1 0) (Value.int IntKind.i64 5) (fun v37 => pIf v37 (AC Try.prog w0 n_spec_l2Rename ([Value.agg (⟨[cellOf a0 0, cellOf a0 1, cellOf a0 2, cellOf a0 3, cellOf a0 4]⟩), Value.agg (⟨[cellOf a1 0, cellOf a1 1, cellOf a1 2, cellOf a1 3, cellOf a1 4]⟩)]) s4 (fun v38 s39 => pExtract v38 0 (fun v40 => pExtract v38 1 (fun v41 => pVal true 5 v40 (R (Value.tuple (⟨[Value.agg (⟨[cellOf v40 0, cellOf v40 1, cellOf v40 2, cellOf v40 3, cellOf v40 4]⟩), v41]⟩)) s39))))) (pUn UnOp.not v6 (fun v42 => pIf v42 (pVal true 5 (Value.agg (⟨[cellOf a0 0, cellOf a0 1, cellOf a0 2, cellOf a0 3, cellOf a0 4]⟩)) (R (Value.tuple (⟨[Value.agg (⟨[cellOf a0 0, cellOf a0 1, cellOf a0 2, cellOf a0 3, cellOf a0 4]⟩), Value.int IntKind.i64 3]⟩)) s4)) (pBin Try.prog 3 BinOp.eql (cellOf a1 0) (Value.int IntKind.i64 4) (fun v43 => pIf v43 (pLen (cellOf v5 3) (fun v44 => pBin Try.prog 3 BinOp.gtr v44 (Value.int IntKind.i64 0) (fun v45 => pIf v45 (pVal true 5 (Value.agg (⟨[cellOf a0 0, cellOf a0 1, cellOf a0 2, cellOf a0 3, cellOf a0 4]⟩)) (R (Value.tuple (⟨[Value.agg (⟨[cellOf a0 0, cellOf a0 1, cellOf a0 2, cellOf a0 3, cellOf a0 4]⟩), Value.int IntKind.i64 5]⟩)) s4)) (AC Try.prog w0 n_spec_l2Set ([Value.agg (⟨[cellOf a0 0, cellOf a0 1, cellOf a0 2, cellOf a0 3, cellOf a0 4]⟩), cellOf a1 1, Value.agg (⟨[Value.bool false, Value.int IntKind.i64 0, Value.string ({ data := #[] }), Value.slice Option.none 0 0, Value.slice Option.none 0 0]⟩), Value.bool true]) s4 (fun v46 s47 => pVal true 5 v46 (R (Value.tuple (⟨[Value.agg (⟨[cellOf v46 0, cellOf v46 1, cellOf v46 2, cellOf v46 3, cellOf v46 4]⟩), Value.int IntKind.i64 0]⟩)) s47)))))) (pVal false 1 (cellOf a1 3) (AC Try.prog w0 n_spec_l2Set ([Value.agg (⟨[cellOf a0 0, cellOf a0 1, cellOf a0 2, cellOf a0 3, cellOf a0 4]⟩), cellOf a1 1, Value.agg (⟨[cellOf v5 0, cellOf a1 3, cellOf v5 2, cellOf v5 3, cellOf v5 4]⟩), Value.bool false]) s4 (fun v48 s49 => pVal true 5 v48 (R (Value.tuple (⟨[Value.agg (⟨[cellOf v48 0, cellOf v48 1, cellOf v48 2, cellOf v48 3, cellOf v48 4]⟩), Value.int IntKind.i64 0]⟩)) s49))))))))))))))))))))))))
theorem vc_spec_l2Do_eq (w0 : World) (a0 a1 : Value) (σ : Vw) (R : Value → Vw → Prop) : vc_spec_l2Do w0 a0 a1 σ R = den Try.prog w0 kp_spec_l2Do esc_spec_l2Do (Try.f115.body.getD .skip) (entry Try.f115.ntmps [a0, a1]) σ (retK Try.prog Try.f115.results.toList R) := by kernel_rfl
theorem ac_spec_l2Do {w0 : World} {a0 a1 : Value} {σ : Vw} {R : Value → Vw → Prop} (h : vc_spec_l2Do w0 a0 a1 σ R) : AC Try.prog w0 n_spec_l2Do [a0, a1] σ R := by
  refine ac_rule (fn := Try.f115) (c := Try.f115.body.getD .skip) kp_spec_l2Do esc_spec_l2Do Try.func115 (by kernel_rfl) (by kernel_rfl) ?_
  rw [← vc_spec_l2Do_eq]
  exact h

/-- (impl.Tree).each -/
def kp_impl_Tree_each : Nat → Keep
  | 3 => ⟨[1, 2, 13, 14, 15], [(3, 5)], [3], .done, []⟩
  | 5 => ⟨[], [], [], .step 0 (.step 1 (.step 2 (.step 3 (.step 4 (.step 5 (.step 6 (.step 8 (.step 7 (.step 9 (.done)))))))))), [(1, [0]), (3, [0, 1, 2]), (4, [0, 1, 2, 3]), (7, [5, 6]), (9, [0, 1, 2, 3, 4, 5, 6, 7, 8])]⟩
  | _ => ⟨[], [], [], .done, []⟩
def esc_impl_Tree_each : Nat → Bool
  | _ => false
def vc_impl_Tree_each (w0 : World) (a0 a1 a2 : Value) (σ : Vw) (R : Value → Vw → Prop) : Prop :=
  pVal true 5 a0 (pCallV (fun n0 l1 s2 K3 => AC Try.prog w0 n0 l1 s2 K3) a2 ([a1, Value.agg (⟨[cellOf a0 0, cellOf a0 1, cellOf a0 2, cellOf a0 3, cellOf a0 4]⟩)]) σ (fun v4 s5 => pLen (cellOf a0 3) (fun v6 => pLoop (fun l7 K8 s9 => pBin Try.prog 3 BinOp.lss (vget l7 4) (vget l7 3) (fun v10 => pIf v10 (pIndexAddr 1 (vget l7 2) (vget l7 4) (fun v11 => pLoad w0 1 v11 s9 (fun g12 => pIndexAddr 5 (vget l7 9) (vget l7 4) (fun v13 => pLoad w0 5 v13 s9 (fun g14 => AC Try.prog w0 n_impl_below [vget l7 0, g12 0] s9 (fun v15 s16 => (Stay w0 s9 s16 v13 5) ∧ (AC Try.prog w0 n_impl_Tree_each ([Value.agg (⟨[g14 0, g14 1, g14 2, g14 3, g14 4]⟩), v15, vget l7 1]) s16 (fun v17 s18 => pBin Try.prog 3 BinOp.add (vget l7 4) (Value.int IntKind.i64 1) (fun v19 => K8 AX.normal [vget l7 0, vget l7 1, vget l7 2, vget l7 3, v19, vget l7 5, vget l7 6, vget l7 7, vget l7 8, vget l7 9] s18))))))))) (K8 (AX.exit 0) [vget l7 0, vget l7 1, vget l7 2, vget l7 3, vget l7 4, vget l7 5, vget l7 6, vget l7 7, vget l7 8, vget l7 9] s9))) [a1, a2, cellOf a0 3, v6, Value.int IntKind.i64 0, cellOf a0 0, cellOf a0 1, cellOf a0 2, cellOf a0 3, cellOf a0 4] s5 (fun x20 l21 s22 => match x20 with | .normal => R (Value.tuple ⟨[]⟩) s22 | .ret => R (Value.tuple ⟨[]⟩) s22 | .exit i23 => (match Nat.beq i23 0 with | true => R (Value.tuple ⟨[]⟩) s22 | false => False)))))
theorem vc_impl_Tree_each_eq (w0 : World) (a0 a1 a2 : Value) (σ : Vw) (R : Value → Vw → Prop) : vc_impl_Tree_each w0 a0 a1 a2 σ R = den Try.prog w0 kp_impl_Tree_each esc_impl_Tree_each (Try.f116.body.getD .skip) (entry Try.f116.ntmps [a0, a1, a2]) σ (retK Try.prog Try.f116.results.toList R) := by kernel_rfl
theorem ac_impl_Tree_each {w0 : World} {a0 a1 a2 : Value} {σ : Vw} {R : Value → Vw → Prop} (h : vc_impl_Tree_each w0 a0 a1 a2 σ R) : AC Try.prog w0 n_impl_Tree_each [a0, a1, a2] σ R := by
  refine ac_rule (fn := Try.f116) (c := Try.f116.body.getD .skip) kp_impl_Tree_each esc_impl_Tree_each Try.func116 (by kernel_rfl) (by kernel_rfl) ?_
  rw [← vc_impl_Tree_each_eq]
  exact h

end Go.Proofs.Ytkbhjejalkbogaa

/- What each function owes, reckoned out, part 4. MADE BY PROGRAM (emit.py). -/
set_option linter.unusedVariables false
namespace Go.Proofs.Ytkbhjejalkbogaa
open Go Go.Av

/-- impl.fresh$1 -/
def kp_impl_fresh_c1 : Nat → Keep
  | 1 => ⟨[], [], [], .step 0 (.step 2 (.step 4 (.step 5 (.step 6 (.step 7 (.step 8 (.step 9 (.step 1 (.step 3 (.step 10 (.step 11 (.step 12 (.step 13 (.done)))))))))))))), [(3, [1, 2]), (5, [4]), (7, [6]), (9, [8]), (10, [1, 2, 3, 4, 5, 6, 7, 8, 9]), (11, [1, 2, 3, 4, 5, 6, 7, 8, 9, 10]), (12, [0, 1, 2, 3, 4, 5, 6, 7, 8, 9, 10, 11]), (13, [0, 1, 2, 3, 4, 5, 6, 7, 8, 9, 10, 11, 12])]⟩
  | _ => ⟨[], [], [], .done, []⟩
def esc_impl_fresh_c1 : Nat → Bool
  | 6 => true
  | _ => false
def vc_impl_fresh_c1 (w0 : World) (a0 a1 a2 : Value) (σ : Vw) (R : Value → Vw → Prop) : Prop :=
  pVal true 5 a1 (pLoad w0 1 a2 σ (fun g0 => pNew w0 9 [] σ (fun n1 s2 => (Stay w0 σ s2 a2 1) ∧ (pAppendS w0 9 1 16 (Value.slice (Option.some (Addr.mk n1 0 Option.none)) 0 0) a0 s2 (fun v3 s4 => (Stay w0 s2 s4 a2 1) ∧ (pVal false 1 v3 (pVal false 1 (Value.int IntKind.i64 2) (pVal false 1 (cellOf a1 0) (pVal false 1 (cellOf a1 1) (pVal false 1 (cellOf a1 2) (pVal true 5 (Value.agg (⟨[v3, Value.int IntKind.i64 2, cellOf a1 0, cellOf a1 1, cellOf a1 2]⟩)) ((allOne [v3, Value.int IntKind.i64 2, cellOf a1 0, cellOf a1 1, cellOf a1 2]) ∧ (pAppend w0 94 5 64 (g0 0) 1 [v3, Value.int IntKind.i64 2, cellOf a1 0, cellOf a1 1, cellOf a1 2] s4 (fun v5 s6 => pVal false 1 v5 (pStore a2 [v5] s6 (fun s7 => R (Value.tuple ⟨[]⟩) s7))))))))))))))))
theorem vc_impl_fresh_c1_eq (w0 : World) (a0 a1 a2 : Value) (σ : Vw) (R : Value → Vw → Prop) : vc_impl_fresh_c1 w0 a0 a1 a2 σ R = den Try.prog w0 kp_impl_fresh_c1 esc_impl_fresh_c1 (Try.f117.body.getD .skip) (entry Try.f117.ntmps [a0, a1, a2]) σ (retK Try.prog Try.f117.results.toList R) := by kernel_rfl
theorem ac_impl_fresh_c1 {w0 : World} {a0 a1 a2 : Value} {σ : Vw} {R : Value → Vw → Prop} (h : vc_impl_fresh_c1 w0 a0 a1 a2 σ R) : AC Try.prog w0 n_impl_fresh_c1 [a0, a1, a2] σ R := by
  refine ac_rule (fn := Try.f117) (c := Try.f117.body.getD .skip) kp_impl_fresh_c1 esc_impl_fresh_c1 Try.func117 (by kernel_rfl) (by kernel_rfl) ?_
  rw [← vc_impl_fresh_c1_eq]
  exact h

/-- impl.within -/
def kp_impl_within : Nat → Keep
  | _ => ⟨[], [], [], .done, []⟩
def esc_impl_within : Nat → Bool
  | _ => false
def vc_impl_within (w0 : World) (a0 a1 a2 : Value) (σ : Vw) (R : Value → Vw → Prop) : Prop :=
  pBin Try.prog 3 BinOp.geq a0 a1 (fun v0 => pIf v0 (pBin Try.prog 3 BinOp.leq a0 a2 (fun v1 => R v1 σ)) (R (Value.bool false) σ))
theorem vc_impl_within_eq (w0 : World) (a0 a1 a2 : Value) (σ : Vw) (R : Value → Vw → Prop) : vc_impl_within w0 a0 a1 a2 σ R = den Try.prog w0 kp_impl_within esc_impl_within (Try.f118.body.getD .skip) (entry Try.f118.ntmps [a0, a1, a2]) σ (retK Try.prog Try.f118.results.toList R) := by kernel_rfl
theorem ac_impl_within {w0 : World} {a0 a1 a2 : Value} {σ : Vw} {R : Value → Vw → Prop} (h : vc_impl_within w0 a0 a1 a2 σ R) : AC Try.prog w0 n_impl_within [a0, a1, a2] σ R := by
  refine ac_rule (fn := Try.f118) (c := Try.f118.body.getD .skip) kp_impl_within esc_impl_within Try.func118 (by kernel_rfl) (by kernel_rfl) ?_
  rw [← vc_impl_within_eq]
  exact h

/-- spec.l2Parent -/
def kp_spec_l2Parent : Nat → Keep
  | 1 => ⟨[], [], [], .step 0 (.step 1 (.step 2 (.step 3 (.step 4 (.step 5 (.step 10 (.step 6 (.step 7 (.step 8 (.step 9 (.step 11 (.step 12 (.done))))))))))))), [(3, [2]), (4, [2, 3]), (5, [1, 2, 3, 4]), (6, [0, 1, 2, 3, 4, 5]), (7, [0, 1, 2, 3, 4, 5, 6]), (8, [0, 1, 2, 3, 4, 5, 6, 7]), (9, [0, 1, 2, 3, 4, 5, 6, 7]), (11, [0, 1, 2, 3, 4, 5, 6, 7, 8, 10]), (12, [0, 1, 2, 3, 4, 5, 6, 7, 8, 9, 10, 11])]⟩
  | _ => ⟨[], [], [], .done, []⟩
def esc_spec_l2Parent : Nat → Bool
  | _ => false
def vc_spec_l2Parent (w0 : World) (a0 a1 : Value) (σ : Vw) (R : Value → Vw → Prop) : Prop :=
  pVal true 5 a0 (pLen a1 (fun v0 => pBin Try.prog 3 BinOp.sub v0 (Value.int IntKind.i64 1) (fun v1 => pSlice 1 a1 Option.none (Option.some v1) (fun v2 => AC Try.prog w0 n_spec_l1At ([Value.agg (⟨[cellOf a0 0, cellOf a0 1, cellOf a0 2, cellOf a0 3, cellOf a0 4]⟩), v2]) σ (fun v3 s4 => pExtract v3 0 (fun v5 => pExtract v3 1 (fun v6 => pVal true 5 v5 (pUn UnOp.not v6 (fun v7 => pIf v7 (R (Value.int IntKind.i64 3) s4) (pUn UnOp.not (cellOf v5 0) (fun v8 => pIf v8 (R (Value.int IntKind.i64 4) s4) (R (Value.int IntKind.i64 0) s4))))))))))))
theorem vc_spec_l2Parent_eq (w0 : World) (a0 a1 : Value) (σ : Vw) (R : Value → Vw → Prop) : vc_spec_l2Parent w0 a0 a1 σ R = den Try.prog w0 kp_spec_l2Parent esc_spec_l2Parent (Try.f123.body.getD .skip) (entry Try.f123.ntmps [a0, a1]) σ (retK Try.prog Try.f123.results.toList R) := by kernel_rfl
theorem ac_spec_l2Parent {w0 : World} {a0 a1 : Value} {σ : Vw} {R : Value → Vw → Prop} (h : vc_spec_l2Parent w0 a0 a1 σ R) : AC Try.prog w0 n_spec_l2Parent [a0, a1] σ R := by
  refine ac_rule (fn := Try.f123) (c := Try.f123.body.getD .skip) kp_spec_l2Parent esc_spec_l2Parent Try.func123 (by kernel_rfl) (by kernel_rfl) ?_
  rw [← vc_spec_l2Parent_eq]
  exact h

/-- spec.l2Fits -/
def kp_spec_l2Fits : Nat → Keep
  | _ => ⟨[], [], [], .done, []⟩
def esc_spec_l2Fits : Nat → Bool
  | _ => false
def vc_spec_l2Fits (w0 : World) (a0 a1 : Value) (σ : Vw) (R : Value → Vw → Prop) : Prop :=
  pVal true 5 a0 (pVal true 5 a1 (AC Try.prog w0 n_spec_TreeOk ([Value.agg (⟨[cellOf a0 0, cellOf a0 1, cellOf a0 2, cellOf a0 3, cellOf a0 4]⟩)]) σ (fun v0 s1 => pUn UnOp.not v0 (fun v2 => pIf v2 (pVal true 5 (Value.agg (⟨[cellOf a1 0, cellOf a1 1, cellOf a1 2, cellOf a1 3, cellOf a1 4]⟩)) (R (Value.tuple (⟨[Value.agg (⟨[cellOf a1 0, cellOf a1 1, cellOf a1 2, cellOf a1 3, cellOf a1 4]⟩), Value.int IntKind.i64 6]⟩)) s1)) (pVal true 5 (Value.agg (⟨[cellOf a0 0, cellOf a0 1, cellOf a0 2, cellOf a0 3, cellOf a0 4]⟩)) (R (Value.tuple (⟨[Value.agg (⟨[cellOf a0 0, cellOf a0 1, cellOf a0 2, cellOf a0 3, cellOf a0 4]⟩), Value.int IntKind.i64 0]⟩)) s1))))))
theorem vc_spec_l2Fits_eq (w0 : World) (a0 a1 : Value) (σ : Vw) (R : Value → Vw → Prop) : vc_spec_l2Fits w0 a0 a1 σ R = den Try.prog w0 kp_spec_l2Fits esc_spec_l2Fits (Try.f124.body.getD .skip) (entry Try.f124.ntmps [a0, a1]) σ (retK Try.prog Try.f124.results.toList R) := by kernel_rfl
theorem ac_spec_l2Fits {w0 : World} {a0 a1 : Value} {σ : Vw} {R : Value → Vw → Prop} (h : vc_spec_l2Fits w0 a0 a1 σ R) : AC Try.prog w0 n_spec_l2Fits [a0, a1] σ R := by
  refine ac_rule (fn := Try.f124) (c := Try.f124.body.getD .skip) kp_spec_l2Fits esc_spec_l2Fits Try.func124 (by kernel_rfl) (by kernel_rfl) ?_
  rw [← vc_spec_l2Fits_eq]
  exact h

/-- spec.l2Set -/
def kp_spec_l2Set : Nat → Keep
  | 4 => ⟨[1, 3, 10, 11], [(4, 5), (6, 5), (8, 5), (9, 5)], [4, 6, 8, 9], .done, []⟩
  | 8 => ⟨[], [], [], .step 0 (.step 1 (.step 2 (.step 3 (.step 4 (.step 5 (.step 6 (.step 7 (.step 8 (.done))))))))), [(1, [0]), (3, [2]), (4, [2, 3]), (5, [2, 3, 4]), (6, [0, 1, 2, 3, 4, 5]), (7, [0, 1, 2, 3, 4, 5, 6]), (8, [0, 1, 2, 3, 4, 5, 6, 7])]⟩
  | 14 => ⟨[], [], [], .step 0 (.step 1 (.step 2 (.step 3 (.step 4 (.step 5 (.step 6 (.done))))))), [(2, [1]), (5, [0, 1, 2, 3, 4]), (6, [0, 1, 2, 3, 4, 5])]⟩
  | 18 => ⟨[], [], [], .step 0 (.step 1 (.step 2 (.step 3 (.step 4 (.step 5 (.step 6 (.step 7 (.step 8 (.done))))))))), [(1, [0]), (3, [2]), (4, [2, 3]), (5, [2, 3, 4]), (6, [0, 1, 2, 3, 4, 5]), (7, [0, 1, 2, 3, 4, 5, 6]), (8, [0, 1, 2, 3, 4, 5, 6, 7])]⟩
  | _ => ⟨[], [], [], .done, []⟩
def esc_spec_l2Set : Nat → Bool
  | _ => false
def vc_spec_l2Set (w0 : World) (a0 a1 a2 a3 : Value) (σ : Vw) (R : Value → Vw → Prop) : Prop :=
  pVal true 5 a0 (pVal true 5 a2 (pVal false 1 (cellOf a0 0) (pVal false 1 (cellOf a0 1) (pVal false 1 (cellOf a0 2) (pVal true 5 (Value.agg (⟨[cellOf a0 0, cellOf a0 1, cellOf a0 2, Value.slice Option.none 0 0, Value.slice Option.none 0 0]⟩)) (pLoop (fun l0 K1 s2 => pLen (vget l0 7) (fun v3 => pBin Try.prog 3 BinOp.lss (vget l0 3) v3 (fun v4 => pIf v4 (pIndexAddr 1 (vget l0 7) (vget l0 3) (fun v5 => pLoad w0 1 v5 s2 (fun g6 => pLen (vget l0 0) (fun v7 => pBin Try.prog 3 BinOp.eql v7 (Value.int IntKind.i64 1) (fun v8 => pIf v8 (pUn UnOp.not (vget l0 2) (fun v9 => pIf v9 (pUn UnOp.not (vget l0 1) (fun v10 => pIf v10 (pIndexAddr 1 (vget l0 0) (Value.int IntKind.i64 0) (fun v11 => pLoad w0 1 v11 s2 (fun g12 => pBin Try.prog 9 BinOp.geq (g6 0) (g12 0) (fun v13 => pIf v13 (pIndexAddr 1 (vget l0 0) (Value.int IntKind.i64 0) (fun v14 => pLoad w0 1 v14 s2 (fun g15 => pVal false 1 (g15 0) ((allOne [g15 0]) ∧ (pAppend w0 9 1 16 (vget l0 22) 1 [g15 0] s2 (fun v16 s17 => pVal false 1 v16 (pVal true 5 (Value.agg (⟨[vget l0 9, vget l0 10, vget l0 11, vget l0 12, vget l0 13]⟩)) ((allOne [vget l0 9, vget l0 10, vget l0 11, vget l0 12, vget l0 13]) ∧ (pAppend w0 26 5 80 (vget l0 23) 1 [vget l0 9, vget l0 10, vget l0 11, vget l0 12, vget l0 13] s17 (fun v18 s19 => pVal false 1 v18 (pIndexAddr 1 (vget l0 0) (Value.int IntKind.i64 0) (fun v20 => pLoad w0 1 v20 s19 (fun g21 => pBin Try.prog 9 BinOp.eql (g6 0) (g21 0) (fun v22 => pIf v22 (pLen (vget l0 0) (fun v23 => pBin Try.prog 3 BinOp.eql v23 (Value.int IntKind.i64 1) (fun v24 => pIf v24 (pBin Try.prog 3 BinOp.add (vget l0 3) (Value.int IntKind.i64 1) (fun v25 => K1 AX.normal [vget l0 0, vget l0 1, Value.bool true, v25, vget l0 4, vget l0 5, vget l0 6, vget l0 7, vget l0 8, vget l0 9, vget l0 10, vget l0 11, vget l0 12, vget l0 13, vget l0 14, vget l0 15, vget l0 16, vget l0 17, vget l0 18, vget l0 19, vget l0 20, vget l0 21, v16, v18] s19)) (pIndexAddr 5 (vget l0 8) (vget l0 3) (fun v26 => pLoad w0 5 v26 s19 (fun g27 => pVal true 5 (Value.agg (⟨[g27 0, g27 1, g27 2, g27 3, g27 4]⟩)) (pIndexAddr 1 (vget l0 0) (Value.int IntKind.i64 0) (fun v28 => pLoad w0 1 v28 s19 (fun g29 => pBin Try.prog 9 BinOp.eql (g6 0) (g29 0) (fun v30 => pIf v30 (pSlice 1 (vget l0 0) (Option.some (Value.int IntKind.i64 1)) Option.none (fun v31 => AC Try.prog w0 n_spec_l2Set ([Value.agg (⟨[g27 0, g27 1, g27 2, g27 3, g27 4]⟩), v31, Value.agg (⟨[vget l0 9, vget l0 10, vget l0 11, vget l0 12, vget l0 13]⟩), vget l0 1]) s19 (fun v32 s33 => pVal true 5 v32 (pVal false 1 (g6 0) ((allOne [g6 0]) ∧ (pAppend w0 9 1 16 v16 1 [g6 0] s33 (fun v34 s35 => pVal false 1 v34 (pVal true 5 (Value.agg (⟨[cellOf v32 0, cellOf v32 1, cellOf v32 2, cellOf v32 3, cellOf v32 4]⟩)) ((allOne [cellOf v32 0, cellOf v32 1, cellOf v32 2, cellOf v32 3, cellOf v32 4]) ∧ (pAppend w0 26 5 80 v18 1 [cellOf v32 0, cellOf v32 1, cellOf v32 2, cellOf v32 3, cellOf v32 4] s35 (fun v36 s37 => pVal false 1 v36 (pBin Try.prog 3 BinOp.add (vget l0 3) (Value.int IntKind.i64 1) (fun v38 => K1 AX.normal [vget l0 0, vget l0 1, Value.bool true, v38, vget l0 4, vget l0 5, vget l0 6, vget l0 7, vget l0 8, vget l0 9, vget l0 10, vget l0 11, vget l0 12, vget l0 13, vget l0 14, vget l0 15, vget l0 16, vget l0 17, vget l0 18, vget l0 19, vget l0 20, vget l0 21, v34, v36] s37))))))))))))) (pVal false 1 (g6 0) ((allOne [g6 0]) ∧ (pAppend w0 9 1 16 v16 1 [g6 0] s19 (fun v39 s40 => pVal false 1 v39 (pVal true 5 (Value.agg (⟨[g27 0, g27 1, g27 2, g27 3, g27 4]⟩)) ((allOne [g27 0, g27 1, g27 2, g27 3, g27 4]) ∧ (pAppend w0 26 5 80 v18 1 [g27 0, g27 1, g27 2, g27 3, g27 4] s40 (fun v41 s42 => pVal false 1 v41 (pBin Try.prog 3 BinOp.add (vget l0 3) (Value.int IntKind.i64 1) (fun v43 => K1 AX.normal [vget l0 0, vget l0 1, Value.bool true, v43, vget l0 4, vget l0 5, vget l0 6, vget l0 7, vget l0 8, vget l0 9, vget l0 10, vget l0 11, vget l0 12, vget l0 13, vget l0 14, vget l0 15, vget l0 16, vget l0 17, vget l0 18, vget l0 19, vget l0 20, vget l0 21, v39, v41] s42)))))))))))))))))))) (pIndexAddr 5 (vget l0 8) (vget l0 3) (fun v44 => pLoad w0 5 v44 s19 (fun g45 => pVal true 5 (Value.agg (⟨[g45 0, g45 1, g45 2, g45 3, g45 4]⟩)) (pIndexAddr 1 (vget l0 0) (Value.int IntKind.i64 0) (fun v46 => pLoad w0 1 v46 s19 (fun g47 => pBin Try.prog 9 BinOp.eql (g6 0) (g47 0) (fun v48 => pIf v48 (pSlice 1 (vget l0 0) (Option.some (Value.int IntKind.i64 1)) Option.none (fun v49 => AC Try.prog w0 n_spec_l2Set ([Value.agg (⟨[g45 0, g45 1, g45 2, g45 3, g45 4]⟩), v49, Value.agg (⟨[vget l0 9, vget l0 10, vget l0 11, vget l0 12, vget l0 13]⟩), vget l0 1]) s19 (fun v50 s51 => pVal true 5 v50 (pVal false 1 (g6 0) ((allOne [g6 0]) ∧ (pAppend w0 9 1 16 v16 1 [g6 0] s51 (fun v52 s53 => pVal false 1 v52 (pVal true 5 (Value.agg (⟨[cellOf v50 0, cellOf v50 1, cellOf v50 2, cellOf v50 3, cellOf v50 4]⟩)) ((allOne [cellOf v50 0, cellOf v50 1, cellOf v50 2, cellOf v50 3, cellOf v50 4]) ∧ (pAppend w0 26 5 80 v18 1 [cellOf v50 0, cellOf v50 1, cellOf v50 2, cellOf v50 3, cellOf v50 4] s53 (fun v54 s55 => pVal false 1 v54 (pBin Try.prog 3 BinOp.add (vget l0 3) (Value.int IntKind.i64 1) (fun v56 => K1 AX.normal [vget l0 0, vget l0 1, Value.bool true, v56, vget l0 4, vget l0 5, vget l0 6, vget l0 7, vget l0 8, vget l0 9, vget l0 10, vget l0 11, vget l0 12, vget l0 13, vget l0 14, vget l0 15, vget l0 16, vget l0 17, vget l0 18, vget l0 19, vget l0 20, vget l0 21, v52, v54] s55))))))))))))) (pVal false 1 (g6 0) ((allOne [g6 0]) ∧ (pAppend w0 9 1 16 v16 1 [g6 0] s19 (fun v57 s58 => pVal false 1 v57 (pVal true 5 (Value.agg (⟨[g45 0, g45 1, g45 2, g45 3, g45 4]⟩)) ((allOne [g45 0, g45 1, g45 2, g45 3, g45 4]) ∧ (pAppend w0 26 5 80 v18 1 [g45 0, g45 1, g45 2, g45 3, g45 4] s58 (fun v59 s60 => pVal false 1 v59 (pBin Try.prog 3 BinOp.add (vget l0 3) (Value.int IntKind.i64 1) (fun v61 => K1 AX.normal [vget l0 0, vget l0 1, Value.bool true, v61, vget l0 4, vget l0 5, vget l0 6, vget l0 7, vget l0 8, vget l0 9, vget l0 10, vget l0 11, vget l0 12, vget l0 13, vget l0 14, vget l0 15, vget l0 16, vget l0 17, vget l0 18, vget l0 19, vget l0 20, vget l0 21, v57, v59] s60))))))))))))))))))))))))))))))) (pIndexAddr 1 (vget l0 0) (Value.int IntKind.i64 0) (fun v62 => pLoad w0 1 v62 s2 (fun g63 => pBin Try.prog 9 BinOp.eql (g6 0) (g63 0) (fun v64 => pIf v64 (pLen (vget l0 0) (fun v65 => pBin Try.prog 3 BinOp.eql v65 (Value.int IntKind.i64 1) (fun v66 => pIf v66 (pBin Try.prog 3 BinOp.add (vget l0 3) (Value.int IntKind.i64 1) (fun v67 => K1 AX.normal [vget l0 0, vget l0 1, vget l0 2, v67, vget l0 4, vget l0 5, vget l0 6, vget l0 7, vget l0 8, vget l0 9, vget l0 10, vget l0 11, vget l0 12, vget l0 13, vget l0 14, vget l0 15, vget l0 16, vget l0 17, vget l0 18, vget l0 19, vget l0 20, vget l0 21, vget l0 22, vget l0 23] s2)) (pIndexAddr 5 (vget l0 8) (vget l0 3) (fun v68 => pLoad w0 5 v68 s2 (fun g69 => pVal true 5 (Value.agg (⟨[g69 0, g69 1, g69 2, g69 3, g69 4]⟩)) (pIndexAddr 1 (vget l0 0) (Value.int IntKind.i64 0) (fun v70 => pLoad w0 1 v70 s2 (fun g71 => pBin Try.prog 9 BinOp.eql (g6 0) (g71 0) (fun v72 => pIf v72 (pSlice 1 (vget l0 0) (Option.some (Value.int IntKind.i64 1)) Option.none (fun v73 => AC Try.prog w0 n_spec_l2Set ([Value.agg (⟨[g69 0, g69 1, g69 2, g69 3, g69 4]⟩), v73, Value.agg (⟨[vget l0 9, vget l0 10, vget l0 11, vget l0 12, vget l0 13]⟩), vget l0 1]) s2 (fun v74 s75 => pVal true 5 v74 (pVal false 1 (g6 0) ((allOne [g6 0]) ∧ (pAppend w0 9 1 16 (vget l0 22) 1 [g6 0] s75 (fun v76 s77 => pVal false 1 v76 (pVal true 5 (Value.agg (⟨[cellOf v74 0, cellOf v74 1, cellOf v74 2, cellOf v74 3, cellOf v74 4]⟩)) ((allOne [cellOf v74 0, cellOf v74 1, cellOf v74 2, cellOf v74 3, cellOf v74 4]) ∧ (pAppend w0 26 5 80 (vget l0 23) 1 [cellOf v74 0, cellOf v74 1, cellOf v74 2, cellOf v74 3, cellOf v74 4] s77 (fun v78 s79 => pVal false 1 v78 (pBin Try.prog 3 BinOp.add (vget l0 3) (Value.int IntKind.i64 1) (fun v80 => K1 AX.normal [vget l0 0, vget l0 1, vget l0 2, v80, vget l0 4, vget l0 5, vget l0 6, vget l0 7, vget l0 8, vget l0 9, vget l0 10, vget l0 11, vget l0 12, vget l0 13, vget l0 14, vget l0 15, vget l0 16, vget l0 17, vget l0 18, vget l0 19, vget l0 20, vget l0 21, v76, v78] s79))))))))))))) (pVal false 1 (g6 0) ((allOne [g6 0]) ∧ (pAppend w0 9 1 16 (vget l0 22) 1 [g6 0] s2 (fun v81 s82 => pVal false 1 v81 (pVal true 5 (Value.agg (⟨[g69 0, g69 1, g69 2, g69 3, g69 4]⟩)) ((allOne [g69 0, g69 1, g69 2, g69 3, g69 4]) ∧ (pAppend w0 26 5 80 (vget l0 23) 1 [g69 0, g69 1, g69 2, g69 3, g69 4] s82 (fun v83 s84 => pVal false 1 v83 (pBin Try.prog 3 BinOp.add (vget l0 3) (Value.int IntKind.i64 1) (fun v85 => K1 AX.normal [vget l0 0, vget l0 1, vget l0 2, v85, vget l0 4, vget l0 5, vget l0 6, vget l0 7, vget l0 8, vget l0 9, vget l0 10, vget l0 11, vget l0 12, vget l0 13, vget l0 14, vget l0 15, vget l0 16, vget l0 17, vget l0 18, vget l0 19, vget l0 20, vget l0 21, v81, v83] s84)))))))))))))))))))) (pIndexAddr 5 (vget l0 8) (vget l0 3) (fun v86 => pLoad w0 5 v86 s2 (fun g87 => pVal true 5 (Value.agg (⟨[g87 0, g87 1, g87 2, g87 3, g87 4]⟩)) (pIndexAddr 1 (vget l0 0) (Value.int IntKind.i64 0) (fun v88 => pLoad w0 1 v88 s2 (fun g89 => pBin Try.prog 9 BinOp.eql (g6 0) (g89 0) (fun v90 => pIf v90 (pSlice 1 (vget l0 0) (Option.some (Value.int IntKind.i64 1)) Option.none (fun v91 => AC Try.prog w0 n_spec_l2Set ([Value.agg (⟨[g87 0, g87 1, g87 2, g87 3, g87 4]⟩), v91, Value.agg (⟨[vget l0 9, vget l0 10, vget l0 11, vget l0 12, vget l0 13]⟩), vget l0 1]) s2 (fun v92 s93 => pVal true 5 v92 (pVal false 1 (g6 0) ((allOne [g6 0]) ∧ (pAppend w0 9 1 16 (vget l0 22) 1 [g6 0] s93 (fun v94 s95 => pVal false 1 v94 (pVal true 5 (Value.agg (⟨[cellOf v92 0, cellOf v92 1, cellOf v92 2, cellOf v92 3, cellOf v92 4]⟩)) ((allOne [cellOf v92 0, cellOf v92 1, cellOf v92 2, cellOf v92 3, cellOf v92 4]) ∧ (pAppend w0 26 5 80 (vget l0 23) 1 [cellOf v92 0, cellOf v92 1, cellOf v92 2, cellOf v92 3, cellOf v92 4] s95 (fun v96 s97 => pVal false 1 v96 (pBin Try.prog 3 BinOp.add (vget l0 3) (Value.int IntKind.i64 1) (fun v98 => K1 AX.normal [vget l0 0, vget l0 1, vget l0 2, v98, vget l0 4, vget l0 5, vget l0 6, vget l0 7, vget l0 8, vget l0 9, vget l0 10, vget l0 11, vget l0 12, vget l0 13, vget l0 14, vget l0 15, vget l0 16, vget l0 17, vget l0 18, vget l0 19, vget l0 20, vget l0 21, v94, v96] s97))))))))))))) (pVal false 1 (g6 0) ((allOne [g6 0]) ∧ (pAppend w0 9 1 16 (vget l0 22) 1 [g6 0] s2 (fun v99 s100 => pVal false 1 v99 (pVal true 5 (Value.agg (⟨[g87 0, g87 1, g87 2, g87 3, g87 4]⟩)) ((allOne [g87 0, g87 1, g87 2, g87 3, g87 4]) ∧ (pAppend w0 26 5 80 (vget l0 23) 1 [g87 0, g87 1, g87 2, g87 3, g87 4] s100 (fun v101 s102 => pVal false 1 v101 (pBin Try.prog 3 BinOp.add (vget l0 3) (Value.int IntKind.i64 1) (fun v103 => K1 AX.normal [vget l0 0, vget l0 1, vget l0 2, v103, vget l0 4, vget l0 5, vget l0 6, vget l0 7, vget l0 8, vget l0 9, vget l0 10, vget l0 11, vget l0 12, vget l0 13, vget l0 14, vget l0 15, vget l0 16, vget l0 17, vget l0 18, vget l0 19, vget l0 20, vget l0 21, v99, v101] s102))))))))))))))))))))))))) (pIndexAddr 1 (vget l0 0) (Value.int IntKind.i64 0) (fun v104 => pLoad w0 1 v104 s2 (fun g105 => pBin Try.prog 9 BinOp.eql (g6 0) (g105 0) (fun v106 => pIf v106 (pLen (vget l0 0) (fun v107 => pBin Try.prog 3 BinOp.eql v107 (Value.int IntKind.i64 1) (fun v108 => pIf v108 (pBin Try.prog 3 BinOp.add (vget l0 3) (Value.int IntKind.i64 1) (fun v109 => K1 AX.normal [vget l0 0, vget l0 1, vget l0 2, v109, vget l0 4, vget l0 5, vget l0 6, vget l0 7, vget l0 8, vget l0 9, vget l0 10, vget l0 11, vget l0 12, vget l0 13, vget l0 14, vget l0 15, vget l0 16, vget l0 17, vget l0 18, vget l0 19, vget l0 20, vget l0 21, vget l0 22, vget l0 23] s2)) (pIndexAddr 5 (vget l0 8) (vget l0 3) (fun v110 => pLoad w0 5 v110 s2 (fun g111 => pVal true 5 (Value.agg (⟨[g111 0, g111 1, g111 2, g111 3, g111 4]⟩)) (pIndexAddr 1 (vget l0 0) (Value.int IntKind.i64 0) (fun v112 => pLoad w0 1 v112 s2 (fun g113 => pBin Try.prog 9 BinOp.eql (g6 0) (g113 0) (fun v114 => pIf v114 (pSlice 1 (vget l0 0) (Option.some (Value.int IntKind.i64 1)) Option.none (fun v115 => AC Try.prog w0 n_spec_l2Set ([Value.agg (⟨[g111 0, g111 1, g111 2, g111 3, g111 4]⟩), v115, Value.agg (⟨[vget l0 9, vget l0 10, vget l0 11, vget l0 12, vget l0 13]⟩), vget l0 1]) s2 (fun v116 s117 => pVal true 5 v116 (pVal false 1 (g6 0) ((allOne [g6 0]) ∧ (pAppend w0 9 1 16 (vget l0 22) 1 [g6 0] s117 (fun v118 s119 => pVal false 1 v118 (pVal true 5 (Value.agg (⟨[cellOf v116 0, cellOf v116 1, cellOf v116 2, cellOf v116 3, cellOf v116 4]⟩)) ((allOne [cellOf v116 0, cellOf v116 1, cellOf v116 2, cellOf v116 3, cellOf v116 4]) ∧ (pAppend w0 26 5 80 (vget l0 23) 1 [cellOf v116 0, cellOf v116 1, cellOf v116 2, cellOf v116 3, cellOf v116 4] s119 (fun v120 s121 => pVal false 1 v120 (pBin Try.prog 3 BinOp.add (vget l0 3) (Value.int IntKind.i64 1) (fun v122 => K1 AX.normal [vget l0 0, vget l0 1, vget l0 2, v122, vget l0 4, vget l0 5, vget l0 6, vget l0 7, vget l0 8, vget l0 9, vget l0 10, vget l0 11, vget l0 12, vget l0 13, vget l0 14, vget l0 15, vget l0 16, vget l0 17, vget l0 18, vget l0 19, vget l0 20, vget l0 21, v118, v120] s121))))))))))))) (pVal false 1 (g6 0) ((allOne [g6 0]) ∧ (pAppend w0 9 1 16 (vget l0 22) 1 [g6 0] s2 (fun v123 s124 => pVal false 1 v123 (pVal true 5 (Value.agg (⟨[g111 0, g111 1, g111 2, g111 3, g111 4]⟩)) ((allOne [g111 0, g111 1, g111 2, g111 3, g111 4]) ∧ (pAppend w0 26 5 80 (vget l0 23) 1 [g111 0, g111 1, g111 2, g111 3, g111 4] s124 (fun v125 s126 => pVal false 1 v125 (pBin Try.prog 3 BinOp.add (vget l0 3) (Value.int IntKind.i64 1) (fun v127 => K1 AX.normal [vget l0 0, vget l0 1, vget l0 2, v127, vget l0 4, vget l0 5, vget l0 6, vget l0 7, vget l0 8, vget l0 9, vget l0 10, vget l0 11, vget l0 12, vget l0 13, vget l0 14, vget l0 15, vget l0 16, vget l0 17, vget l0 18, vget l0 19, vget l0 20, vget l0 21, v123, v125] s126)))))))))))))))))))) (pIndexAddr 5 (vget l0 8) (vget l0 3) (fun v128 => pLoad w0 5 v128 s2 (fun g129 => pVal true 5 (Value.agg (⟨[g129 0, g129 1, g129 2, g129 3, g129 4]⟩)) (pIndexAddr 1 (vget l0 0) (Value.int IntKind.i64 0) (fun v130 => pLoad w0 1 v130 s2 (fun g131 => pBin Try.prog 9 BinOp.eql (g6 0) (g131 0) (fun v132 => pIf v132 (pSlice 1 (vget l0 0) (Option.some (Value.int IntKind.i64 1)) Option.none (fun v133 => AC Try.prog w0 n_spec_l2Set ([Value.agg (⟨[g129 0, g129 1, g129 2, g129 3, g129 4]⟩), v133, Value.agg (⟨[vget l0 9, vget l0 10, vget l0 11, vget l0 12, vget l0 13]⟩), vget l0 1]) s2 (fun v134 s135 => pVal true 5 v134 (pVal false 1 (g6 0) ((allOne [g6 0]) ∧ (pAppend w0 9 1 16 (vget l0 22) 1 [g6 0] s135 (fun v136 s137 => pVal false 1 v136 (pVal true 5 (Value.agg (⟨[cellOf v134 0, cellOf v134 1, cellOf v134 2, cellOf v134 3, cellOf v134 4]⟩)) ((allOne [cellOf v134 0, cellOf v134 1, cellOf v134 2, cellOf v134 3, cellOf v134 4]) ∧ (pAppend w0 26 5 80 (vget l0 23) 1 [cellOf v134 0, cellOf v134 1, cellOf v134 2, cellOf v134 3, cellOf v134 4] s137 (fun v138 s139 => pVal false 1 v138 (pBin Try.prog 3 BinOp.add (vget l0 3) (Value.int IntKind.i64 1) (fun v140 => K1 AX.normal [vget l0 0, vget l0 1, vget l0 2, v140, vget l0 4, vget l0 5, vget l0 6, vget l0 7, vget l0 8, vget l0 9, vget l0 10, vget l0 11, vget l0 12, vget l0 13, vget l0 14, vget l0 15, vget l0 16, vget l0 17, vget l0 18, vget l0 19, vget l0 20, vget l0 21, v136, v138] s139))))))))))))) (pVal false 1 (g6 0) ((allOne [g6 0]) ∧ (pAppend w0 9 1 16 (vget l0 22) 1 [g6 0] s2 (fun v141 s142 => pVal false 1 v141 (pVal true 5 (Value.agg (⟨[g129 0, g129 1, g129 2, g129 3, g129 4]⟩)) ((allOne [g129 0, g129 1, g129 2, g129 3, g129 4]) ∧ (pAppend w0 26 5 80 (vget l0 23) 1 [g129 0, g129 1, g129 2, g129 3, g129 4] s142 (fun v143 s144 => pVal false 1 v143 (pBin Try.prog 3 BinOp.add (vget l0 3) (Value.int IntKind.i64 1) (fun v145 => K1 AX.normal [vget l0 0, vget l0 1, vget l0 2, v145, vget l0 4, vget l0 5, vget l0 6, vget l0 7, vget l0 8, vget l0 9, vget l0 10, vget l0 11, vget l0 12, vget l0 13, vget l0 14, vget l0 15, vget l0 16, vget l0 17, vget l0 18, vget l0 19, vget l0 20, vget l0 21, v141, v143] s144))))))))))))))))))))))) (pIndexAddr 1 (vget l0 0) (Value.int IntKind.i64 0) (fun v146 => pLoad w0 1 v146 s2 (fun g147 => pBin Try.prog 9 BinOp.eql (g6 0) (g147 0) (fun v148 => pIf v148 (pLen (vget l0 0) (fun v149 => pBin Try.prog 3 BinOp.eql v149 (Value.int IntKind.i64 1) (fun v150 => pIf v150 (pBin Try.prog 3 BinOp.add (vget l0 3) (Value.int IntKind.i64 1) (fun v151 => K1 AX.normal [vget l0 0, vget l0 1, vget l0 2, v151, vget l0 4, vget l0 5, vget l0 6, vget l0 7, vget l0 8, vget l0 9, vget l0 10, vget l0 11, vget l0 12, vget l0 13, vget l0 14, vget l0 15, vget l0 16, vget l0 17, vget l0 18, vget l0 19, vget l0 20, vget l0 21, vget l0 22, vget l0 23] s2)) (pIndexAddr 5 (vget l0 8) (vget l0 3) (fun v152 => pLoad w0 5 v152 s2 (fun g153 => pVal true 5 (Value.agg (⟨[g153 0, g153 1, g153 2, g153 3, g153 4]⟩)) (pIndexAddr 1 (vget l0 0) (Value.int IntKind.i64 0) (fun v154 => pLoad w0 1 v154 s2 (fun g155 => pBin Try.prog 9 BinOp.eql (g6 0) (g155 0) (fun v156 => pIf v156 (pSlice 1 (vget l0 0) (Option.some (Value.int IntKind.i64 1)) Option.none (fun v157 => AC Try.prog w0 n_spec_l2Set ([Value.agg (⟨[g153 0, g153 1, g153 2, g153 3, g153 4]⟩), v157, Value.agg (⟨[vget l0 9, vget l0 10, vget l0 11, vget l0 12, vget l0 13]⟩), vget l0 1]) s2 (fun v158 s159 => pVal true 5 v158 (pVal false 1 (g6 0) ((allOne [g6 0]) ∧ (pAppend w0 9 1 16 (vget l0 22) 1 [g6 0] s159 (fun v160 s161 => pVal false 1 v160 (pVal true 5 (Value.agg (⟨[cellOf v158 0, cellOf v158 1, cellOf v158 2, cellOf v158 3, cellOf v158 4]⟩)) ((allOne [cellOf v158 0, cellOf v158 1, cellOf v158 2, cellOf v158 3, cellOf v158 4]) ∧ (pAppend w0 26 5 80 (vget l0 23) 1 [cellOf v158 0, cellOf v158 1, cellOf v158 2, cellOf v158 3, cellOf v158 4] s161 (fun v162 s163 => pVal false 1 v162 (pBin Try.prog 3 BinOp.add (vget l0 3) (Value.int IntKind.i64 1) (fun v164 => K1 AX.normal [vget l0 0, vget l0 1, vget l0 2, v164, vget l0 4, vget l0 5, vget l0 6, vget l0 7, vget l0 8, vget l0 9, vget l0 10, vget l0 11, vget l0 12, vget l0 13, vget l0 14, vget l0 15, vget l0 16, vget l0 17, vget l0 18, vget l0 19, vget l0 20, vget l0 21, v160, v162] s163))))))))))))) (pVal false 1 (g6 0) ((allOne [g6 0]) ∧ (pAppend w0 9 1 16 (vget l0 22) 1 [g6 0] s2 (fun v165 s166 => pVal false 1 v165 (pVal true 5 (Value.agg (⟨[g153 0, g153 1, g153 2, g153 3, g153 4]⟩)) ((allOne [g153 0, g153 1, g153 2, g153 3, g153 4]) ∧ (pAppend w0 26 5 80 (vget l0 23) 1 [g153 0, g153 1, g153 2, g153 3, g153 4] s166 (fun v167 s168 => pVal false 1 v167 (pBin Try.prog 3 BinOp.add (vget l0 3) (Value.int IntKind.i64 1) (fun v169 => K1 AX.normal [vget l0 0, vget l0 1, vget l0 2, v169, vget l0 4, vget l0 5, vget l0 6, vget l0 7, vget l0 8, vget l0 9, vget l0 10, vget l0 11, vget l0 12, vget l0 13, vget l0 14, vget l0 15, vget l0 16, vget l0 17, vget l0 18, vget l0 19, vget l0 20, vget l0 21, v165, v167] s168)))))))))))))))))))) (pIndexAddr 5 (vget l0 8) (vget l0 3) (fun v170 => pLoad w0 5 v170 s2 (fun g171 => pVal true 5 (Value.agg (⟨[g171 0, g171 1, g171 2, g171 3, g171 4]⟩)) (pIndexAddr 1 (vget l0 0) (Value.int IntKind.i64 0) (fun v172 => pLoad w0 1 v172 s2 (fun g173 => pBin Try.prog 9 BinOp.eql (g6 0) (g173 0) (fun v174 => pIf v174 (pSlice 1 (vget l0 0) (Option.some (Value.int IntKind.i64 1)) Option.none (fun v175 => AC Try.prog w0 n_spec_l2Set ([Value.agg (⟨[g171 0, g171 1, g171 2, g171 3, g171 4]⟩), v175, Value.agg (⟨[vget l0 9, vget l0 10, vget l0 11, vget l0 12, vget l0 13]⟩), vget l0 1]) s2 (fun v176 s177 => pVal true 5 v176 (pVal false 1 (g6 0) ((allOne [g6 0]) ∧ (pAppend w0 9 1 16 (vget l0 22) 1 [g6 0] s177 (fun v178 s179 => pVal false 1 v178 (pVal true 5 (Value.agg (⟨[cellOf v176 0, cellOf v176 1, cellOf v176 2, cellOf v176 3, cellOf v176 4]⟩)) ((allOne [cellOf v176 0, cellOf v176 1, cellOf v176 2, cellOf v176 3, cellOf v176 4]) ∧ (pAppend w0 26 5 80 (vget l0 23) 1 [cellOf v176 0, cellOf v176 1, cellOf v176 2, cellOf v176 3, cellOf v176 4] s179 (fun v180 s181 => pVal false 1 v180 (pBin Try.prog 3 BinOp.add (vget l0 3) (Value.int IntKind.i64 1) (fun v182 => K1 AX.normal [vget l0 0, vget l0 1, vget l0 2, v182, vget l0 4, vget l0 5, vget l0 6, vget l0 7, vget l0 8, vget l0 9, vget l0 10, vget l0 11, vget l0 12, vget l0 13, vget l0 14, vget l0 15, vget l0 16, vget l0 17, vget l0 18, vget l0 19, vget l0 20, vget l0 21, v178, v180] s181))))))))))))) (pVal false 1 (g6 0) ((allOne [g6 0]) ∧ (pAppend w0 9 1 16 (vget l0 22) 1 [g6 0] s2 (fun v183 s184 => pVal false 1 v183 (pVal true 5 (Value.agg (⟨[g171 0, g171 1, g171 2, g171 3, g171 4]⟩)) ((allOne [g171 0, g171 1, g171 2, g171 3, g171 4]) ∧ (pAppend w0 26 5 80 (vget l0 23) 1 [g171 0, g171 1, g171 2, g171 3, g171 4] s184 (fun v185 s186 => pVal false 1 v185 (pBin Try.prog 3 BinOp.add (vget l0 3) (Value.int IntKind.i64 1) (fun v187 => K1 AX.normal [vget l0 0, vget l0 1, vget l0 2, v187, vget l0 4, vget l0 5, vget l0 6, vget l0 7, vget l0 8, vget l0 9, vget l0 10, vget l0 11, vget l0 12, vget l0 13, vget l0 14, vget l0 15, vget l0 16, vget l0 17, vget l0 18, vget l0 19, vget l0 20, vget l0 21, v183, v185] s186))))))))))))))))))))))) (pIndexAddr 1 (vget l0 0) (Value.int IntKind.i64 0) (fun v188 => pLoad w0 1 v188 s2 (fun g189 => pBin Try.prog 9 BinOp.eql (g6 0) (g189 0) (fun v190 => pIf v190 (pLen (vget l0 0) (fun v191 => pBin Try.prog 3 BinOp.eql v191 (Value.int IntKind.i64 1) (fun v192 => pIf v192 (pBin Try.prog 3 BinOp.add (vget l0 3) (Value.int IntKind.i64 1) (fun v193 => K1 AX.normal [vget l0 0, vget l0 1, vget l0 2, v193, vget l0 4, vget l0 5, vget l0 6, vget l0 7, vget l0 8, vget l0 9, vget l0 10, vget l0 11, vget l0 12, vget l0 13, vget l0 14, vget l0 15, vget l0 16, vget l0 17, vget l0 18, vget l0 19, vget l0 20, vget l0 21, vget l0 22, vget l0 23] s2)) (pIndexAddr 5 (vget l0 8) (vget l0 3) (fun v194 => pLoad w0 5 v194 s2 (fun g195 => pVal true 5 (Value.agg (⟨[g195 0, g195 1, g195 2, g195 3, g195 4]⟩)) (pIndexAddr 1 (vget l0 0) (Value.int IntKind.i64 0) (fun v196 => pLoad w0 1 v196 s2 (fun g197 => pBin Try.prog 9 BinOp.eql (g6 0) (g197 0) (fun v198 => pIf v198 (pSlice 1 (vget l0 0) (Option.some (Value.int IntKind.i64 1)) Option.none (fun v199 => AC Try.prog w0 n_spec_l2Set ([Value.agg (⟨[g195 0, g195 1, g195 2, g195 3, g195 4]⟩), v199, Value.agg (⟨[vget l0 9, vget l0 10, vget l0 11, vget l0 12, vget l0 13]⟩), vget l0 1]) s2 (fun v200 s201 => pVal true 5 v200 (pVal false 1 (g6 0) ((allOne [g6 0]) ∧ (pAppend w0 9 1 16 (vget l0 22) 1 [g6 0] s201 (fun v202 s203 => pVal false 1 v202 (pVal true 5 (Value.agg (⟨[cellOf v200 0, cellOf v200 1, cellOf v200 2, cellOf v200 3, cellOf v200 4]⟩)) ((allOne [cellOf v200 0, cellOf v200 1, cellOf v200 2, cellOf v200 3, cellOf v200 4]) ∧ (pAppend w0 26 5 80 (vget l0 23) 1 [cellOf v200 0, cellOf v200 1, cellOf v200 2, cellOf v200 3, cellOf v200 4] s203 (fun v204 s205 => pVal false 1 v204 (pBin Try.prog 3 BinOp.add (vget l0 3) (Value.int IntKind.i64 1) (fun v206 => K1 AX.normal [vget l0 0, vget l0 1, vget l0 2, v206, vget l0 4, vget l0 5, vget l0 6, vget l0 7, vget l0 8, vget l0 9, vget l0 10, vget l0 11, vget l0 12, vget l0 13, vget l0 14, vget l0 15, vget l0 16, vget l0 17, vget l0 18, vget l0 19, vget l0 20, vget l0 21, v202, v204] s205))))))))))))) (pVal false 1 (g6 0) ((allOne [g6 0]) ∧ (pAppend w0 9 1 16 (vget l0 22) 1 [g6 0] s2 (fun v207 s208 => pVal false 1 v207 (pVal true 5 (Value.agg (⟨[g195 0, g195 1, g195 2, g195 3, g195 4]⟩)) ((allOne [g195 0, g195 1, g195 2, g195 3, g195 4]) ∧ (pAppend w0 26 5 80 (vget l0 23) 1 [g195 0, g195 1, g195 2, g195 3, g195 4] s208 (fun v209 s210 => pVal false 1 v209 (pBin Try.prog 3 BinOp.add (vget l0 3) (Value.int IntKind.i64 1) (fun v211 => K1 AX.normal [vget l0 0, vget l0 1, vget l0 2, v211, vget l0 4, vget l0 5, vget l0 6, vget l0 7, vget l0 8, vget l0 9, vget l0 10, vget l0 11, vget l0 12, vget l0 13, vget l0 14, vget l0 15, vget l0 16, vget l0 17, vget l0 18, vget l0 19, vget l0 20, vget l0 21, v207, v209] s210)))))))))))))))))))) (pIndexAddr 5 (vget l0 8) (vget l0 3) (fun v212 => pLoad w0 5 v212 s2 (fun g213 => pVal true 5 (Value.agg (⟨[g213 0, g213 1, g213 2, g213 3, g213 4]⟩)) (pIndexAddr 1 (vget l0 0) (Value.int IntKind.i64 0) (fun v214 => pLoad w0 1 v214 s2 (fun g215 => pBin Try.prog 9 BinOp.eql (g6 0) (g215 0) (fun v216 => pIf v216 (pSlice 1 (vget l0 0) (Option.some (Value.int IntKind.i64 1)) Option.none (fun v217 => AC Try.prog w0 n_spec_l2Set ([Value.agg (⟨[g213 0, g213 1, g213 2, g213 3, g213 4]⟩), v217, Value.agg (⟨[vget l0 9, vget l0 10, vget l0 11, vget l0 12, vget l0 13]⟩), vget l0 1]) s2 (fun v218 s219 => pVal true 5 v218 (pVal false 1 (g6 0) ((allOne [g6 0]) ∧ (pAppend w0 9 1 16 (vget l0 22) 1 [g6 0] s219 (fun v220 s221 => pVal false 1 v220 (pVal true 5 (Value.agg (⟨[cellOf v218 0, cellOf v218 1, cellOf v218 2, cellOf v218 3, cellOf v218 4]⟩)) ((allOne [cellOf v218 0, cellOf v218 1, cellOf v218 2, cellOf v218 3, cellOf v218 4]) ∧ (pAppend w0 26 5 80 (vget l0 23) 1 [cellOf v218 0, cellOf v218 1, cellOf v218 2, cellOf v218 3, cellOf v218 4] s221 (fun v222 s223 => pVal false 1 v222 (pBin Try.prog 3 BinOp.add (vget l0 3) (Value.int IntKind.i64 1) (fun v224 => K1 AX.normal [vget l0 0, vget l0 1, vget l0 2, v224, vget l0 4, vget l0 5, vget l0 6, vget l0 7, vget l0 8, vget l0 9, vget l0 10, vget l0 11, vget l0 12, vget l0 13, vget l0 14, vget l0 15, vget l0 16, vget l0 17, vget l0 18, vget l0 19, vget l0 20, vget l0 21, v220, v222] s223))))))))))))) (pVal false 1 (g6 0) ((allOne [g6 0]) ∧ (pAppend w0 9 1 16 (vget l0 22) 1 [g6 0] s2 (fun v225 s226 => pVal false 1 v225 (pVal true 5 (Value.agg (⟨[g213 0, g213 1, g213 2, g213 3, g213 4]⟩)) ((allOne [g213 0, g213 1, g213 2, g213 3, g213 4]) ∧ (pAppend w0 26 5 80 (vget l0 23) 1 [g213 0, g213 1, g213 2, g213 3, g213 4] s226 (fun v227 s228 => pVal false 1 v227 (pBin Try.prog 3 BinOp.add (vget l0 3) (Value.int IntKind.i64 1) (fun v229 => K1 AX.normal [vget l0 0, vget l0 1, vget l0 2, v229, vget l0 4, vget l0 5, vget l0 6, vget l0 7, vget l0 8, vget l0 9, vget l0 10, vget l0 11, vget l0 12, vget l0 13, vget l0 14, vget l0 15, vget l0 16, vget l0 17, vget l0 18, vget l0 19, vget l0 20, vget l0 21, v225, v227] s228)))))))))))))))))))))))))) (K1 (AX.exit 0) [vget l0 0, vget l0 1, vget l0 2, vget l0 3, vget l0 4, vget l0 5, vget l0 6, vget l0 7, vget l0 8, vget l0 9, vget l0 10, vget l0 11, vget l0 12, vget l0 13, vget l0 14, vget l0 15, vget l0 16, vget l0 17, vget l0 18, vget l0 19, vget l0 20, vget l0 21, vget l0 22, vget l0 23] s2)))) ([a1, a3, Value.bool false, Value.int IntKind.i64 0, cellOf a0 0, cellOf a0 1, cellOf a0 2, cellOf a0 3, cellOf a0 4, cellOf a2 0, cellOf a2 1, cellOf a2 2, cellOf a2 3, cellOf a2 4, Value.bool false, Value.int IntKind.i64 0, Value.string ({ data := #[] }), Value.slice Option.none 0 0, Value.slice Option.none 0 0, cellOf a0 0, cellOf a0 1, cellOf a0 2, Value.slice Option.none 0 0, Value.slice Option.none 0 0]) σ (fun x230 l231 s232 => match x230 with | .normal => pLen (vget l231 0) (fun v233 => pBin Try.prog 3 BinOp.eql v233 (Value.int IntKind.i64 1) (fun v234 => pIf v234 (pUn UnOp.not (vget l231 2) (fun v235 => pIf v235 (pUn UnOp.not (vget l231 1) (fun v236 => pIf v236 (pIndexAddr 1 (vget l231 0) (Value.int IntKind.i64 0) (fun v237 => pLoad w0 1 v237 s232 (fun g238 => pVal false 1 (g238 0) ((allOne [g238 0]) ∧ (pAppend w0 9 1 16 (vget l231 22) 1 [g238 0] s232 (fun v239 s240 => pVal false 1 v239 (pVal true 5 (Value.agg (⟨[vget l231 9, vget l231 10, vget l231 11, vget l231 12, vget l231 13]⟩)) ((allOne [vget l231 9, vget l231 10, vget l231 11, vget l231 12, vget l231 13]) ∧ (pAppend w0 26 5 80 (vget l231 23) 1 [vget l231 9, vget l231 10, vget l231 11, vget l231 12, vget l231 13] s240 (fun v241 s242 => pVal false 1 v241 (pVal true 5 (Value.agg (⟨[vget l231 19, vget l231 20, vget l231 21, v239, v241]⟩)) (R (Value.agg (⟨[vget l231 19, vget l231 20, vget l231 21, v239, v241]⟩)) s242)))))))))))) (pVal true 5 (Value.agg (⟨[vget l231 19, vget l231 20, vget l231 21, vget l231 22, vget l231 23]⟩)) (R (Value.agg (⟨[vget l231 19, vget l231 20, vget l231 21, vget l231 22, vget l231 23]⟩)) s232)))) (pVal true 5 (Value.agg (⟨[vget l231 19, vget l231 20, vget l231 21, vget l231 22, vget l231 23]⟩)) (R (Value.agg (⟨[vget l231 19, vget l231 20, vget l231 21, vget l231 22, vget l231 23]⟩)) s232)))) (pVal true 5 (Value.agg (⟨[vget l231 19, vget l231 20, vget l231 21, vget l231 22, vget l231 23]⟩)) (R (Value.agg (⟨[vget l231 19, vget l231 20, vget l231 21, vget l231 22, vget l231 23]⟩)) s232)))) | .ret => R (Value.agg (⟨[vget l231 14, vget l231 15, vget l231 16, vget l231 17, vget l231 18]⟩)) s232 | .exit i243 => (match Nat.beq i243 0 with | true => pLen (vget l231 0) (fun v244 => pBin Try.prog 3 BinOp.eql v244 (Value.int IntKind.i64 1) (fun v245 => pIf v245 (pUn UnOp.not (vget l231 2) (fun v246 => pIf v246 (pUn UnOp.not (vget l231 1) (fun v247 => pIf v247 (pIndexAddr 1 (vget l231 0) (Value.int IntKind.i64 0) (fun v248 => pLoad w0 1 v248 s232 (fun g249 => pVal false 1 (g249 0) ((allOne [g249 0]) ∧ (pAppend w0 9 1 16 (vget l231 22) 1 [g249 0] s232 (fun v250 s251 => pVal false 1 v250 (pVal true 5 (Value.agg (⟨[vget l231 9, vget l231 10, vget l231 11, vget l231 12, vget l231 13]⟩)) ((allOne [vget l231 9, vget l231 10, vget l231 11, vget l231 12, vget l231 13]) ∧ (pAppend w0 26 5 80 (vget l231 23) 1 [vget l231 9, vget l231 10, vget l231 11, vget l231 12, vget l231 13] s251 (fun v252 s253 => pVal false 1 v252 (pVal true 5 (Value.agg (⟨[vget l231 19, vget l231 20, vget l231 21, v250, v252]⟩)) (R (Value.agg (⟨[vget l231 19, vget l231 20, vget l231 21, v250, v252]⟩)) s253)))))))))))) (pVal true 5 (Value.agg (⟨[vget l231 19, vget l231 20, vget l231 21, vget l231 22, vget l231 23]⟩)) (R (Value.agg (⟨[vget l231 19, vget l231 20, vget l231 21, vget l231 22, vget l231 23]⟩)) s232)))) (pVal true 5 (Value.agg (⟨[vget l231 19, vget l231 20, vget l231 21, vget l231 22, vget l231 23]⟩)) (R (Value.agg (⟨[vget l231 19, vget l231 20, vget l231 21, vget l231 22, vget l231 23]⟩)) s232)))) (pVal true 5 (Value.agg (⟨[vget l231 19, vget l231 20, vget l231 21, vget l231 22, vget l231 23]⟩)) (R (Value.agg (⟨[vget l231 19, vget l231 20, vget l231 21, vget l231 22, vget l231 23]⟩)) s232)))) | false => False))))))))
theorem vc_spec_l2Set_eq (w0 : World) (a0 a1 a2 a3 : Value) (σ : Vw) (R : Value → Vw → Prop) : vc_spec_l2Set w0 a0 a1 a2 a3 σ R = den Try.prog w0 kp_spec_l2Set esc_spec_l2Set (Try.f125.body.getD .skip) (entry Try.f125.ntmps [a0, a1, a2, a3]) σ (retK Try.prog Try.f125.results.toList R) := by kernel_rfl
theorem ac_spec_l2Set {w0 : World} {a0 a1 a2 a3 : Value} {σ : Vw} {R : Value → Vw → Prop} (h : vc_spec_l2Set w0 a0 a1 a2 a3 σ R) : AC Try.prog w0 n_spec_l2Set [a0, a1, a2, a3] σ R := by
  refine ac_rule (fn := Try.f125) (c := Try.f125.body.getD .skip) kp_spec_l2Set esc_spec_l2Set Try.func125 (by kernel_rfl) (by kernel_rfl) ?_
  rw [← vc_spec_l2Set_eq]
  exact h

/-- spec.l2File -/
def kp_spec_l2File : Nat → Keep
  | 14 => ⟨[], [], [], .step 0 (.step 1 (.step 2 (.step 3 (.step 5 (.step 4 (.step 6 (.step 7 (.step 8 (.step 9 (.step 10 (.done))))))))))), [(2, [1]), (4, [0, 1, 2, 3]), (6, [0, 1, 2, 3, 4, 5]), (7, [0, 1, 2, 3, 4, 5, 6]), (8, [0, 1, 2, 3, 4, 5, 6]), (9, [0, 1, 2, 3, 4, 5, 6, 7, 8]), (10, [0, 1, 2, 3, 4, 5, 6, 7, 8, 9])]⟩
  | _ => ⟨[], [], [], .done, []⟩
def esc_spec_l2File : Nat → Bool
  | _ => false
def vc_spec_l2File (w0 : World) (a0 a1 : Value) (σ : Vw) (R : Value → Vw → Prop) : Prop :=
  pVal true 5 a0 (pVal true 5 a1 (AC Try.prog w0 n_spec_l1At ([Value.agg (⟨[cellOf a0 0, cellOf a0 1, cellOf a0 2, cellOf a0 3, cellOf a0 4]⟩), cellOf a1 1]) σ (fun v0 s1 => pExtract v0 0 (fun v2 => pExtract v0 1 (fun v3 => pVal true 5 v2 (pIf v3 (pIf (cellOf v2 0) (pVal true 5 (Value.agg (⟨[cellOf a0 0, cellOf a0 1, cellOf a0 2, cellOf a0 3, cellOf a0 4]⟩)) (R (Value.tuple (⟨[Value.agg (⟨[cellOf a0 0, cellOf a0 1, cellOf a0 2, cellOf a0 3, cellOf a0 4]⟩), Value.int IntKind.i64 4]⟩)) s1)) (pUn UnOp.not v3 (fun v4 => pIf v4 (pBin Try.prog 3 BinOp.eql (cellOf a1 0) (Value.int IntKind.i64 3) (fun v5 => pIf v5 (pVal true 5 (Value.agg (⟨[cellOf a0 0, cellOf a0 1, cellOf a0 2, cellOf a0 3, cellOf a0 4]⟩)) (R (Value.tuple (⟨[Value.agg (⟨[cellOf a0 0, cellOf a0 1, cellOf a0 2, cellOf a0 3, cellOf a0 4]⟩), Value.int IntKind.i64 3]⟩)) s1)) (pBin Try.prog 3 BinOp.eql (cellOf a1 0) (Value.int IntKind.i64 3) (fun v6 => pIf v6 (pLenS (cellOf v2 2) (fun v7 => pBin Try.prog 3 BinOp.gtr v7 (cellOf a1 3) (fun v8 => pIf v8 (pSliceStr (cellOf v2 2) Option.none (Option.some (cellOf a1 3)) (fun v9 => AC Try.prog w0 n_spec_l2Write ([v9, cellOf a1 3, Value.string ({ data := #[] })]) s1 (fun v10 s11 => pVal false 1 v10 (AC Try.prog w0 n_spec_l2Set ([Value.agg (⟨[cellOf a0 0, cellOf a0 1, cellOf a0 2, cellOf a0 3, cellOf a0 4]⟩), cellOf a1 1, Value.agg (⟨[cellOf v2 0, cellOf v2 1, v10, cellOf v2 3, cellOf v2 4]⟩), Value.bool false]) s11 (fun v12 s13 => AC Try.prog w0 n_spec_l2Fits ([v12, Value.agg (⟨[cellOf a0 0, cellOf a0 1, cellOf a0 2, cellOf a0 3, cellOf a0 4]⟩)]) s13 (fun v14 s15 => pExtract v14 0 (fun v16 => pExtract v14 1 (fun v17 => pVal true 5 v16 (R (Value.tuple (⟨[Value.agg (⟨[cellOf v16 0, cellOf v16 1, cellOf v16 2, cellOf v16 3, cellOf v16 4]⟩), v17]⟩)) s15))))))))) (AC Try.prog w0 n_spec_l2Write ([cellOf v2 2, cellOf a1 3, Value.string ({ data := #[] })]) s1 (fun v18 s19 => pVal false 1 v18 (AC Try.prog w0 n_spec_l2Set ([Value.agg (⟨[cellOf a0 0, cellOf a0 1, cellOf a0 2, cellOf a0 3, cellOf a0 4]⟩), cellOf a1 1, Value.agg (⟨[cellOf v2 0, cellOf v2 1, v18, cellOf v2 3, cellOf v2 4]⟩), Value.bool false]) s19 (fun v20 s21 => AC Try.prog w0 n_spec_l2Fits ([v20, Value.agg (⟨[cellOf a0 0, cellOf a0 1, cellOf a0 2, cellOf a0 3, cellOf a0 4]⟩)]) s21 (fun v22 s23 => pExtract v22 0 (fun v24 => pExtract v22 1 (fun v25 => pVal true 5 v24 (R (Value.tuple (⟨[Value.agg (⟨[cellOf v24 0, cellOf v24 1, cellOf v24 2, cellOf v24 3, cellOf v24 4]⟩), v25]⟩)) s23))))))))))) (pLenS (cellOf a1 4) (fun v26 => pBin Try.prog 3 BinOp.add v26 (cellOf a1 3) (fun v27 => pBin Try.prog 3 BinOp.gtr v27 (Value.int IntKind.i64 24) (fun v28 => pIf v28 (pVal true 5 (Value.agg (⟨[cellOf a0 0, cellOf a0 1, cellOf a0 2, cellOf a0 3, cellOf a0 4]⟩)) (R (Value.tuple (⟨[Value.agg (⟨[cellOf a0 0, cellOf a0 1, cellOf a0 2, cellOf a0 3, cellOf a0 4]⟩), Value.int IntKind.i64 6]⟩)) s1)) (AC Try.prog w0 n_spec_l2Write [cellOf v2 2, cellOf a1 3, cellOf a1 4] s1 (fun v29 s30 => pVal false 1 v29 (AC Try.prog w0 n_spec_l2Set ([Value.agg (⟨[cellOf a0 0, cellOf a0 1, cellOf a0 2, cellOf a0 3, cellOf a0 4]⟩), cellOf a1 1, Value.agg (⟨[cellOf v2 0, cellOf v2 1, v29, cellOf v2 3, cellOf v2 4]⟩), Value.bool false]) s30 (fun v31 s32 => AC Try.prog w0 n_spec_l2Fits ([v31, Value.agg (⟨[cellOf a0 0, cellOf a0 1, cellOf a0 2, cellOf a0 3, cellOf a0 4]⟩)]) s32 (fun v33 s34 => pExtract v33 0 (fun v35 => pExtract v33 1 (fun v36 => pVal true 5 v35 (R (Value.tuple (⟨[Value.agg (⟨[cellOf v35 0, cellOf v35 1, cellOf v35 2, cellOf v35 3, cellOf v35 4]⟩), v36]⟩)) s34)))))))))))))))) (pBin Try.prog 3 BinOp.eql (cellOf a1 0) (Value.int IntKind.i64 3) (fun v37 => pIf v37 (pLenS (cellOf v2 2) (fun v38 => pBin Try.prog 3 BinOp.gtr v38 (cellOf a1 3) (fun v39 => pIf v39 (pSliceStr (cellOf v2 2) Option.none (Option.some (cellOf a1 3)) (fun v40 => AC Try.prog w0 n_spec_l2Write ([v40, cellOf a1 3, Value.string ({ data := #[] })]) s1 (fun v41 s42 => pVal false 1 v41 (AC Try.prog w0 n_spec_l2Set ([Value.agg (⟨[cellOf a0 0, cellOf a0 1, cellOf a0 2, cellOf a0 3, cellOf a0 4]⟩), cellOf a1 1, Value.agg (⟨[cellOf v2 0, cellOf v2 1, v41, cellOf v2 3, cellOf v2 4]⟩), Value.bool false]) s42 (fun v43 s44 => AC Try.prog w0 n_spec_l2Fits ([v43, Value.agg (⟨[cellOf a0 0, cellOf a0 1, cellOf a0 2, cellOf a0 3, cellOf a0 4]⟩)]) s44 (fun v45 s46 => pExtract v45 0 (fun v47 => pExtract v45 1 (fun v48 => pVal true 5 v47 (R (Value.tuple (⟨[Value.agg (⟨[cellOf v47 0, cellOf v47 1, cellOf v47 2, cellOf v47 3, cellOf v47 4]⟩), v48]⟩)) s46))))))))) (AC Try.prog w0 n_spec_l2Write ([cellOf v2 2, cellOf a1 3, Value.string ({ data := #[] })]) s1 (fun v49 s50 => pVal false 1 v49 (AC Try.prog w0 n_spec_l2Set ([Value.agg (⟨[cellOf a0 0, cellOf a0 1, cellOf a0 2, cellOf a0 3, cellOf a0 4]⟩), cellOf a1 1, Value.agg (⟨[cellOf v2 0, cellOf v2 1, v49, cellOf v2 3, cellOf v2 4]⟩), Value.bool false]) s50 (fun v51 s52 => AC Try.prog w0 n_spec_l2Fits ([v51, Value.agg (⟨[cellOf a0 0, cellOf a0 1, cellOf a0 2, cellOf a0 3, cellOf a0 4]⟩)]) s52 (fun v53 s54 => pExtract v53 0 (fun v55 => pExtract v53 1 (fun v56 => pVal true 5 v55 (R (Value.tuple (⟨[Value.agg (⟨[cellOf v55 0, cellOf v55 1, cellOf v55 2, cellOf v55 3, cellOf v55 4]⟩), v56]⟩)) s54))))))))))) (pLenS (cellOf a1 4) (fun v57 => pBin Try.prog 3 BinOp.add v57 (cellOf a1 3) (fun v58 => pBin Try.prog 3 BinOp.gtr v58 (Value.int IntKind.i64 24) (fun v59 => pIf v59 (pVal true 5 (Value.agg (⟨[cellOf a0 0, cellOf a0 1, cellOf a0 2, cellOf a0 3, cellOf a0 4]⟩)) (R (Value.tuple (⟨[Value.agg (⟨[cellOf a0 0, cellOf a0 1, cellOf a0 2, cellOf a0 3, cellOf a0 4]⟩), Value.int IntKind.i64 6]⟩)) s1)) (AC Try.prog w0 n_spec_l2Write [cellOf v2 2, cellOf a1 3, cellOf a1 4] s1 (fun v60 s61 => pVal false 1 v60 (AC Try.prog w0 n_spec_l2Set ([Value.agg (⟨[cellOf a0 0, cellOf a0 1, cellOf a0 2, cellOf a0 3, cellOf a0 4]⟩), cellOf a1 1, Value.agg (⟨[cellOf v2 0, cellOf v2 1, v60, cellOf v2 3, cellOf v2 4]⟩), Value.bool false]) s61 (fun v62 s63 => AC Try.prog w0 n_spec_l2Fits ([v62, Value.agg (⟨[cellOf a0 0, cellOf a0 1, cellOf a0 2, cellOf a0 3, cellOf a0 4]⟩)]) s63 (fun v64 s65 => pExtract v64 0 (fun v66 => pExtract v64 1 (fun v67 => pVal true 5 v66 (R (Value.tuple (⟨[Value.agg (⟨[cellOf v66 0, cellOf v66 1, cellOf v66 2, cellOf v66 3, cellOf v66 4]⟩), v67]⟩)) s65))))))))))))))))) (pUn UnOp.not v3 (fun v68 => pIf v68 (pBin Try.prog 3 BinOp.eql (cellOf a1 0) (Value.int IntKind.i64 3) (fun v69 => pIf v69 (pVal true 5 (Value.agg (⟨[cellOf a0 0, cellOf a0 1, cellOf a0 2, cellOf a0 3, cellOf a0 4]⟩)) (R (Value.tuple (⟨[Value.agg (⟨[cellOf a0 0, cellOf a0 1, cellOf a0 2, cellOf a0 3, cellOf a0 4]⟩), Value.int IntKind.i64 3]⟩)) s1)) (pBin Try.prog 3 BinOp.eql (cellOf a1 0) (Value.int IntKind.i64 3) (fun v70 => pIf v70 (pLenS (cellOf v2 2) (fun v71 => pBin Try.prog 3 BinOp.gtr v71 (cellOf a1 3) (fun v72 => pIf v72 (pSliceStr (cellOf v2 2) Option.none (Option.some (cellOf a1 3)) (fun v73 => AC Try.prog w0 n_spec_l2Write ([v73, cellOf a1 3, Value.string ({ data := #[] })]) s1 (fun v74 s75 => pVal false 1 v74 (AC Try.prog w0 n_spec_l2Set ([Value.agg (⟨[cellOf a0 0, cellOf a0 1, cellOf a0 2, cellOf a0 3, cellOf a0 4]⟩), cellOf a1 1, Value.agg (⟨[cellOf v2 0, cellOf v2 1, v74, cellOf v2 3, cellOf v2 4]⟩), Value.bool false]) s75 (fun v76 s77 => AC Try.prog w0 n_spec_l2Fits ([v76, Value.agg (⟨[cellOf a0 0, cellOf a0 1, cellOf a0 2, cellOf a0 3, cellOf a0 4]⟩)]) s77 (fun v78 s79 => pExtract v78 0 (fun v80 => pExtract v78 1 (fun v81 => pVal true 5 v80 (R (Value.tuple (⟨[Value.agg (⟨[cellOf v80 0, cellOf v80 1, cellOf v80 2, cellOf v80 3, cellOf v80 4]⟩), v81]⟩)) s79))))))))) (AC Try.prog w0 n_spec_l2Write ([cellOf v2 2, cellOf a1 3, Value.string ({ data := #[] })]) s1 (fun v82 s83 => pVal false 1 v82 (AC Try.prog w0 n_spec_l2Set ([Value.agg (⟨[cellOf a0 0, cellOf a0 1, cellOf a0 2, cellOf a0 3, cellOf a0 4]⟩), cellOf a1 1, Value.agg (⟨[cellOf v2 0, cellOf v2 1, v82, cellOf v2 3, cellOf v2 4]⟩), Value.bool false]) s83 (fun v84 s85 => AC Try.prog w0 n_spec_l2Fits ([v84, Value.agg (⟨[cellOf a0 0, cellOf a0 1, cellOf a0 2, cellOf a0 3, cellOf a0 4]⟩)]) s85 (fun v86 s87 => pExtract v86 0 (fun v88 => pExtract v86 1 (fun v89 => pVal true 5 v88 (R (Value.tuple (⟨[Value.agg (⟨[cellOf v88 0, cellOf v88 1, cellOf v88 2, cellOf v88 3, cellOf v88 4]⟩), v89]⟩)) s87))))))))))) (pLenS (cellOf a1 4) (fun v90 => pBin Try.prog 3 BinOp.add v90 (cellOf a1 3) (fun v91 => pBin Try.prog 3 BinOp.gtr v91 (Value.int IntKind.i64 24) (fun v92 => pIf v92 (pVal true 5 (Value.agg (⟨[cellOf a0 0, cellOf a0 1, cellOf a0 2, cellOf a0 3, cellOf a0 4]⟩)) (R (Value.tuple (⟨[Value.agg (⟨[cellOf a0 0, cellOf a0 1, cellOf a0 2, cellOf a0 3, cellOf a0 4]⟩), Value.int IntKind.i64 6]⟩)) s1)) (AC Try.prog w0 n_spec_l2Write [cellOf v2 2, cellOf a1 3, cellOf a1 4] s1 (fun v93 s94 => pVal false 1 v93 (AC Try.prog w0 n_spec_l2Set ([Value.agg (⟨[cellOf a0 0, cellOf a0 1, cellOf a0 2, cellOf a0 3, cellOf a0 4]⟩), cellOf a1 1, Value.agg (⟨[cellOf v2 0, cellOf v2 1, v93, cellOf v2 3, cellOf v2 4]⟩), Value.bool false]) s94 (fun v95 s96 => AC Try.prog w0 n_spec_l2Fits ([v95, Value.agg (⟨[cellOf a0 0, cellOf a0 1, cellOf a0 2, cellOf a0 3, cellOf a0 4]⟩)]) s96 (fun v97 s98 => pExtract v97 0 (fun v99 => pExtract v97 1 (fun v100 => pVal true 5 v99 (R (Value.tuple (⟨[Value.agg (⟨[cellOf v99 0, cellOf v99 1, cellOf v99 2, cellOf v99 3, cellOf v99 4]⟩), v100]⟩)) s98)))))))))))))))) (pBin Try.prog 3 BinOp.eql (cellOf a1 0) (Value.int IntKind.i64 3) (fun v101 => pIf v101 (pLenS (cellOf v2 2) (fun v102 => pBin Try.prog 3 BinOp.gtr v102 (cellOf a1 3) (fun v103 => pIf v103 (pSliceStr (cellOf v2 2) Option.none (Option.some (cellOf a1 3)) (fun v104 => AC Try.prog w0 n_spec_l2Write ([v104, cellOf a1 3, Value.string ({ data := #[] })]) s1 (fun v105 s106 => pVal false 1 v105 (AC Try.prog w0 n_spec_l2Set ([Value.agg (⟨[cellOf a0 0, cellOf a0 1, cellOf a0 2, cellOf a0 3, cellOf a0 4]⟩), cellOf a1 1, Value.agg (⟨[cellOf v2 0, cellOf v2 1, v105, cellOf v2 3, cellOf v2 4]⟩), Value.bool false]) s106 (fun v107 s108 => AC Try.prog w0 n_spec_l2Fits ([v107, Value.agg (⟨[cellOf a0 0, cellOf a0 1, cellOf a0 2, cellOf a0 3, cellOf a0 4]⟩)]) s108 (fun v109 s110 => pExtract v109 0 (fun v111 => pExtract v109 1 (fun v112 => pVal true 5 v111 (R (Value.tuple (⟨[Value.agg (⟨[cellOf v111 0, cellOf v111 1, cellOf v111 2, cellOf v111 3, cellOf v111 4]⟩), v112]⟩)) s110))))))))) (AC Try.prog w0 n_spec_l2Write ([cellOf v2 2, cellOf a1 3, Value.string ({ data := #[] })]) s1 (fun v113 s114 => pVal false 1 v113 (AC Try.prog w0 n_spec_l2Set ([Value.agg (⟨[cellOf a0 0, cellOf a0 1, cellOf a0 2, cellOf a0 3, cellOf a0 4]⟩), cellOf a1 1, Value.agg (⟨[cellOf v2 0, cellOf v2 1, v113, cellOf v2 3, cellOf v2 4]⟩), Value.bool false]) s114 (fun v115 s116 => AC Try.prog w0 n_spec_l2Fits ([v115, Value.agg (⟨[cellOf a0 0, cellOf a0 1, cellOf a0 2, cellOf a0 3, cellOf a0 4]⟩)]) s116 (fun v117 s118 => pExtract v117 0 (fun v119 => pExtract v117 1 (fun v120 => pVal true 5 v119 (R (Value.tuple (⟨[Value.agg (⟨[cellOf v119 0, cellOf v119 1, cellOf v119 2, cellOf v119 3, cellOf v119 4]⟩), v120]⟩)) s118))))))))))) (pLenS (cellOf a1 4) (fun v121 => pBin Try.prog 3 BinOp.add v121 (cellOf a1 3) (fun v122 => pBin Try.prog 3 BinOp.gtr v122 (Value.int IntKind.i64 24) (fun v123 => pIf v123 (pVal true 5 (Value.agg (⟨[cellOf a0 0, cellOf a0 1, cellOf a0 2, cellOf a0 3, cellOf a0 4]⟩)) (R (Value.tuple (⟨[Value.agg (⟨[cellOf a0 0, cellOf a0 1, cellOf a0 2, cellOf a0 3, cellOf a0 4]⟩), Value.int IntKind.i64 6]⟩)) s1)) (AC Try.prog w0 n_spec_l2Write [cellOf v2 2, cellOf a1 3, cellOf a1 4] s1 (fun v124 s125 => pVal false 1 v124 (AC Try.prog w0 n_spec_l2Set ([Value.agg (⟨[cellOf a0 0, cellOf a0 1, cellOf a0 2, cellOf a0 3, cellOf a0 4]⟩), cellOf a1 1, Value.agg (⟨[cellOf v2 0, cellOf v2 1, v124, cellOf v2 3, cellOf v2 4]⟩), Value.bool false]) s125 (fun v126 s127 => AC Try.prog w0 n_spec_l2Fits ([v126, Value.agg (⟨[cellOf a0 0, cellOf a0 1, cellOf a0 2, cellOf a0 3, cellOf a0 4]⟩)]) s127 (fun v128 s129 => pExtract v128 0 (fun v130 => pExtract v128 1 (fun v131 => pVal true 5 v130 (R (Value.tuple (⟨[Value.agg (⟨[cellOf v130 0, cellOf v130 1, cellOf v130 2, cellOf v130 3, cellOf v130 4]⟩), v131]⟩)) s129))))))))))))))))))))))
theorem vc_spec_l2File_eq (w0 : World) (a0 a1 : Value) (σ : Vw) (R : Value → Vw → Prop) : vc_spec_l2File w0 a0 a1 σ R = den Try.prog w0 kp_spec_l2File esc_spec_l2File (Try.f126.body.getD .skip) (entry Try.f126.ntmps [a0, a1]) σ (retK Try.prog Try.f126.results.toList R) := by kernel_rfl
theorem ac_spec_l2File {w0 : World} {a0 a1 : Value} {σ : Vw} {R : Value → Vw → Prop} (h : vc_spec_l2File w0 a0 a1 σ R) : AC Try.prog w0 n_spec_l2File [a0, a1] σ R := by
  refine ac_rule (fn := Try.f126) (c := Try.f126.body.getD .skip) kp_spec_l2File esc_spec_l2File Try.func126 (by kernel_rfl) (by kernel_rfl) ?_
  rw [← vc_spec_l2File_eq]
  exact h

/-- spec.l2Rename -/
def kp_spec_l2Rename : Nat → Keep
  | 12 => ⟨[], [], [], .step 0 (.step 1 (.step 2 (.step 3 (.step 5 (.step 6 (.step 7 (.step 9 (.step 4 (.step 8 (.step 10 (.step 11 (.step 12 (.step 13 (.step 14 (.done))))))))))))))), [(2, [1]), (4, [0, 1, 2, 3]), (6, [5]), (8, [0, 1, 2, 3, 4, 5, 6, 7]), (10, [0, 1, 2, 3, 4, 5, 6, 7, 8, 9]), (11, [0, 1, 2, 3, 4, 5, 6, 7, 8, 9, 10]), (12, [0, 1, 2, 3, 4, 5, 6, 7, 8, 9, 10]), (13, [0, 1, 2, 3, 4, 5, 6, 7, 8, 9, 10, 11, 12]), (14, [0, 1, 2, 3, 4, 5, 6, 7, 8, 9, 10, 11, 12, 13])]⟩
  | _ => ⟨[], [], [], .done, []⟩
def esc_spec_l2Rename : Nat → Bool
  | _ => false
def vc_spec_l2Rename (w0 : World) (a0 a1 : Value) (σ : Vw) (R : Value → Vw → Prop) : Prop :=
  pVal true 5 a0 (pVal true 5 a1 (AC Try.prog w0 n_spec_l1At ([Value.agg (⟨[cellOf a0 0, cellOf a0 1, cellOf a0 2, cellOf a0 3, cellOf a0 4]⟩), cellOf a1 1]) σ (fun v0 s1 => pExtract v0 0 (fun v2 => pExtract v0 1 (fun v3 => pVal true 5 v2 (pUn UnOp.not v3 (fun v4 => pIf v4 (pVal true 5 (Value.agg (⟨[cellOf a0 0, cellOf a0 1, cellOf a0 2, cellOf a0 3, cellOf a0 4]⟩)) (R (Value.tuple (⟨[Value.agg (⟨[cellOf a0 0, cellOf a0 1, cellOf a0 2, cellOf a0 3, cellOf a0 4]⟩), Value.int IntKind.i64 3]⟩)) s1)) (AC Try.prog w0 n_spec_l2Within [cellOf a1 2, cellOf a1 1] s1 (fun v5 s6 => pIf v5 (pVal true 5 (Value.agg (⟨[cellOf a0 0, cellOf a0 1, cellOf a0 2, cellOf a0 3, cellOf a0 4]⟩)) (R (Value.tuple (⟨[Value.agg (⟨[cellOf a0 0, cellOf a0 1, cellOf a0 2, cellOf a0 3, cellOf a0 4]⟩), Value.int IntKind.i64 7]⟩)) s6)) (AC Try.prog w0 n_spec_l2Parent ([Value.agg (⟨[cellOf a0 0, cellOf a0 1, cellOf a0 2, cellOf a0 3, cellOf a0 4]⟩), cellOf a1 2]) s6 (fun v7 s8 => pBin Try.prog 3 BinOp.neq v7 (Value.int IntKind.i64 0) (fun v9 => pIf v9 (pVal true 5 (Value.agg (⟨[cellOf a0 0, cellOf a0 1, cellOf a0 2, cellOf a0 3, cellOf a0 4]⟩)) (R (Value.tuple (⟨[Value.agg (⟨[cellOf a0 0, cellOf a0 1, cellOf a0 2, cellOf a0 3, cellOf a0 4]⟩), v7]⟩)) s8)) (AC Try.prog w0 n_spec_l1At ([Value.agg (⟨[cellOf a0 0, cellOf a0 1, cellOf a0 2, cellOf a0 3, cellOf a0 4]⟩), cellOf a1 2]) s8 (fun v10 s11 => pExtract v10 0 (fun v12 => pExtract v10 1 (fun v13 => pVal true 5 v12 (pIf v13 (pVal true 5 (Value.agg (⟨[cellOf a0 0, cellOf a0 1, cellOf a0 2, cellOf a0 3, cellOf a0 4]⟩)) (R (Value.tuple (⟨[Value.agg (⟨[cellOf a0 0, cellOf a0 1, cellOf a0 2, cellOf a0 3, cellOf a0 4]⟩), Value.int IntKind.i64 5]⟩)) s11)) (AC Try.prog w0 n_spec_l2Set ([Value.agg (⟨[cellOf a0 0, cellOf a0 1, cellOf a0 2, cellOf a0 3, cellOf a0 4]⟩), cellOf a1 1, Value.agg (⟨[Value.bool false, Value.int IntKind.i64 0, Value.string ({ data := #[] }), Value.slice Option.none 0 0, Value.slice Option.none 0 0]⟩), Value.bool true]) s11 (fun v14 s15 => AC Try.prog w0 n_spec_l2Set ([v14, cellOf a1 2, Value.agg (⟨[cellOf v2 0, cellOf v2 1, cellOf v2 2, cellOf v2 3, cellOf v2 4]⟩), Value.bool false]) s15 (fun v16 s17 => AC Try.prog w0 n_spec_l2Fits ([v16, Value.agg (⟨[cellOf a0 0, cellOf a0 1, cellOf a0 2, cellOf a0 3, cellOf a0 4]⟩)]) s17 (fun v18 s19 => pExtract v18 0 (fun v20 => pExtract v18 1 (fun v21 => pVal true 5 v20 (R (Value.tuple (⟨[Value.agg (⟨[cellOf v20 0, cellOf v20 1, cellOf v20 2, cellOf v20 3, cellOf v20 4]⟩), v21]⟩)) s19))))))))))))))))))))))))
theorem vc_spec_l2Rename_eq (w0 : World) (a0 a1 : Value) (σ : Vw) (R : Value → Vw → Prop) : vc_spec_l2Rename w0 a0 a1 σ R = den Try.prog w0 kp_spec_l2Rename esc_spec_l2Rename (Try.f127.body.getD .skip) (entry Try.f127.ntmps [a0, a1]) σ (retK Try.prog Try.f127.results.toList R) := by kernel_rfl
theorem ac_spec_l2Rename {w0 : World} {a0 a1 : Value} {σ : Vw} {R : Value → Vw → Prop} (h : vc_spec_l2Rename w0 a0 a1 σ R) : AC Try.prog w0 n_spec_l2Rename [a0, a1] σ R := by
  refine ac_rule (fn := Try.f127) (c := Try.f127.body.getD .skip) kp_spec_l2Rename esc_spec_l2Rename Try.func127 (by kernel_rfl) (by kernel_rfl) ?_
  rw [← vc_spec_l2Rename_eq]
  exact h

/-- spec.l2Write -/
def kp_spec_l2Write : Nat → Keep
  | 2 => ⟨[1, 2, 7], [], [], .done, []⟩
  | 5 => ⟨[1, 2, 7, 8], [], [], .done, []⟩
  | _ => ⟨[], [], [], .done, []⟩
def esc_spec_l2Write : Nat → Bool
  | _ => false
def vc_spec_l2Write (w0 : World) (a0 a1 a2 : Value) (σ : Vw) (R : Value → Vw → Prop) : Prop :=
  pBytes w0 5 a0 σ (fun v0 s1 => pLoop (fun l2 K3 s4 => pLen (vget l2 2) (fun v5 => pLenS (vget l2 1) (fun v6 => pBin Try.prog 3 BinOp.add (vget l2 0) v6 (fun v7 => pBin Try.prog 3 BinOp.lss v5 v7 (fun v8 => pIf v8 (pVal false 1 (Value.int IntKind.u8 0) ((allOne [Value.int IntKind.u8 0]) ∧ (pAppend w0 5 1 1 (vget l2 2) 1 [Value.int IntKind.u8 0] s4 (fun v9 s10 => K3 AX.normal [vget l2 0, vget l2 1, v9] s10)))) (K3 (AX.exit 0) [vget l2 0, vget l2 1, vget l2 2] s4)))))) [a1, a2, v0] s1 (fun x11 l12 s13 => match x11 with | .normal => pLoop (fun l14 K15 s16 => pLenS (vget l14 1) (fun v17 => pBin Try.prog 3 BinOp.lss (vget l14 3) v17 (fun v18 => pIf v18 (pBin Try.prog 3 BinOp.add (vget l14 0) (vget l14 3) (fun v19 => pIndexStr (vget l14 1) (vget l14 3) (fun v20 => pIndexAddr 1 (vget l14 2) v19 (fun v21 => pVal false 1 v20 (pStore v21 [v20] s16 (fun s22 => pBin Try.prog 3 BinOp.add (vget l14 3) (Value.int IntKind.i64 1) (fun v23 => K15 AX.normal [vget l14 0, vget l14 1, vget l14 2, v23] s22))))))) (K15 (AX.exit 2) [vget l14 0, vget l14 1, vget l14 2, vget l14 3] s16)))) [vget l12 0, vget l12 1, vget l12 2, Value.int IntKind.i64 0] s13 (fun x24 l25 s26 => match x24 with | .normal => pStr w0 (vget l25 2) s26 (fun v27 => R v27 s26) | .ret => False | .exit i28 => (match Nat.beq i28 2 with | true => pStr w0 (vget l25 2) s26 (fun v29 => R v29 s26) | false => False)) | .ret => False | .exit i30 => (match Nat.beq i30 0 with | true => pLoop (fun l31 K32 s33 => pLenS (vget l31 1) (fun v34 => pBin Try.prog 3 BinOp.lss (vget l31 3) v34 (fun v35 => pIf v35 (pBin Try.prog 3 BinOp.add (vget l31 0) (vget l31 3) (fun v36 => pIndexStr (vget l31 1) (vget l31 3) (fun v37 => pIndexAddr 1 (vget l31 2) v36 (fun v38 => pVal false 1 v37 (pStore v38 [v37] s33 (fun s39 => pBin Try.prog 3 BinOp.add (vget l31 3) (Value.int IntKind.i64 1) (fun v40 => K32 AX.normal [vget l31 0, vget l31 1, vget l31 2, v40] s39))))))) (K32 (AX.exit 2) [vget l31 0, vget l31 1, vget l31 2, vget l31 3] s33)))) [vget l12 0, vget l12 1, vget l12 2, Value.int IntKind.i64 0] s13 (fun x41 l42 s43 => match x41 with | .normal => pStr w0 (vget l42 2) s43 (fun v44 => R v44 s43) | .ret => False | .exit i45 => (match Nat.beq i45 2 with | true => pStr w0 (vget l42 2) s43 (fun v46 => R v46 s43) | false => False)) | false => False)))
theorem vc_spec_l2Write_eq (w0 : World) (a0 a1 a2 : Value) (σ : Vw) (R : Value → Vw → Prop) : vc_spec_l2Write w0 a0 a1 a2 σ R = den Try.prog w0 kp_spec_l2Write esc_spec_l2Write (Try.f139.body.getD .skip) (entry Try.f139.ntmps [a0, a1, a2]) σ (retK Try.prog Try.f139.results.toList R) := by kernel_rfl
theorem ac_spec_l2Write {w0 : World} {a0 a1 a2 : Value} {σ : Vw} {R : Value → Vw → Prop} (h : vc_spec_l2Write w0 a0 a1 a2 σ R) : AC Try.prog w0 n_spec_l2Write [a0, a1, a2] σ R := by
  refine ac_rule (fn := Try.f139) (c := Try.f139.body.getD .skip) kp_spec_l2Write esc_spec_l2Write Try.func139 (by kernel_rfl) (by kernel_rfl) ?_
  rw [← vc_spec_l2Write_eq]
  exact h

end Go.Proofs.Ytkbhjejalkbogaa

/- What each function owes, reckoned out, part 5. MADE BY PROGRAM (emit.py). -/
set_option linter.unusedVariables false
namespace Go.Proofs.Ytkbhjejalkbogaa
open Go Go.Av

end Go.Proofs.Ytkbhjejalkbogaa

/- What each function owes: all parts. MADE BY PROGRAM (emit.py). -/


/- The lists of texts: their size, their copy, their comparison. -/
set_option linter.unusedVariables false
set_option linter.unusedSimpArgs false
namespace Go.Proofs.Ytkbhjejalkbogaa
open Go Go.Av

section
variable {w0 : World} {σ : Vw}

def sumS : List ByteArray → Nat
  | [] => 0
  | s :: r => s.size + sumS r
/-- What is left of n. -/
def left (n : Int) (t : Nat) : Int := if n - t < 0 then -1 else n - t

end
end Go.Proofs.Ytkbhjejalkbogaa

/- The lists of texts: their copy, their comparison. -/
set_option linter.unusedVariables false
set_option linter.unusedSimpArgs false
namespace Go.Proofs.Ytkbhjejalkbogaa
open Go Go.Av

section
variable {w0 : World} {σ : Vw}


end
end Go.Proofs.Ytkbhjejalkbogaa

/- The lists of texts in rows of their own; marks (a path and a bool) and their lists: size, copy, comparison. -/
set_option linter.unusedVariables false
set_option linter.unusedSimpArgs false
namespace Go.Proofs.Ytkbhjejalkbogaa
open Go Go.Av

/-- A text needs no row. -/
def OStr (σ : Vw) (F : List Nat) (es : List Value) (s : ByteArray) : Prop := F = [] ∧ es = [.string s] ∧ s.size ≤ 9223372036854775807

section
variable {w0 : World} {σ : Vw}

theorem ok_str (w0 : World) : OOk w0 1 RS OStr := by
  refine ⟨?_, ?_, ?_, ?_, ?_, ?_⟩
  · rintro σ F es x ⟨_, h1, h2⟩; exact ⟨h1, h2⟩
  · rintro σ σ' F es x h _; exact h
  · rintro σ F es x ⟨rfl, _, _⟩ b hb; cases hb
  · rintro σ F es x ⟨rfl, _, _⟩; exact List.nodup_nil
  · rintro σ F es x ⟨_, rfl, _⟩; rfl
  · rintro σ F es x ⟨_, rfl, _⟩ c hc; rw [List.mem_singleton.1 hc]; rfl

abbrev OStrs (w0 : World) := OSl w0 1 OStr
theorem flat_strs (xs : List ByteArray) : xs.map Value.string = (xs.map fun s => [Value.string s]).flatten := by
  induction xs with
  | nil => rfl
  | cons a r ih => simp [ih]

/-- A mark: a path, and a bool. -/
abbrev Mk := List ByteArray × Bool
def RMk (rd : Addr → Option Value) (es : List Value) (m : Mk) : Prop := ∃ v, es = [v, .bool m.2] ∧ RSl 1 RS rd v m.1
theorem OSl.one' {α : Type} {n : Nat} {O : Vw → List Nat → List Value → α → Prop} {F : List Nat} {v : Value} {xs : List α} (h : OSl w0 n O σ F v xs) : v.oneCell' = true := by
  obtain ⟨_, _, ⟨rfl, _⟩ | ⟨_, _, _, _, _, _, _, _, rfl, _⟩⟩ := h <;> rfl

theorem sumS_eq (xs : List ByteArray) : sumS xs = sumBy ByteArray.size xs := by
  induction xs with
  | nil => rfl
  | cons a r ih => simp [sumS, sumBy, ih]

end
end Go.Proofs.Ytkbhjejalkbogaa

/- Names: their letters and their length. -/
set_option linter.unusedVariables false
set_option linter.unusedSimpArgs false
namespace Go.Proofs.Ytkbhjejalkbogaa
open Go Go.Av

theorem pIndexStr_s {s : ByteArray} {j : Nat} {K : Value → Prop} (h : j < s.size) (hK : K (.int .u8 ((s[j]'h).toNat : Int))) : pIndexStr (.string s) (.int .i64 j) K :=
  ⟨s, .i64, j, rfl, rfl, by omega, h, hK⟩

def okB (n : Nat) : Prop := (97 ≤ n ∧ n ≤ 122) ∨ (48 ≤ n ∧ n ≤ 57)
/-- Within two bounds. -/
def inB (n lo hi : Int) : Bool := decide (lo ≤ n ∧ n ≤ hi)
def lettersOk (s : ByteArray) : Prop := ∀ (i : Nat) (h : i < s.size), okB (s[i]'h).toNat
open Classical in
noncomputable def nameOk (s : ByteArray) : Bool := decide (lettersOk s) && inB s.size 1 5

section
variable {w0 : World} {σ : Vw}

theorem spec_In {n lo hi : Int} {R : Value → Vw → Prop} (hR : R (.bool (inB n lo hi)) σ) : AC Try.prog w0 n_spec_l1In [.int .i64 n, .int .i64 lo, .int .i64 hi] σ R := by
  refine ac_spec_l1In ?_
  unfold vc_spec_l1In
  rw [pBin_ge, pIf_d]
  refine ⟨fun h => ?_, fun h => ?_⟩
  · rw [pBin_le]
    have : inB n lo hi = decide (n ≤ hi) := by simp [inB, h]
    rw [this] at hR; exact hR
  · have : inB n lo hi = false := by simp [inB, h]
    rw [this] at hR; exact hR
theorem impl_within {n lo hi : Int} {R : Value → Vw → Prop} (hR : R (.bool (inB n lo hi)) σ) : AC Try.prog w0 n_impl_within [.int .i64 n, .int .i64 lo, .int .i64 hi] σ R := by
  refine ac_impl_within ?_
  unfold vc_impl_within
  rw [pBin_ge, pIf_d]
  refine ⟨fun h => ?_, fun h => ?_⟩
  · rw [pBin_le]
    have : inB n lo hi = decide (n ≤ hi) := by simp [inB, h]
    rw [this] at hR; exact hR
  · have : inB n lo hi = false := by simp [inB, h]
    rw [this] at hR; exact hR

theorem nameOk_bad {s : ByteArray} {j : Nat} (h : j < s.size) (hb : ¬ okB (s[j]'h).toNat) : nameOk s = false := by
  have : ¬ lettersOk s := fun h' => hb (h' j h)
  simp [nameOk, this]
theorem nameOk_good {s : ByteArray} (h : lettersOk s) : nameOk s = inB s.size 1 5 := by simp [nameOk, h]

theorem spec_nameOk {s : ByteArray} (hs : s.size ≤ 9223372036854775807) {R : Value → Vw → Prop} (hR : R (.bool (nameOk s)) σ) : AC Try.prog w0 n_spec_l1NameOk [.string s] σ R := by
  refine ac_spec_l1NameOk ?_
  unfold vc_spec_l1NameOk
  refine loop_rule (m := s.size) (fun m l t => ∃ j, t = σ ∧ m + j = s.size ∧ (∀ (i : Nat) (h : i < s.size), i < j → okB (s[i]'h).toNat) ∧ l = [.string s, .bool false, .int .i64 (j : Nat)]) ?_ ⟨0, rfl, by omega, fun i h h' => by omega, rfl⟩
  rintro m l t L ⟨j, rfl, hm, ht, rfl⟩ hL
  simp only [vget, List.getD_cons_zero, List.getD_cons_succ]
  rw [pLenS_s, pBin_lt, pIf_d]
  refine ⟨fun hj => ?_, fun hj => ?_⟩
  · have hj' : j < s.size := by omega
    have bad : ¬ okB (s[j]'hj').toNat → R (.bool false) t := fun h => by rw [nameOk_bad hj' h] at hR; exact hR
    have good : okB (s[j]'hj').toNat → L [.string s, .bool false, .int .i64 ((j + 1 : Nat) : Int)] t := fun h => hL _ _ (m - 1) (by omega) ⟨j + 1, rfl, by omega, fun i hi hij => by
      by_cases e : i = j
      · subst e; exact h
      · exact ht i hi (by omega), rfl⟩
    have add : ∀ K : Value → Prop, pBin Try.prog 3 .add (.int .i64 j) (.int .i64 1) K ↔ K (.int .i64 ((j + 1 : Nat) : Int)) := fun K => pBin_add (by omega)
    have idx : ∀ K : Value → Prop, K (.int .u8 ((s[j]'hj').toNat : Int)) → pIndexStr (.string s) (.int .i64 j) K := fun K hK => pIndexStr_s hj' hK
    simp only [add, pUn_not, pIf_b, Bool.not_true, Bool.not_false, forall_const, Bool.false_eq_true, false_imp_iff, true_imp_iff, true_and, and_true, reduceCtorEq]
    refine idx _ ?_
    rw [pBin_ge, pIf_d]
    refine ⟨fun h1 => idx _ ?_, fun h1 => idx _ ?_⟩
    · rw [pBin_le, pIf_d]
      refine ⟨fun h2 => good (.inl ⟨by omega, by omega⟩), fun h2 => idx _ ?_⟩
      rw [pBin_ge, pIf_d]
      refine ⟨fun h3 => idx _ ?_, fun h3 => bad fun h => by unfold okB at h; omega⟩
      rw [pBin_le, pUn_not, pIf_b]
      refine ⟨fun h4 => bad fun h => ?_, fun h4 => good ?_⟩
      · unfold okB at h; simp at h4; omega
      · simp at h4; exact .inr ⟨by omega, by omega⟩
    · rw [pBin_ge, pIf_d]
      refine ⟨fun h3 => idx _ ?_, fun h3 => bad fun h => by unfold okB at h; omega⟩
      rw [pBin_le, pUn_not, pIf_b]
      refine ⟨fun h4 => bad fun h => ?_, fun h4 => good ?_⟩
      · unfold okB at h; simp at h4; omega
      · simp at h4; exact .inr ⟨by omega, by omega⟩
  · have hj' : j = s.size := by omega
    subst hj'
    show pLenS (.string s) _
    rw [pLenS_s]
    refine spec_In ?_
    rw [nameOk_good fun i h => ht i h h] at hR
    exact hR

theorem impl_nameOk {s : ByteArray} (hs : s.size ≤ 9223372036854775807) {R : Value → Vw → Prop} (hR : R (.bool (nameOk s)) σ) : AC Try.prog w0 n_impl_nameOk [.string s] σ R := by
  refine ac_impl_nameOk ?_
  unfold vc_impl_nameOk
  rw [pLenS_s]
  refine loop_rule (m := s.size) (fun m l t => ∃ j, t = σ ∧ m + j = s.size ∧ (∀ (i : Nat) (h : i < s.size), i < j → okB (s[i]'h).toNat) ∧ l = [.string s, .bool false, .int .i64 s.size, .int .i64 (j : Nat)]) ?_ ⟨0, rfl, by omega, fun i h h' => by omega, rfl⟩
  rintro m l t L ⟨j, rfl, hm, ht, rfl⟩ hL
  simp only [vget, List.getD_cons_zero, List.getD_cons_succ]
  rw [pBin_lt, pIf_d]
  refine ⟨fun hj => ?_, fun hj => ?_⟩
  · have hj' : j < s.size := by omega
    have bad : ¬ okB (s[j]'hj').toNat → R (.bool false) t := fun h => by rw [nameOk_bad hj' h] at hR; exact hR
    have good : okB (s[j]'hj').toNat → L [.string s, .bool false, .int .i64 s.size, .int .i64 ((j + 1 : Nat) : Int)] t := fun h => hL _ _ (m - 1) (by omega) ⟨j + 1, rfl, by omega, fun i hi hij => by
      by_cases e : i = j
      · subst e; exact h
      · exact ht i hi (by omega), rfl⟩
    have add : ∀ K : Value → Prop, pBin Try.prog 3 .add (.int .i64 j) (.int .i64 1) K ↔ K (.int .i64 ((j + 1 : Nat) : Int)) := fun K => pBin_add (by omega)
    have idx : ∀ K : Value → Prop, K (.int .u8 ((s[j]'hj').toNat : Int)) → pIndexStr (.string s) (.int .i64 j) K := fun K hK => pIndexStr_s hj' hK
    simp only [add]
    refine idx _ ?_
    rw [pBin_lt, pIf_d]
    refine ⟨fun h1 => idx _ ?_, fun h1 => idx _ ?_⟩
    · rw [pBin_lt, pIf_d]
      refine ⟨fun h2 => bad fun h => by unfold okB at h; omega, fun h2 => idx _ ?_⟩
      rw [pBin_gt, pIf_d]
      exact ⟨fun h3 => bad fun h => by unfold okB at h; omega, fun h3 => good (.inr ⟨by omega, by omega⟩)⟩
    · rw [pBin_gt, pIf_d]
      refine ⟨fun h2 => idx _ ?_, fun h2 => good (.inl ⟨by omega, by omega⟩)⟩
      rw [pBin_lt, pIf_d]
      refine ⟨fun h2 => bad fun h => by unfold okB at h; omega, fun h2 => idx _ ?_⟩
      rw [pBin_gt, pIf_d]
      exact ⟨fun h3 => bad fun h => by unfold okB at h; omega, fun h3 => good (.inr ⟨by omega, by omega⟩)⟩
  · have hj' : j = s.size := by omega
    subst hj'
    show pLenS (.string s) _
    rw [pLenS_s]
    refine impl_within ?_
    rw [nameOk_good fun i h => ht i h h] at hR
    exact hR
end
end Go.Proofs.Ytkbhjejalkbogaa

/- Paths: their names, their order, what lies within what. -/
set_option linter.unusedVariables false
set_option linter.unusedSimpArgs false
namespace Go.Proofs.Ytkbhjejalkbogaa
open Go Go.Av

def strLt (a b : ByteArray) : Bool := Op.bytesLess a.toList b.toList
theorem bl_irrefl : ∀ (a : List UInt8), Op.bytesLess a a = false
  | [] => rfl
  | x :: r => by simp [Op.bytesLess, bl_irrefl r]
theorem bl_total : ∀ (a b : List UInt8), Op.bytesLess a b = false → Op.bytesLess b a = false → a = b
  | [], [], _, _ => rfl
  | [], _ :: _, h, _ => by simp [Op.bytesLess] at h
  | _ :: _, [], _, h => by simp [Op.bytesLess] at h
  | x :: r, y :: q, h, h' => by
    simp only [Op.bytesLess] at h h'
    by_cases e : x = y
    · subst e
      simp at h h'
      rw [bl_total r q h h']
    · exfalso
      rcases UInt8.lt_or_lt_of_ne e with h1 | h1
      · simp [h1] at h
      · simp [h1] at h'
theorem strLt_irrefl (a : ByteArray) : strLt a a = false := bl_irrefl _
theorem strLt_total {a b : ByteArray} (h : strLt a b = false) (h' : strLt b a = false) : a = b := bytes_inj (bl_total _ _ h h')

noncomputable def allNames : List ByteArray → Bool
  | [] => true
  | s :: r => nameOk s && allNames r
theorem allNames_iff {xs : List ByteArray} : allNames xs = true ↔ ∀ (j : Nat) (x : ByteArray), xs[j]? = some x → nameOk x = true := by
  induction xs with
  | nil => simp [allNames]
  | cons a r ih =>
    simp only [allNames, Bool.and_eq_true, ih]
    constructor
    · rintro ⟨h1, h2⟩ j x hj
      cases j with
      | zero => simp at hj; subst hj; exact h1
      | succ j => exact h2 j x (by simpa using hj)
    · intro h
      exact ⟨h 0 a rfl, fun j x hj => h (j + 1) x (by simpa using hj)⟩
theorem allNames_bad {xs : List ByteArray} {j : Nat} {x : ByteArray} (hj : xs[j]? = some x) (h : nameOk x = false) : allNames xs = false := by
  cases hc : allNames xs with
  | false => rfl
  | true => have := allNames_iff.1 hc j x hj; rw [h] at this; cases this

def lexLt : List ByteArray → List ByteArray → Bool
  | _, [] => false
  | [], _ :: _ => true
  | a :: r, b :: q => if a = b then lexLt r q else strLt a b

/-- The path b lies at or under a. -/
def within (b a : List ByteArray) : Bool := decide (a.length ≤ b.length ∧ b.take a.length = a)


section
variable {w0 : World} {σ : Vw}

theorem pBin_slt {P : Program} {T : Nat} {a b : ByteArray} {K : Value → Prop} : pBin P T .lss (.string a) (.string b) K ↔ K (.bool (strLt a b)) := pBin_s rfl
theorem RSl.at1 {v : Value} {xs : List ByteArray} (h : RSl 1 RS (Av.get w0 σ) v xs) {j : Nat} {x : ByteArray} (hj : xs[j]? = some x) {K : (Nat → Value) → Prop} (hK : ∀ g : Nat → Value, g 0 = .string x → x.size ≤ 9223372036854775807 → K g) :
    pIndexAddr 1 v (.int .i64 j) fun p => pLoad w0 1 p σ K := by
  refine h.at hj fun g hg => ?_
  obtain ⟨hg, hs⟩ := hg
  simp only [expl, List.cons.injEq, and_true] at hg
  exact hK g hg hs

theorem spec_PathOk {v : Value} {xs : List ByteArray} (h : RSl 1 RS (Av.get w0 σ) v xs) {R : Value → Vw → Prop} (hR : R (.bool (allNames xs && inB xs.length 1 4)) σ) : AC Try.prog w0 n_spec_l2PathOk [v] σ R := by
  refine ac_spec_l2PathOk ?_
  unfold vc_spec_l2PathOk
  have hl := h.le
  refine loop_rule (m := xs.length) (fun m l t => ∃ j, t = σ ∧ m + j = xs.length ∧ (∀ (i : Nat) (x : ByteArray), i < j → xs[i]? = some x → nameOk x = true) ∧ l = [v, .bool false, .int .i64 (j : Nat)]) ?_ ⟨0, rfl, by omega, fun i x h => by omega, rfl⟩
  rintro m l t L ⟨j, rfl, hm, ht, rfl⟩ hL
  simp only [vget, List.getD_cons_zero, List.getD_cons_succ]
  rw [h.len, pBin_lt, pIf_d]
  refine ⟨fun hj => ?_, fun hj => ?_⟩
  · have hj' : j < xs.length := by omega
    have hx := List.getElem?_eq_getElem hj'
    refine RSl.at1 h hx fun g hg hs => ?_
    rw [hg]
    refine spec_nameOk hs ?_
    rw [pUn_not, pIf_b]
    refine ⟨fun hb => ?_, fun hb => ?_⟩
    · rw [allNames_bad hx (by simpa using hb)] at hR; exact hR
    · rw [pBin_add (by omega)]
      refine hL _ _ (m - 1) (by omega) ⟨j + 1, rfl, by omega, fun i x hi he => ?_, rfl⟩
      by_cases e : i = j
      · subst e; rw [hx] at he; cases he; simpa using hb
      · exact ht i x (by omega) he
  · have hj' : j = xs.length := by omega
    subst hj'
    show pLen v _
    rw [h.len]
    refine spec_In ?_
    rw [allNames_iff.2 fun i x he => ht i x (List.getElem?_eq_some_iff.1 he).1 he] at hR
    exact hR

end
end Go.Proofs.Ytkbhjejalkbogaa

/- Paths: their order, what lies within what; marks. -/
set_option linter.unusedVariables false
set_option linter.unusedSimpArgs false
namespace Go.Proofs.Ytkbhjejalkbogaa
open Go Go.Av

section
variable {w0 : World} {σ : Vw}

theorem within_false {xs ys : List ByteArray} {j : Nat} {a b : ByteArray} (hx : xs[j]? = some a) (hy : ys[j]? = some b) (h : a ≠ b) : within xs ys = false := by
  unfold within
  simp only [decide_eq_false_iff_not]
  rintro ⟨h1, h2⟩
  have hlt := (List.getElem?_eq_some_iff.1 hy).1
  rw [← h2, List.getElem?_take_of_lt hlt, hx] at hy
  cases hy; exact h rfl

theorem spec_Within {v v' : Value} {xs ys : List ByteArray} (h : RSl 1 RS (Av.get w0 σ) v xs) (h' : RSl 1 RS (Av.get w0 σ) v' ys) {R : Value → Vw → Prop} (hR : R (.bool (within xs ys)) σ) : AC Try.prog w0 n_spec_l2Within [v, v'] σ R := by
  refine ac_spec_l2Within ?_
  unfold vc_spec_l2Within
  have hl := h'.le
  rw [h.len, h'.len, pBin_lt, pIf_d]
  refine ⟨fun hlt => ?_, fun hge => ?_⟩
  · have : within xs ys = false := by unfold within; simp; omega
    rw [this] at hR; exact hR
  refine loop_rule (m := ys.length) (fun m l t => ∃ j, t = σ ∧ m + j = ys.length ∧ xs.take j = ys.take j ∧ l = [v, v', .bool false, .int .i64 (j : Nat)]) ?_ ⟨0, rfl, by omega, by simp, rfl⟩
  rintro m l t L ⟨j, rfl, hm, ht, rfl⟩ hL
  simp only [vget, List.getD_cons_zero, List.getD_cons_succ]
  rw [h'.len, pBin_lt, pIf_d]
  refine ⟨fun hj => ?_, fun hj => ?_⟩
  · have hx := List.getElem?_eq_getElem (show j < xs.length by omega)
    have hy' := List.getElem?_eq_getElem (show j < ys.length by omega)
    refine RSl.at1 h hx fun g hg hs => ?_
    refine RSl.at1 h' hy' fun g' hg' hs' => ?_
    rw [hg, hg', pBin_sne, pIf_d]
    refine ⟨fun hne => ?_, fun heq => ?_⟩
    · rw [within_false hx hy' hne] at hR; exact hR
    · have heq' := Decidable.not_not.1 heq
      rw [pBin_add (by omega)]
      exact hL _ _ (m - 1) (by omega) ⟨j + 1, rfl, by omega, by rw [List.take_add_one, List.take_add_one, hx, hy', ht, heq'], rfl⟩
  · have hj' : j = ys.length := by omega
    subst hj'
    rw [List.take_length] at ht
    have : within xs ys = true := by unfold within; simp [ht]; omega
    rw [this] at hR; exact hR

end
end Go.Proofs.Ytkbhjejalkbogaa

/- Trails: when one is sound; the law 'TrailOk', of the functions alone. -/
set_option linter.unusedVariables false
set_option linter.unusedSimpArgs false
namespace Go.Proofs.Ytkbhjejalkbogaa
open Go Go.Av

def underB (ms : List Mk) (p : List ByteArray) : Bool := ms.any fun m => m.2 && within p m.1
section
variable {w0 : World} {σ : Vw}

theorem RSl.take {α : Type} {n : Nat} {Rl : (Addr → Option Value) → List Value → α → Prop} {v : Value} {xs : List α} (h : RSl n Rl (Av.get w0 σ) v xs) {j : Nat} (hj : j ≤ xs.length) {K : Value → Prop} (hK : ∀ v', RSl n Rl (Av.get w0 σ) v' (xs.take j) → K v') : pSlice n v none (some (.int .i64 j)) K := by
  obtain ⟨A, cap, rfl, hc, h3⟩ := h
  refine ⟨A, xs.length, cap, 0, j, rfl, rfl, rfl, by omega, by omega, by omega, hK _ ?_⟩
  have hl : (xs.take j).length = j := by simp; omega
  refine ⟨if cap = (0 : Int).toNat then A else A.map (·.add ((0 : Int).toNat * n)), cap - (0 : Int).toNat, by rw [hl]; simp, ⟨by rw [hl]; simp; omega, by simp; omega⟩, fun i x hi => ?_⟩
  have hij : i < j := by have := (List.getElem?_eq_some_iff.1 hi).1; rw [hl] at this; exact this
  rw [List.getElem?_take_of_lt hij] at hi
  obtain ⟨a, es, rfl, h5, h6, h7⟩ := h3 i x hi
  refine ⟨a, es, ?_, h5, h6, h7⟩
  split
  · rfl
  · simp [Addr.add]

theorem under_hit {ms : List Mk} {p : List ByteArray} {j : Nat} {x : Mk} (h : ms[j]? = some x) (h1 : x.2 = true) (h2 : within p x.1 = true) : underB ms p = true := by
  simp only [underB, List.any_eq_true]
  exact ⟨x, List.mem_of_getElem? h, by simp [h1, h2]⟩

end
end Go.Proofs.Ytkbhjejalkbogaa

/- The law 'TrailOk', of the functions alone. -/
set_option linter.unusedVariables false
set_option linter.unusedSimpArgs false
namespace Go.Proofs.Ytkbhjejalkbogaa
open Go Go.Av

section
variable {w0 : World} {σ : Vw}

theorem sumBy_mem {α : Type} {f : α → Nat} : ∀ {xs : List α} {x : α}, x ∈ xs → f x ≤ sumBy f xs
  | a :: r, x, h => by
    simp only [sumBy]
    rcases List.mem_cons.1 h with e | e
    · subst e; omega
    · have := sumBy_mem (f := f) e; omega

end
end Go.Proofs.Ytkbhjejalkbogaa

/- Trees: what is read of one; their size, their copy, their comparison. -/
set_option linter.unusedVariables false
set_option linter.unusedSimpArgs false
namespace Go.Proofs.Ytkbhjejalkbogaa
open Go Go.Av

inductive Tr where
  | mk (dir : Bool) (mode : Int) (text : ByteArray) (names : List ByteArray) (kids : List Tr)
noncomputable instance : DecidableEq Tr := fun _ _ => Classical.propDecidable _

/-- What is read: n bounds the depth. -/
def RT : Nat → (Addr → Option Value) → List Value → Tr → Prop
  | 0, _, _, _ => False
  | n + 1, rd, es, .mk d m t ns ks => ∃ u w, es = [.bool d, .int .i64 m, .string t, u, w] ∧ (-9223372036854775808 ≤ m ∧ m ≤ 9223372036854775807) ∧ t.size ≤ 9223372036854775807 ∧ RSl 1 RS rd u ns ∧ RSl 5 (RT n) rd w ks
def OT (w0 : World) : Nat → Vw → List Nat → List Value → Tr → Prop
  | 0, _, _, _, _ => False
  | n + 1, σ, F, es, .mk d m t ns ks => ∃ u w F1 F2, es = [.bool d, .int .i64 m, .string t, u, w] ∧ (-9223372036854775808 ≤ m ∧ m ≤ 9223372036854775807) ∧ t.size ≤ 9223372036854775807 ∧ OStrs w0 σ F1 u ns ∧ OSl w0 5 (OT w0 n) σ F2 w ks ∧ F = F1 ++ F2 ∧ F.Nodup
def szT : Nat → Tr → Nat
  | 0, _ => 0
  | n + 1, .mk d m t ns ks => t.size + (ns.length + sumS ns) + (ks.length + sumBy (szT n) ks)

theorem mono_rt : ∀ (n : Nat) (rd rd' : Addr → Option Value) (es : List Value) (x : Tr), Le rd rd' → RT n rd es x → RT n rd' es x
  | 0, _, _, _, _, _, h => h
  | n + 1, rd, rd', es, .mk d m t ns ks, hl, h => by
    obtain ⟨u, w, h1, h2, h3, h4, h5⟩ := h
    exact ⟨u, w, h1, h2, h3, h4.mono hl fun _ _ h => h, h5.mono hl fun es x => mono_rt n _ _ es x hl⟩

section
variable {w0 : World} {σ : Vw}

theorem ok_rt (w0 : World) : ∀ n, OOk w0 5 (RT n) (OT w0 n)
  | 0 => ⟨fun _ _ _ _ h => h.elim, fun _ _ _ _ _ h => h.elim, fun _ _ _ _ h => h.elim, fun _ _ _ _ h => h.elim, fun _ _ _ _ h => h.elim, fun _ _ _ _ h => h.elim⟩
  | n + 1 => by
    have ih := ok_rt w0 n
    refine ⟨?_, ?_, ?_, ?_, ?_, ?_⟩
    · rintro σ F es ⟨d, m, t, ns, ks⟩ ⟨u, w, F1, F2, h1, h2, h3, h4, h5, h6, h7⟩
      exact ⟨u, w, h1, h2, h3, h4.rel (ok_str w0), h5.rel ih⟩
    · rintro σ σ' F es ⟨d, m, t, ns, ks⟩ ⟨u, w, F1, F2, h1, h2, h3, h4, h5, h6, h7⟩ hF
      subst h6
      exact ⟨u, w, F1, F2, h1, h2, h3, h4.frame (ok_str w0) fun b hb => hF b (List.mem_append_left _ hb), h5.frame ih fun b hb => hF b (List.mem_append_right _ hb), rfl, h7⟩
    · rintro σ F es ⟨d, m, t, ns, ks⟩ ⟨u, w, F1, F2, h1, h2, h3, h4, h5, h6, h7⟩ b hb
      subst h6
      rcases List.mem_append.1 hb with h | h
      · exact h4.dom (ok_str w0) b h
      · exact h5.dom ih b h
    · rintro σ F es ⟨d, m, t, ns, ks⟩ ⟨u, w, F1, F2, h1, h2, h3, h4, h5, h6, h7⟩; exact h7
    · rintro σ F es ⟨d, m, t, ns, ks⟩ ⟨u, w, F1, F2, rfl, h2, h3, h4, h5, h6, h7⟩; rfl
    · rintro σ F es ⟨d, m, t, ns, ks⟩ ⟨u, w, F1, F2, rfl, h2, h3, h4, h5, h6, h7⟩ c hc
      simp at hc
      rcases hc with rfl | rfl | rfl | rfl | rfl
      · rfl
      · rfl
      · rfl
      · exact OSl.one' h4
      · exact OSl.one' h5

theorem pVal_5 {a b c d e : Value} {A : Prop} (h1 : a.oneCell' = true) (h2 : b.oneCell' = true) (h3 : c.oneCell' = true) (h4 : d.oneCell' = true) (h5 : e.oneCell' = true) : pVal true 5 (.agg ⟨[a, b, c, d, e]⟩) A ↔ A := pValN rfl (by simp [h1, h2, h3, h4, h5])

end
end Go.Proofs.Ytkbhjejalkbogaa

/- Trees: their copy, their comparison. -/
set_option linter.unusedVariables false
set_option linter.unusedSimpArgs false
namespace Go.Proofs.Ytkbhjejalkbogaa
open Go Go.Av

section
variable {w0 : World}

/-- No list in it is too long. -/
def fitT : Nat → Tr → Prop
  | 0, _ => True
  | n + 1, .mk d m t ns ks => ns.length ≤ 1000000000000 ∧ ks.length ≤ 1000000000000 ∧ ∀ k, k ∈ ks → fitT n k
theorem fit_of : ∀ (n : Nat) (x : Tr), szT n x ≤ 1000000000000 → fitT n x
  | 0, _, _ => trivial
  | n + 1, .mk d m t ns ks, h => by
    simp only [szT] at h
    refine ⟨by omega, by omega, fun k hk => fit_of n k ?_⟩
    have := sumBy_mem (f := szT n) hk
    omega

end
end Go.Proofs.Ytkbhjejalkbogaa

/- Trees: when one is sound. -/
set_option linter.unusedVariables false
set_option linter.unusedSimpArgs false
namespace Go.Proofs.Ytkbhjejalkbogaa
open Go Go.Av

def prevLt (ns : List ByteArray) (j : Nat) (x : ByteArray) : Bool :=
  match j with
  | 0 => true
  | i + 1 => match ns[i]? with
    | some y => strLt y x
    | none => true
noncomputable def nameAt (ns : List ByteArray) (j : Nat) (x : ByteArray) : Bool := nameOk x && prevLt ns j x
def namesP (ns : List ByteArray) : Prop := ∀ (j : Nat) (x : ByteArray), ns[j]? = some x → nameAt ns j x = true
open Classical in
noncomputable def plainB : Tr → Bool
  | .mk d m t ns ks => inB m 0 7 && (decide (ns.length = ks.length) && (if d = true then decide (namesP ns) && decide (t = ⟨#[]⟩) else decide (t.size ≤ 24) && decide (ns.length = 0)))
def allB {α : Type} (p : α → Bool) : List α → Bool
  | [] => true
  | a :: r => p a && allB p r
theorem allB_iff {α : Type} {p : α → Bool} {xs : List α} : allB p xs = true ↔ ∀ (j : Nat) (x : α), xs[j]? = some x → p x = true := by
  induction xs with
  | nil => simp [allB]
  | cons a r ih =>
    simp only [allB, Bool.and_eq_true, ih]
    constructor
    · rintro ⟨h1, h2⟩ j x hj
      cases j with
      | zero => simp at hj; subst hj; exact h1
      | succ j => exact h2 j x (by simpa using hj)
    · intro h
      exact ⟨h 0 a rfl, fun j x hj => h (j + 1) x (by simpa using hj)⟩
theorem allB_bad {α : Type} {p : α → Bool} {xs : List α} {j : Nat} {x : α} (hj : xs[j]? = some x) (h : p x = false) : allB p xs = false := by
  cases hc : allB p xs with
  | false => rfl
  | true => have := allB_iff.1 hc j x hj; rw [h] at this; cases this
noncomputable def soundB : Nat → Tr → Int → Bool
  | 0, _, _ => false
  | n + 1, .mk d m t ns ks, k => plainB (.mk d m t ns ks) && (decide (k ≤ 4) && allB (fun x => soundB n x (k + 1)) ks)

section
variable {w0 : World} {σ : Vw}

theorem pBin_sge {P : Program} {T : Nat} {a b : ByteArray} {K : Value → Prop} : pBin P T .geq (.string a) (.string b) K ↔ K (.bool (!strLt a b)) := pBin_s rfl

theorem spec_Plain {n : Nat} {es : List Value} {x : Tr} {R : Value → Vw → Prop} (h : RT n (Av.get w0 σ) es x) (hR : R (.bool (plainB x)) σ) : AC Try.prog w0 n_spec_l1Plain [.agg ⟨es⟩] σ R := by
  obtain _ | n := n
  · exact h.elim
  obtain ⟨d, m, t, ns, ks⟩ := x
  obtain ⟨u, w, rfl, h2, h3, h4, h5⟩ := h
  refine ac_spec_l1Plain ?_
  unfold vc_spec_l1Plain
  have hl := h4.le
  rw [pVal_5 rfl rfl rfl h4.one h5.one]
  simp only [cellOf_agg, List.getD_cons_zero, List.getD_cons_succ]
  refine spec_In ?_
  rw [pUn_not, pIf_b]
  refine ⟨fun hb => ?_, fun hm => ?_⟩
  · have : plainB (.mk d m t ns ks) = false := by simp at hb; simp [plainB, hb]
    rw [this] at hR; exact hR
  have hm' : inB m 0 7 = true := by simpa using hm
  rw [h4.len, h5.len, pBin_ne, pIf_d]
  refine ⟨fun hne => ?_, fun heq => ?_⟩
  · have : plainB (.mk d m t ns ks) = false := by
      have : ¬ ns.length = ks.length := by omega
      simp [plainB, this]
    rw [this] at hR; exact hR
  have heq' : ns.length = ks.length := by omega
  rw [pUn_not, pIf_b]
  refine ⟨fun hd => ?_, fun hd => ?_⟩
  · have hd' : d = false := by simpa using hd
    subst hd'
    have hp : plainB (.mk false m t ns ks) = (decide (t.size ≤ 24) && decide (ns.length = 0)) := by simp [plainB, hm', heq']
    rw [hp] at hR
    rw [pLenS_s, pBin_le, pIf_d]
    refine ⟨fun ht => ?_, fun ht => ?_⟩
    · rw [h4.len, pBin_eq]
      have e1 : decide (t.size ≤ 24) = true := by simp; omega
      have e2 : decide (ns.length = 0) = decide ((ns.length : Int) = 0) := by congr 1; apply propext; omega
      rw [e1, e2] at hR; exact hR
    · have e1 : decide (t.size ≤ 24) = false := by simp; omega
      rw [e1] at hR; exact hR
  · have hd' : d = true := by simpa using hd
    subst hd'
    have hp : ∀ b, b = plainB (.mk true m t ns ks) → R (.bool b) σ := fun b e => e ▸ hR
    refine loop_rule (m := ns.length) (fun k l s => ∃ j, s = σ ∧ k + j = ns.length ∧ (∀ (i : Nat) (x : ByteArray), i < j → ns[i]? = some x → nameAt ns i x = true) ∧ l = [.bool false, .int .i64 (j : Nat), .bool true, .int .i64 m, .string t, u, w]) ?_ ⟨0, rfl, by omega, fun i x h => by omega, rfl⟩
    rintro k l s L ⟨j, rfl, hk, ht, rfl⟩ hL
    simp only [vget, List.getD_cons_zero, List.getD_cons_succ]
    rw [h4.len, pBin_lt, pIf_d]
    refine ⟨fun hj => ?_, fun hj => ?_⟩
    · have hx := List.getElem?_eq_getElem (show j < ns.length by omega)
      generalize hxj : ns[j] = x at hx
      have bad : nameAt ns j x = false → R (.bool false) s := fun hb => hp false (by
        have : ¬ namesP ns := fun hh => by rw [hh j x hx] at hb; cases hb
        simp [plainB, this])
      have next : nameAt ns j x = true → L [.bool false, .int .i64 ((j : Int) + 1), .bool true, .int .i64 m, .string t, u, w] s := fun hg => hL _ _ (k - 1) (by omega) ⟨j + 1, rfl, by omega, fun i y hi he => by
        by_cases e : i = j
        · subst e; rw [hx] at he; cases he; exact hg
        · exact ht i y (by omega) he, rfl⟩
      refine RSl.at1 h4 hx fun g hg hs => ?_
      rw [hg]
      refine spec_nameOk hs ?_
      rw [pUn_not, pIf_b]
      refine ⟨fun hb => bad (by simp at hb; simp [nameAt, hb]), fun hg => ?_⟩
      have hg' : nameOk x = true := by simpa using hg
      rw [pBin_gt, pIf_d]
      refine ⟨fun hpos => ?_, fun h0 => ?_⟩
      · obtain ⟨i, rfl⟩ : ∃ i, j = i + 1 := ⟨j - 1, by omega⟩
        rw [pBin_sub (by omega)]
        have hy := List.getElem?_eq_getElem (show i < ns.length by omega)
        generalize hyi : ns[i] = y at hy
        rw [show ((i + 1 : Nat) : Int) - 1 = (i : Nat) by omega]
        refine RSl.at1 h4 hy fun g2 hg2 hs2 => ?_
        refine RSl.at1 h4 hx fun g3 hg3 hs3 => ?_
        have hpl : prevLt ns (i + 1) x = strLt y x := by simp [prevLt, hy]
        rw [hg2, hg3, pBin_sge, pIf_b]
        refine ⟨fun hb => bad (by simp at hb; simp [nameAt, hpl, hb]), fun hb => ?_⟩
        rw [pBin_add (by omega)]
        exact next (by simp at hb; simp [nameAt, hg', hpl, hb])
      · have : j = 0 := by omega
        subst this
        rw [pBin_add (by omega)]
        exact next (by simp [nameAt, hg', prevLt])
    · have hj' : j = ns.length := by omega
      subst hj'
      show pBin Try.prog 9 .eql (.string t) (.string ⟨#[]⟩) _
      rw [pBin_seq]
      refine hp _ ?_
      have : namesP ns := fun i x he => ht i x (List.getElem?_eq_some_iff.1 he).1 he
      simp [plainB, hm', heq', this]
end
end Go.Proofs.Ytkbhjejalkbogaa

/- Trees: sound by either reading. -/
set_option linter.unusedVariables false
set_option linter.unusedSimpArgs false
namespace Go.Proofs.Ytkbhjejalkbogaa
open Go Go.Av

section
variable {w0 : World}

theorem spec_Parts : ∀ (n : Nat) {σ : Vw} {es : List Value} {x : Tr} {k : Int} {R : Value → Vw → Prop}, RT n (Av.get w0 σ) es x → (0 ≤ k ∧ k ≤ 5) → R (.bool (soundB n x k)) σ → AC Try.prog w0 n_spec_l1Parts [.agg ⟨es⟩, .int .i64 k] σ R
  | 0, _, _, _, _, _, h, _, _ => h.elim
  | n + 1, σ, es, .mk d m t ns ks, k, R, h, hk, hR => by
    have h0 := h
    obtain ⟨u, w, rfl, h2, h3, h4, h5⟩ := h
    refine ac_spec_l1Parts ?_
    unfold vc_spec_l1Parts
    have hl := h5.le
    rw [pVal_5 rfl rfl rfl h4.one h5.one]
    simp only [cellOf_agg, List.getD_cons_zero, List.getD_cons_succ]
    refine spec_Plain h0 ?_
    rw [pUn_not, pIf_b]
    refine ⟨fun hb => ?_, fun hg => ?_⟩
    · have : soundB (n + 1) (.mk d m t ns ks) k = false := by simp at hb; simp [soundB, hb]
      rw [this] at hR; exact hR
    have hg' : plainB (.mk d m t ns ks) = true := by simpa using hg
    rw [pBin_gt, pIf_d]
    refine ⟨fun hb => ?_, fun hle => ?_⟩
    · have : soundB (n + 1) (.mk d m t ns ks) k = false := by
        have : ¬ k ≤ 4 := by omega
        simp [soundB, this]
      rw [this] at hR; exact hR
    have hle' : k ≤ 4 := by omega
    have hs : soundB (n + 1) (.mk d m t ns ks) k = allB (fun x => soundB n x (k + 1)) ks := by simp [soundB, hg', hle']
    rw [hs] at hR
    refine loop_rule (m := ks.length) (fun c l s => ∃ j, s = σ ∧ c + j = ks.length ∧ (∀ (i : Nat) (x : Tr), i < j → ks[i]? = some x → soundB n x (k + 1) = true) ∧ l = [.int .i64 k, .bool false, .int .i64 (j : Nat), .bool d, .int .i64 m, .string t, u, w]) ?_ ⟨0, rfl, by omega, fun i x h => by omega, rfl⟩
    rintro c l s L ⟨j, rfl, hc, ht, rfl⟩ hL
    simp only [vget, List.getD_cons_zero, List.getD_cons_succ]
    rw [h5.len, pBin_lt, pIf_d]
    refine ⟨fun hj => ?_, fun hj => ?_⟩
    · have hx := List.getElem?_eq_getElem (show j < ks.length by omega)
      generalize hxj : ks[j] = x at hx
      refine h5.at hx fun g hg => ?_
      rw [pBin_add (by omega)]
      refine spec_Parts n (x := x) hg (by omega) ?_
      rw [pUn_not, pIf_b]
      refine ⟨fun hb => ?_, fun hb => ?_⟩
      · rw [allB_bad hx (by simpa using hb)] at hR; exact hR
      · rw [pBin_add (by omega)]
        refine hL _ _ (c - 1) (by omega) ⟨j + 1, rfl, by omega, fun i y hi he => ?_, rfl⟩
        by_cases e : i = j
        · subst e; rw [hx] at he; cases he; simpa using hb
        · exact ht i y (by omega) he
    · have hj' : j = ks.length := by omega
      subst hj'
      rw [allB_iff.2 fun i x he => ht i x (List.getElem?_eq_some_iff.1 he).1 he] at hR
      exact hR
end
end Go.Proofs.Ytkbhjejalkbogaa

/- Trees: sound by the program's own reading. -/
set_option linter.unusedVariables false
set_option linter.unusedSimpArgs false
namespace Go.Proofs.Ytkbhjejalkbogaa
open Go Go.Av

section
variable {w0 : World}

theorem impl_sound : ∀ (n : Nat) {σ : Vw} {es : List Value} {x : Tr} {k : Int} {R : Value → Vw → Prop}, RT n (Av.get w0 σ) es x → (0 ≤ k ∧ k ≤ 5) → R (.bool (soundB n x k)) σ → AC Try.prog w0 n_impl_Tree_sound [.agg ⟨es⟩, .int .i64 k] σ R
  | 0, _, _, _, _, _, h, _, _ => h.elim
  | n + 1, σ, es, .mk d m t ns ks, k, R, h, hk, hR => by
    have h0 := h
    obtain ⟨u, w, rfl, h2, h3, h4, h5⟩ := h
    refine ac_impl_Tree_sound ?_
    unfold vc_impl_Tree_sound
    have hl := h4.le
    rw [pVal_5 rfl rfl rfl h4.one h5.one]
    simp only [cellOf_agg, List.getD_cons_zero, List.getD_cons_succ]
    have no : soundB (n + 1) (.mk d m t ns ks) k = false → R (.bool false) σ := fun e => by rw [e] at hR; exact hR
    refine ac_impl_modeOk ?_
    unfold vc_impl_modeOk
    refine impl_within ?_
    show pUn .not (.bool _) _
    rw [pUn_not, pIf_b]
    refine ⟨fun hb => no (by simp at hb; simp [soundB, plainB, hb]), fun hm => ?_⟩
    have hm' : inB m 0 7 = true := by simpa using hm
    rw [pBin_gt, pIf_d]
    refine ⟨fun hb => no (by have : ¬ k ≤ 4 := by omega
                             simp [soundB, this]), fun hle => ?_⟩
    have hle' : k ≤ 4 := by omega
    rw [h4.len, h5.len, pBin_ne, pIf_d]
    refine ⟨fun hne => no (by have : ¬ ns.length = ks.length := by omega
                              simp [soundB, plainB, this]), fun heq => ?_⟩
    have heq' : ns.length = ks.length := by omega
    rw [pUn_not, pIf_b]
    refine ⟨fun hd => ?_, fun hd => ?_⟩
    · have hd' : d = false := by simpa using hd
      subst hd'
      rw [pLenS_s, pBin_le, pIf_d]
      refine ⟨fun htx => ?_, fun htx => no (by have : ¬ t.size ≤ 24 := by omega
                                               simp [soundB, plainB, this])⟩
      rw [h4.len, pBin_eq]
      have e : soundB (n + 1) (.mk false m t ns ks) k = decide ((ns.length : Int) = 0) := by
        have e1 : t.size ≤ 24 := by omega
        by_cases hz : ns.length = 0
        · have hkz : ks = [] := List.length_eq_zero_iff.1 (by omega)
          have hnz : ns = [] := List.length_eq_zero_iff.1 hz
          subst hkz hnz
          simp [soundB, plainB, hm', hle', e1, allB]
        · have hz' : ¬ ((ns.length : Int) = 0) := by omega
          have hz2 : ¬ (ks.length = 0) := by omega
          simp [soundB, plainB, heq', hz', hz2]
      rw [e] at hR; exact hR
    · have hd' : d = true := by simpa using hd
      subst hd'
      rw [pBin_sne, pIf_d]
      refine ⟨fun htx => no (by simp [soundB, plainB, htx]), fun htx => ?_⟩
      have htx' := Decidable.not_not.1 htx
      rw [h4.len]
      refine loop_rule (m := ns.length) (fun c l s => ∃ j, s = σ ∧ c + j = ns.length ∧ (∀ (i : Nat) (x : ByteArray), i < j → ns[i]? = some x → nameAt ns i x = true) ∧ (∀ (i : Nat) (x : Tr), i < j → ks[i]? = some x → soundB n x (k + 1) = true) ∧ l = [.int .i64 k, .bool false, u, .int .i64 ns.length, .int .i64 (j : Nat), .bool true, .int .i64 m, .string t, u, w]) ?_ ⟨0, rfl, by omega, fun i x h => by omega, fun i x h => by omega, rfl⟩
      rintro c l s L ⟨j, rfl, hc, ht, hkd, rfl⟩ hL
      simp only [vget, List.getD_cons_zero, List.getD_cons_succ]
      rw [pBin_lt, pIf_d]
      refine ⟨fun hj => ?_, fun hj => ?_⟩
      · have hx := List.getElem?_eq_getElem (show j < ns.length by omega)
        generalize hxj : ns[j] = x at hx
        have hkk := List.getElem?_eq_getElem (show j < ks.length by omega)
        generalize hkj : ks[j] = kid at hkk
        have bad : nameAt ns j x = false → R (.bool false) s := fun hb => no (by
          have : ¬ namesP ns := fun hh => by rw [hh j x hx] at hb; cases hb
          simp [soundB, plainB, this])
        have last : nameAt ns j x = true → pIndexAddr 5 w (.int .i64 j) (fun v35 => pLoad w0 5 v35 s (fun g36 => pBin Try.prog 3 .add (.int .i64 k) (.int .i64 1) (fun v37 => AC Try.prog w0 n_impl_Tree_sound [.agg ⟨[g36 0, g36 1, g36 2, g36 3, g36 4]⟩, v37] s (fun v38 s39 => pUn .not v38 (fun v40 => pIf v40 (R (.bool false) s39) (pBin Try.prog 3 .add (.int .i64 j) (.int .i64 1) (fun v41 => L [.int .i64 k, .bool false, u, .int .i64 ns.length, v41, .bool true, .int .i64 m, .string t, u, w] s39))))))) := by
          intro hgood
          refine h5.at hkk fun g hg => ?_
          rw [pBin_add (by omega)]
          refine impl_sound n (x := kid) hg (by omega) ?_
          rw [pUn_not, pIf_b]
          refine ⟨fun hb => no ?_, fun hb => ?_⟩
          · have := allB_bad (p := fun x => soundB n x (k + 1)) hkk (by simpa using hb)
            simp [soundB, this]
          · rw [pBin_add (by omega)]
            refine hL _ _ (c - 1) (by omega) ⟨j + 1, rfl, by omega, fun i y hi he => ?_, fun i y hi he => ?_, rfl⟩
            · by_cases e : i = j
              · subst e; rw [hx] at he; cases he; exact hgood
              · exact ht i y (by omega) he
            · by_cases e : i = j
              · subst e; rw [hkk] at he; cases he; simpa using hb
              · exact hkd i y (by omega) he
        refine RSl.at1 h4 hx fun g hg hs => ?_
        rw [hg]
        refine impl_nameOk hs ?_
        rw [pUn_not, pIf_b]
        refine ⟨fun hb => bad (by simp at hb; simp [nameAt, hb]), fun hg => ?_⟩
        have hg' : nameOk x = true := by simpa using hg
        rw [pBin_gt, pIf_d]
        refine ⟨fun hpos => ?_, fun h0 => ?_⟩
        · obtain ⟨i, rfl⟩ : ∃ i, j = i + 1 := ⟨j - 1, by omega⟩
          rw [pBin_sub (by omega)]
          have hy := List.getElem?_eq_getElem (show i < ns.length by omega)
          generalize hyi : ns[i] = y at hy
          rw [show ((i + 1 : Nat) : Int) - 1 = (i : Nat) by omega]
          refine RSl.at1 h4 hy fun g2 hg2 hs2 => ?_
          have hpl : prevLt ns (i + 1) x = strLt y x := by simp [prevLt, hy]
          rw [hg2, pBin_sge, pIf_b]
          refine ⟨fun hb => bad (by simp at hb; simp [nameAt, hpl, hb]), fun hb => ?_⟩
          exact last (by simp at hb; simp [nameAt, hg', hpl, hb])
        · have : j = 0 := by omega
          subst this
          exact last (by simp [nameAt, hg', prevLt])
      · have hj' : j = ns.length := by omega
        subst hj'
        have e1 : namesP ns := fun i x he => ht i x (List.getElem?_eq_some_iff.1 he).1 he
        have e2 : allB (fun x => soundB n x (k + 1)) ks = true := allB_iff.2 fun i x he => hkd i x (by have := (List.getElem?_eq_some_iff.1 he).1; omega) he
        have e : soundB (n + 1) (.mk true m t ns ks) k = true := by simp [soundB, plainB, hm', heq', e1, htx', hle', e2]
        rw [e] at hR; exact hR
end
end Go.Proofs.Ytkbhjejalkbogaa

/- Trees: how many paths; the laws 'TreeOk' and 'TreeCount', of the functions alone. -/
set_option linter.unusedVariables false
set_option linter.unusedSimpArgs false
namespace Go.Proofs.Ytkbhjejalkbogaa
open Go Go.Av

def cntT : Nat → Tr → Nat
  | 0, _ => 0
  | n + 1, .mk d m t ns ks => ks.length + sumBy (cntT n) ks
theorem sumBy_mono {α : Type} {f g : α → Nat} : ∀ {xs : List α}, (∀ x, x ∈ xs → f x ≤ g x) → sumBy f xs ≤ sumBy g xs
  | [], _ => by simp [sumBy]
  | a :: r, h => by
    have := sumBy_mono (xs := r) fun x hx => h x (List.mem_cons_of_mem _ hx)
    have := h a List.mem_cons_self
    simp only [sumBy]; omega
theorem sumBy_one {α : Type} {f : α → Nat} : ∀ {xs : List α}, sumBy (fun x => f x + 1) xs = sumBy f xs + xs.length
  | [] => by simp [sumBy]
  | a :: r => by have := sumBy_one (f := f) (xs := r); simp only [sumBy, List.length_cons, this]; omega
theorem cnt_le : ∀ (n : Nat) (x : Tr), cntT n x ≤ szT n x
  | 0, _ => by simp [cntT, szT]
  | n + 1, .mk d m t ns ks => by
    have := sumBy_mono (xs := ks) fun x _ => cnt_le n x
    simp only [cntT, szT]; omega

section
variable {w0 : World}

theorem spec_Count : ∀ (n : Nat) {σ : Vw} {es : List Value} {x : Tr} {R : Value → Vw → Prop}, RT n (Av.get w0 σ) es x → cntT n x ≤ 1000000000000 → R (.int .i64 (cntT n x)) σ → AC Try.prog w0 n_spec_l1Count [.agg ⟨es⟩] σ R
  | 0, _, _, _, _, h, _, _ => h.elim
  | n + 1, σ, es, .mk d m t ns ks, R, h, hb, hR => by
    obtain ⟨u, w, rfl, h2, h3, h4, h5⟩ := h
    refine ac_spec_l1Count ?_
    unfold vc_spec_l1Count
    rw [pVal_5 rfl rfl rfl h4.one h5.one]
    simp only [cellOf_agg, List.getD_cons_zero, List.getD_cons_succ]
    simp only [cntT] at hb hR
    rw [h5.len]
    refine loop_rule (m := ks.length) (fun c l s => ∃ j, s = σ ∧ c + j = ks.length ∧ l = [.int .i64 ((ks.length + sumBy (cntT n) (ks.take j) : Nat) : Int), .int .i64 (j : Nat), .bool d, .int .i64 m, .string t, u, w]) ?_ ⟨0, rfl, by omega, by simp [sumBy]⟩
    rintro c l s L ⟨j, rfl, hc, rfl⟩ hL
    simp only [vget, List.getD_cons_zero, List.getD_cons_succ]
    rw [h5.len, pBin_lt, pIf_d]
    refine ⟨fun hj => ?_, fun hj => ?_⟩
    · have hx := List.getElem?_eq_getElem (show j < ks.length by omega)
      generalize hxj : ks[j] = x at hx
      refine h5.at hx fun g hg => ?_
      have ht := sumBy_take (f := cntT n) hx
      have hle := sumBy_le (f := cntT n) (xs := ks) (j + 1)
      refine spec_Count n (x := x) hg (by omega) ?_
      rw [pBin_add (by omega), pBin_add (by omega)]
      refine hL _ _ (c - 1) (by omega) ⟨j + 1, rfl, by omega, ?_⟩
      rw [ht]
      congr 2
      omega
    · have hj' : j = ks.length := by omega
      subst hj'
      rw [List.take_length]
      exact hR

theorem impl_paths : ∀ (n : Nat) {σ : Vw} {es : List Value} {x : Tr} {R : Value → Vw → Prop}, RT n (Av.get w0 σ) es x → cntT n x ≤ 1000000000000 → R (.int .i64 ((cntT n x + 1 : Nat) : Int)) σ → AC Try.prog w0 n_impl_Tree_paths [.agg ⟨es⟩] σ R
  | 0, _, _, _, _, h, _, _ => h.elim
  | n + 1, σ, es, .mk d m t ns ks, R, h, hb, hR => by
    obtain ⟨u, w, rfl, h2, h3, h4, h5⟩ := h
    refine ac_impl_Tree_paths ?_
    unfold vc_impl_Tree_paths
    rw [pVal_5 rfl rfl rfl h4.one h5.one]
    simp only [cellOf_agg, List.getD_cons_zero, List.getD_cons_succ]
    simp only [cntT] at hb hR
    rw [h5.len]
    refine loop_rule (m := ks.length) (fun c l s => ∃ j, s = σ ∧ c + j = ks.length ∧ l = [.int .i64 ((1 + sumBy (fun x => cntT n x + 1) (ks.take j) : Nat) : Int), w, .int .i64 ks.length, .int .i64 (j : Nat)]) ?_ ⟨0, rfl, by omega, by simp [sumBy]⟩
    have hsum := sumBy_one (f := cntT n) (xs := ks)
    rintro c l s L ⟨j, rfl, hc, rfl⟩ hL
    simp only [vget, List.getD_cons_zero, List.getD_cons_succ]
    rw [pBin_lt, pIf_d]
    refine ⟨fun hj => ?_, fun hj => ?_⟩
    · have hx := List.getElem?_eq_getElem (show j < ks.length by omega)
      generalize hxj : ks[j] = x at hx
      refine h5.at hx fun g hg => ?_
      have ht := sumBy_take (f := fun x => cntT n x + 1) hx
      have hle := sumBy_le (f := fun x => cntT n x + 1) (xs := ks) (j + 1)
      have hin : ∀ (A : Prop), A → pVal true 5 (.agg ⟨[g 0, g 1, g 2, g 3, g 4]⟩) A := fun A hA => ⟨⟨_, rfl, rfl, (by
        obtain _ | n := n
        · exact hg.elim
        · obtain ⟨d', m', t', ns', ks'⟩ := x
          obtain ⟨u', w', e, _, _, q4, q5⟩ := hg
          have e' : [g 0, g 1, g 2, g 3, g 4] = [.bool d', .int .i64 m', .string t', u', w'] := e
          rw [e']
          intro c hc
          simp at hc
          rcases hc with rfl | rfl | rfl | rfl | rfl
          · rfl
          · rfl
          · rfl
          · exact q4.one
          · exact q5.one)⟩, hA⟩
      refine hin _ ?_
      refine impl_paths n (x := x) hg (by omega) ?_
      rw [pBin_add (by omega), pBin_add (by omega)]
      refine hL _ _ (c - 1) (by omega) ⟨j + 1, rfl, by omega, ?_⟩
      rw [ht]
      congr 2
      omega
    · have hj' : j = ks.length := by omega
      subst hj'
      rw [List.take_length, hsum]
      show R (.int .i64 _) s
      rw [show ((1 + (sumBy (cntT n) ks + ks.length) : Nat) : Int) = ((ks.length + sumBy (cntT n) ks + 1 : Nat) : Int) by omega]
      exact hR
end
end Go.Proofs.Ytkbhjejalkbogaa

/- Trees: the laws 'TreeOk' and 'TreeCount', of the functions alone. -/
set_option linter.unusedVariables false
set_option linter.unusedSimpArgs false
namespace Go.Proofs.Ytkbhjejalkbogaa
open Go Go.Av

def isDir : Tr → Bool
  | .mk d _ _ _ _ => d
noncomputable def treeOk (n : Nat) (x : Tr) : Bool := isDir x && (soundB n x 0 && decide (cntT n x ≤ 30))
section
variable {w0 : World} {σ : Vw}

theorem RT.five {n : Nat} {rd : Addr → Option Value} {es : List Value} {x : Tr} (h : RT n rd es x) : ∃ a b c d e, es = [a, b, c, d, e] ∧ a = .bool (isDir x) ∧ ∀ A : Prop, pVal true 5 (.agg ⟨es⟩) A ↔ A := by
  obtain _ | n := n
  · exact h.elim
  · obtain ⟨d', m', t', ns', ks'⟩ := x
    obtain ⟨u', w', rfl, _, _, q4, q5⟩ := h
    exact ⟨_, _, _, _, _, rfl, rfl, fun A => pVal_5 rfl rfl rfl q4.one q5.one⟩

theorem spec_TreeOk {n : Nat} {es : List Value} {x : Tr} {R : Value → Vw → Prop} (h : RT n (Av.get w0 σ) es x) (hb : cntT n x ≤ 1000000000000) (hR : R (.bool (treeOk n x)) σ) : AC Try.prog w0 n_spec_TreeOk [.agg ⟨es⟩] σ R := by
  have h0 := h
  obtain ⟨a, b, c, d, e, rfl, rfl, hp⟩ := RT.five h
  refine ac_spec_TreeOk ?_
  unfold vc_spec_TreeOk
  rw [hp]
  simp only [cellOf_agg, List.getD_cons_zero, List.getD_cons_succ]
  rw [pIf_b]
  refine ⟨fun hd => ?_, fun hd => by simpa [treeOk, hd] using hR⟩
  refine spec_Parts n h0 (by omega) ?_
  rw [pIf_b]
  refine ⟨fun hs => ?_, fun hs => by simpa [treeOk, hs] using hR⟩
  refine spec_Count n h0 hb ?_
  rw [pBin_le]
  have : treeOk n x = decide ((cntT n x : Int) ≤ 30) := by
    simp only [treeOk, hd, hs, Bool.true_and]
    congr 1; apply propext; omega
  rw [this] at hR; exact hR

theorem impl_TreeOk {n : Nat} {es : List Value} {x : Tr} {R : Value → Vw → Prop} (h : RT n (Av.get w0 σ) es x) (hb : cntT n x ≤ 1000000000000) (hR : R (.bool (treeOk n x)) σ) : AC Try.prog w0 n_impl_TreeOk [.agg ⟨es⟩] σ R := by
  have h0 := h
  obtain ⟨a, b, c, d, e, rfl, rfl, hp⟩ := RT.five h
  refine ac_impl_TreeOk ?_
  unfold vc_impl_TreeOk
  rw [hp]
  simp only [cellOf_agg, List.getD_cons_zero, List.getD_cons_succ]
  rw [pIf_b]
  refine ⟨fun hd => ?_, fun hd => by simpa [treeOk, hd] using hR⟩
  refine impl_sound n h0 (by omega) ?_
  rw [pIf_b]
  refine ⟨fun hs => ?_, fun hs => by simpa [treeOk, hs] using hR⟩
  refine impl_paths n h0 hb ?_
  rw [pBin_le]
  have : treeOk n x = decide (((cntT n x + 1 : Nat) : Int) ≤ 31) := by
    simp only [treeOk, hd, hs, Bool.true_and]
    congr 1; apply propext; omega
  rw [this] at hR; exact hR

end
end Go.Proofs.Ytkbhjejalkbogaa

/- How a tree is opened that came with the call. -/
set_option linter.unusedVariables false
set_option linter.unusedSimpArgs false
namespace Go.Proofs.Ytkbhjejalkbogaa
open Go Go.Av Go.RowKit

theorem RT_up : ∀ (n : Nat) (rd : Addr → Option Value) (es : List Value) (x : Tr), RT n rd es x → RT (n + 1) rd es x
  | 0, _, _, _, h => h.elim
  | n + 1, rd, es, .mk d m t ns ks, h => by
    obtain ⟨u, w, h1, h2, h3, h4, h5⟩ := h
    exact ⟨u, w, h1, h2, h3, h4, h5.imp fun es x h => RT_up n rd es x h⟩
theorem RT_le {n m : Nat} (h : n ≤ m) {rd : Addr → Option Value} {es : List Value} {x : Tr} (hr : RT n rd es x) : RT m rd es x := by
  obtain ⟨k, rfl⟩ := Nat.exists_eq_add_of_le h
  clear h
  induction k with
  | zero => exact hr
  | succ k ih => exact RT_up _ _ _ _ ih

end Go.Proofs.Ytkbhjejalkbogaa
