/- The law FnExactLayerWrite holds: it returns true, and the input reads as it did. No condition. This is part 3 of 7 of its proof. -/
import Derived.Test.YtlbpnfhhoalenaaDoorXFnExactLayerWrite2

/- What each function owes, reckoned out, part 1. MADE BY PROGRAM (emit.py). -/
set_option linter.unusedVariables false
namespace Go.Proofs.YtlbpnfhhoalenaaDoor
open Go Go.Av

/-- laws.FnExactTreeShow -/
def kp_laws_FnExactTreeShow : Nat → Keep
  | 10 => ⟨[], [], [], .step 0 (.step 1 (.step 2 (.step 3 (.step 4 (.done))))), [(2, [1]), (3, [0, 1, 2]), (4, [0, 1, 2, 3])]⟩
  | _ => ⟨[], [], [], .done, []⟩
def esc_laws_FnExactTreeShow : Nat → Bool
  | _ => false
def vc_laws_FnExactTreeShow (w0 : World) (a0 : Value) (σ : Vw) (R : Value → Vw → Prop) : Prop :=
  pVal true 5 a0 (AC Tryd.prog w0 n_laws_szTree ([Value.agg (⟨[cellOf a0 0, cellOf a0 1, cellOf a0 2, cellOf a0 3, cellOf a0 4]⟩), Value.int IntKind.i64 1048576]) σ (fun v0 s1 => pBin Tryd.prog 3 BinOp.lss v0 (Value.int IntKind.i64 0) (fun v2 => pIf v2 (R (Value.bool true) s1) (AC Tryd.prog w0 n_laws_toTree ([Value.agg (⟨[cellOf a0 0, cellOf a0 1, cellOf a0 2, cellOf a0 3, cellOf a0 4]⟩)]) s1 (fun v3 s4 => AC Tryd.prog w0 n_spec_TreeShow [v3] s4 (fun v5 s6 => AC Tryd.prog w0 n_laws_toTree ([Value.agg (⟨[cellOf a0 0, cellOf a0 1, cellOf a0 2, cellOf a0 3, cellOf a0 4]⟩)]) s6 (fun v7 s8 => pVal true 5 v7 (AC Tryd.prog w0 n_impl_TreeShow ([Value.agg (⟨[cellOf v7 0, cellOf v7 1, cellOf v7 2, cellOf v7 3, cellOf v7 4]⟩)]) s8 (fun v9 s10 => pBin Tryd.prog 9 BinOp.neq v9 v5 (fun v11 => pIf v11 (R (Value.bool false) s10) (AC Tryd.prog w0 n_laws_toTree ([Value.agg (⟨[cellOf a0 0, cellOf a0 1, cellOf a0 2, cellOf a0 3, cellOf a0 4]⟩)]) s10 (fun v12 s13 => AC Tryd.prog w0 n_laws_eqTree ([Value.agg (⟨[cellOf v7 0, cellOf v7 1, cellOf v7 2, cellOf v7 3, cellOf v7 4]⟩), v12]) s13 (fun v14 s15 => pUn UnOp.not v14 (fun v16 => pIf v16 (R (Value.bool false) s15) (R (Value.bool true) s15)))))))))))))))
theorem vc_laws_FnExactTreeShow_eq (w0 : World) (a0 : Value) (σ : Vw) (R : Value → Vw → Prop) : vc_laws_FnExactTreeShow w0 a0 σ R = den Tryd.prog w0 kp_laws_FnExactTreeShow esc_laws_FnExactTreeShow (Tryd.f3.body.getD .skip) (entry Tryd.f3.ntmps [a0]) σ (retK Tryd.prog Tryd.f3.results.toList R) := by kernel_rfl
theorem ac_laws_FnExactTreeShow {w0 : World} {a0 : Value} {σ : Vw} {R : Value → Vw → Prop} (h : vc_laws_FnExactTreeShow w0 a0 σ R) : AC Tryd.prog w0 n_laws_FnExactTreeShow [a0] σ R := by
  refine ac_rule (fn := Tryd.f3) (c := Tryd.f3.body.getD .skip) kp_laws_FnExactTreeShow esc_laws_FnExactTreeShow Tryd.func3 (by kernel_rfl) (by kernel_rfl) ?_
  rw [← vc_laws_FnExactTreeShow_eq]
  exact h

/-- laws.FnExactLayerWrite -/
def kp_laws_FnExactLayerWrite : Nat → Keep
  | _ => ⟨[], [], [], .done, []⟩
def esc_laws_FnExactLayerWrite : Nat → Bool
  | _ => false
def vc_laws_FnExactLayerWrite (w0 : World) (a0 : Value) (σ : Vw) (R : Value → Vw → Prop) : Prop :=
  AC Tryd.prog w0 n_laws_szEntryS [a0, Value.int IntKind.i64 1048576] σ (fun v0 s1 => pBin Tryd.prog 3 BinOp.lss v0 (Value.int IntKind.i64 0) (fun v2 => pIf v2 (R (Value.bool true) s1) (AC Tryd.prog w0 n_laws_toEntryS [a0] s1 (fun v3 s4 => AC Tryd.prog w0 n_spec_LayerWrite [v3] s4 (fun v5 s6 => AC Tryd.prog w0 n_laws_toEntryS [a0] s6 (fun v7 s8 => AC Tryd.prog w0 n_impl_LayerWrite [v7] s8 (fun v9 s10 => pBin Tryd.prog 9 BinOp.neq v9 v5 (fun v11 => pIf v11 (R (Value.bool false) s10) (AC Tryd.prog w0 n_laws_toEntryS [a0] s10 (fun v12 s13 => AC Tryd.prog w0 n_laws_eqEntryS [v7, v12] s13 (fun v14 s15 => pUn UnOp.not v14 (fun v16 => pIf v16 (R (Value.bool false) s15) (R (Value.bool true) s15)))))))))))))
theorem vc_laws_FnExactLayerWrite_eq (w0 : World) (a0 : Value) (σ : Vw) (R : Value → Vw → Prop) : vc_laws_FnExactLayerWrite w0 a0 σ R = den Tryd.prog w0 kp_laws_FnExactLayerWrite esc_laws_FnExactLayerWrite (Tryd.f4.body.getD .skip) (entry Tryd.f4.ntmps [a0]) σ (retK Tryd.prog Tryd.f4.results.toList R) := by kernel_rfl
theorem ac_laws_FnExactLayerWrite {w0 : World} {a0 : Value} {σ : Vw} {R : Value → Vw → Prop} (h : vc_laws_FnExactLayerWrite w0 a0 σ R) : AC Tryd.prog w0 n_laws_FnExactLayerWrite [a0] σ R := by
  refine ac_rule (fn := Tryd.f4) (c := Tryd.f4.body.getD .skip) kp_laws_FnExactLayerWrite esc_laws_FnExactLayerWrite Tryd.func4 (by kernel_rfl) (by kernel_rfl) ?_
  rw [← vc_laws_FnExactLayerWrite_eq]
  exact h

/-- laws.FnExactTableId -/
def kp_laws_FnExactTableId : Nat → Keep
  | 10 => ⟨[], [], [], .step 0 (.step 1 (.step 2 (.step 3 (.step 4 (.done))))), [(2, [1]), (3, [0, 1, 2]), (4, [0, 1, 2, 3])]⟩
  | _ => ⟨[], [], [], .done, []⟩
def esc_laws_FnExactTableId : Nat → Bool
  | _ => false
def vc_laws_FnExactTableId (w0 : World) (a0 : Value) (σ : Vw) (R : Value → Vw → Prop) : Prop :=
  pVal true 5 a0 (AC Tryd.prog w0 n_laws_szTree ([Value.agg (⟨[cellOf a0 0, cellOf a0 1, cellOf a0 2, cellOf a0 3, cellOf a0 4]⟩), Value.int IntKind.i64 1048576]) σ (fun v0 s1 => pBin Tryd.prog 3 BinOp.lss v0 (Value.int IntKind.i64 0) (fun v2 => pIf v2 (R (Value.bool true) s1) (AC Tryd.prog w0 n_laws_toTree ([Value.agg (⟨[cellOf a0 0, cellOf a0 1, cellOf a0 2, cellOf a0 3, cellOf a0 4]⟩)]) s1 (fun v3 s4 => AC Tryd.prog w0 n_spec_TableId [v3] s4 (fun v5 s6 => AC Tryd.prog w0 n_laws_toTree ([Value.agg (⟨[cellOf a0 0, cellOf a0 1, cellOf a0 2, cellOf a0 3, cellOf a0 4]⟩)]) s6 (fun v7 s8 => pVal true 5 v7 (AC Tryd.prog w0 n_impl_TableId ([Value.agg (⟨[cellOf v7 0, cellOf v7 1, cellOf v7 2, cellOf v7 3, cellOf v7 4]⟩)]) s8 (fun v9 s10 => pBin Tryd.prog 3 BinOp.neq v9 v5 (fun v11 => pIf v11 (R (Value.bool false) s10) (AC Tryd.prog w0 n_laws_toTree ([Value.agg (⟨[cellOf a0 0, cellOf a0 1, cellOf a0 2, cellOf a0 3, cellOf a0 4]⟩)]) s10 (fun v12 s13 => AC Tryd.prog w0 n_laws_eqTree ([Value.agg (⟨[cellOf v7 0, cellOf v7 1, cellOf v7 2, cellOf v7 3, cellOf v7 4]⟩), v12]) s13 (fun v14 s15 => pUn UnOp.not v14 (fun v16 => pIf v16 (R (Value.bool false) s15) (R (Value.bool true) s15)))))))))))))))
theorem vc_laws_FnExactTableId_eq (w0 : World) (a0 : Value) (σ : Vw) (R : Value → Vw → Prop) : vc_laws_FnExactTableId w0 a0 σ R = den Tryd.prog w0 kp_laws_FnExactTableId esc_laws_FnExactTableId (Tryd.f5.body.getD .skip) (entry Tryd.f5.ntmps [a0]) σ (retK Tryd.prog Tryd.f5.results.toList R) := by kernel_rfl
theorem ac_laws_FnExactTableId {w0 : World} {a0 : Value} {σ : Vw} {R : Value → Vw → Prop} (h : vc_laws_FnExactTableId w0 a0 σ R) : AC Tryd.prog w0 n_laws_FnExactTableId [a0] σ R := by
  refine ac_rule (fn := Tryd.f5) (c := Tryd.f5.body.getD .skip) kp_laws_FnExactTableId esc_laws_FnExactTableId Tryd.func5 (by kernel_rfl) (by kernel_rfl) ?_
  rw [← vc_laws_FnExactTableId_eq]
  exact h

/-- laws.FnExactTrailRead -/
def kp_laws_FnExactTrailRead : Nat → Keep
  | _ => ⟨[], [], [], .done, []⟩
def esc_laws_FnExactTrailRead : Nat → Bool
  | _ => false
def vc_laws_FnExactTrailRead (w0 : World) (a0 : Value) (σ : Vw) (R : Value → Vw → Prop) : Prop :=
  pLenS a0 (fun v0 => pBin Tryd.prog 3 BinOp.gtr v0 (Value.int IntKind.i64 1048576) (fun v1 => pIf v1 (R (Value.bool true) σ) (AC Tryd.prog w0 n_spec_TrailRead [a0] σ (fun v2 s3 => pExtract v2 0 (fun v4 => pExtract v2 1 (fun v5 => AC Tryd.prog w0 n_impl_TrailRead [a0] s3 (fun v6 s7 => pExtract v6 0 (fun v8 => pExtract v6 1 (fun v9 => AC Tryd.prog w0 n_laws_eqMarkS [v8, v4] s7 (fun v10 s11 => pUn UnOp.not v10 (fun v12 => pIf v12 (R (Value.bool false) s11) (pBin Tryd.prog 4 BinOp.neq v9 v5 (fun v13 => pIf v13 (R (Value.bool false) s11) (AC Tryd.prog w0 n_laws_markMarkS [v8, Value.int IntKind.i64 1] s11 (fun v14 s15 => AC Tryd.prog w0 n_laws_heldMarkS [v8, Value.int IntKind.i64 1] s15 (fun v16 s17 => pBin Tryd.prog 3 BinOp.lss v16 (Value.int IntKind.i64 0) (fun v18 => pIf v18 (R (Value.bool false) s17) (pBin Tryd.prog 3 BinOp.neq v16 v14 (fun v19 => pIf v19 (R (Value.bool false) s17) (AC Tryd.prog w0 n_impl_TrailRead [a0] s17 (fun v20 s21 => pExtract v20 0 (fun v22 => pExtract v20 1 (fun v23 => AC Tryd.prog w0 n_laws_eqMarkS [v22, v4] s21 (fun v24 s25 => pUn UnOp.not v24 (fun v26 => pIf v26 (R (Value.bool false) s25) (pBin Tryd.prog 4 BinOp.neq v23 v5 (fun v27 => pIf v27 (R (Value.bool false) s25) (AC Tryd.prog w0 n_laws_heldMarkS [v8, Value.int IntKind.i64 1] s25 (fun v28 s29 => pBin Tryd.prog 3 BinOp.lss v28 (Value.int IntKind.i64 0) (fun v30 => pIf v30 (R (Value.bool false) s29) (pBin Tryd.prog 3 BinOp.neq v28 v14 (fun v31 => pIf v31 (R (Value.bool false) s29) (R (Value.bool true) s29)))))))))))))))))))))))))))))))))
theorem vc_laws_FnExactTrailRead_eq (w0 : World) (a0 : Value) (σ : Vw) (R : Value → Vw → Prop) : vc_laws_FnExactTrailRead w0 a0 σ R = den Tryd.prog w0 kp_laws_FnExactTrailRead esc_laws_FnExactTrailRead (Tryd.f6.body.getD .skip) (entry Tryd.f6.ntmps [a0]) σ (retK Tryd.prog Tryd.f6.results.toList R) := by kernel_rfl
theorem ac_laws_FnExactTrailRead {w0 : World} {a0 : Value} {σ : Vw} {R : Value → Vw → Prop} (h : vc_laws_FnExactTrailRead w0 a0 σ R) : AC Tryd.prog w0 n_laws_FnExactTrailRead [a0] σ R := by
  refine ac_rule (fn := Tryd.f6) (c := Tryd.f6.body.getD .skip) kp_laws_FnExactTrailRead esc_laws_FnExactTrailRead Tryd.func6 (by kernel_rfl) (by kernel_rfl) ?_
  rw [← vc_laws_FnExactTrailRead_eq]
  exact h

/-- laws.FnExactTableMake -/
def kp_laws_FnExactTableMake : Nat → Keep
  | 10 => ⟨[], [], [], .step 0 (.step 1 (.step 2 (.step 3 (.step 4 (.done))))), [(2, [1]), (3, [0, 1, 2]), (4, [0, 1, 2, 3])]⟩
  | _ => ⟨[], [], [], .done, []⟩
def esc_laws_FnExactTableMake : Nat → Bool
  | _ => false
def vc_laws_FnExactTableMake (w0 : World) (a0 : Value) (σ : Vw) (R : Value → Vw → Prop) : Prop :=
  pVal true 5 a0 (AC Tryd.prog w0 n_laws_szTree ([Value.agg (⟨[cellOf a0 0, cellOf a0 1, cellOf a0 2, cellOf a0 3, cellOf a0 4]⟩), Value.int IntKind.i64 1048576]) σ (fun v0 s1 => pBin Tryd.prog 3 BinOp.lss v0 (Value.int IntKind.i64 0) (fun v2 => pIf v2 (R (Value.bool true) s1) (AC Tryd.prog w0 n_laws_toTree ([Value.agg (⟨[cellOf a0 0, cellOf a0 1, cellOf a0 2, cellOf a0 3, cellOf a0 4]⟩)]) s1 (fun v3 s4 => AC Tryd.prog w0 n_spec_TableMake [v3] s4 (fun v5 s6 => AC Tryd.prog w0 n_laws_toTree ([Value.agg (⟨[cellOf a0 0, cellOf a0 1, cellOf a0 2, cellOf a0 3, cellOf a0 4]⟩)]) s6 (fun v7 s8 => pVal true 5 v7 (AC Tryd.prog w0 n_impl_TableMake ([Value.agg (⟨[cellOf v7 0, cellOf v7 1, cellOf v7 2, cellOf v7 3, cellOf v7 4]⟩)]) s8 (fun v9 s10 => AC Tryd.prog w0 n_laws_eqRowS [v9, v5] s10 (fun v11 s12 => pUn UnOp.not v11 (fun v13 => pIf v13 (R (Value.bool false) s12) (AC Tryd.prog w0 n_laws_toTree ([Value.agg (⟨[cellOf a0 0, cellOf a0 1, cellOf a0 2, cellOf a0 3, cellOf a0 4]⟩)]) s12 (fun v14 s15 => AC Tryd.prog w0 n_laws_eqTree ([Value.agg (⟨[cellOf v7 0, cellOf v7 1, cellOf v7 2, cellOf v7 3, cellOf v7 4]⟩), v14]) s15 (fun v16 s17 => pUn UnOp.not v16 (fun v18 => pIf v18 (R (Value.bool false) s17) (AC Tryd.prog w0 n_laws_markTree ([Value.agg (⟨[cellOf v7 0, cellOf v7 1, cellOf v7 2, cellOf v7 3, cellOf v7 4]⟩), Value.int IntKind.i64 1]) s17 (fun v19 s20 => pBin Tryd.prog 3 BinOp.lss v19 (Value.int IntKind.i64 0) (fun v21 => pIf v21 (R (Value.bool false) s20) (AC Tryd.prog w0 n_laws_eqRowS [v9, v5] s20 (fun v22 s23 => pUn UnOp.not v22 (fun v24 => pIf v24 (R (Value.bool false) s23) (AC Tryd.prog w0 n_laws_markRowS [v9, Value.int IntKind.i64 1] s23 (fun v25 s26 => AC Tryd.prog w0 n_laws_heldRowS [v9, Value.int IntKind.i64 1] s26 (fun v27 s28 => pBin Tryd.prog 3 BinOp.lss v27 (Value.int IntKind.i64 0) (fun v29 => pIf v29 (R (Value.bool false) s28) (pBin Tryd.prog 3 BinOp.neq v27 v25 (fun v30 => pIf v30 (R (Value.bool false) s28) (AC Tryd.prog w0 n_laws_toTree ([Value.agg (⟨[cellOf a0 0, cellOf a0 1, cellOf a0 2, cellOf a0 3, cellOf a0 4]⟩)]) s28 (fun v31 s32 => AC Tryd.prog w0 n_impl_TableMake [v31] s32 (fun v33 s34 => AC Tryd.prog w0 n_laws_eqRowS [v33, v5] s34 (fun v35 s36 => pUn UnOp.not v35 (fun v37 => pIf v37 (R (Value.bool false) s36) (AC Tryd.prog w0 n_laws_heldRowS [v9, Value.int IntKind.i64 1] s36 (fun v38 s39 => pBin Tryd.prog 3 BinOp.lss v38 (Value.int IntKind.i64 0) (fun v40 => pIf v40 (R (Value.bool false) s39) (pBin Tryd.prog 3 BinOp.neq v38 v25 (fun v41 => pIf v41 (R (Value.bool false) s39) (R (Value.bool true) s39))))))))))))))))))))))))))))))))))))))
theorem vc_laws_FnExactTableMake_eq (w0 : World) (a0 : Value) (σ : Vw) (R : Value → Vw → Prop) : vc_laws_FnExactTableMake w0 a0 σ R = den Tryd.prog w0 kp_laws_FnExactTableMake esc_laws_FnExactTableMake (Tryd.f7.body.getD .skip) (entry Tryd.f7.ntmps [a0]) σ (retK Tryd.prog Tryd.f7.results.toList R) := by kernel_rfl
theorem ac_laws_FnExactTableMake {w0 : World} {a0 : Value} {σ : Vw} {R : Value → Vw → Prop} (h : vc_laws_FnExactTableMake w0 a0 σ R) : AC Tryd.prog w0 n_laws_FnExactTableMake [a0] σ R := by
  refine ac_rule (fn := Tryd.f7) (c := Tryd.f7.body.getD .skip) kp_laws_FnExactTableMake esc_laws_FnExactTableMake Tryd.func7 (by kernel_rfl) (by kernel_rfl) ?_
  rw [← vc_laws_FnExactTableMake_eq]
  exact h

/-- laws.FnExactLayerRead -/
def kp_laws_FnExactLayerRead : Nat → Keep
  | _ => ⟨[], [], [], .done, []⟩
def esc_laws_FnExactLayerRead : Nat → Bool
  | _ => false
def vc_laws_FnExactLayerRead (w0 : World) (a0 : Value) (σ : Vw) (R : Value → Vw → Prop) : Prop :=
  pLenS a0 (fun v0 => pBin Tryd.prog 3 BinOp.gtr v0 (Value.int IntKind.i64 1048576) (fun v1 => pIf v1 (R (Value.bool true) σ) (AC Tryd.prog w0 n_spec_LayerRead [a0] σ (fun v2 s3 => pExtract v2 0 (fun v4 => pExtract v2 1 (fun v5 => AC Tryd.prog w0 n_impl_LayerRead [a0] s3 (fun v6 s7 => pExtract v6 0 (fun v8 => pExtract v6 1 (fun v9 => AC Tryd.prog w0 n_laws_eqEntryS [v8, v4] s7 (fun v10 s11 => pUn UnOp.not v10 (fun v12 => pIf v12 (R (Value.bool false) s11) (pBin Tryd.prog 4 BinOp.neq v9 v5 (fun v13 => pIf v13 (R (Value.bool false) s11) (AC Tryd.prog w0 n_laws_markEntryS [v8, Value.int IntKind.i64 1] s11 (fun v14 s15 => AC Tryd.prog w0 n_laws_heldEntryS [v8, Value.int IntKind.i64 1] s15 (fun v16 s17 => pBin Tryd.prog 3 BinOp.lss v16 (Value.int IntKind.i64 0) (fun v18 => pIf v18 (R (Value.bool false) s17) (pBin Tryd.prog 3 BinOp.neq v16 v14 (fun v19 => pIf v19 (R (Value.bool false) s17) (AC Tryd.prog w0 n_impl_LayerRead [a0] s17 (fun v20 s21 => pExtract v20 0 (fun v22 => pExtract v20 1 (fun v23 => AC Tryd.prog w0 n_laws_eqEntryS [v22, v4] s21 (fun v24 s25 => pUn UnOp.not v24 (fun v26 => pIf v26 (R (Value.bool false) s25) (pBin Tryd.prog 4 BinOp.neq v23 v5 (fun v27 => pIf v27 (R (Value.bool false) s25) (AC Tryd.prog w0 n_laws_heldEntryS [v8, Value.int IntKind.i64 1] s25 (fun v28 s29 => pBin Tryd.prog 3 BinOp.lss v28 (Value.int IntKind.i64 0) (fun v30 => pIf v30 (R (Value.bool false) s29) (pBin Tryd.prog 3 BinOp.neq v28 v14 (fun v31 => pIf v31 (R (Value.bool false) s29) (R (Value.bool true) s29)))))))))))))))))))))))))))))))))
theorem vc_laws_FnExactLayerRead_eq (w0 : World) (a0 : Value) (σ : Vw) (R : Value → Vw → Prop) : vc_laws_FnExactLayerRead w0 a0 σ R = den Tryd.prog w0 kp_laws_FnExactLayerRead esc_laws_FnExactLayerRead (Tryd.f8.body.getD .skip) (entry Tryd.f8.ntmps [a0]) σ (retK Tryd.prog Tryd.f8.results.toList R) := by kernel_rfl
theorem ac_laws_FnExactLayerRead {w0 : World} {a0 : Value} {σ : Vw} {R : Value → Vw → Prop} (h : vc_laws_FnExactLayerRead w0 a0 σ R) : AC Tryd.prog w0 n_laws_FnExactLayerRead [a0] σ R := by
  refine ac_rule (fn := Tryd.f8) (c := Tryd.f8.body.getD .skip) kp_laws_FnExactLayerRead esc_laws_FnExactLayerRead Tryd.func8 (by kernel_rfl) (by kernel_rfl) ?_
  rw [← vc_laws_FnExactLayerRead_eq]
  exact h

/-- laws.szTree -/
def kp_laws_szTree : Nat → Keep
  | _ => ⟨[], [], [], .done, []⟩
def esc_laws_szTree : Nat → Bool
  | _ => false
def vc_laws_szTree (w0 : World) (a0 a1 : Value) (σ : Vw) (R : Value → Vw → Prop) : Prop :=
  pVal true 5 a0 (pLenS (cellOf a0 2) (fun v0 => pBin Tryd.prog 3 BinOp.sub a1 v0 (fun v1 => pBin Tryd.prog 3 BinOp.lss v1 (Value.int IntKind.i64 0) (fun v2 => pIf v2 (R (Value.int IntKind.i64 (-1)) σ) (AC Tryd.prog w0 n_laws_szStringS [cellOf a0 3, v1] σ (fun v3 s4 => pBin Tryd.prog 3 BinOp.lss v3 (Value.int IntKind.i64 0) (fun v5 => pIf v5 (R (Value.int IntKind.i64 (-1)) s4) (AC Tryd.prog w0 n_laws_szTreeS [cellOf a0 4, v3] s4 (fun v6 s7 => pBin Tryd.prog 3 BinOp.lss v6 (Value.int IntKind.i64 0) (fun v8 => pIf v8 (R (Value.int IntKind.i64 (-1)) s7) (R v6 s7)))))))))))
theorem vc_laws_szTree_eq (w0 : World) (a0 a1 : Value) (σ : Vw) (R : Value → Vw → Prop) : vc_laws_szTree w0 a0 a1 σ R = den Tryd.prog w0 kp_laws_szTree esc_laws_szTree (Tryd.f9.body.getD .skip) (entry Tryd.f9.ntmps [a0, a1]) σ (retK Tryd.prog Tryd.f9.results.toList R) := by kernel_rfl
theorem ac_laws_szTree {w0 : World} {a0 a1 : Value} {σ : Vw} {R : Value → Vw → Prop} (h : vc_laws_szTree w0 a0 a1 σ R) : AC Tryd.prog w0 n_laws_szTree [a0, a1] σ R := by
  refine ac_rule (fn := Tryd.f9) (c := Tryd.f9.body.getD .skip) kp_laws_szTree esc_laws_szTree Tryd.func9 (by kernel_rfl) (by kernel_rfl) ?_
  rw [← vc_laws_szTree_eq]
  exact h

/-- spec.TreeShow -/
def kp_spec_TreeShow : Nat → Keep
  | 3 => ⟨[], [], [], .step 0 (.step 2 (.step 1 (.step 3 (.step 4 (.step 5 (.done)))))), [(1, [0]), (3, [0, 1, 2]), (4, [0, 1, 2, 3]), (5, [0, 1, 2, 3, 4])]⟩
  | _ => ⟨[], [], [], .done, []⟩
def esc_spec_TreeShow : Nat → Bool
  | _ => false
def vc_spec_TreeShow (w0 : World) (a0 : Value) (σ : Vw) (R : Value → Vw → Prop) : Prop :=
  pVal true 5 a0 (AC Tryd.prog w0 n_spec_TreeOk ([Value.agg (⟨[cellOf a0 0, cellOf a0 1, cellOf a0 2, cellOf a0 3, cellOf a0 4]⟩)]) σ (fun v0 s1 => pUn UnOp.not v0 (fun v2 => pIf v2 (R (Value.string ({ data := #[] })) s1) (AC Tryd.prog w0 n_spec_l1Line ([Value.string ({ data := #[47] }), Value.agg (⟨[cellOf a0 0, cellOf a0 1, cellOf a0 2, cellOf a0 3, cellOf a0 4]⟩)]) s1 (fun v3 s4 => AC Tryd.prog w0 n_spec_l1Show ([Value.string ({ data := #[] }), Value.agg (⟨[cellOf a0 0, cellOf a0 1, cellOf a0 2, cellOf a0 3, cellOf a0 4]⟩)]) s4 (fun v5 s6 => pBin Tryd.prog 9 BinOp.add v3 v5 (fun v7 => R v7 s6)))))))
theorem vc_spec_TreeShow_eq (w0 : World) (a0 : Value) (σ : Vw) (R : Value → Vw → Prop) : vc_spec_TreeShow w0 a0 σ R = den Tryd.prog w0 kp_spec_TreeShow esc_spec_TreeShow (Tryd.f10.body.getD .skip) (entry Tryd.f10.ntmps [a0]) σ (retK Tryd.prog Tryd.f10.results.toList R) := by kernel_rfl
theorem ac_spec_TreeShow {w0 : World} {a0 : Value} {σ : Vw} {R : Value → Vw → Prop} (h : vc_spec_TreeShow w0 a0 σ R) : AC Tryd.prog w0 n_spec_TreeShow [a0] σ R := by
  refine ac_rule (fn := Tryd.f10) (c := Tryd.f10.body.getD .skip) kp_spec_TreeShow esc_spec_TreeShow Tryd.func10 (by kernel_rfl) (by kernel_rfl) ?_
  rw [← vc_spec_TreeShow_eq]
  exact h

/-- laws.toTree -/
def kp_laws_toTree : Nat → Keep
  | _ => ⟨[], [], [], .done, []⟩
def esc_laws_toTree : Nat → Bool
  | _ => false
def vc_laws_toTree (w0 : World) (a0 : Value) (σ : Vw) (R : Value → Vw → Prop) : Prop :=
  pVal true 5 a0 (pVal false 1 (cellOf a0 0) (pVal false 1 (cellOf a0 1) (pVal false 1 (cellOf a0 2) (AC Tryd.prog w0 n_laws_toStringS [cellOf a0 3] σ (fun v0 s1 => pVal false 1 v0 (AC Tryd.prog w0 n_laws_toTreeS [cellOf a0 4] s1 (fun v2 s3 => pVal false 1 v2 (pVal true 5 (Value.agg (⟨[cellOf a0 0, cellOf a0 1, cellOf a0 2, v0, v2]⟩)) (R (Value.agg (⟨[cellOf a0 0, cellOf a0 1, cellOf a0 2, v0, v2]⟩)) s3)))))))))
theorem vc_laws_toTree_eq (w0 : World) (a0 : Value) (σ : Vw) (R : Value → Vw → Prop) : vc_laws_toTree w0 a0 σ R = den Tryd.prog w0 kp_laws_toTree esc_laws_toTree (Tryd.f11.body.getD .skip) (entry Tryd.f11.ntmps [a0]) σ (retK Tryd.prog Tryd.f11.results.toList R) := by kernel_rfl
theorem ac_laws_toTree {w0 : World} {a0 : Value} {σ : Vw} {R : Value → Vw → Prop} (h : vc_laws_toTree w0 a0 σ R) : AC Tryd.prog w0 n_laws_toTree [a0] σ R := by
  refine ac_rule (fn := Tryd.f11) (c := Tryd.f11.body.getD .skip) kp_laws_toTree esc_laws_toTree Tryd.func11 (by kernel_rfl) (by kernel_rfl) ?_
  rw [← vc_laws_toTree_eq]
  exact h

/-- impl.TreeShow -/
def kp_impl_TreeShow : Nat → Keep
  | _ => ⟨[], [], [], .done, []⟩
def esc_impl_TreeShow : Nat → Bool
  | _ => false
def vc_impl_TreeShow (w0 : World) (a0 : Value) (σ : Vw) (R : Value → Vw → Prop) : Prop :=
  pVal true 5 a0 (AC Tryd.prog w0 n_impl_TreeOk ([Value.agg (⟨[cellOf a0 0, cellOf a0 1, cellOf a0 2, cellOf a0 3, cellOf a0 4]⟩)]) σ (fun v0 s1 => pUn UnOp.not v0 (fun v2 => pIf v2 (R (Value.string ({ data := #[] })) s1) (AC Tryd.prog w0 n_impl_Tree_show ([Value.agg (⟨[cellOf a0 0, cellOf a0 1, cellOf a0 2, cellOf a0 3, cellOf a0 4]⟩)]) s1 (fun v3 s4 => R v3 s4)))))
theorem vc_impl_TreeShow_eq (w0 : World) (a0 : Value) (σ : Vw) (R : Value → Vw → Prop) : vc_impl_TreeShow w0 a0 σ R = den Tryd.prog w0 kp_impl_TreeShow esc_impl_TreeShow (Tryd.f12.body.getD .skip) (entry Tryd.f12.ntmps [a0]) σ (retK Tryd.prog Tryd.f12.results.toList R) := by kernel_rfl
theorem ac_impl_TreeShow {w0 : World} {a0 : Value} {σ : Vw} {R : Value → Vw → Prop} (h : vc_impl_TreeShow w0 a0 σ R) : AC Tryd.prog w0 n_impl_TreeShow [a0] σ R := by
  refine ac_rule (fn := Tryd.f12) (c := Tryd.f12.body.getD .skip) kp_impl_TreeShow esc_impl_TreeShow Tryd.func12 (by kernel_rfl) (by kernel_rfl) ?_
  rw [← vc_impl_TreeShow_eq]
  exact h

/-- laws.eqTree -/
def kp_laws_eqTree : Nat → Keep
  | _ => ⟨[], [], [], .done, []⟩
def esc_laws_eqTree : Nat → Bool
  | _ => false
def vc_laws_eqTree (w0 : World) (a0 a1 : Value) (σ : Vw) (R : Value → Vw → Prop) : Prop :=
  pVal true 5 a0 (pVal true 5 a1 (pBin Tryd.prog 4 BinOp.neq (cellOf a0 0) (cellOf a1 0) (fun v0 => pIf v0 (R (Value.bool false) σ) (pBin Tryd.prog 3 BinOp.neq (cellOf a0 1) (cellOf a1 1) (fun v1 => pIf v1 (R (Value.bool false) σ) (pBin Tryd.prog 9 BinOp.neq (cellOf a0 2) (cellOf a1 2) (fun v2 => pIf v2 (R (Value.bool false) σ) (AC Tryd.prog w0 n_laws_eqStringS [cellOf a0 3, cellOf a1 3] σ (fun v3 s4 => pUn UnOp.not v3 (fun v5 => pIf v5 (R (Value.bool false) s4) (AC Tryd.prog w0 n_laws_eqTreeS [cellOf a0 4, cellOf a1 4] s4 (fun v6 s7 => pUn UnOp.not v6 (fun v8 => pIf v8 (R (Value.bool false) s7) (R (Value.bool true) s7))))))))))))))
theorem vc_laws_eqTree_eq (w0 : World) (a0 a1 : Value) (σ : Vw) (R : Value → Vw → Prop) : vc_laws_eqTree w0 a0 a1 σ R = den Tryd.prog w0 kp_laws_eqTree esc_laws_eqTree (Tryd.f13.body.getD .skip) (entry Tryd.f13.ntmps [a0, a1]) σ (retK Tryd.prog Tryd.f13.results.toList R) := by kernel_rfl
theorem ac_laws_eqTree {w0 : World} {a0 a1 : Value} {σ : Vw} {R : Value → Vw → Prop} (h : vc_laws_eqTree w0 a0 a1 σ R) : AC Tryd.prog w0 n_laws_eqTree [a0, a1] σ R := by
  refine ac_rule (fn := Tryd.f13) (c := Tryd.f13.body.getD .skip) kp_laws_eqTree esc_laws_eqTree Tryd.func13 (by kernel_rfl) (by kernel_rfl) ?_
  rw [← vc_laws_eqTree_eq]
  exact h

/-- laws.szEntryS -/
def kp_laws_szEntryS : Nat → Keep
  | 5 => ⟨[0, 1, 4, 5], [], [], .done, []⟩
  | _ => ⟨[], [], [], .done, []⟩
def esc_laws_szEntryS : Nat → Bool
  | _ => false
def vc_laws_szEntryS (w0 : World) (a0 a1 : Value) (σ : Vw) (R : Value → Vw → Prop) : Prop :=
  pLen a0 (fun v0 => pBin Tryd.prog 3 BinOp.sub a1 v0 (fun v1 => pBin Tryd.prog 3 BinOp.lss v1 (Value.int IntKind.i64 0) (fun v2 => pIf v2 (R (Value.int IntKind.i64 (-1)) σ) (pLoop (fun l3 K4 s5 => pLen (vget l3 0) (fun v6 => pBin Tryd.prog 3 BinOp.lss (vget l3 3) v6 (fun v7 => pIf v7 (pIndexAddr 5 (vget l3 0) (vget l3 3) (fun v8 => pLoad w0 5 v8 s5 (fun g9 => AC Tryd.prog w0 n_laws_szEntry ([Value.agg (⟨[g9 0, g9 1, g9 2, g9 3, g9 4]⟩), vget l3 1]) s5 (fun v10 s11 => pBin Tryd.prog 3 BinOp.lss v10 (Value.int IntKind.i64 0) (fun v12 => pIf v12 (K4 AX.ret [vget l3 0, v10, Value.int IntKind.i64 (-1), vget l3 3] s11) (pBin Tryd.prog 3 BinOp.add (vget l3 3) (Value.int IntKind.i64 1) (fun v13 => K4 AX.normal [vget l3 0, v10, vget l3 2, v13] s11))))))) (K4 (AX.exit 0) [vget l3 0, vget l3 1, vget l3 2, vget l3 3] s5)))) [a0, v1, Value.int IntKind.i64 0, Value.int IntKind.i64 0] σ (fun x14 l15 s16 => match x14 with | .normal => R (vget l15 1) s16 | .ret => R (vget l15 2) s16 | .exit i17 => (match Nat.beq i17 0 with | true => R (vget l15 1) s16 | false => False))))))
theorem vc_laws_szEntryS_eq (w0 : World) (a0 a1 : Value) (σ : Vw) (R : Value → Vw → Prop) : vc_laws_szEntryS w0 a0 a1 σ R = den Tryd.prog w0 kp_laws_szEntryS esc_laws_szEntryS (Tryd.f14.body.getD .skip) (entry Tryd.f14.ntmps [a0, a1]) σ (retK Tryd.prog Tryd.f14.results.toList R) := by kernel_rfl
theorem ac_laws_szEntryS {w0 : World} {a0 a1 : Value} {σ : Vw} {R : Value → Vw → Prop} (h : vc_laws_szEntryS w0 a0 a1 σ R) : AC Tryd.prog w0 n_laws_szEntryS [a0, a1] σ R := by
  refine ac_rule (fn := Tryd.f14) (c := Tryd.f14.body.getD .skip) kp_laws_szEntryS esc_laws_szEntryS Tryd.func14 (by kernel_rfl) (by kernel_rfl) ?_
  rw [← vc_laws_szEntryS_eq]
  exact h

/-- spec.LayerWrite -/
def kp_spec_LayerWrite : Nat → Keep
  | 3 => ⟨[0, 2, 3, 4], [], [], .done, []⟩
  | _ => ⟨[], [], [], .done, []⟩
def esc_spec_LayerWrite : Nat → Bool
  | _ => false
def vc_spec_LayerWrite (w0 : World) (a0 : Value) (σ : Vw) (R : Value → Vw → Prop) : Prop :=
  pLoop (fun l0 K1 s2 => pLen (vget l0 0) (fun v3 => pBin Tryd.prog 3 BinOp.lss (vget l0 3) v3 (fun v4 => pIf v4 (pIndexAddr 5 (vget l0 0) (vget l0 3) (fun v5 => pLoad w0 5 v5 s2 (fun g6 => AC Tryd.prog w0 n_spec_l3EntryOk ([Value.agg (⟨[g6 0, g6 1, g6 2, g6 3, g6 4]⟩)]) s2 (fun v7 s8 => pUn UnOp.not v7 (fun v9 => pIf v9 (K1 AX.ret ([vget l0 0, Value.string ({ data := #[] }), vget l0 2, vget l0 3]) s8) (pIndexAddr 5 (vget l0 0) (vget l0 3) (fun v10 => pLoad w0 5 v10 s8 (fun g11 => AC Tryd.prog w0 n_spec_l3Text ([Value.agg (⟨[g11 0, g11 1, g11 2, g11 3, g11 4]⟩)]) s8 (fun v12 s13 => pBin Tryd.prog 9 BinOp.add (vget l0 2) v12 (fun v14 => pBin Tryd.prog 3 BinOp.add (vget l0 3) (Value.int IntKind.i64 1) (fun v15 => K1 AX.normal [vget l0 0, vget l0 1, v14, v15] s13))))))))))) (K1 (AX.exit 0) [vget l0 0, vget l0 1, vget l0 2, vget l0 3] s2)))) ([a0, Value.string ({ data := #[] }), Value.string ({ data := #[] }), Value.int IntKind.i64 0]) σ (fun x16 l17 s18 => match x16 with | .normal => pLenS (vget l17 2) (fun v19 => pBin Tryd.prog 3 BinOp.gtr v19 (Value.int IntKind.i64 6000) (fun v20 => pIf v20 (R (Value.string ({ data := #[] })) s18) (R (vget l17 2) s18))) | .ret => R (vget l17 1) s18 | .exit i21 => (match Nat.beq i21 0 with | true => pLenS (vget l17 2) (fun v22 => pBin Tryd.prog 3 BinOp.gtr v22 (Value.int IntKind.i64 6000) (fun v23 => pIf v23 (R (Value.string ({ data := #[] })) s18) (R (vget l17 2) s18))) | false => False))
theorem vc_spec_LayerWrite_eq (w0 : World) (a0 : Value) (σ : Vw) (R : Value → Vw → Prop) : vc_spec_LayerWrite w0 a0 σ R = den Tryd.prog w0 kp_spec_LayerWrite esc_spec_LayerWrite (Tryd.f15.body.getD .skip) (entry Tryd.f15.ntmps [a0]) σ (retK Tryd.prog Tryd.f15.results.toList R) := by kernel_rfl
theorem ac_spec_LayerWrite {w0 : World} {a0 : Value} {σ : Vw} {R : Value → Vw → Prop} (h : vc_spec_LayerWrite w0 a0 σ R) : AC Tryd.prog w0 n_spec_LayerWrite [a0] σ R := by
  refine ac_rule (fn := Tryd.f15) (c := Tryd.f15.body.getD .skip) kp_spec_LayerWrite esc_spec_LayerWrite Tryd.func15 (by kernel_rfl) (by kernel_rfl) ?_
  rw [← vc_spec_LayerWrite_eq]
  exact h

/-- laws.toEntryS -/
def kp_laws_toEntryS : Nat → Keep
  | 3 => ⟨[0, 3, 4], [], [], .done, []⟩
  | _ => ⟨[], [], [], .done, []⟩
def esc_laws_toEntryS : Nat → Bool
  | _ => false
def vc_laws_toEntryS (w0 : World) (a0 : Value) (σ : Vw) (R : Value → Vw → Prop) : Prop :=
  pLen a0 (fun v0 => pMake w0 69 5 64 ([Value.slice Option.none 0 0, Value.int IntKind.i64 0, Value.bool false, Value.int IntKind.i64 0, Value.string ({ data := #[] })]) v0 v0 σ (fun v1 s2 => pLoop (fun l3 K4 s5 => pLen (vget l3 0) (fun v6 => pBin Tryd.prog 3 BinOp.lss (vget l3 2) v6 (fun v7 => pIf v7 (pIndexAddr 5 (vget l3 0) (vget l3 2) (fun v8 => pLoad w0 5 v8 s5 (fun g9 => AC Tryd.prog w0 n_laws_toEntry ([Value.agg (⟨[g9 0, g9 1, g9 2, g9 3, g9 4]⟩)]) s5 (fun v10 s11 => pIndexAddr 5 (vget l3 1) (vget l3 2) (fun v12 => pVal true 5 v10 (pStore v12 [cellOf v10 0, cellOf v10 1, cellOf v10 2, cellOf v10 3, cellOf v10 4] s11 (fun s13 => pBin Tryd.prog 3 BinOp.add (vget l3 2) (Value.int IntKind.i64 1) (fun v14 => K4 AX.normal [vget l3 0, vget l3 1, v14] s13)))))))) (K4 (AX.exit 0) [vget l3 0, vget l3 1, vget l3 2] s5)))) [a0, v1, Value.int IntKind.i64 0] s2 (fun x15 l16 s17 => match x15 with | .normal => R (vget l16 1) s17 | .ret => False | .exit i18 => (match Nat.beq i18 0 with | true => R (vget l16 1) s17 | false => False))))
theorem vc_laws_toEntryS_eq (w0 : World) (a0 : Value) (σ : Vw) (R : Value → Vw → Prop) : vc_laws_toEntryS w0 a0 σ R = den Tryd.prog w0 kp_laws_toEntryS esc_laws_toEntryS (Tryd.f16.body.getD .skip) (entry Tryd.f16.ntmps [a0]) σ (retK Tryd.prog Tryd.f16.results.toList R) := by kernel_rfl
theorem ac_laws_toEntryS {w0 : World} {a0 : Value} {σ : Vw} {R : Value → Vw → Prop} (h : vc_laws_toEntryS w0 a0 σ R) : AC Tryd.prog w0 n_laws_toEntryS [a0] σ R := by
  refine ac_rule (fn := Tryd.f16) (c := Tryd.f16.body.getD .skip) kp_laws_toEntryS esc_laws_toEntryS Tryd.func16 (by kernel_rfl) (by kernel_rfl) ?_
  rw [← vc_laws_toEntryS_eq]
  exact h

/-- impl.LayerWrite -/
def kp_impl_LayerWrite : Nat → Keep
  | 3 => ⟨[2, 3, 8, 9, 10], [], [], .done, []⟩
  | _ => ⟨[], [], [], .done, []⟩
def esc_impl_LayerWrite : Nat → Bool
  | 7 => true
  | _ => false
def vc_impl_LayerWrite (w0 : World) (a0 : Value) (σ : Vw) (R : Value → Vw → Prop) : Prop :=
  pVal true 2 (Value.agg (⟨[Value.pointer Option.none, Value.slice Option.none 0 0]⟩)) (pNew w0 75 [Value.pointer Option.none, Value.slice Option.none 0 0] σ (fun n0 s1 => pLen a0 (fun v2 => pLoop (fun l3 K4 s5 => pBin Tryd.prog 3 BinOp.lss (vget l3 4) (vget l3 3) (fun v6 => pIf v6 (pIndexAddr 5 (vget l3 2) (vget l3 4) (fun v7 => pLoad w0 5 v7 s5 (fun g8 => pVal true 5 (Value.agg (⟨[g8 0, g8 1, g8 2, g8 3, g8 4]⟩)) (AC Tryd.prog w0 n_impl_entryOk ([Value.agg (⟨[g8 0, g8 1, g8 2, g8 3, g8 4]⟩)]) s5 (fun v9 s10 => pUn UnOp.not v9 (fun v11 => pIf v11 (K4 AX.ret ([Value.string ({ data := #[] }), vget l3 1, vget l3 2, vget l3 3, vget l3 4]) s10) (AC Tryd.prog w0 n_impl_Entry_line ([Value.agg (⟨[g8 0, g8 1, g8 2, g8 3, g8 4]⟩)]) s10 (fun v12 s13 => AC Tryd.prog w0 n_p_strings_Builder_WriteString [vget l3 1, v12] s13 (fun v14 s15 => pBin Tryd.prog 3 BinOp.add (vget l3 4) (Value.int IntKind.i64 1) (fun v16 => K4 AX.normal [vget l3 0, vget l3 1, vget l3 2, vget l3 3, v16] s15)))))))))) (K4 (AX.exit 0) [vget l3 0, vget l3 1, vget l3 2, vget l3 3, vget l3 4] s5))) ([Value.string ({ data := #[] }), Value.pointer (Option.some (Addr.mk n0 0 Option.none)), a0, v2, Value.int IntKind.i64 0]) s1 (fun x17 l18 s19 => match x17 with | .normal => AC Tryd.prog w0 n_p_strings_Builder_Len [vget l18 1] s19 (fun v20 s21 => pBin Tryd.prog 3 BinOp.gtr v20 (Value.int IntKind.i64 6000) (fun v22 => pIf v22 (R (Value.string ({ data := #[] })) s21) (AC Tryd.prog w0 n_p_strings_Builder_String [vget l18 1] s21 (fun v23 s24 => R v23 s24)))) | .ret => R (vget l18 0) s19 | .exit i25 => (match Nat.beq i25 0 with | true => AC Tryd.prog w0 n_p_strings_Builder_Len [vget l18 1] s19 (fun v26 s27 => pBin Tryd.prog 3 BinOp.gtr v26 (Value.int IntKind.i64 6000) (fun v28 => pIf v28 (R (Value.string ({ data := #[] })) s27) (AC Tryd.prog w0 n_p_strings_Builder_String [vget l18 1] s27 (fun v29 s30 => R v29 s30)))) | false => False)))))
theorem vc_impl_LayerWrite_eq (w0 : World) (a0 : Value) (σ : Vw) (R : Value → Vw → Prop) : vc_impl_LayerWrite w0 a0 σ R = den Tryd.prog w0 kp_impl_LayerWrite esc_impl_LayerWrite (Tryd.f17.body.getD .skip) (entry Tryd.f17.ntmps [a0]) σ (retK Tryd.prog Tryd.f17.results.toList R) := by kernel_rfl
theorem ac_impl_LayerWrite {w0 : World} {a0 : Value} {σ : Vw} {R : Value → Vw → Prop} (h : vc_impl_LayerWrite w0 a0 σ R) : AC Tryd.prog w0 n_impl_LayerWrite [a0] σ R := by
  refine ac_rule (fn := Tryd.f17) (c := Tryd.f17.body.getD .skip) kp_impl_LayerWrite esc_impl_LayerWrite Tryd.func17 (by kernel_rfl) (by kernel_rfl) ?_
  rw [← vc_impl_LayerWrite_eq]
  exact h

/-- laws.eqEntryS -/
def kp_laws_eqEntryS : Nat → Keep
  | 4 => ⟨[0, 1, 4, 5], [], [], .done, []⟩
  | 6 => ⟨[], [], [], .step 0 (.step 1 (.step 2 (.step 3 (.step 4 (.step 5 (.step 6 (.step 7 (.step 8 (.step 9 (.done)))))))))), [(2, [0, 1]), (3, [0, 1, 2]), (6, [4, 5]), (7, [4, 5, 6]), (8, [0, 1, 2, 3, 4, 5, 6, 7]), (9, [0, 1, 2, 3, 4, 5, 6, 7, 8])]⟩
  | _ => ⟨[], [], [], .done, []⟩
def esc_laws_eqEntryS : Nat → Bool
  | _ => false
def vc_laws_eqEntryS (w0 : World) (a0 a1 : Value) (σ : Vw) (R : Value → Vw → Prop) : Prop :=
  pLen a0 (fun v0 => pLen a1 (fun v1 => pBin Tryd.prog 3 BinOp.neq v0 v1 (fun v2 => pIf v2 (R (Value.bool false) σ) (pLoop (fun l3 K4 s5 => pLen (vget l3 0) (fun v6 => pBin Tryd.prog 3 BinOp.lss (vget l3 3) v6 (fun v7 => pIf v7 (pIndexAddr 5 (vget l3 0) (vget l3 3) (fun v8 => pLoad w0 5 v8 s5 (fun g9 => pIndexAddr 5 (vget l3 1) (vget l3 3) (fun v10 => pLoad w0 5 v10 s5 (fun g11 => AC Tryd.prog w0 n_laws_eqEntry ([Value.agg (⟨[g9 0, g9 1, g9 2, g9 3, g9 4]⟩), Value.agg (⟨[g11 0, g11 1, g11 2, g11 3, g11 4]⟩)]) s5 (fun v12 s13 => pUn UnOp.not v12 (fun v14 => pIf v14 (K4 AX.ret [vget l3 0, vget l3 1, Value.bool false, vget l3 3] s13) (pBin Tryd.prog 3 BinOp.add (vget l3 3) (Value.int IntKind.i64 1) (fun v15 => K4 AX.normal [vget l3 0, vget l3 1, vget l3 2, v15] s13))))))))) (K4 (AX.exit 0) [vget l3 0, vget l3 1, vget l3 2, vget l3 3] s5)))) [a0, a1, Value.bool false, Value.int IntKind.i64 0] σ (fun x16 l17 s18 => match x16 with | .normal => R (Value.bool true) s18 | .ret => R (vget l17 2) s18 | .exit i19 => (match Nat.beq i19 0 with | true => R (Value.bool true) s18 | false => False))))))
theorem vc_laws_eqEntryS_eq (w0 : World) (a0 a1 : Value) (σ : Vw) (R : Value → Vw → Prop) : vc_laws_eqEntryS w0 a0 a1 σ R = den Tryd.prog w0 kp_laws_eqEntryS esc_laws_eqEntryS (Tryd.f18.body.getD .skip) (entry Tryd.f18.ntmps [a0, a1]) σ (retK Tryd.prog Tryd.f18.results.toList R) := by kernel_rfl
theorem ac_laws_eqEntryS {w0 : World} {a0 a1 : Value} {σ : Vw} {R : Value → Vw → Prop} (h : vc_laws_eqEntryS w0 a0 a1 σ R) : AC Tryd.prog w0 n_laws_eqEntryS [a0, a1] σ R := by
  refine ac_rule (fn := Tryd.f18) (c := Tryd.f18.body.getD .skip) kp_laws_eqEntryS esc_laws_eqEntryS Tryd.func18 (by kernel_rfl) (by kernel_rfl) ?_
  rw [← vc_laws_eqEntryS_eq]
  exact h

/-- spec.TableId -/
def kp_spec_TableId : Nat → Keep
  | _ => ⟨[], [], [], .done, []⟩
def esc_spec_TableId : Nat → Bool
  | _ => false
def vc_spec_TableId (w0 : World) (a0 : Value) (σ : Vw) (R : Value → Vw → Prop) : Prop :=
  pVal true 5 a0 (AC Tryd.prog w0 n_spec_TreeOk ([Value.agg (⟨[cellOf a0 0, cellOf a0 1, cellOf a0 2, cellOf a0 3, cellOf a0 4]⟩)]) σ (fun v0 s1 => pUn UnOp.not v0 (fun v2 => pIf v2 (R (Value.int IntKind.i64 (-1)) s1) (AC Tryd.prog w0 n_spec_l31Of ([Value.agg (⟨[cellOf a0 0, cellOf a0 1, cellOf a0 2, cellOf a0 3, cellOf a0 4]⟩)]) s1 (fun v3 s4 => R v3 s4)))))
theorem vc_spec_TableId_eq (w0 : World) (a0 : Value) (σ : Vw) (R : Value → Vw → Prop) : vc_spec_TableId w0 a0 σ R = den Tryd.prog w0 kp_spec_TableId esc_spec_TableId (Tryd.f19.body.getD .skip) (entry Tryd.f19.ntmps [a0]) σ (retK Tryd.prog Tryd.f19.results.toList R) := by kernel_rfl
theorem ac_spec_TableId {w0 : World} {a0 : Value} {σ : Vw} {R : Value → Vw → Prop} (h : vc_spec_TableId w0 a0 σ R) : AC Tryd.prog w0 n_spec_TableId [a0] σ R := by
  refine ac_rule (fn := Tryd.f19) (c := Tryd.f19.body.getD .skip) kp_spec_TableId esc_spec_TableId Tryd.func19 (by kernel_rfl) (by kernel_rfl) ?_
  rw [← vc_spec_TableId_eq]
  exact h

/-- impl.TableId -/
def kp_impl_TableId : Nat → Keep
  | _ => ⟨[], [], [], .done, []⟩
def esc_impl_TableId : Nat → Bool
  | _ => false
def vc_impl_TableId (w0 : World) (a0 : Value) (σ : Vw) (R : Value → Vw → Prop) : Prop :=
  pVal true 5 a0 (AC Tryd.prog w0 n_impl_TreeOk ([Value.agg (⟨[cellOf a0 0, cellOf a0 1, cellOf a0 2, cellOf a0 3, cellOf a0 4]⟩)]) σ (fun v0 s1 => pUn UnOp.not v0 (fun v2 => pIf v2 (R (Value.int IntKind.i64 (-1)) s1) (AC Tryd.prog w0 n_impl_Tree_id ([Value.agg (⟨[cellOf a0 0, cellOf a0 1, cellOf a0 2, cellOf a0 3, cellOf a0 4]⟩)]) s1 (fun v3 s4 => R v3 s4)))))
theorem vc_impl_TableId_eq (w0 : World) (a0 : Value) (σ : Vw) (R : Value → Vw → Prop) : vc_impl_TableId w0 a0 σ R = den Tryd.prog w0 kp_impl_TableId esc_impl_TableId (Tryd.f20.body.getD .skip) (entry Tryd.f20.ntmps [a0]) σ (retK Tryd.prog Tryd.f20.results.toList R) := by kernel_rfl
theorem ac_impl_TableId {w0 : World} {a0 : Value} {σ : Vw} {R : Value → Vw → Prop} (h : vc_impl_TableId w0 a0 σ R) : AC Tryd.prog w0 n_impl_TableId [a0] σ R := by
  refine ac_rule (fn := Tryd.f20) (c := Tryd.f20.body.getD .skip) kp_impl_TableId esc_impl_TableId Tryd.func20 (by kernel_rfl) (by kernel_rfl) ?_
  rw [← vc_impl_TableId_eq]
  exact h

/-- spec.TrailRead -/
def kp_spec_TrailRead : Nat → Keep
  | 4 => ⟨[0, 2, 3, 4, 5, 6], [], [], .done, []⟩
  | _ => ⟨[], [], [], .done, []⟩
def esc_spec_TrailRead : Nat → Bool
  | 9 => true
  | 56 => true
  | 85 => true
  | _ => false
def vc_spec_TrailRead (w0 : World) (a0 : Value) (σ : Vw) (R : Value → Vw → Prop) : Prop :=
  pNew w0 84 [] σ (fun n0 s1 => AC Tryd.prog w0 n_spec_l1Cut [a0, Value.int IntKind.u8 10] s1 (fun v2 s3 => pLoop (fun l4 K5 s6 => pBin Tryd.prog 3 BinOp.add (vget l4 5) (Value.int IntKind.i64 1) (fun v7 => pLen (vget l4 4) (fun v8 => pBin Tryd.prog 3 BinOp.lss v7 v8 (fun v9 => pIf v9 (pBin Tryd.prog 3 BinOp.leq (vget l4 5) (Value.int IntKind.i64 6) (fun v10 => pIf v10 (pIndexAddr 1 (vget l4 4) (vget l4 5) (fun v11 => pLoad w0 1 v11 s6 (fun g12 => AC Tryd.prog w0 n_spec_l1Cut [g12 0, Value.int IntKind.u8 32] s6 (fun v13 s14 => pLen v13 (fun v15 => pBin Tryd.prog 3 BinOp.neq v15 (Value.int IntKind.i64 2) (fun v16 => pIf v16 (pNew w0 84 [] s14 (fun n17 s18 => K5 AX.ret [vget l4 0, Value.slice (Option.some (Addr.mk n17 0 Option.none)) 0 0, Value.bool false, vget l4 3, vget l4 4, vget l4 5] s18)) (pIndexAddr 1 v13 (Value.int IntKind.i64 0) (fun v19 => pLoad w0 1 v19 s14 (fun g20 => pBin Tryd.prog 9 BinOp.neq (g20 0) (Value.string ({ data := #[115, 117, 98] })) (fun v21 => pIf v21 (pIndexAddr 1 v13 (Value.int IntKind.i64 0) (fun v22 => pLoad w0 1 v22 s14 (fun g23 => pBin Tryd.prog 9 BinOp.neq (g23 0) (Value.string ({ data := #[97, 116] })) (fun v24 => pIf v24 (pNew w0 84 [] s14 (fun n25 s26 => K5 AX.ret [vget l4 0, Value.slice (Option.some (Addr.mk n25 0 Option.none)) 0 0, Value.bool false, vget l4 3, vget l4 4, vget l4 5] s26)) (pIndexAddr 1 v13 (Value.int IntKind.i64 1) (fun v27 => pLoad w0 1 v27 s14 (fun g28 => pBin Tryd.prog 9 BinOp.eql (g28 0) (Value.string ({ data := #[] })) (fun v29 => pIf v29 (pNew w0 84 [] s14 (fun n30 s31 => K5 AX.ret [vget l4 0, Value.slice (Option.some (Addr.mk n30 0 Option.none)) 0 0, Value.bool false, vget l4 3, vget l4 4, vget l4 5] s31)) (pIndexAddr 1 v13 (Value.int IntKind.i64 1) (fun v32 => pLoad w0 1 v32 s14 (fun g33 => pIndexStr (g33 0) (Value.int IntKind.i64 0) (fun v34 => pBin Tryd.prog 5 BinOp.neq v34 (Value.int IntKind.u8 47) (fun v35 => pIf v35 (pNew w0 84 [] s14 (fun n36 s37 => K5 AX.ret [vget l4 0, Value.slice (Option.some (Addr.mk n36 0 Option.none)) 0 0, Value.bool false, vget l4 3, vget l4 4, vget l4 5] s37)) (pIndexAddr 1 v13 (Value.int IntKind.i64 0) (fun v38 => pLoad w0 1 v38 s14 (fun g39 => pBin Tryd.prog 9 BinOp.eql (g39 0) (Value.string ({ data := #[115, 117, 98] })) (fun v40 => pVal false 1 v40 (pVal true 2 (Value.agg (⟨[Value.slice Option.none 0 0, v40]⟩)) (pIndexAddr 1 v13 (Value.int IntKind.i64 1) (fun v41 => pLoad w0 1 v41 s14 (fun g42 => pBin Tryd.prog 9 BinOp.neq (g42 0) (Value.string ({ data := #[47] })) (fun v43 => pIf v43 (pIndexAddr 1 v13 (Value.int IntKind.i64 1) (fun v44 => pLoad w0 1 v44 s14 (fun g45 => AC Tryd.prog w0 n_spec_l1Cut [g45 0, Value.int IntKind.u8 47] s14 (fun v46 s47 => pSlice 1 v46 (Option.some (Value.int IntKind.i64 1)) Option.none (fun v48 => pVal false 1 v48 (pVal true 2 (Value.agg (⟨[v48, v40]⟩)) ((allOne [v48, v40]) ∧ (pAppend w0 84 2 32 (vget l4 3) 1 [v48, v40] s47 (fun v49 s50 => pBin Tryd.prog 3 BinOp.add (vget l4 5) (Value.int IntKind.i64 1) (fun v51 => K5 AX.normal [vget l4 0, vget l4 1, vget l4 2, v49, vget l4 4, v51] s50)))))))))) (pVal true 2 (Value.agg (⟨[Value.slice Option.none 0 0, v40]⟩)) ((allOne [Value.slice Option.none 0 0, v40]) ∧ (pAppend w0 84 2 32 (vget l4 3) 1 [Value.slice Option.none 0 0, v40] s14 (fun v52 s53 => pBin Tryd.prog 3 BinOp.add (vget l4 5) (Value.int IntKind.i64 1) (fun v54 => K5 AX.normal [vget l4 0, vget l4 1, vget l4 2, v52, vget l4 4, v54] s53))))))))))))))))))))))))))) (pIndexAddr 1 v13 (Value.int IntKind.i64 1) (fun v55 => pLoad w0 1 v55 s14 (fun g56 => pBin Tryd.prog 9 BinOp.eql (g56 0) (Value.string ({ data := #[] })) (fun v57 => pIf v57 (pNew w0 84 [] s14 (fun n58 s59 => K5 AX.ret [vget l4 0, Value.slice (Option.some (Addr.mk n58 0 Option.none)) 0 0, Value.bool false, vget l4 3, vget l4 4, vget l4 5] s59)) (pIndexAddr 1 v13 (Value.int IntKind.i64 1) (fun v60 => pLoad w0 1 v60 s14 (fun g61 => pIndexStr (g61 0) (Value.int IntKind.i64 0) (fun v62 => pBin Tryd.prog 5 BinOp.neq v62 (Value.int IntKind.u8 47) (fun v63 => pIf v63 (pNew w0 84 [] s14 (fun n64 s65 => K5 AX.ret [vget l4 0, Value.slice (Option.some (Addr.mk n64 0 Option.none)) 0 0, Value.bool false, vget l4 3, vget l4 4, vget l4 5] s65)) (pIndexAddr 1 v13 (Value.int IntKind.i64 0) (fun v66 => pLoad w0 1 v66 s14 (fun g67 => pBin Tryd.prog 9 BinOp.eql (g67 0) (Value.string ({ data := #[115, 117, 98] })) (fun v68 => pVal false 1 v68 (pVal true 2 (Value.agg (⟨[Value.slice Option.none 0 0, v68]⟩)) (pIndexAddr 1 v13 (Value.int IntKind.i64 1) (fun v69 => pLoad w0 1 v69 s14 (fun g70 => pBin Tryd.prog 9 BinOp.neq (g70 0) (Value.string ({ data := #[47] })) (fun v71 => pIf v71 (pIndexAddr 1 v13 (Value.int IntKind.i64 1) (fun v72 => pLoad w0 1 v72 s14 (fun g73 => AC Tryd.prog w0 n_spec_l1Cut [g73 0, Value.int IntKind.u8 47] s14 (fun v74 s75 => pSlice 1 v74 (Option.some (Value.int IntKind.i64 1)) Option.none (fun v76 => pVal false 1 v76 (pVal true 2 (Value.agg (⟨[v76, v68]⟩)) ((allOne [v76, v68]) ∧ (pAppend w0 84 2 32 (vget l4 3) 1 [v76, v68] s75 (fun v77 s78 => pBin Tryd.prog 3 BinOp.add (vget l4 5) (Value.int IntKind.i64 1) (fun v79 => K5 AX.normal [vget l4 0, vget l4 1, vget l4 2, v77, vget l4 4, v79] s78)))))))))) (pVal true 2 (Value.agg (⟨[Value.slice Option.none 0 0, v68]⟩)) ((allOne [Value.slice Option.none 0 0, v68]) ∧ (pAppend w0 84 2 32 (vget l4 3) 1 [Value.slice Option.none 0 0, v68] s14 (fun v80 s81 => pBin Tryd.prog 3 BinOp.add (vget l4 5) (Value.int IntKind.i64 1) (fun v82 => K5 AX.normal [vget l4 0, vget l4 1, vget l4 2, v80, vget l4 4, v82] s81))))))))))))))))))))))))))))))))) (K5 (AX.exit 0) [vget l4 0, vget l4 1, vget l4 2, vget l4 3, vget l4 4, vget l4 5] s6))) (K5 (AX.exit 0) [vget l4 0, vget l4 1, vget l4 2, vget l4 3, vget l4 4, vget l4 5] s6))))) [a0, Value.slice Option.none 0 0, Value.bool false, Value.slice (Option.some (Addr.mk n0 0 Option.none)) 0 0, v2, Value.int IntKind.i64 0] s3 (fun x83 l84 s85 => match x83 with | .normal => AC Tryd.prog w0 n_spec_TrailOk [vget l84 3] s85 (fun v86 s87 => pUn UnOp.not v86 (fun v88 => pIf v88 (pNew w0 84 [] s87 (fun n89 s90 => R (Value.tuple (⟨[Value.slice (Option.some (Addr.mk n89 0 Option.none)) 0 0, Value.bool false]⟩)) s90)) (AC Tryd.prog w0 n_spec_TrailShow [vget l84 3] s87 (fun v91 s92 => pBin Tryd.prog 9 BinOp.neq v91 (vget l84 0) (fun v93 => pIf v93 (pNew w0 84 [] s92 (fun n94 s95 => R (Value.tuple (⟨[Value.slice (Option.some (Addr.mk n94 0 Option.none)) 0 0, Value.bool false]⟩)) s95)) (AC Tryd.prog w0 n_spec_l11Copy [vget l84 3] s92 (fun v96 s97 => R (Value.tuple (⟨[v96, Value.bool true]⟩)) s97))))))) | .ret => R (Value.tuple (⟨[vget l84 1, vget l84 2]⟩)) s85 | .exit i98 => (match Nat.beq i98 0 with | true => AC Tryd.prog w0 n_spec_TrailOk [vget l84 3] s85 (fun v99 s100 => pUn UnOp.not v99 (fun v101 => pIf v101 (pNew w0 84 [] s100 (fun n102 s103 => R (Value.tuple (⟨[Value.slice (Option.some (Addr.mk n102 0 Option.none)) 0 0, Value.bool false]⟩)) s103)) (AC Tryd.prog w0 n_spec_TrailShow [vget l84 3] s100 (fun v104 s105 => pBin Tryd.prog 9 BinOp.neq v104 (vget l84 0) (fun v106 => pIf v106 (pNew w0 84 [] s105 (fun n107 s108 => R (Value.tuple (⟨[Value.slice (Option.some (Addr.mk n107 0 Option.none)) 0 0, Value.bool false]⟩)) s108)) (AC Tryd.prog w0 n_spec_l11Copy [vget l84 3] s105 (fun v109 s110 => R (Value.tuple (⟨[v109, Value.bool true]⟩)) s110))))))) | false => False))))
theorem vc_spec_TrailRead_eq (w0 : World) (a0 : Value) (σ : Vw) (R : Value → Vw → Prop) : vc_spec_TrailRead w0 a0 σ R = den Tryd.prog w0 kp_spec_TrailRead esc_spec_TrailRead (Tryd.f21.body.getD .skip) (entry Tryd.f21.ntmps [a0]) σ (retK Tryd.prog Tryd.f21.results.toList R) := by kernel_rfl
theorem ac_spec_TrailRead {w0 : World} {a0 : Value} {σ : Vw} {R : Value → Vw → Prop} (h : vc_spec_TrailRead w0 a0 σ R) : AC Tryd.prog w0 n_spec_TrailRead [a0] σ R := by
  refine ac_rule (fn := Tryd.f21) (c := Tryd.f21.body.getD .skip) kp_spec_TrailRead esc_spec_TrailRead Tryd.func21 (by kernel_rfl) (by kernel_rfl) ?_
  rw [← vc_spec_TrailRead_eq]
  exact h

/-- impl.TrailRead -/
def kp_impl_TrailRead : Nat → Keep
  | 3 => ⟨[0, 4, 12, 13, 14], [], [], .done, []⟩
  | _ => ⟨[], [], [], .done, []⟩
def esc_impl_TrailRead : Nat → Bool
  | 10 => true
  | 42 => true
  | _ => false
def vc_impl_TrailRead (w0 : World) (a0 : Value) (σ : Vw) (R : Value → Vw → Prop) : Prop :=
  pNew w0 84 [] σ (fun n0 s1 => AC Tryd.prog w0 n_impl_linesOf [a0] s1 (fun v2 s3 => pLen v2 (fun v4 => pLoop (fun l5 K6 s7 => pBin Tryd.prog 3 BinOp.lss (vget l5 4) (vget l5 3) (fun v8 => pIf v8 (pIndexAddr 1 (vget l5 2) (vget l5 4) (fun v9 => pLoad w0 1 v9 s7 (fun g10 => AC Tryd.prog w0 n_strings_Cut ([g10 0, Value.string ({ data := #[32] })]) s7 (fun v11 s12 => pExtract v11 0 (fun v13 => pExtract v11 1 (fun v14 => pExtract v11 2 (fun v15 => AC Tryd.prog w0 n_impl_pathRead [v14] s12 (fun v16 s17 => pBin Tryd.prog 9 BinOp.eql v13 (Value.string ({ data := #[115, 117, 98] })) (fun v18 => pVal false 1 v16 (pVal false 1 v18 (pVal true 2 (Value.agg (⟨[v16, v18]⟩)) ((allOne [v16, v18]) ∧ (pAppend w0 84 2 32 (vget l5 1) 1 [v16, v18] s17 (fun v19 s20 => pBin Tryd.prog 3 BinOp.add (vget l5 4) (Value.int IntKind.i64 1) (fun v21 => K6 AX.normal [vget l5 0, v19, vget l5 2, vget l5 3, v21] s20))))))))))))))) (K6 (AX.exit 0) [vget l5 0, vget l5 1, vget l5 2, vget l5 3, vget l5 4] s7))) [a0, Value.slice (Option.some (Addr.mk n0 0 Option.none)) 0 0, v2, v4, Value.int IntKind.i64 0] s3 (fun x22 l23 s24 => match x22 with | .normal => AC Tryd.prog w0 n_impl_TrailOk [vget l23 1] s24 (fun v25 s26 => pUn UnOp.not v25 (fun v27 => pIf v27 (pNew w0 84 [] s26 (fun n28 s29 => R (Value.tuple (⟨[Value.slice (Option.some (Addr.mk n28 0 Option.none)) 0 0, Value.bool false]⟩)) s29)) (AC Tryd.prog w0 n_impl_TrailShow [vget l23 1] s26 (fun v30 s31 => pBin Tryd.prog 9 BinOp.neq v30 (vget l23 0) (fun v32 => pIf v32 (pNew w0 84 [] s31 (fun n33 s34 => R (Value.tuple (⟨[Value.slice (Option.some (Addr.mk n33 0 Option.none)) 0 0, Value.bool false]⟩)) s34)) (R (Value.tuple (⟨[vget l23 1, Value.bool true]⟩)) s31)))))) | .ret => False | .exit i35 => (match Nat.beq i35 0 with | true => AC Tryd.prog w0 n_impl_TrailOk [vget l23 1] s24 (fun v36 s37 => pUn UnOp.not v36 (fun v38 => pIf v38 (pNew w0 84 [] s37 (fun n39 s40 => R (Value.tuple (⟨[Value.slice (Option.some (Addr.mk n39 0 Option.none)) 0 0, Value.bool false]⟩)) s40)) (AC Tryd.prog w0 n_impl_TrailShow [vget l23 1] s37 (fun v41 s42 => pBin Tryd.prog 9 BinOp.neq v41 (vget l23 0) (fun v43 => pIf v43 (pNew w0 84 [] s42 (fun n44 s45 => R (Value.tuple (⟨[Value.slice (Option.some (Addr.mk n44 0 Option.none)) 0 0, Value.bool false]⟩)) s45)) (R (Value.tuple (⟨[vget l23 1, Value.bool true]⟩)) s42)))))) | false => False)))))
theorem vc_impl_TrailRead_eq (w0 : World) (a0 : Value) (σ : Vw) (R : Value → Vw → Prop) : vc_impl_TrailRead w0 a0 σ R = den Tryd.prog w0 kp_impl_TrailRead esc_impl_TrailRead (Tryd.f22.body.getD .skip) (entry Tryd.f22.ntmps [a0]) σ (retK Tryd.prog Tryd.f22.results.toList R) := by kernel_rfl
theorem ac_impl_TrailRead {w0 : World} {a0 : Value} {σ : Vw} {R : Value → Vw → Prop} (h : vc_impl_TrailRead w0 a0 σ R) : AC Tryd.prog w0 n_impl_TrailRead [a0] σ R := by
  refine ac_rule (fn := Tryd.f22) (c := Tryd.f22.body.getD .skip) kp_impl_TrailRead esc_impl_TrailRead Tryd.func22 (by kernel_rfl) (by kernel_rfl) ?_
  rw [← vc_impl_TrailRead_eq]
  exact h

/-- laws.eqMarkS -/
def kp_laws_eqMarkS : Nat → Keep
  | 4 => ⟨[0, 1, 4, 5], [], [], .done, []⟩
  | 6 => ⟨[], [], [], .step 0 (.step 1 (.step 2 (.step 3 (.step 4 (.step 5 (.step 6 (.step 7 (.step 8 (.step 9 (.done)))))))))), [(2, [0, 1]), (3, [0, 1, 2]), (6, [4, 5]), (7, [4, 5, 6]), (8, [0, 1, 2, 3, 4, 5, 6, 7]), (9, [0, 1, 2, 3, 4, 5, 6, 7, 8])]⟩
  | _ => ⟨[], [], [], .done, []⟩
def esc_laws_eqMarkS : Nat → Bool
  | _ => false
def vc_laws_eqMarkS (w0 : World) (a0 a1 : Value) (σ : Vw) (R : Value → Vw → Prop) : Prop :=
  pLen a0 (fun v0 => pLen a1 (fun v1 => pBin Tryd.prog 3 BinOp.neq v0 v1 (fun v2 => pIf v2 (R (Value.bool false) σ) (pLoop (fun l3 K4 s5 => pLen (vget l3 0) (fun v6 => pBin Tryd.prog 3 BinOp.lss (vget l3 3) v6 (fun v7 => pIf v7 (pIndexAddr 2 (vget l3 0) (vget l3 3) (fun v8 => pLoad w0 2 v8 s5 (fun g9 => pIndexAddr 2 (vget l3 1) (vget l3 3) (fun v10 => pLoad w0 2 v10 s5 (fun g11 => AC Tryd.prog w0 n_laws_eqMark ([Value.agg (⟨[g9 0, g9 1]⟩), Value.agg (⟨[g11 0, g11 1]⟩)]) s5 (fun v12 s13 => pUn UnOp.not v12 (fun v14 => pIf v14 (K4 AX.ret [vget l3 0, vget l3 1, Value.bool false, vget l3 3] s13) (pBin Tryd.prog 3 BinOp.add (vget l3 3) (Value.int IntKind.i64 1) (fun v15 => K4 AX.normal [vget l3 0, vget l3 1, vget l3 2, v15] s13))))))))) (K4 (AX.exit 0) [vget l3 0, vget l3 1, vget l3 2, vget l3 3] s5)))) [a0, a1, Value.bool false, Value.int IntKind.i64 0] σ (fun x16 l17 s18 => match x16 with | .normal => R (Value.bool true) s18 | .ret => R (vget l17 2) s18 | .exit i19 => (match Nat.beq i19 0 with | true => R (Value.bool true) s18 | false => False))))))
theorem vc_laws_eqMarkS_eq (w0 : World) (a0 a1 : Value) (σ : Vw) (R : Value → Vw → Prop) : vc_laws_eqMarkS w0 a0 a1 σ R = den Tryd.prog w0 kp_laws_eqMarkS esc_laws_eqMarkS (Tryd.f23.body.getD .skip) (entry Tryd.f23.ntmps [a0, a1]) σ (retK Tryd.prog Tryd.f23.results.toList R) := by kernel_rfl
theorem ac_laws_eqMarkS {w0 : World} {a0 a1 : Value} {σ : Vw} {R : Value → Vw → Prop} (h : vc_laws_eqMarkS w0 a0 a1 σ R) : AC Tryd.prog w0 n_laws_eqMarkS [a0, a1] σ R := by
  refine ac_rule (fn := Tryd.f23) (c := Tryd.f23.body.getD .skip) kp_laws_eqMarkS esc_laws_eqMarkS Tryd.func23 (by kernel_rfl) (by kernel_rfl) ?_
  rw [← vc_laws_eqMarkS_eq]
  exact h

/-- laws.markMarkS -/
def kp_laws_markMarkS : Nat → Keep
  | 2 => ⟨[0, 1, 5], [], [], .done, []⟩
  | _ => ⟨[], [], [], .done, []⟩
def esc_laws_markMarkS : Nat → Bool
  | _ => false
def vc_laws_markMarkS (w0 : World) (a0 a1 : Value) (σ : Vw) (R : Value → Vw → Prop) : Prop :=
  pLoop (fun l0 K1 s2 => pLen (vget l0 0) (fun v3 => pBin Tryd.prog 3 BinOp.lss (vget l0 2) v3 (fun v4 => pIf v4 (pIndexAddr 2 (vget l0 0) (vget l0 2) (fun v5 => pField 0 v5 (fun v6 => pLoad w0 1 v6 s2 (fun g7 => AC Tryd.prog w0 n_laws_markStringS [g7 0, vget l0 1] s2 (fun v8 s9 => pBin Tryd.prog 3 BinOp.rem v8 (Value.int IntKind.i64 3) (fun v10 => pBin Tryd.prog 3 BinOp.eql v10 (Value.int IntKind.i64 0) (fun v11 => pIndexAddr 2 (vget l0 0) (vget l0 2) (fun v12 => pField 1 v12 (fun v13 => pVal false 1 v11 (pStore v13 [v11] s9 (fun s14 => pBin Tryd.prog 3 BinOp.add v8 (Value.int IntKind.i64 1) (fun v15 => pBin Tryd.prog 3 BinOp.add (vget l0 2) (Value.int IntKind.i64 1) (fun v16 => K1 AX.normal [vget l0 0, v15, v16] s14))))))))))))) (K1 (AX.exit 0) [vget l0 0, vget l0 1, vget l0 2] s2)))) [a0, a1, Value.int IntKind.i64 0] σ (fun x17 l18 s19 => match x17 with | .normal => R (vget l18 1) s19 | .ret => False | .exit i20 => (match Nat.beq i20 0 with | true => R (vget l18 1) s19 | false => False))
theorem vc_laws_markMarkS_eq (w0 : World) (a0 a1 : Value) (σ : Vw) (R : Value → Vw → Prop) : vc_laws_markMarkS w0 a0 a1 σ R = den Tryd.prog w0 kp_laws_markMarkS esc_laws_markMarkS (Tryd.f24.body.getD .skip) (entry Tryd.f24.ntmps [a0, a1]) σ (retK Tryd.prog Tryd.f24.results.toList R) := by kernel_rfl
theorem ac_laws_markMarkS {w0 : World} {a0 a1 : Value} {σ : Vw} {R : Value → Vw → Prop} (h : vc_laws_markMarkS w0 a0 a1 σ R) : AC Tryd.prog w0 n_laws_markMarkS [a0, a1] σ R := by
  refine ac_rule (fn := Tryd.f24) (c := Tryd.f24.body.getD .skip) kp_laws_markMarkS esc_laws_markMarkS Tryd.func24 (by kernel_rfl) (by kernel_rfl) ?_
  rw [← vc_laws_markMarkS_eq]
  exact h

/-- laws.heldMarkS -/
def kp_laws_heldMarkS : Nat → Keep
  | 2 => ⟨[0, 1, 4, 5], [], [], .done, []⟩
  | _ => ⟨[], [], [], .done, []⟩
def esc_laws_heldMarkS : Nat → Bool
  | _ => false
def vc_laws_heldMarkS (w0 : World) (a0 a1 : Value) (σ : Vw) (R : Value → Vw → Prop) : Prop :=
  pLoop (fun l0 K1 s2 => pLen (vget l0 0) (fun v3 => pBin Tryd.prog 3 BinOp.lss (vget l0 3) v3 (fun v4 => pIf v4 (pIndexAddr 2 (vget l0 0) (vget l0 3) (fun v5 => pField 0 v5 (fun v6 => pLoad w0 1 v6 s2 (fun g7 => AC Tryd.prog w0 n_laws_heldStringS [g7 0, vget l0 1] s2 (fun v8 s9 => pBin Tryd.prog 3 BinOp.lss v8 (Value.int IntKind.i64 0) (fun v10 => pIf v10 (K1 AX.ret [vget l0 0, v8, Value.int IntKind.i64 (-1), vget l0 3] s9) (pIndexAddr 2 (vget l0 0) (vget l0 3) (fun v11 => pField 1 v11 (fun v12 => pLoad w0 1 v12 s9 (fun g13 => pBin Tryd.prog 3 BinOp.rem v8 (Value.int IntKind.i64 3) (fun v14 => pBin Tryd.prog 3 BinOp.eql v14 (Value.int IntKind.i64 0) (fun v15 => pBin Tryd.prog 4 BinOp.neq (g13 0) v15 (fun v16 => pIf v16 (K1 AX.ret [vget l0 0, v8, Value.int IntKind.i64 (-1), vget l0 3] s9) (pBin Tryd.prog 3 BinOp.add v8 (Value.int IntKind.i64 1) (fun v17 => pBin Tryd.prog 3 BinOp.add (vget l0 3) (Value.int IntKind.i64 1) (fun v18 => K1 AX.normal [vget l0 0, v17, vget l0 2, v18] s9)))))))))))))))) (K1 (AX.exit 0) [vget l0 0, vget l0 1, vget l0 2, vget l0 3] s2)))) [a0, a1, Value.int IntKind.i64 0, Value.int IntKind.i64 0] σ (fun x19 l20 s21 => match x19 with | .normal => R (vget l20 1) s21 | .ret => R (vget l20 2) s21 | .exit i22 => (match Nat.beq i22 0 with | true => R (vget l20 1) s21 | false => False))
theorem vc_laws_heldMarkS_eq (w0 : World) (a0 a1 : Value) (σ : Vw) (R : Value → Vw → Prop) : vc_laws_heldMarkS w0 a0 a1 σ R = den Tryd.prog w0 kp_laws_heldMarkS esc_laws_heldMarkS (Tryd.f25.body.getD .skip) (entry Tryd.f25.ntmps [a0, a1]) σ (retK Tryd.prog Tryd.f25.results.toList R) := by kernel_rfl
theorem ac_laws_heldMarkS {w0 : World} {a0 a1 : Value} {σ : Vw} {R : Value → Vw → Prop} (h : vc_laws_heldMarkS w0 a0 a1 σ R) : AC Tryd.prog w0 n_laws_heldMarkS [a0, a1] σ R := by
  refine ac_rule (fn := Tryd.f25) (c := Tryd.f25.body.getD .skip) kp_laws_heldMarkS esc_laws_heldMarkS Tryd.func25 (by kernel_rfl) (by kernel_rfl) ?_
  rw [← vc_laws_heldMarkS_eq]
  exact h

/-- spec.TableMake -/
def kp_spec_TableMake : Nat → Keep
  | _ => ⟨[], [], [], .done, []⟩
def esc_spec_TableMake : Nat → Bool
  | 6 => true
  | 7 => true
  | _ => false
def vc_spec_TableMake (w0 : World) (a0 : Value) (σ : Vw) (R : Value → Vw → Prop) : Prop :=
  pVal true 5 a0 (AC Tryd.prog w0 n_spec_TreeOk ([Value.agg (⟨[cellOf a0 0, cellOf a0 1, cellOf a0 2, cellOf a0 3, cellOf a0 4]⟩)]) σ (fun v0 s1 => pUn UnOp.not v0 (fun v2 => pIf v2 (pNew w0 96 [] s1 (fun n3 s4 => R (Value.slice (Option.some (Addr.mk n3 0 Option.none)) 0 0) s4)) (pNew w0 9 [] s1 (fun n5 s6 => AC Tryd.prog w0 n_spec_l31Rows ([Value.slice (Option.some (Addr.mk n5 0 Option.none)) 0 0, Value.agg (⟨[cellOf a0 0, cellOf a0 1, cellOf a0 2, cellOf a0 3, cellOf a0 4]⟩)]) s6 (fun v7 s8 => R v7 s8))))))
theorem vc_spec_TableMake_eq (w0 : World) (a0 : Value) (σ : Vw) (R : Value → Vw → Prop) : vc_spec_TableMake w0 a0 σ R = den Tryd.prog w0 kp_spec_TableMake esc_spec_TableMake (Tryd.f26.body.getD .skip) (entry Tryd.f26.ntmps [a0]) σ (retK Tryd.prog Tryd.f26.results.toList R) := by kernel_rfl
theorem ac_spec_TableMake {w0 : World} {a0 : Value} {σ : Vw} {R : Value → Vw → Prop} (h : vc_spec_TableMake w0 a0 σ R) : AC Tryd.prog w0 n_spec_TableMake [a0] σ R := by
  refine ac_rule (fn := Tryd.f26) (c := Tryd.f26.body.getD .skip) kp_spec_TableMake esc_spec_TableMake Tryd.func26 (by kernel_rfl) (by kernel_rfl) ?_
  rw [← vc_spec_TableMake_eq]
  exact h

/-- impl.TableMake -/
def kp_impl_TableMake : Nat → Keep
  | _ => ⟨[], [], [], .done, []⟩
def esc_impl_TableMake : Nat → Bool
  | 6 => true
  | _ => false
def vc_impl_TableMake (w0 : World) (a0 : Value) (σ : Vw) (R : Value → Vw → Prop) : Prop :=
  pVal true 5 a0 (AC Tryd.prog w0 n_impl_TreeOk ([Value.agg (⟨[cellOf a0 0, cellOf a0 1, cellOf a0 2, cellOf a0 3, cellOf a0 4]⟩)]) σ (fun v0 s1 => pUn UnOp.not v0 (fun v2 => pIf v2 (pNew w0 96 [] s1 (fun n3 s4 => R (Value.slice (Option.some (Addr.mk n3 0 Option.none)) 0 0) s4)) (AC Tryd.prog w0 n_impl_Tree_table ([Value.agg (⟨[cellOf a0 0, cellOf a0 1, cellOf a0 2, cellOf a0 3, cellOf a0 4]⟩)]) s1 (fun v5 s6 => R v5 s6)))))
theorem vc_impl_TableMake_eq (w0 : World) (a0 : Value) (σ : Vw) (R : Value → Vw → Prop) : vc_impl_TableMake w0 a0 σ R = den Tryd.prog w0 kp_impl_TableMake esc_impl_TableMake (Tryd.f27.body.getD .skip) (entry Tryd.f27.ntmps [a0]) σ (retK Tryd.prog Tryd.f27.results.toList R) := by kernel_rfl
theorem ac_impl_TableMake {w0 : World} {a0 : Value} {σ : Vw} {R : Value → Vw → Prop} (h : vc_impl_TableMake w0 a0 σ R) : AC Tryd.prog w0 n_impl_TableMake [a0] σ R := by
  refine ac_rule (fn := Tryd.f27) (c := Tryd.f27.body.getD .skip) kp_impl_TableMake esc_impl_TableMake Tryd.func27 (by kernel_rfl) (by kernel_rfl) ?_
  rw [← vc_impl_TableMake_eq]
  exact h

/-- laws.eqRowS -/
def kp_laws_eqRowS : Nat → Keep
  | 4 => ⟨[0, 1, 4, 5], [], [], .done, []⟩
  | 6 => ⟨[], [], [], .step 0 (.step 1 (.step 2 (.step 3 (.step 4 (.step 5 (.step 6 (.step 7 (.step 8 (.step 9 (.done)))))))))), [(2, [0, 1]), (3, [0, 1, 2]), (6, [4, 5]), (7, [4, 5, 6]), (8, [0, 1, 2, 3, 4, 5, 6, 7]), (9, [0, 1, 2, 3, 4, 5, 6, 7, 8])]⟩
  | _ => ⟨[], [], [], .done, []⟩
def esc_laws_eqRowS : Nat → Bool
  | _ => false
def vc_laws_eqRowS (w0 : World) (a0 a1 : Value) (σ : Vw) (R : Value → Vw → Prop) : Prop :=
  pLen a0 (fun v0 => pLen a1 (fun v1 => pBin Tryd.prog 3 BinOp.neq v0 v1 (fun v2 => pIf v2 (R (Value.bool false) σ) (pLoop (fun l3 K4 s5 => pLen (vget l3 0) (fun v6 => pBin Tryd.prog 3 BinOp.lss (vget l3 3) v6 (fun v7 => pIf v7 (pIndexAddr 5 (vget l3 0) (vget l3 3) (fun v8 => pLoad w0 5 v8 s5 (fun g9 => pIndexAddr 5 (vget l3 1) (vget l3 3) (fun v10 => pLoad w0 5 v10 s5 (fun g11 => AC Tryd.prog w0 n_laws_eqRow ([Value.agg (⟨[g9 0, g9 1, g9 2, g9 3, g9 4]⟩), Value.agg (⟨[g11 0, g11 1, g11 2, g11 3, g11 4]⟩)]) s5 (fun v12 s13 => pUn UnOp.not v12 (fun v14 => pIf v14 (K4 AX.ret [vget l3 0, vget l3 1, Value.bool false, vget l3 3] s13) (pBin Tryd.prog 3 BinOp.add (vget l3 3) (Value.int IntKind.i64 1) (fun v15 => K4 AX.normal [vget l3 0, vget l3 1, vget l3 2, v15] s13))))))))) (K4 (AX.exit 0) [vget l3 0, vget l3 1, vget l3 2, vget l3 3] s5)))) [a0, a1, Value.bool false, Value.int IntKind.i64 0] σ (fun x16 l17 s18 => match x16 with | .normal => R (Value.bool true) s18 | .ret => R (vget l17 2) s18 | .exit i19 => (match Nat.beq i19 0 with | true => R (Value.bool true) s18 | false => False))))))
theorem vc_laws_eqRowS_eq (w0 : World) (a0 a1 : Value) (σ : Vw) (R : Value → Vw → Prop) : vc_laws_eqRowS w0 a0 a1 σ R = den Tryd.prog w0 kp_laws_eqRowS esc_laws_eqRowS (Tryd.f28.body.getD .skip) (entry Tryd.f28.ntmps [a0, a1]) σ (retK Tryd.prog Tryd.f28.results.toList R) := by kernel_rfl
theorem ac_laws_eqRowS {w0 : World} {a0 a1 : Value} {σ : Vw} {R : Value → Vw → Prop} (h : vc_laws_eqRowS w0 a0 a1 σ R) : AC Tryd.prog w0 n_laws_eqRowS [a0, a1] σ R := by
  refine ac_rule (fn := Tryd.f28) (c := Tryd.f28.body.getD .skip) kp_laws_eqRowS esc_laws_eqRowS Tryd.func28 (by kernel_rfl) (by kernel_rfl) ?_
  rw [← vc_laws_eqRowS_eq]
  exact h

/-- laws.markTree -/
def kp_laws_markTree : Nat → Keep
  | _ => ⟨[], [], [], .done, []⟩
def esc_laws_markTree : Nat → Bool
  | _ => false
def vc_laws_markTree (w0 : World) (a0 a1 : Value) (σ : Vw) (R : Value → Vw → Prop) : Prop :=
  pVal true 5 a0 (AC Tryd.prog w0 n_laws_markStringS [cellOf a0 3, a1] σ (fun v0 s1 => AC Tryd.prog w0 n_laws_markTreeS [cellOf a0 4, v0] s1 (fun v2 s3 => R v2 s3)))
theorem vc_laws_markTree_eq (w0 : World) (a0 a1 : Value) (σ : Vw) (R : Value → Vw → Prop) : vc_laws_markTree w0 a0 a1 σ R = den Tryd.prog w0 kp_laws_markTree esc_laws_markTree (Tryd.f29.body.getD .skip) (entry Tryd.f29.ntmps [a0, a1]) σ (retK Tryd.prog Tryd.f29.results.toList R) := by kernel_rfl
theorem ac_laws_markTree {w0 : World} {a0 a1 : Value} {σ : Vw} {R : Value → Vw → Prop} (h : vc_laws_markTree w0 a0 a1 σ R) : AC Tryd.prog w0 n_laws_markTree [a0, a1] σ R := by
  refine ac_rule (fn := Tryd.f29) (c := Tryd.f29.body.getD .skip) kp_laws_markTree esc_laws_markTree Tryd.func29 (by kernel_rfl) (by kernel_rfl) ?_
  rw [← vc_laws_markTree_eq]
  exact h

/-- laws.markRowS -/
def kp_laws_markRowS : Nat → Keep
  | 2 => ⟨[0, 1, 5], [], [], .done, []⟩
  | _ => ⟨[], [], [], .done, []⟩
def esc_laws_markRowS : Nat → Bool
  | _ => false
def vc_laws_markRowS (w0 : World) (a0 a1 : Value) (σ : Vw) (R : Value → Vw → Prop) : Prop :=
  pLoop (fun l0 K1 s2 => pLen (vget l0 0) (fun v3 => pBin Tryd.prog 3 BinOp.lss (vget l0 2) v3 (fun v4 => pIf v4 (pIndexAddr 5 (vget l0 0) (vget l0 2) (fun v5 => pField 0 v5 (fun v6 => pLoad w0 1 v6 s2 (fun g7 => AC Tryd.prog w0 n_laws_markStringS [g7 0, vget l0 1] s2 (fun v8 s9 => pBin Tryd.prog 3 BinOp.rem v8 (Value.int IntKind.i64 3) (fun v10 => pBin Tryd.prog 3 BinOp.eql v10 (Value.int IntKind.i64 0) (fun v11 => pIndexAddr 5 (vget l0 0) (vget l0 2) (fun v12 => pField 1 v12 (fun v13 => pVal false 1 v11 (pStore v13 [v11] s9 (fun s14 => pBin Tryd.prog 3 BinOp.add v8 (Value.int IntKind.i64 1) (fun v15 => pIndexAddr 5 (vget l0 0) (vget l0 2) (fun v16 => pField 2 v16 (fun v17 => pVal false 1 v15 (pStore v17 [v15] s14 (fun s18 => pBin Tryd.prog 3 BinOp.add v15 (Value.int IntKind.i64 1) (fun v19 => AC Tryd.prog w0 n_laws_markText [v19] s18 (fun v20 s21 => pIndexAddr 5 (vget l0 0) (vget l0 2) (fun v22 => pField 3 v22 (fun v23 => pVal false 1 v20 (pStore v23 [v20] s21 (fun s24 => pBin Tryd.prog 3 BinOp.add v19 (Value.int IntKind.i64 1) (fun v25 => pIndexAddr 5 (vget l0 0) (vget l0 2) (fun v26 => pField 4 v26 (fun v27 => pVal false 1 v25 (pStore v27 [v25] s24 (fun s28 => pBin Tryd.prog 3 BinOp.add v25 (Value.int IntKind.i64 1) (fun v29 => pBin Tryd.prog 3 BinOp.add (vget l0 2) (Value.int IntKind.i64 1) (fun v30 => K1 AX.normal [vget l0 0, v29, v30] s28))))))))))))))))))))))))))))) (K1 (AX.exit 0) [vget l0 0, vget l0 1, vget l0 2] s2)))) [a0, a1, Value.int IntKind.i64 0] σ (fun x31 l32 s33 => match x31 with | .normal => R (vget l32 1) s33 | .ret => False | .exit i34 => (match Nat.beq i34 0 with | true => R (vget l32 1) s33 | false => False))
theorem vc_laws_markRowS_eq (w0 : World) (a0 a1 : Value) (σ : Vw) (R : Value → Vw → Prop) : vc_laws_markRowS w0 a0 a1 σ R = den Tryd.prog w0 kp_laws_markRowS esc_laws_markRowS (Tryd.f30.body.getD .skip) (entry Tryd.f30.ntmps [a0, a1]) σ (retK Tryd.prog Tryd.f30.results.toList R) := by kernel_rfl
theorem ac_laws_markRowS {w0 : World} {a0 a1 : Value} {σ : Vw} {R : Value → Vw → Prop} (h : vc_laws_markRowS w0 a0 a1 σ R) : AC Tryd.prog w0 n_laws_markRowS [a0, a1] σ R := by
  refine ac_rule (fn := Tryd.f30) (c := Tryd.f30.body.getD .skip) kp_laws_markRowS esc_laws_markRowS Tryd.func30 (by kernel_rfl) (by kernel_rfl) ?_
  rw [← vc_laws_markRowS_eq]
  exact h

/-- laws.heldRowS -/
def kp_laws_heldRowS : Nat → Keep
  | 2 => ⟨[0, 1, 4, 5], [], [], .done, []⟩
  | 13 => ⟨[], [], [], .step 0 (.step 1 (.step 2 (.step 3 (.step 4 (.step 5 (.step 6 (.step 7 (.done)))))))), [(2, [0, 1]), (3, [0, 1, 2]), (4, [0, 1, 2, 3]), (6, [5]), (7, [0, 1, 2, 3, 4, 5, 6])]⟩
  | _ => ⟨[], [], [], .done, []⟩
def esc_laws_heldRowS : Nat → Bool
  | _ => false
def vc_laws_heldRowS (w0 : World) (a0 a1 : Value) (σ : Vw) (R : Value → Vw → Prop) : Prop :=
  pLoop (fun l0 K1 s2 => pLen (vget l0 0) (fun v3 => pBin Tryd.prog 3 BinOp.lss (vget l0 3) v3 (fun v4 => pIf v4 (pIndexAddr 5 (vget l0 0) (vget l0 3) (fun v5 => pField 0 v5 (fun v6 => pLoad w0 1 v6 s2 (fun g7 => AC Tryd.prog w0 n_laws_heldStringS [g7 0, vget l0 1] s2 (fun v8 s9 => pBin Tryd.prog 3 BinOp.lss v8 (Value.int IntKind.i64 0) (fun v10 => pIf v10 (K1 AX.ret [vget l0 0, v8, Value.int IntKind.i64 (-1), vget l0 3] s9) (pIndexAddr 5 (vget l0 0) (vget l0 3) (fun v11 => pField 1 v11 (fun v12 => pLoad w0 1 v12 s9 (fun g13 => pBin Tryd.prog 3 BinOp.rem v8 (Value.int IntKind.i64 3) (fun v14 => pBin Tryd.prog 3 BinOp.eql v14 (Value.int IntKind.i64 0) (fun v15 => pBin Tryd.prog 4 BinOp.neq (g13 0) v15 (fun v16 => pIf v16 (K1 AX.ret [vget l0 0, v8, Value.int IntKind.i64 (-1), vget l0 3] s9) (pBin Tryd.prog 3 BinOp.add v8 (Value.int IntKind.i64 1) (fun v17 => pIndexAddr 5 (vget l0 0) (vget l0 3) (fun v18 => pField 2 v18 (fun v19 => pLoad w0 1 v19 s9 (fun g20 => pBin Tryd.prog 3 BinOp.neq (g20 0) v17 (fun v21 => pIf v21 (K1 AX.ret [vget l0 0, v17, Value.int IntKind.i64 (-1), vget l0 3] s9) (pBin Tryd.prog 3 BinOp.add v17 (Value.int IntKind.i64 1) (fun v22 => pIndexAddr 5 (vget l0 0) (vget l0 3) (fun v23 => pField 3 v23 (fun v24 => pLoad w0 1 v24 s9 (fun g25 => AC Tryd.prog w0 n_laws_markText [v22] s9 (fun v26 s27 => (Stay w0 s9 s27 v24 1) ∧ (pBin Tryd.prog 9 BinOp.neq (g25 0) v26 (fun v28 => pIf v28 (K1 AX.ret [vget l0 0, v22, Value.int IntKind.i64 (-1), vget l0 3] s27) (pBin Tryd.prog 3 BinOp.add v22 (Value.int IntKind.i64 1) (fun v29 => pIndexAddr 5 (vget l0 0) (vget l0 3) (fun v30 => pField 4 v30 (fun v31 => pLoad w0 1 v31 s27 (fun g32 => pBin Tryd.prog 3 BinOp.neq (g32 0) v29 (fun v33 => pIf v33 (K1 AX.ret [vget l0 0, v29, Value.int IntKind.i64 (-1), vget l0 3] s27) (pBin Tryd.prog 3 BinOp.add v29 (Value.int IntKind.i64 1) (fun v34 => pBin Tryd.prog 3 BinOp.add (vget l0 3) (Value.int IntKind.i64 1) (fun v35 => K1 AX.normal [vget l0 0, v34, vget l0 2, v35] s27)))))))))))))))))))))))))))))))))))) (K1 (AX.exit 0) [vget l0 0, vget l0 1, vget l0 2, vget l0 3] s2)))) [a0, a1, Value.int IntKind.i64 0, Value.int IntKind.i64 0] σ (fun x36 l37 s38 => match x36 with | .normal => R (vget l37 1) s38 | .ret => R (vget l37 2) s38 | .exit i39 => (match Nat.beq i39 0 with | true => R (vget l37 1) s38 | false => False))
theorem vc_laws_heldRowS_eq (w0 : World) (a0 a1 : Value) (σ : Vw) (R : Value → Vw → Prop) : vc_laws_heldRowS w0 a0 a1 σ R = den Tryd.prog w0 kp_laws_heldRowS esc_laws_heldRowS (Tryd.f31.body.getD .skip) (entry Tryd.f31.ntmps [a0, a1]) σ (retK Tryd.prog Tryd.f31.results.toList R) := by kernel_rfl
theorem ac_laws_heldRowS {w0 : World} {a0 a1 : Value} {σ : Vw} {R : Value → Vw → Prop} (h : vc_laws_heldRowS w0 a0 a1 σ R) : AC Tryd.prog w0 n_laws_heldRowS [a0, a1] σ R := by
  refine ac_rule (fn := Tryd.f31) (c := Tryd.f31.body.getD .skip) kp_laws_heldRowS esc_laws_heldRowS Tryd.func31 (by kernel_rfl) (by kernel_rfl) ?_
  rw [← vc_laws_heldRowS_eq]
  exact h

/-- spec.LayerRead -/
def kp_spec_LayerRead : Nat → Keep
  | 7 => ⟨[2, 3, 4, 5, 6, 7], [], [], .done, []⟩
  | _ => ⟨[], [], [], .done, []⟩
def esc_spec_LayerRead : Nat → Bool
  | 10 => true
  | 42 => true
  | _ => false
def vc_spec_LayerRead (w0 : World) (a0 : Value) (σ : Vw) (R : Value → Vw → Prop) : Prop :=
  pNew w0 69 [] σ (fun n0 s1 => AC Tryd.prog w0 n_spec_l1Cut [a0, Value.int IntKind.u8 10] s1 (fun v2 s3 => pLen v2 (fun v4 => pBin Tryd.prog 3 BinOp.sub v4 (Value.int IntKind.i64 1) (fun v5 => pLenS a0 (fun v6 => pBin Tryd.prog 3 BinOp.gtr v6 (Value.int IntKind.i64 6000) (fun v7 => pIf v7 (R (Value.tuple (⟨[Value.slice (Option.some (Addr.mk n0 0 Option.none)) 0 0, Value.bool false]⟩)) s3) (pIndexAddr 1 v2 v5 (fun v8 => pLoad w0 1 v8 s3 (fun g9 => pBin Tryd.prog 9 BinOp.neq (g9 0) (Value.string ({ data := #[] })) (fun v10 => pIf v10 (R (Value.tuple (⟨[Value.slice (Option.some (Addr.mk n0 0 Option.none)) 0 0, Value.bool false]⟩)) s3) (pLoop (fun l11 K12 s13 => pBin Tryd.prog 3 BinOp.lss (vget l11 5) (vget l11 4) (fun v14 => pIf v14 (pIndexAddr 1 (vget l11 3) (vget l11 5) (fun v15 => pLoad w0 1 v15 s13 (fun g16 => AC Tryd.prog w0 n_spec_l3Line [g16 0] s13 (fun v17 s18 => pExtract v17 0 (fun v19 => pExtract v17 1 (fun v20 => pVal true 5 v19 (pUn UnOp.not v20 (fun v21 => pIf v21 (pNew w0 69 [] s18 (fun n22 s23 => K12 AX.ret [Value.slice (Option.some (Addr.mk n22 0 Option.none)) 0 0, Value.bool false, vget l11 2, vget l11 3, vget l11 4, vget l11 5] s23)) (pVal true 5 (Value.agg (⟨[cellOf v19 0, cellOf v19 1, cellOf v19 2, cellOf v19 3, cellOf v19 4]⟩)) ((allOne [cellOf v19 0, cellOf v19 1, cellOf v19 2, cellOf v19 3, cellOf v19 4]) ∧ (pAppend w0 69 5 64 (vget l11 2) 1 [cellOf v19 0, cellOf v19 1, cellOf v19 2, cellOf v19 3, cellOf v19 4] s18 (fun v24 s25 => pBin Tryd.prog 3 BinOp.add (vget l11 5) (Value.int IntKind.i64 1) (fun v26 => K12 AX.normal [vget l11 0, vget l11 1, v24, vget l11 3, vget l11 4, v26] s25))))))))))))) (K12 (AX.exit 0) [vget l11 0, vget l11 1, vget l11 2, vget l11 3, vget l11 4, vget l11 5] s13))) [Value.slice Option.none 0 0, Value.bool false, Value.slice (Option.some (Addr.mk n0 0 Option.none)) 0 0, v2, v5, Value.int IntKind.i64 0] s3 (fun x27 l28 s29 => match x27 with | .normal => R (Value.tuple (⟨[vget l28 2, Value.bool true]⟩)) s29 | .ret => R (Value.tuple (⟨[vget l28 0, vget l28 1]⟩)) s29 | .exit i30 => (match Nat.beq i30 0 with | true => R (Value.tuple (⟨[vget l28 2, Value.bool true]⟩)) s29 | false => False)))))))))))))
theorem vc_spec_LayerRead_eq (w0 : World) (a0 : Value) (σ : Vw) (R : Value → Vw → Prop) : vc_spec_LayerRead w0 a0 σ R = den Tryd.prog w0 kp_spec_LayerRead esc_spec_LayerRead (Tryd.f32.body.getD .skip) (entry Tryd.f32.ntmps [a0]) σ (retK Tryd.prog Tryd.f32.results.toList R) := by kernel_rfl
theorem ac_spec_LayerRead {w0 : World} {a0 : Value} {σ : Vw} {R : Value → Vw → Prop} (h : vc_spec_LayerRead w0 a0 σ R) : AC Tryd.prog w0 n_spec_LayerRead [a0] σ R := by
  refine ac_rule (fn := Tryd.f32) (c := Tryd.f32.body.getD .skip) kp_spec_LayerRead esc_spec_LayerRead Tryd.func32 (by kernel_rfl) (by kernel_rfl) ?_
  rw [← vc_spec_LayerRead_eq]
  exact h

/-- impl.LayerRead -/
def kp_impl_LayerRead : Nat → Keep
  | 5 => ⟨[0, 4, 15, 16, 17], [], [], .done, []⟩
  | 15 => ⟨[], [], [], .step 0 (.step 1 (.step 2 (.step 4 (.step 5 (.step 6 (.step 8 (.step 3 (.step 7 (.step 9 (.step 10 (.step 11 (.step 12 (.step 13 (.done)))))))))))))), [(1, [0]), (2, [0, 1]), (3, [0, 1, 2]), (5, [4]), (6, [4, 5]), (7, [0, 1, 2, 3, 4, 5, 6]), (9, [0, 1, 2, 3, 4, 5, 6, 7, 8]), (10, [0, 1, 2, 3, 4, 5, 6, 7, 8, 9]), (11, [0, 1, 2, 3, 4, 5, 6, 7, 8, 9, 10]), (12, [0, 1, 2, 3, 4, 5, 6, 7, 8, 9, 10, 11]), (13, [0, 1, 2, 3, 4, 5, 6, 7, 8, 9, 10, 11, 12])]⟩
  | _ => ⟨[], [], [], .done, []⟩
def esc_impl_LayerRead : Nat → Bool
  | 9 => true
  | 83 => true
  | _ => false
def vc_impl_LayerRead (w0 : World) (a0 : Value) (σ : Vw) (R : Value → Vw → Prop) : Prop :=
  pNew w0 69 [] σ (fun n0 s1 => pLenS a0 (fun v2 => pBin Tryd.prog 3 BinOp.gtr v2 (Value.int IntKind.i64 6000) (fun v3 => pIf v3 (R (Value.tuple (⟨[Value.slice (Option.some (Addr.mk n0 0 Option.none)) 0 0, Value.bool false]⟩)) s1) (AC Tryd.prog w0 n_impl_linesOf [a0] s1 (fun v4 s5 => pLen v4 (fun v6 => pLoop (fun l7 K8 s9 => pBin Tryd.prog 3 BinOp.lss (vget l7 4) (vget l7 3) (fun v10 => pIf v10 (pIndexAddr 1 (vget l7 2) (vget l7 4) (fun v11 => pLoad w0 1 v11 s9 (fun g12 => AC Tryd.prog w0 n_strings_Split ([g12 0, Value.string ({ data := #[32] })]) s9 (fun v13 s14 => pVal false 1 (Value.string ({ data := #[] })) (pVal false 1 (Value.string ({ data := #[] })) (pVal false 1 (Value.string ({ data := #[] })) ((allOne ([Value.string ({ data := #[] }), Value.string ({ data := #[] }), Value.string ({ data := #[] })])) ∧ (pAppend w0 9 1 16 v13 3 ([Value.string ({ data := #[] }), Value.string ({ data := #[] }), Value.string ({ data := #[] })]) s14 (fun v15 s16 => pIndexAddr 1 v15 (Value.int IntKind.i64 1) (fun v17 => pLoad w0 1 v17 s16 (fun g18 => AC Tryd.prog w0 n_impl_pathRead [g18 0] s16 (fun v19 s20 => pVal false 1 v19 (pVal true 5 (Value.agg (⟨[v19, Value.int IntKind.i64 0, Value.bool false, Value.int IntKind.i64 0, Value.string ({ data := #[] })]⟩)) (pIndexAddr 1 v15 (Value.int IntKind.i64 0) (fun v21 => pLoad w0 1 v21 s20 (fun g22 => pBin Tryd.prog 9 BinOp.eql (g22 0) (Value.string ({ data := #[103, 111, 110, 101] })) (fun v23 => pIf v23 (pVal false 1 (Value.int IntKind.i64 1) (pVal true 5 (Value.agg (⟨[v19, Value.int IntKind.i64 1, Value.bool false, Value.int IntKind.i64 0, Value.string ({ data := #[] })]⟩)) ((allOne ([v19, Value.int IntKind.i64 1, Value.bool false, Value.int IntKind.i64 0, Value.string ({ data := #[] })])) ∧ (pAppend w0 69 5 64 (vget l7 1) 1 ([v19, Value.int IntKind.i64 1, Value.bool false, Value.int IntKind.i64 0, Value.string ({ data := #[] })]) s20 (fun v24 s25 => pBin Tryd.prog 3 BinOp.add (vget l7 4) (Value.int IntKind.i64 1) (fun v26 => K8 AX.normal [vget l7 0, v24, vget l7 2, vget l7 3, v26] s25)))))) (pBin Tryd.prog 9 BinOp.eql (g22 0) (Value.string ({ data := #[110, 101, 119, 100, 105, 114] })) (fun v27 => pIf v27 (pIndexAddr 1 v15 (Value.int IntKind.i64 2) (fun v28 => pLoad w0 1 v28 s20 (fun g29 => AC Tryd.prog w0 n_impl_numRead [g29 0] s20 (fun v30 s31 => pVal false 1 (Value.int IntKind.i64 2) (pVal false 1 (Value.bool true) (pVal false 1 v30 (pVal true 5 (Value.agg (⟨[v19, Value.int IntKind.i64 2, Value.bool true, v30, Value.string ({ data := #[] })]⟩)) ((allOne ([v19, Value.int IntKind.i64 2, Value.bool true, v30, Value.string ({ data := #[] })])) ∧ (pAppend w0 69 5 64 (vget l7 1) 1 ([v19, Value.int IntKind.i64 2, Value.bool true, v30, Value.string ({ data := #[] })]) s31 (fun v32 s33 => pBin Tryd.prog 3 BinOp.add (vget l7 4) (Value.int IntKind.i64 1) (fun v34 => K8 AX.normal [vget l7 0, v32, vget l7 2, vget l7 3, v34] s33))))))))))) (pBin Tryd.prog 9 BinOp.eql (g22 0) (Value.string ({ data := #[110, 101, 119] })) (fun v35 => pIf v35 (pIndexAddr 1 v15 (Value.int IntKind.i64 2) (fun v36 => pLoad w0 1 v36 s20 (fun g37 => pIndexAddr 1 v15 (Value.int IntKind.i64 3) (fun v38 => pLoad w0 1 v38 s20 (fun g39 => AC Tryd.prog w0 n_impl_numRead [g37 0] s20 (fun v40 s41 => (Stay w0 s20 s41 v38 1) ∧ (AC Tryd.prog w0 n_impl_dataRead [g39 0] s41 (fun v42 s43 => pVal false 1 (Value.int IntKind.i64 2) (pVal false 1 v40 (pVal false 1 v42 (pVal true 5 (Value.agg (⟨[v19, Value.int IntKind.i64 2, Value.bool false, v40, v42]⟩)) ((allOne [v19, Value.int IntKind.i64 2, Value.bool false, v40, v42]) ∧ (pAppend w0 69 5 64 (vget l7 1) 1 [v19, Value.int IntKind.i64 2, Value.bool false, v40, v42] s43 (fun v44 s45 => pBin Tryd.prog 3 BinOp.add (vget l7 4) (Value.int IntKind.i64 1) (fun v46 => K8 AX.normal [vget l7 0, v44, vget l7 2, vget l7 3, v46] s45))))))))))))))) (pBin Tryd.prog 9 BinOp.eql (g22 0) (Value.string ({ data := #[109, 111, 100, 101] })) (fun v47 => pIf v47 (pIndexAddr 1 v15 (Value.int IntKind.i64 2) (fun v48 => pLoad w0 1 v48 s20 (fun g49 => AC Tryd.prog w0 n_impl_numRead [g49 0] s20 (fun v50 s51 => pVal false 1 (Value.int IntKind.i64 3) (pVal false 1 v50 (pVal true 5 (Value.agg (⟨[v19, Value.int IntKind.i64 3, Value.bool false, v50, Value.string ({ data := #[] })]⟩)) ((allOne ([v19, Value.int IntKind.i64 3, Value.bool false, v50, Value.string ({ data := #[] })])) ∧ (pAppend w0 69 5 64 (vget l7 1) 1 ([v19, Value.int IntKind.i64 3, Value.bool false, v50, Value.string ({ data := #[] })]) s51 (fun v52 s53 => pBin Tryd.prog 3 BinOp.add (vget l7 4) (Value.int IntKind.i64 1) (fun v54 => K8 AX.normal [vget l7 0, v52, vget l7 2, vget l7 3, v54] s53)))))))))) (pBin Tryd.prog 9 BinOp.eql (g22 0) (Value.string ({ data := #[100, 97, 116, 97] })) (fun v55 => pIf v55 (pIndexAddr 1 v15 (Value.int IntKind.i64 2) (fun v56 => pLoad w0 1 v56 s20 (fun g57 => AC Tryd.prog w0 n_impl_dataRead [g57 0] s20 (fun v58 s59 => pVal false 1 (Value.int IntKind.i64 4) (pVal false 1 v58 (pVal true 5 (Value.agg (⟨[v19, Value.int IntKind.i64 4, Value.bool false, Value.int IntKind.i64 0, v58]⟩)) ((allOne [v19, Value.int IntKind.i64 4, Value.bool false, Value.int IntKind.i64 0, v58]) ∧ (pAppend w0 69 5 64 (vget l7 1) 1 [v19, Value.int IntKind.i64 4, Value.bool false, Value.int IntKind.i64 0, v58] s59 (fun v60 s61 => pBin Tryd.prog 3 BinOp.add (vget l7 4) (Value.int IntKind.i64 1) (fun v62 => K8 AX.normal [vget l7 0, v60, vget l7 2, vget l7 3, v62] s61)))))))))) (pVal true 5 (Value.agg (⟨[v19, Value.int IntKind.i64 0, Value.bool false, Value.int IntKind.i64 0, Value.string ({ data := #[] })]⟩)) ((allOne ([v19, Value.int IntKind.i64 0, Value.bool false, Value.int IntKind.i64 0, Value.string ({ data := #[] })])) ∧ (pAppend w0 69 5 64 (vget l7 1) 1 ([v19, Value.int IntKind.i64 0, Value.bool false, Value.int IntKind.i64 0, Value.string ({ data := #[] })]) s20 (fun v63 s64 => pBin Tryd.prog 3 BinOp.add (vget l7 4) (Value.int IntKind.i64 1) (fun v65 => K8 AX.normal [vget l7 0, v63, vget l7 2, vget l7 3, v65] s64)))))))))))))))))))))))))))))) (K8 (AX.exit 0) [vget l7 0, vget l7 1, vget l7 2, vget l7 3, vget l7 4] s9))) [a0, Value.slice (Option.some (Addr.mk n0 0 Option.none)) 0 0, v4, v6, Value.int IntKind.i64 0] s5 (fun x66 l67 s68 => match x66 with | .normal => AC Tryd.prog w0 n_impl_LayerWrite [vget l67 1] s68 (fun v69 s70 => pBin Tryd.prog 9 BinOp.neq v69 (vget l67 0) (fun v71 => pIf v71 (pNew w0 69 [] s70 (fun n72 s73 => R (Value.tuple (⟨[Value.slice (Option.some (Addr.mk n72 0 Option.none)) 0 0, Value.bool false]⟩)) s73)) (R (Value.tuple (⟨[vget l67 1, Value.bool true]⟩)) s70))) | .ret => False | .exit i74 => (match Nat.beq i74 0 with | true => AC Tryd.prog w0 n_impl_LayerWrite [vget l67 1] s68 (fun v75 s76 => pBin Tryd.prog 9 BinOp.neq v75 (vget l67 0) (fun v77 => pIf v77 (pNew w0 69 [] s76 (fun n78 s79 => R (Value.tuple (⟨[Value.slice (Option.some (Addr.mk n78 0 Option.none)) 0 0, Value.bool false]⟩)) s79)) (R (Value.tuple (⟨[vget l67 1, Value.bool true]⟩)) s76))) | false => False))))))))
theorem vc_impl_LayerRead_eq (w0 : World) (a0 : Value) (σ : Vw) (R : Value → Vw → Prop) : vc_impl_LayerRead w0 a0 σ R = den Tryd.prog w0 kp_impl_LayerRead esc_impl_LayerRead (Tryd.f33.body.getD .skip) (entry Tryd.f33.ntmps [a0]) σ (retK Tryd.prog Tryd.f33.results.toList R) := by kernel_rfl
theorem ac_impl_LayerRead {w0 : World} {a0 : Value} {σ : Vw} {R : Value → Vw → Prop} (h : vc_impl_LayerRead w0 a0 σ R) : AC Tryd.prog w0 n_impl_LayerRead [a0] σ R := by
  refine ac_rule (fn := Tryd.f33) (c := Tryd.f33.body.getD .skip) kp_impl_LayerRead esc_impl_LayerRead Tryd.func33 (by kernel_rfl) (by kernel_rfl) ?_
  rw [← vc_impl_LayerRead_eq]
  exact h

/-- laws.markEntryS -/
def kp_laws_markEntryS : Nat → Keep
  | 2 => ⟨[0, 1, 5], [], [], .done, []⟩
  | _ => ⟨[], [], [], .done, []⟩
def esc_laws_markEntryS : Nat → Bool
  | _ => false
def vc_laws_markEntryS (w0 : World) (a0 a1 : Value) (σ : Vw) (R : Value → Vw → Prop) : Prop :=
  pLoop (fun l0 K1 s2 => pLen (vget l0 0) (fun v3 => pBin Tryd.prog 3 BinOp.lss (vget l0 2) v3 (fun v4 => pIf v4 (pIndexAddr 5 (vget l0 0) (vget l0 2) (fun v5 => pField 0 v5 (fun v6 => pLoad w0 1 v6 s2 (fun g7 => AC Tryd.prog w0 n_laws_markStringS [g7 0, vget l0 1] s2 (fun v8 s9 => pIndexAddr 5 (vget l0 0) (vget l0 2) (fun v10 => pField 1 v10 (fun v11 => pVal false 1 v8 (pStore v11 [v8] s9 (fun s12 => pBin Tryd.prog 3 BinOp.add v8 (Value.int IntKind.i64 1) (fun v13 => pBin Tryd.prog 3 BinOp.rem v13 (Value.int IntKind.i64 3) (fun v14 => pBin Tryd.prog 3 BinOp.eql v14 (Value.int IntKind.i64 0) (fun v15 => pIndexAddr 5 (vget l0 0) (vget l0 2) (fun v16 => pField 2 v16 (fun v17 => pVal false 1 v15 (pStore v17 [v15] s12 (fun s18 => pBin Tryd.prog 3 BinOp.add v13 (Value.int IntKind.i64 1) (fun v19 => pIndexAddr 5 (vget l0 0) (vget l0 2) (fun v20 => pField 3 v20 (fun v21 => pVal false 1 v19 (pStore v21 [v19] s18 (fun s22 => pBin Tryd.prog 3 BinOp.add v19 (Value.int IntKind.i64 1) (fun v23 => AC Tryd.prog w0 n_laws_markText [v23] s22 (fun v24 s25 => pIndexAddr 5 (vget l0 0) (vget l0 2) (fun v26 => pField 4 v26 (fun v27 => pVal false 1 v24 (pStore v27 [v24] s25 (fun s28 => pBin Tryd.prog 3 BinOp.add v23 (Value.int IntKind.i64 1) (fun v29 => pBin Tryd.prog 3 BinOp.add (vget l0 2) (Value.int IntKind.i64 1) (fun v30 => K1 AX.normal [vget l0 0, v29, v30] s28))))))))))))))))))))))))))))) (K1 (AX.exit 0) [vget l0 0, vget l0 1, vget l0 2] s2)))) [a0, a1, Value.int IntKind.i64 0] σ (fun x31 l32 s33 => match x31 with | .normal => R (vget l32 1) s33 | .ret => False | .exit i34 => (match Nat.beq i34 0 with | true => R (vget l32 1) s33 | false => False))
theorem vc_laws_markEntryS_eq (w0 : World) (a0 a1 : Value) (σ : Vw) (R : Value → Vw → Prop) : vc_laws_markEntryS w0 a0 a1 σ R = den Tryd.prog w0 kp_laws_markEntryS esc_laws_markEntryS (Tryd.f34.body.getD .skip) (entry Tryd.f34.ntmps [a0, a1]) σ (retK Tryd.prog Tryd.f34.results.toList R) := by kernel_rfl
theorem ac_laws_markEntryS {w0 : World} {a0 a1 : Value} {σ : Vw} {R : Value → Vw → Prop} (h : vc_laws_markEntryS w0 a0 a1 σ R) : AC Tryd.prog w0 n_laws_markEntryS [a0, a1] σ R := by
  refine ac_rule (fn := Tryd.f34) (c := Tryd.f34.body.getD .skip) kp_laws_markEntryS esc_laws_markEntryS Tryd.func34 (by kernel_rfl) (by kernel_rfl) ?_
  rw [← vc_laws_markEntryS_eq]
  exact h

/-- laws.heldEntryS -/
def kp_laws_heldEntryS : Nat → Keep
  | 2 => ⟨[0, 1, 4, 5], [], [], .done, []⟩
  | 16 => ⟨[], [], [], .step 0 (.step 1 (.step 2 (.step 3 (.step 4 (.step 5 (.step 6 (.step 7 (.done)))))))), [(2, [0, 1]), (3, [0, 1, 2]), (4, [0, 1, 2, 3]), (6, [5]), (7, [0, 1, 2, 3, 4, 5, 6])]⟩
  | _ => ⟨[], [], [], .done, []⟩
def esc_laws_heldEntryS : Nat → Bool
  | _ => false
def vc_laws_heldEntryS (w0 : World) (a0 a1 : Value) (σ : Vw) (R : Value → Vw → Prop) : Prop :=
  pLoop (fun l0 K1 s2 => pLen (vget l0 0) (fun v3 => pBin Tryd.prog 3 BinOp.lss (vget l0 3) v3 (fun v4 => pIf v4 (pIndexAddr 5 (vget l0 0) (vget l0 3) (fun v5 => pField 0 v5 (fun v6 => pLoad w0 1 v6 s2 (fun g7 => AC Tryd.prog w0 n_laws_heldStringS [g7 0, vget l0 1] s2 (fun v8 s9 => pBin Tryd.prog 3 BinOp.lss v8 (Value.int IntKind.i64 0) (fun v10 => pIf v10 (K1 AX.ret [vget l0 0, v8, Value.int IntKind.i64 (-1), vget l0 3] s9) (pIndexAddr 5 (vget l0 0) (vget l0 3) (fun v11 => pField 1 v11 (fun v12 => pLoad w0 1 v12 s9 (fun g13 => pBin Tryd.prog 3 BinOp.neq (g13 0) v8 (fun v14 => pIf v14 (K1 AX.ret [vget l0 0, v8, Value.int IntKind.i64 (-1), vget l0 3] s9) (pBin Tryd.prog 3 BinOp.add v8 (Value.int IntKind.i64 1) (fun v15 => pIndexAddr 5 (vget l0 0) (vget l0 3) (fun v16 => pField 2 v16 (fun v17 => pLoad w0 1 v17 s9 (fun g18 => pBin Tryd.prog 3 BinOp.rem v15 (Value.int IntKind.i64 3) (fun v19 => pBin Tryd.prog 3 BinOp.eql v19 (Value.int IntKind.i64 0) (fun v20 => pBin Tryd.prog 4 BinOp.neq (g18 0) v20 (fun v21 => pIf v21 (K1 AX.ret [vget l0 0, v15, Value.int IntKind.i64 (-1), vget l0 3] s9) (pBin Tryd.prog 3 BinOp.add v15 (Value.int IntKind.i64 1) (fun v22 => pIndexAddr 5 (vget l0 0) (vget l0 3) (fun v23 => pField 3 v23 (fun v24 => pLoad w0 1 v24 s9 (fun g25 => pBin Tryd.prog 3 BinOp.neq (g25 0) v22 (fun v26 => pIf v26 (K1 AX.ret [vget l0 0, v22, Value.int IntKind.i64 (-1), vget l0 3] s9) (pBin Tryd.prog 3 BinOp.add v22 (Value.int IntKind.i64 1) (fun v27 => pIndexAddr 5 (vget l0 0) (vget l0 3) (fun v28 => pField 4 v28 (fun v29 => pLoad w0 1 v29 s9 (fun g30 => AC Tryd.prog w0 n_laws_markText [v27] s9 (fun v31 s32 => (Stay w0 s9 s32 v29 1) ∧ (pBin Tryd.prog 9 BinOp.neq (g30 0) v31 (fun v33 => pIf v33 (K1 AX.ret [vget l0 0, v27, Value.int IntKind.i64 (-1), vget l0 3] s32) (pBin Tryd.prog 3 BinOp.add v27 (Value.int IntKind.i64 1) (fun v34 => pBin Tryd.prog 3 BinOp.add (vget l0 3) (Value.int IntKind.i64 1) (fun v35 => K1 AX.normal [vget l0 0, v34, vget l0 2, v35] s32)))))))))))))))))))))))))))))))))))) (K1 (AX.exit 0) [vget l0 0, vget l0 1, vget l0 2, vget l0 3] s2)))) [a0, a1, Value.int IntKind.i64 0, Value.int IntKind.i64 0] σ (fun x36 l37 s38 => match x36 with | .normal => R (vget l37 1) s38 | .ret => R (vget l37 2) s38 | .exit i39 => (match Nat.beq i39 0 with | true => R (vget l37 1) s38 | false => False))
theorem vc_laws_heldEntryS_eq (w0 : World) (a0 a1 : Value) (σ : Vw) (R : Value → Vw → Prop) : vc_laws_heldEntryS w0 a0 a1 σ R = den Tryd.prog w0 kp_laws_heldEntryS esc_laws_heldEntryS (Tryd.f35.body.getD .skip) (entry Tryd.f35.ntmps [a0, a1]) σ (retK Tryd.prog Tryd.f35.results.toList R) := by kernel_rfl
theorem ac_laws_heldEntryS {w0 : World} {a0 a1 : Value} {σ : Vw} {R : Value → Vw → Prop} (h : vc_laws_heldEntryS w0 a0 a1 σ R) : AC Tryd.prog w0 n_laws_heldEntryS [a0, a1] σ R := by
  refine ac_rule (fn := Tryd.f35) (c := Tryd.f35.body.getD .skip) kp_laws_heldEntryS esc_laws_heldEntryS Tryd.func35 (by kernel_rfl) (by kernel_rfl) ?_
  rw [← vc_laws_heldEntryS_eq]
  exact h

/-- laws.szStringS -/
def kp_laws_szStringS : Nat → Keep
  | 5 => ⟨[0, 1, 4, 5], [], [], .done, []⟩
  | _ => ⟨[], [], [], .done, []⟩
def esc_laws_szStringS : Nat → Bool
  | _ => false
def vc_laws_szStringS (w0 : World) (a0 a1 : Value) (σ : Vw) (R : Value → Vw → Prop) : Prop :=
  pLen a0 (fun v0 => pBin Tryd.prog 3 BinOp.sub a1 v0 (fun v1 => pBin Tryd.prog 3 BinOp.lss v1 (Value.int IntKind.i64 0) (fun v2 => pIf v2 (R (Value.int IntKind.i64 (-1)) σ) (pLoop (fun l3 K4 s5 => pLen (vget l3 0) (fun v6 => pBin Tryd.prog 3 BinOp.lss (vget l3 3) v6 (fun v7 => pIf v7 (pIndexAddr 1 (vget l3 0) (vget l3 3) (fun v8 => pLoad w0 1 v8 s5 (fun g9 => pLenS (g9 0) (fun v10 => pBin Tryd.prog 3 BinOp.sub (vget l3 1) v10 (fun v11 => pBin Tryd.prog 3 BinOp.lss v11 (Value.int IntKind.i64 0) (fun v12 => pIf v12 (K4 AX.ret [vget l3 0, v11, Value.int IntKind.i64 (-1), vget l3 3] s5) (pBin Tryd.prog 3 BinOp.add (vget l3 3) (Value.int IntKind.i64 1) (fun v13 => K4 AX.normal [vget l3 0, v11, vget l3 2, v13] s5)))))))) (K4 (AX.exit 0) [vget l3 0, vget l3 1, vget l3 2, vget l3 3] s5)))) [a0, v1, Value.int IntKind.i64 0, Value.int IntKind.i64 0] σ (fun x14 l15 s16 => match x14 with | .normal => R (vget l15 1) s16 | .ret => R (vget l15 2) s16 | .exit i17 => (match Nat.beq i17 0 with | true => R (vget l15 1) s16 | false => False))))))
theorem vc_laws_szStringS_eq (w0 : World) (a0 a1 : Value) (σ : Vw) (R : Value → Vw → Prop) : vc_laws_szStringS w0 a0 a1 σ R = den Tryd.prog w0 kp_laws_szStringS esc_laws_szStringS (Tryd.f36.body.getD .skip) (entry Tryd.f36.ntmps [a0, a1]) σ (retK Tryd.prog Tryd.f36.results.toList R) := by kernel_rfl
theorem ac_laws_szStringS {w0 : World} {a0 a1 : Value} {σ : Vw} {R : Value → Vw → Prop} (h : vc_laws_szStringS w0 a0 a1 σ R) : AC Tryd.prog w0 n_laws_szStringS [a0, a1] σ R := by
  refine ac_rule (fn := Tryd.f36) (c := Tryd.f36.body.getD .skip) kp_laws_szStringS esc_laws_szStringS Tryd.func36 (by kernel_rfl) (by kernel_rfl) ?_
  rw [← vc_laws_szStringS_eq]
  exact h

/-- laws.szTreeS -/
def kp_laws_szTreeS : Nat → Keep
  | 5 => ⟨[0, 1, 4, 5], [], [], .done, []⟩
  | _ => ⟨[], [], [], .done, []⟩
def esc_laws_szTreeS : Nat → Bool
  | _ => false
def vc_laws_szTreeS (w0 : World) (a0 a1 : Value) (σ : Vw) (R : Value → Vw → Prop) : Prop :=
  pLen a0 (fun v0 => pBin Tryd.prog 3 BinOp.sub a1 v0 (fun v1 => pBin Tryd.prog 3 BinOp.lss v1 (Value.int IntKind.i64 0) (fun v2 => pIf v2 (R (Value.int IntKind.i64 (-1)) σ) (pLoop (fun l3 K4 s5 => pLen (vget l3 0) (fun v6 => pBin Tryd.prog 3 BinOp.lss (vget l3 3) v6 (fun v7 => pIf v7 (pIndexAddr 5 (vget l3 0) (vget l3 3) (fun v8 => pLoad w0 5 v8 s5 (fun g9 => AC Tryd.prog w0 n_laws_szTree ([Value.agg (⟨[g9 0, g9 1, g9 2, g9 3, g9 4]⟩), vget l3 1]) s5 (fun v10 s11 => pBin Tryd.prog 3 BinOp.lss v10 (Value.int IntKind.i64 0) (fun v12 => pIf v12 (K4 AX.ret [vget l3 0, v10, Value.int IntKind.i64 (-1), vget l3 3] s11) (pBin Tryd.prog 3 BinOp.add (vget l3 3) (Value.int IntKind.i64 1) (fun v13 => K4 AX.normal [vget l3 0, v10, vget l3 2, v13] s11))))))) (K4 (AX.exit 0) [vget l3 0, vget l3 1, vget l3 2, vget l3 3] s5)))) [a0, v1, Value.int IntKind.i64 0, Value.int IntKind.i64 0] σ (fun x14 l15 s16 => match x14 with | .normal => R (vget l15 1) s16 | .ret => R (vget l15 2) s16 | .exit i17 => (match Nat.beq i17 0 with | true => R (vget l15 1) s16 | false => False))))))
theorem vc_laws_szTreeS_eq (w0 : World) (a0 a1 : Value) (σ : Vw) (R : Value → Vw → Prop) : vc_laws_szTreeS w0 a0 a1 σ R = den Tryd.prog w0 kp_laws_szTreeS esc_laws_szTreeS (Tryd.f37.body.getD .skip) (entry Tryd.f37.ntmps [a0, a1]) σ (retK Tryd.prog Tryd.f37.results.toList R) := by kernel_rfl
theorem ac_laws_szTreeS {w0 : World} {a0 a1 : Value} {σ : Vw} {R : Value → Vw → Prop} (h : vc_laws_szTreeS w0 a0 a1 σ R) : AC Tryd.prog w0 n_laws_szTreeS [a0, a1] σ R := by
  refine ac_rule (fn := Tryd.f37) (c := Tryd.f37.body.getD .skip) kp_laws_szTreeS esc_laws_szTreeS Tryd.func37 (by kernel_rfl) (by kernel_rfl) ?_
  rw [← vc_laws_szTreeS_eq]
  exact h

/-- spec.TreeOk -/
def kp_spec_TreeOk : Nat → Keep
  | _ => ⟨[], [], [], .done, []⟩
def esc_spec_TreeOk : Nat → Bool
  | _ => false
def vc_spec_TreeOk (w0 : World) (a0 : Value) (σ : Vw) (R : Value → Vw → Prop) : Prop :=
  pVal true 5 a0 (pIf (cellOf a0 0) (AC Tryd.prog w0 n_spec_l1Parts ([Value.agg (⟨[cellOf a0 0, cellOf a0 1, cellOf a0 2, cellOf a0 3, cellOf a0 4]⟩), Value.int IntKind.i64 0]) σ (fun v0 s1 => pIf v0 (AC Tryd.prog w0 n_spec_l1Count ([Value.agg (⟨[cellOf a0 0, cellOf a0 1, cellOf a0 2, cellOf a0 3, cellOf a0 4]⟩)]) s1 (fun v2 s3 => pBin Tryd.prog 3 BinOp.leq v2 (Value.int IntKind.i64 30) (fun v4 => R v4 s3))) (R (Value.bool false) s1))) (R (Value.bool false) σ))
theorem vc_spec_TreeOk_eq (w0 : World) (a0 : Value) (σ : Vw) (R : Value → Vw → Prop) : vc_spec_TreeOk w0 a0 σ R = den Tryd.prog w0 kp_spec_TreeOk esc_spec_TreeOk (Tryd.f38.body.getD .skip) (entry Tryd.f38.ntmps [a0]) σ (retK Tryd.prog Tryd.f38.results.toList R) := by kernel_rfl
theorem ac_spec_TreeOk {w0 : World} {a0 : Value} {σ : Vw} {R : Value → Vw → Prop} (h : vc_spec_TreeOk w0 a0 σ R) : AC Tryd.prog w0 n_spec_TreeOk [a0] σ R := by
  refine ac_rule (fn := Tryd.f38) (c := Tryd.f38.body.getD .skip) kp_spec_TreeOk esc_spec_TreeOk Tryd.func38 (by kernel_rfl) (by kernel_rfl) ?_
  rw [← vc_spec_TreeOk_eq]
  exact h

/-- spec.l1Line -/
def kp_spec_l1Line : Nat → Keep
  | 3 => ⟨[], [], [], .step 0 (.step 1 (.step 2 (.step 3 (.step 4 (.step 8 (.step 9 (.step 5 (.step 6 (.step 7 (.step 10 (.step 11 (.step 12 (.step 13 (.done)))))))))))))), [(1, [0]), (2, [0, 1]), (4, [3]), (5, [3, 4]), (6, [0, 1, 2, 3, 4, 5]), (7, [0, 1, 2, 3, 4, 5, 6]), (9, [8]), (10, [3, 4, 5, 8, 9]), (11, [0, 1, 2, 3, 4, 5, 6, 7, 8, 9, 10]), (12, [0, 1, 2, 3, 4, 5, 6, 7, 8, 9, 10, 11]), (13, [0, 1, 2, 3, 4, 5, 6, 7, 8, 9, 10, 11, 12])]⟩
  | _ => ⟨[], [], [], .done, []⟩
def esc_spec_l1Line : Nat → Bool
  | _ => false
def vc_spec_l1Line (w0 : World) (a0 a1 : Value) (σ : Vw) (R : Value → Vw → Prop) : Prop :=
  pVal true 5 a1 (pIf (cellOf a1 0) (pBin Tryd.prog 9 BinOp.add (Value.string ({ data := #[100, 105, 114, 32] })) a0 (fun v0 => pBin Tryd.prog 9 BinOp.add v0 (Value.string ({ data := #[32] })) (fun v1 => AC Tryd.prog w0 n_spec_l1Dec [cellOf a1 1] σ (fun v2 s3 => pBin Tryd.prog 9 BinOp.add v1 v2 (fun v4 => pBin Tryd.prog 9 BinOp.add v4 (Value.string ({ data := #[10] })) (fun v5 => R v5 s3)))))) (pBin Tryd.prog 9 BinOp.add (Value.string ({ data := #[102, 105, 108, 101, 32] })) a0 (fun v6 => pBin Tryd.prog 9 BinOp.add v6 (Value.string ({ data := #[32] })) (fun v7 => AC Tryd.prog w0 n_spec_l1Dec [cellOf a1 1] σ (fun v8 s9 => pBin Tryd.prog 9 BinOp.add v7 v8 (fun v10 => pBin Tryd.prog 9 BinOp.add v10 (Value.string ({ data := #[32] })) (fun v11 => AC Tryd.prog w0 n_spec_l1Hex [cellOf a1 2] s9 (fun v12 s13 => pBin Tryd.prog 9 BinOp.add v11 v12 (fun v14 => pBin Tryd.prog 9 BinOp.add v14 (Value.string ({ data := #[10] })) (fun v15 => R v15 s13))))))))))
theorem vc_spec_l1Line_eq (w0 : World) (a0 a1 : Value) (σ : Vw) (R : Value → Vw → Prop) : vc_spec_l1Line w0 a0 a1 σ R = den Tryd.prog w0 kp_spec_l1Line esc_spec_l1Line (Tryd.f39.body.getD .skip) (entry Tryd.f39.ntmps [a0, a1]) σ (retK Tryd.prog Tryd.f39.results.toList R) := by kernel_rfl
theorem ac_spec_l1Line {w0 : World} {a0 a1 : Value} {σ : Vw} {R : Value → Vw → Prop} (h : vc_spec_l1Line w0 a0 a1 σ R) : AC Tryd.prog w0 n_spec_l1Line [a0, a1] σ R := by
  refine ac_rule (fn := Tryd.f39) (c := Tryd.f39.body.getD .skip) kp_spec_l1Line esc_spec_l1Line Tryd.func39 (by kernel_rfl) (by kernel_rfl) ?_
  rw [← vc_spec_l1Line_eq]
  exact h

/-- spec.l1Show -/
def kp_spec_l1Show : Nat → Keep
  | 3 => ⟨[0, 5, 6], [(3, 5)], [3], .done, []⟩
  | 6 => ⟨[], [], [], .step 0 (.step 1 (.step 2 (.step 3 (.step 4 (.step 5 (.step 6 (.step 9 (.step 10 (.step 11 (.step 12 (.step 13 (.step 14 (.step 7 (.step 8 (.step 15 (.step 16 (.step 17 (.done)))))))))))))))))), [(3, [2]), (5, [2, 3, 4]), (6, [2, 3, 4, 5]), (7, [1, 2, 3, 4, 5, 6]), (8, [0, 1, 2, 3, 4, 5, 6, 7]), (11, [10]), (13, [10, 11, 12]), (14, [10, 11, 12, 13]), (15, [1, 2, 3, 4, 5, 6, 7, 9, 10, 11, 12, 13, 14]), (16, [0, 1, 2, 3, 4, 5, 6, 7, 8, 9, 10, 11, 12, 13, 14, 15]), (17, [0, 1, 2, 3, 4, 5, 6, 7, 8, 9, 10, 11, 12, 13, 14, 15, 16])]⟩
  | _ => ⟨[], [], [], .done, []⟩
def esc_spec_l1Show : Nat → Bool
  | _ => false
def vc_spec_l1Show (w0 : World) (a0 a1 : Value) (σ : Vw) (R : Value → Vw → Prop) : Prop :=
  pVal true 5 a1 (pLoop (fun l0 K1 s2 => pLen (vget l0 6) (fun v3 => pBin Tryd.prog 3 BinOp.lss (vget l0 2) v3 (fun v4 => pIf v4 (pBin Tryd.prog 9 BinOp.add (vget l0 0) (Value.string ({ data := #[47] })) (fun v5 => pIndexAddr 1 (vget l0 6) (vget l0 2) (fun v6 => pLoad w0 1 v6 s2 (fun g7 => pBin Tryd.prog 9 BinOp.add v5 (g7 0) (fun v8 => pIndexAddr 5 (vget l0 7) (vget l0 2) (fun v9 => pLoad w0 5 v9 s2 (fun g10 => pIndexAddr 5 (vget l0 7) (vget l0 2) (fun v11 => pLoad w0 5 v11 s2 (fun g12 => AC Tryd.prog w0 n_spec_l1Line ([v8, Value.agg (⟨[g10 0, g10 1, g10 2, g10 3, g10 4]⟩)]) s2 (fun v13 s14 => (Stay w0 s2 s14 v11 5) ∧ (pBin Tryd.prog 9 BinOp.add (vget l0 1) v13 (fun v15 => AC Tryd.prog w0 n_spec_l1Show ([v8, Value.agg (⟨[g12 0, g12 1, g12 2, g12 3, g12 4]⟩)]) s14 (fun v16 s17 => pBin Tryd.prog 9 BinOp.add v15 v16 (fun v18 => pBin Tryd.prog 3 BinOp.add (vget l0 2) (Value.int IntKind.i64 1) (fun v19 => K1 AX.normal [vget l0 0, v18, v19, vget l0 3, vget l0 4, vget l0 5, vget l0 6, vget l0 7] s17))))))))))))))) (K1 (AX.exit 0) [vget l0 0, vget l0 1, vget l0 2, vget l0 3, vget l0 4, vget l0 5, vget l0 6, vget l0 7] s2)))) ([a0, Value.string ({ data := #[] }), Value.int IntKind.i64 0, cellOf a1 0, cellOf a1 1, cellOf a1 2, cellOf a1 3, cellOf a1 4]) σ (fun x20 l21 s22 => match x20 with | .normal => R (vget l21 1) s22 | .ret => False | .exit i23 => (match Nat.beq i23 0 with | true => R (vget l21 1) s22 | false => False)))
theorem vc_spec_l1Show_eq (w0 : World) (a0 a1 : Value) (σ : Vw) (R : Value → Vw → Prop) : vc_spec_l1Show w0 a0 a1 σ R = den Tryd.prog w0 kp_spec_l1Show esc_spec_l1Show (Tryd.f40.body.getD .skip) (entry Tryd.f40.ntmps [a0, a1]) σ (retK Tryd.prog Tryd.f40.results.toList R) := by kernel_rfl
theorem ac_spec_l1Show {w0 : World} {a0 a1 : Value} {σ : Vw} {R : Value → Vw → Prop} (h : vc_spec_l1Show w0 a0 a1 σ R) : AC Tryd.prog w0 n_spec_l1Show [a0, a1] σ R := by
  refine ac_rule (fn := Tryd.f40) (c := Tryd.f40.body.getD .skip) kp_spec_l1Show esc_spec_l1Show Tryd.func40 (by kernel_rfl) (by kernel_rfl) ?_
  rw [← vc_spec_l1Show_eq]
  exact h

/-- laws.toStringS -/
def kp_laws_toStringS : Nat → Keep
  | 3 => ⟨[0, 3, 4], [], [], .done, []⟩
  | _ => ⟨[], [], [], .done, []⟩
def esc_laws_toStringS : Nat → Bool
  | _ => false
def vc_laws_toStringS (w0 : World) (a0 : Value) (σ : Vw) (R : Value → Vw → Prop) : Prop :=
  pLen a0 (fun v0 => pMake w0 9 1 16 ([Value.string ({ data := #[] })]) v0 v0 σ (fun v1 s2 => pLoop (fun l3 K4 s5 => pLen (vget l3 0) (fun v6 => pBin Tryd.prog 3 BinOp.lss (vget l3 2) v6 (fun v7 => pIf v7 (pIndexAddr 1 (vget l3 0) (vget l3 2) (fun v8 => pLoad w0 1 v8 s5 (fun g9 => pIndexAddr 1 (vget l3 1) (vget l3 2) (fun v10 => pVal false 1 (g9 0) (pStore v10 [g9 0] s5 (fun s11 => pBin Tryd.prog 3 BinOp.add (vget l3 2) (Value.int IntKind.i64 1) (fun v12 => K4 AX.normal [vget l3 0, vget l3 1, v12] s11))))))) (K4 (AX.exit 0) [vget l3 0, vget l3 1, vget l3 2] s5)))) [a0, v1, Value.int IntKind.i64 0] s2 (fun x13 l14 s15 => match x13 with | .normal => R (vget l14 1) s15 | .ret => False | .exit i16 => (match Nat.beq i16 0 with | true => R (vget l14 1) s15 | false => False))))
theorem vc_laws_toStringS_eq (w0 : World) (a0 : Value) (σ : Vw) (R : Value → Vw → Prop) : vc_laws_toStringS w0 a0 σ R = den Tryd.prog w0 kp_laws_toStringS esc_laws_toStringS (Tryd.f41.body.getD .skip) (entry Tryd.f41.ntmps [a0]) σ (retK Tryd.prog Tryd.f41.results.toList R) := by kernel_rfl
theorem ac_laws_toStringS {w0 : World} {a0 : Value} {σ : Vw} {R : Value → Vw → Prop} (h : vc_laws_toStringS w0 a0 σ R) : AC Tryd.prog w0 n_laws_toStringS [a0] σ R := by
  refine ac_rule (fn := Tryd.f41) (c := Tryd.f41.body.getD .skip) kp_laws_toStringS esc_laws_toStringS Tryd.func41 (by kernel_rfl) (by kernel_rfl) ?_
  rw [← vc_laws_toStringS_eq]
  exact h

/-- laws.toTreeS -/
def kp_laws_toTreeS : Nat → Keep
  | 3 => ⟨[0, 3, 4], [], [], .done, []⟩
  | _ => ⟨[], [], [], .done, []⟩
def esc_laws_toTreeS : Nat → Bool
  | _ => false
def vc_laws_toTreeS (w0 : World) (a0 : Value) (σ : Vw) (R : Value → Vw → Prop) : Prop :=
  pLen a0 (fun v0 => pMake w0 30 5 80 ([Value.bool false, Value.int IntKind.i64 0, Value.string ({ data := #[] }), Value.slice Option.none 0 0, Value.slice Option.none 0 0]) v0 v0 σ (fun v1 s2 => pLoop (fun l3 K4 s5 => pLen (vget l3 0) (fun v6 => pBin Tryd.prog 3 BinOp.lss (vget l3 2) v6 (fun v7 => pIf v7 (pIndexAddr 5 (vget l3 0) (vget l3 2) (fun v8 => pLoad w0 5 v8 s5 (fun g9 => AC Tryd.prog w0 n_laws_toTree ([Value.agg (⟨[g9 0, g9 1, g9 2, g9 3, g9 4]⟩)]) s5 (fun v10 s11 => pIndexAddr 5 (vget l3 1) (vget l3 2) (fun v12 => pVal true 5 v10 (pStore v12 [cellOf v10 0, cellOf v10 1, cellOf v10 2, cellOf v10 3, cellOf v10 4] s11 (fun s13 => pBin Tryd.prog 3 BinOp.add (vget l3 2) (Value.int IntKind.i64 1) (fun v14 => K4 AX.normal [vget l3 0, vget l3 1, v14] s13)))))))) (K4 (AX.exit 0) [vget l3 0, vget l3 1, vget l3 2] s5)))) [a0, v1, Value.int IntKind.i64 0] s2 (fun x15 l16 s17 => match x15 with | .normal => R (vget l16 1) s17 | .ret => False | .exit i18 => (match Nat.beq i18 0 with | true => R (vget l16 1) s17 | false => False))))
theorem vc_laws_toTreeS_eq (w0 : World) (a0 : Value) (σ : Vw) (R : Value → Vw → Prop) : vc_laws_toTreeS w0 a0 σ R = den Tryd.prog w0 kp_laws_toTreeS esc_laws_toTreeS (Tryd.f42.body.getD .skip) (entry Tryd.f42.ntmps [a0]) σ (retK Tryd.prog Tryd.f42.results.toList R) := by kernel_rfl
theorem ac_laws_toTreeS {w0 : World} {a0 : Value} {σ : Vw} {R : Value → Vw → Prop} (h : vc_laws_toTreeS w0 a0 σ R) : AC Tryd.prog w0 n_laws_toTreeS [a0] σ R := by
  refine ac_rule (fn := Tryd.f42) (c := Tryd.f42.body.getD .skip) kp_laws_toTreeS esc_laws_toTreeS Tryd.func42 (by kernel_rfl) (by kernel_rfl) ?_
  rw [← vc_laws_toTreeS_eq]
  exact h

/-- impl.TreeOk -/
def kp_impl_TreeOk : Nat → Keep
  | _ => ⟨[], [], [], .done, []⟩
def esc_impl_TreeOk : Nat → Bool
  | _ => false
def vc_impl_TreeOk (w0 : World) (a0 : Value) (σ : Vw) (R : Value → Vw → Prop) : Prop :=
  pVal true 5 a0 (pIf (cellOf a0 0) (AC Tryd.prog w0 n_impl_Tree_sound ([Value.agg (⟨[cellOf a0 0, cellOf a0 1, cellOf a0 2, cellOf a0 3, cellOf a0 4]⟩), Value.int IntKind.i64 0]) σ (fun v0 s1 => pIf v0 (AC Tryd.prog w0 n_impl_Tree_paths ([Value.agg (⟨[cellOf a0 0, cellOf a0 1, cellOf a0 2, cellOf a0 3, cellOf a0 4]⟩)]) s1 (fun v2 s3 => pBin Tryd.prog 3 BinOp.leq v2 (Value.int IntKind.i64 31) (fun v4 => R v4 s3))) (R (Value.bool false) s1))) (R (Value.bool false) σ))
theorem vc_impl_TreeOk_eq (w0 : World) (a0 : Value) (σ : Vw) (R : Value → Vw → Prop) : vc_impl_TreeOk w0 a0 σ R = den Tryd.prog w0 kp_impl_TreeOk esc_impl_TreeOk (Tryd.f43.body.getD .skip) (entry Tryd.f43.ntmps [a0]) σ (retK Tryd.prog Tryd.f43.results.toList R) := by kernel_rfl
theorem ac_impl_TreeOk {w0 : World} {a0 : Value} {σ : Vw} {R : Value → Vw → Prop} (h : vc_impl_TreeOk w0 a0 σ R) : AC Tryd.prog w0 n_impl_TreeOk [a0] σ R := by
  refine ac_rule (fn := Tryd.f43) (c := Tryd.f43.body.getD .skip) kp_impl_TreeOk esc_impl_TreeOk Tryd.func43 (by kernel_rfl) (by kernel_rfl) ?_
  rw [← vc_impl_TreeOk_eq]
  exact h

/-- (impl.Tree).show -/
def kp_impl_Tree_show : Nat → Keep
  | _ => ⟨[], [], [], .done, []⟩
def esc_impl_Tree_show : Nat → Bool
  | 3 => true
  | 5 => true
  | _ => false
def vc_impl_Tree_show (w0 : World) (a0 : Value) (σ : Vw) (R : Value → Vw → Prop) : Prop :=
  pVal true 5 a0 (pVal true 2 (Value.agg (⟨[Value.pointer Option.none, Value.slice Option.none 0 0]⟩)) (pNew w0 75 [Value.pointer Option.none, Value.slice Option.none 0 0] σ (fun n0 s1 => pNew w0 72 [Value.pointer Option.none] s1 (fun n2 s3 => pVal false 1 (Value.pointer (Option.some (Addr.mk n0 0 Option.none))) (pStore (Value.pointer (Option.some (Addr.mk n2 0 Option.none))) [Value.pointer (Option.some (Addr.mk n0 0 Option.none))] s3 (fun s4 => AC Tryd.prog w0 n_impl_Tree_each ([Value.agg (⟨[cellOf a0 0, cellOf a0 1, cellOf a0 2, cellOf a0 3, cellOf a0 4]⟩), Value.slice Option.none 0 0, Value.func (Fn.func 87) ⟨[]⟩ (⟨[Value.pointer (Option.some (Addr.mk n2 0 Option.none))]⟩)]) s4 (fun v5 s6 => pLoad w0 1 (Value.pointer (Option.some (Addr.mk n2 0 Option.none))) s6 (fun g7 => AC Tryd.prog w0 n_p_strings_Builder_String [g7 0] s6 (fun v8 s9 => R v8 s9)))))))))
theorem vc_impl_Tree_show_eq (w0 : World) (a0 : Value) (σ : Vw) (R : Value → Vw → Prop) : vc_impl_Tree_show w0 a0 σ R = den Tryd.prog w0 kp_impl_Tree_show esc_impl_Tree_show (Tryd.f44.body.getD .skip) (entry Tryd.f44.ntmps [a0]) σ (retK Tryd.prog Tryd.f44.results.toList R) := by kernel_rfl
theorem ac_impl_Tree_show {w0 : World} {a0 : Value} {σ : Vw} {R : Value → Vw → Prop} (h : vc_impl_Tree_show w0 a0 σ R) : AC Tryd.prog w0 n_impl_Tree_show [a0] σ R := by
  refine ac_rule (fn := Tryd.f44) (c := Tryd.f44.body.getD .skip) kp_impl_Tree_show esc_impl_Tree_show Tryd.func44 (by kernel_rfl) (by kernel_rfl) ?_
  rw [← vc_impl_Tree_show_eq]
  exact h

/-- laws.eqStringS -/
def kp_laws_eqStringS : Nat → Keep
  | 4 => ⟨[0, 1, 4, 5], [], [], .done, []⟩
  | 6 => ⟨[], [], [], .step 0 (.step 1 (.step 2 (.step 3 (.step 4 (.step 5 (.step 6 (.step 7 (.step 8 (.done))))))))), [(2, [0, 1]), (3, [0, 1, 2]), (6, [4, 5]), (7, [4, 5, 6]), (8, [0, 1, 2, 3, 4, 5, 6, 7])]⟩
  | _ => ⟨[], [], [], .done, []⟩
def esc_laws_eqStringS : Nat → Bool
  | _ => false
def vc_laws_eqStringS (w0 : World) (a0 a1 : Value) (σ : Vw) (R : Value → Vw → Prop) : Prop :=
  pLen a0 (fun v0 => pLen a1 (fun v1 => pBin Tryd.prog 3 BinOp.neq v0 v1 (fun v2 => pIf v2 (R (Value.bool false) σ) (pLoop (fun l3 K4 s5 => pLen (vget l3 0) (fun v6 => pBin Tryd.prog 3 BinOp.lss (vget l3 3) v6 (fun v7 => pIf v7 (pIndexAddr 1 (vget l3 0) (vget l3 3) (fun v8 => pLoad w0 1 v8 s5 (fun g9 => pIndexAddr 1 (vget l3 1) (vget l3 3) (fun v10 => pLoad w0 1 v10 s5 (fun g11 => pBin Tryd.prog 9 BinOp.neq (g9 0) (g11 0) (fun v12 => pIf v12 (K4 AX.ret [vget l3 0, vget l3 1, Value.bool false, vget l3 3] s5) (pBin Tryd.prog 3 BinOp.add (vget l3 3) (Value.int IntKind.i64 1) (fun v13 => K4 AX.normal [vget l3 0, vget l3 1, vget l3 2, v13] s5)))))))) (K4 (AX.exit 0) [vget l3 0, vget l3 1, vget l3 2, vget l3 3] s5)))) [a0, a1, Value.bool false, Value.int IntKind.i64 0] σ (fun x14 l15 s16 => match x14 with | .normal => R (Value.bool true) s16 | .ret => R (vget l15 2) s16 | .exit i17 => (match Nat.beq i17 0 with | true => R (Value.bool true) s16 | false => False))))))
theorem vc_laws_eqStringS_eq (w0 : World) (a0 a1 : Value) (σ : Vw) (R : Value → Vw → Prop) : vc_laws_eqStringS w0 a0 a1 σ R = den Tryd.prog w0 kp_laws_eqStringS esc_laws_eqStringS (Tryd.f45.body.getD .skip) (entry Tryd.f45.ntmps [a0, a1]) σ (retK Tryd.prog Tryd.f45.results.toList R) := by kernel_rfl
theorem ac_laws_eqStringS {w0 : World} {a0 a1 : Value} {σ : Vw} {R : Value → Vw → Prop} (h : vc_laws_eqStringS w0 a0 a1 σ R) : AC Tryd.prog w0 n_laws_eqStringS [a0, a1] σ R := by
  refine ac_rule (fn := Tryd.f45) (c := Tryd.f45.body.getD .skip) kp_laws_eqStringS esc_laws_eqStringS Tryd.func45 (by kernel_rfl) (by kernel_rfl) ?_
  rw [← vc_laws_eqStringS_eq]
  exact h

/-- laws.eqTreeS -/
def kp_laws_eqTreeS : Nat → Keep
  | 4 => ⟨[0, 1, 4, 5], [], [], .done, []⟩
  | 6 => ⟨[], [], [], .step 0 (.step 1 (.step 2 (.step 3 (.step 4 (.step 5 (.step 6 (.step 7 (.step 8 (.step 9 (.done)))))))))), [(2, [0, 1]), (3, [0, 1, 2]), (6, [4, 5]), (7, [4, 5, 6]), (8, [0, 1, 2, 3, 4, 5, 6, 7]), (9, [0, 1, 2, 3, 4, 5, 6, 7, 8])]⟩
  | _ => ⟨[], [], [], .done, []⟩
def esc_laws_eqTreeS : Nat → Bool
  | _ => false
def vc_laws_eqTreeS (w0 : World) (a0 a1 : Value) (σ : Vw) (R : Value → Vw → Prop) : Prop :=
  pLen a0 (fun v0 => pLen a1 (fun v1 => pBin Tryd.prog 3 BinOp.neq v0 v1 (fun v2 => pIf v2 (R (Value.bool false) σ) (pLoop (fun l3 K4 s5 => pLen (vget l3 0) (fun v6 => pBin Tryd.prog 3 BinOp.lss (vget l3 3) v6 (fun v7 => pIf v7 (pIndexAddr 5 (vget l3 0) (vget l3 3) (fun v8 => pLoad w0 5 v8 s5 (fun g9 => pIndexAddr 5 (vget l3 1) (vget l3 3) (fun v10 => pLoad w0 5 v10 s5 (fun g11 => AC Tryd.prog w0 n_laws_eqTree ([Value.agg (⟨[g9 0, g9 1, g9 2, g9 3, g9 4]⟩), Value.agg (⟨[g11 0, g11 1, g11 2, g11 3, g11 4]⟩)]) s5 (fun v12 s13 => pUn UnOp.not v12 (fun v14 => pIf v14 (K4 AX.ret [vget l3 0, vget l3 1, Value.bool false, vget l3 3] s13) (pBin Tryd.prog 3 BinOp.add (vget l3 3) (Value.int IntKind.i64 1) (fun v15 => K4 AX.normal [vget l3 0, vget l3 1, vget l3 2, v15] s13))))))))) (K4 (AX.exit 0) [vget l3 0, vget l3 1, vget l3 2, vget l3 3] s5)))) [a0, a1, Value.bool false, Value.int IntKind.i64 0] σ (fun x16 l17 s18 => match x16 with | .normal => R (Value.bool true) s18 | .ret => R (vget l17 2) s18 | .exit i19 => (match Nat.beq i19 0 with | true => R (Value.bool true) s18 | false => False))))))
theorem vc_laws_eqTreeS_eq (w0 : World) (a0 a1 : Value) (σ : Vw) (R : Value → Vw → Prop) : vc_laws_eqTreeS w0 a0 a1 σ R = den Tryd.prog w0 kp_laws_eqTreeS esc_laws_eqTreeS (Tryd.f46.body.getD .skip) (entry Tryd.f46.ntmps [a0, a1]) σ (retK Tryd.prog Tryd.f46.results.toList R) := by kernel_rfl
theorem ac_laws_eqTreeS {w0 : World} {a0 a1 : Value} {σ : Vw} {R : Value → Vw → Prop} (h : vc_laws_eqTreeS w0 a0 a1 σ R) : AC Tryd.prog w0 n_laws_eqTreeS [a0, a1] σ R := by
  refine ac_rule (fn := Tryd.f46) (c := Tryd.f46.body.getD .skip) kp_laws_eqTreeS esc_laws_eqTreeS Tryd.func46 (by kernel_rfl) (by kernel_rfl) ?_
  rw [← vc_laws_eqTreeS_eq]
  exact h

/-- laws.szEntry -/
def kp_laws_szEntry : Nat → Keep
  | _ => ⟨[], [], [], .done, []⟩
def esc_laws_szEntry : Nat → Bool
  | _ => false
def vc_laws_szEntry (w0 : World) (a0 a1 : Value) (σ : Vw) (R : Value → Vw → Prop) : Prop :=
  pVal true 5 a0 (AC Tryd.prog w0 n_laws_szStringS [cellOf a0 0, a1] σ (fun v0 s1 => pBin Tryd.prog 3 BinOp.lss v0 (Value.int IntKind.i64 0) (fun v2 => pIf v2 (R (Value.int IntKind.i64 (-1)) s1) (pLenS (cellOf a0 4) (fun v3 => pBin Tryd.prog 3 BinOp.sub v0 v3 (fun v4 => pBin Tryd.prog 3 BinOp.lss v4 (Value.int IntKind.i64 0) (fun v5 => pIf v5 (R (Value.int IntKind.i64 (-1)) s1) (R v4 s1))))))))
theorem vc_laws_szEntry_eq (w0 : World) (a0 a1 : Value) (σ : Vw) (R : Value → Vw → Prop) : vc_laws_szEntry w0 a0 a1 σ R = den Tryd.prog w0 kp_laws_szEntry esc_laws_szEntry (Tryd.f47.body.getD .skip) (entry Tryd.f47.ntmps [a0, a1]) σ (retK Tryd.prog Tryd.f47.results.toList R) := by kernel_rfl
theorem ac_laws_szEntry {w0 : World} {a0 a1 : Value} {σ : Vw} {R : Value → Vw → Prop} (h : vc_laws_szEntry w0 a0 a1 σ R) : AC Tryd.prog w0 n_laws_szEntry [a0, a1] σ R := by
  refine ac_rule (fn := Tryd.f47) (c := Tryd.f47.body.getD .skip) kp_laws_szEntry esc_laws_szEntry Tryd.func47 (by kernel_rfl) (by kernel_rfl) ?_
  rw [← vc_laws_szEntry_eq]
  exact h

/-- spec.l3EntryOk -/
def kp_spec_l3EntryOk : Nat → Keep
  | _ => ⟨[], [], [], .done, []⟩
def esc_spec_l3EntryOk : Nat → Bool
  | _ => false
def vc_spec_l3EntryOk (w0 : World) (a0 : Value) (σ : Vw) (R : Value → Vw → Prop) : Prop :=
  pVal true 5 a0 (pLen (cellOf a0 0) (fun v0 => pBin Tryd.prog 3 BinOp.gtr v0 (Value.int IntKind.i64 0) (fun v1 => pIf v1 (AC Tryd.prog w0 n_spec_l2PathOk [cellOf a0 0] σ (fun v2 s3 => pUn UnOp.not v2 (fun v4 => pIf v4 (R (Value.bool false) s3) (AC Tryd.prog w0 n_spec_l1In [cellOf a0 3, Value.int IntKind.i64 0, Value.int IntKind.i64 7] s3 (fun v5 s6 => pUn UnOp.not v5 (fun v7 => pIf v7 (R (Value.bool false) s6) (pLenS (cellOf a0 4) (fun v8 => pBin Tryd.prog 3 BinOp.gtr v8 (Value.int IntKind.i64 24) (fun v9 => pIf v9 (R (Value.bool false) s6) (pBin Tryd.prog 3 BinOp.eql (cellOf a0 1) (Value.int IntKind.i64 1) (fun v10 => pIf v10 (pLen (cellOf a0 0) (fun v11 => pBin Tryd.prog 3 BinOp.gtr v11 (Value.int IntKind.i64 0) (fun v12 => pIf v12 (pUn UnOp.not (cellOf a0 2) (fun v13 => pIf v13 (pBin Tryd.prog 3 BinOp.eql (cellOf a0 3) (Value.int IntKind.i64 0) (fun v14 => pIf v14 (pBin Tryd.prog 9 BinOp.eql (cellOf a0 4) (Value.string ({ data := #[] })) (fun v15 => R v15 s6)) (R (Value.bool false) s6))) (R (Value.bool false) s6))) (R (Value.bool false) s6)))) (pBin Tryd.prog 3 BinOp.eql (cellOf a0 1) (Value.int IntKind.i64 2) (fun v16 => pIf v16 (pLen (cellOf a0 0) (fun v17 => pBin Tryd.prog 3 BinOp.gtr v17 (Value.int IntKind.i64 0) (fun v18 => pIf v18 (pUn UnOp.not (cellOf a0 2) (fun v19 => pIf v19 (R (Value.bool true) s6) (pBin Tryd.prog 9 BinOp.eql (cellOf a0 4) (Value.string ({ data := #[] })) (fun v20 => R v20 s6)))) (R (Value.bool false) s6)))) (pBin Tryd.prog 3 BinOp.eql (cellOf a0 1) (Value.int IntKind.i64 3) (fun v21 => pIf v21 (pUn UnOp.not (cellOf a0 2) (fun v22 => pIf v22 (pBin Tryd.prog 9 BinOp.eql (cellOf a0 4) (Value.string ({ data := #[] })) (fun v23 => R v23 s6)) (R (Value.bool false) s6))) (pBin Tryd.prog 3 BinOp.eql (cellOf a0 1) (Value.int IntKind.i64 4) (fun v24 => pIf v24 (pLen (cellOf a0 0) (fun v25 => pBin Tryd.prog 3 BinOp.gtr v25 (Value.int IntKind.i64 0) (fun v26 => pIf v26 (pUn UnOp.not (cellOf a0 2) (fun v27 => pIf v27 (pBin Tryd.prog 3 BinOp.eql (cellOf a0 3) (Value.int IntKind.i64 0) (fun v28 => R v28 s6)) (R (Value.bool false) s6))) (R (Value.bool false) s6)))) (R (Value.bool false) s6)))))))))))))))))) (AC Tryd.prog w0 n_spec_l1In [cellOf a0 3, Value.int IntKind.i64 0, Value.int IntKind.i64 7] σ (fun v29 s30 => pUn UnOp.not v29 (fun v31 => pIf v31 (R (Value.bool false) s30) (pLenS (cellOf a0 4) (fun v32 => pBin Tryd.prog 3 BinOp.gtr v32 (Value.int IntKind.i64 24) (fun v33 => pIf v33 (R (Value.bool false) s30) (pBin Tryd.prog 3 BinOp.eql (cellOf a0 1) (Value.int IntKind.i64 1) (fun v34 => pIf v34 (pLen (cellOf a0 0) (fun v35 => pBin Tryd.prog 3 BinOp.gtr v35 (Value.int IntKind.i64 0) (fun v36 => pIf v36 (pUn UnOp.not (cellOf a0 2) (fun v37 => pIf v37 (pBin Tryd.prog 3 BinOp.eql (cellOf a0 3) (Value.int IntKind.i64 0) (fun v38 => pIf v38 (pBin Tryd.prog 9 BinOp.eql (cellOf a0 4) (Value.string ({ data := #[] })) (fun v39 => R v39 s30)) (R (Value.bool false) s30))) (R (Value.bool false) s30))) (R (Value.bool false) s30)))) (pBin Tryd.prog 3 BinOp.eql (cellOf a0 1) (Value.int IntKind.i64 2) (fun v40 => pIf v40 (pLen (cellOf a0 0) (fun v41 => pBin Tryd.prog 3 BinOp.gtr v41 (Value.int IntKind.i64 0) (fun v42 => pIf v42 (pUn UnOp.not (cellOf a0 2) (fun v43 => pIf v43 (R (Value.bool true) s30) (pBin Tryd.prog 9 BinOp.eql (cellOf a0 4) (Value.string ({ data := #[] })) (fun v44 => R v44 s30)))) (R (Value.bool false) s30)))) (pBin Tryd.prog 3 BinOp.eql (cellOf a0 1) (Value.int IntKind.i64 3) (fun v45 => pIf v45 (pUn UnOp.not (cellOf a0 2) (fun v46 => pIf v46 (pBin Tryd.prog 9 BinOp.eql (cellOf a0 4) (Value.string ({ data := #[] })) (fun v47 => R v47 s30)) (R (Value.bool false) s30))) (pBin Tryd.prog 3 BinOp.eql (cellOf a0 1) (Value.int IntKind.i64 4) (fun v48 => pIf v48 (pLen (cellOf a0 0) (fun v49 => pBin Tryd.prog 3 BinOp.gtr v49 (Value.int IntKind.i64 0) (fun v50 => pIf v50 (pUn UnOp.not (cellOf a0 2) (fun v51 => pIf v51 (pBin Tryd.prog 3 BinOp.eql (cellOf a0 3) (Value.int IntKind.i64 0) (fun v52 => R v52 s30)) (R (Value.bool false) s30))) (R (Value.bool false) s30)))) (R (Value.bool false) s30))))))))))))))))))
theorem vc_spec_l3EntryOk_eq (w0 : World) (a0 : Value) (σ : Vw) (R : Value → Vw → Prop) : vc_spec_l3EntryOk w0 a0 σ R = den Tryd.prog w0 kp_spec_l3EntryOk esc_spec_l3EntryOk (Tryd.f48.body.getD .skip) (entry Tryd.f48.ntmps [a0]) σ (retK Tryd.prog Tryd.f48.results.toList R) := by kernel_rfl
theorem ac_spec_l3EntryOk {w0 : World} {a0 : Value} {σ : Vw} {R : Value → Vw → Prop} (h : vc_spec_l3EntryOk w0 a0 σ R) : AC Tryd.prog w0 n_spec_l3EntryOk [a0] σ R := by
  refine ac_rule (fn := Tryd.f48) (c := Tryd.f48.body.getD .skip) kp_spec_l3EntryOk esc_spec_l3EntryOk Tryd.func48 (by kernel_rfl) (by kernel_rfl) ?_
  rw [← vc_spec_l3EntryOk_eq]
  exact h

/-- spec.l3Text -/
def kp_spec_l3Text : Nat → Keep
  | 7 => ⟨[], [], [], .step 0 (.step 1 (.step 2 (.step 3 (.step 4 (.step 8 (.step 9 (.step 5 (.step 6 (.step 7 (.step 10 (.step 11 (.step 12 (.step 13 (.done)))))))))))))), [(1, [0]), (2, [0, 1]), (4, [3]), (5, [3, 4]), (6, [0, 1, 2, 3, 4, 5]), (7, [0, 1, 2, 3, 4, 5, 6]), (9, [8]), (10, [3, 4, 5, 8, 9]), (11, [0, 1, 2, 3, 4, 5, 6, 7, 8, 9, 10]), (12, [0, 1, 2, 3, 4, 5, 6, 7, 8, 9, 10, 11]), (13, [0, 1, 2, 3, 4, 5, 6, 7, 8, 9, 10, 11, 12])]⟩
  | _ => ⟨[], [], [], .done, []⟩
def esc_spec_l3Text : Nat → Bool
  | _ => false
def vc_spec_l3Text (w0 : World) (a0 : Value) (σ : Vw) (R : Value → Vw → Prop) : Prop :=
  pVal true 5 a0 (AC Tryd.prog w0 n_spec_l3Name [cellOf a0 0] σ (fun v0 s1 => pBin Tryd.prog 3 BinOp.eql (cellOf a0 1) (Value.int IntKind.i64 1) (fun v2 => pIf v2 (pBin Tryd.prog 9 BinOp.add (Value.string ({ data := #[103, 111, 110, 101, 32] })) v0 (fun v3 => pBin Tryd.prog 9 BinOp.add v3 (Value.string ({ data := #[10] })) (fun v4 => R v4 s1))) (pBin Tryd.prog 3 BinOp.eql (cellOf a0 1) (Value.int IntKind.i64 2) (fun v5 => pIf v5 (pIf (cellOf a0 2) (pBin Tryd.prog 9 BinOp.add (Value.string ({ data := #[110, 101, 119, 100, 105, 114, 32] })) v0 (fun v6 => pBin Tryd.prog 9 BinOp.add v6 (Value.string ({ data := #[32] })) (fun v7 => AC Tryd.prog w0 n_spec_l1Dec [cellOf a0 3] s1 (fun v8 s9 => pBin Tryd.prog 9 BinOp.add v7 v8 (fun v10 => pBin Tryd.prog 9 BinOp.add v10 (Value.string ({ data := #[10] })) (fun v11 => R v11 s9)))))) (pBin Tryd.prog 3 BinOp.eql (cellOf a0 1) (Value.int IntKind.i64 2) (fun v12 => pIf v12 (pBin Tryd.prog 9 BinOp.add (Value.string ({ data := #[110, 101, 119, 32] })) v0 (fun v13 => pBin Tryd.prog 9 BinOp.add v13 (Value.string ({ data := #[32] })) (fun v14 => AC Tryd.prog w0 n_spec_l1Dec [cellOf a0 3] s1 (fun v15 s16 => pBin Tryd.prog 9 BinOp.add v14 v15 (fun v17 => pBin Tryd.prog 9 BinOp.add v17 (Value.string ({ data := #[32] })) (fun v18 => AC Tryd.prog w0 n_spec_l1Hex [cellOf a0 4] s16 (fun v19 s20 => pBin Tryd.prog 9 BinOp.add v18 v19 (fun v21 => pBin Tryd.prog 9 BinOp.add v21 (Value.string ({ data := #[10] })) (fun v22 => R v22 s20))))))))) (pBin Tryd.prog 3 BinOp.eql (cellOf a0 1) (Value.int IntKind.i64 3) (fun v23 => pIf v23 (pBin Tryd.prog 9 BinOp.add (Value.string ({ data := #[109, 111, 100, 101, 32] })) v0 (fun v24 => pBin Tryd.prog 9 BinOp.add v24 (Value.string ({ data := #[32] })) (fun v25 => AC Tryd.prog w0 n_spec_l1Dec [cellOf a0 3] s1 (fun v26 s27 => pBin Tryd.prog 9 BinOp.add v25 v26 (fun v28 => pBin Tryd.prog 9 BinOp.add v28 (Value.string ({ data := #[10] })) (fun v29 => R v29 s27)))))) (pBin Tryd.prog 9 BinOp.add (Value.string ({ data := #[100, 97, 116, 97, 32] })) v0 (fun v30 => pBin Tryd.prog 9 BinOp.add v30 (Value.string ({ data := #[32] })) (fun v31 => AC Tryd.prog w0 n_spec_l1Hex [cellOf a0 4] s1 (fun v32 s33 => pBin Tryd.prog 9 BinOp.add v31 v32 (fun v34 => pBin Tryd.prog 9 BinOp.add v34 (Value.string ({ data := #[10] })) (fun v35 => R v35 s33))))))))))) (pBin Tryd.prog 3 BinOp.eql (cellOf a0 1) (Value.int IntKind.i64 2) (fun v36 => pIf v36 (pBin Tryd.prog 9 BinOp.add (Value.string ({ data := #[110, 101, 119, 32] })) v0 (fun v37 => pBin Tryd.prog 9 BinOp.add v37 (Value.string ({ data := #[32] })) (fun v38 => AC Tryd.prog w0 n_spec_l1Dec [cellOf a0 3] s1 (fun v39 s40 => pBin Tryd.prog 9 BinOp.add v38 v39 (fun v41 => pBin Tryd.prog 9 BinOp.add v41 (Value.string ({ data := #[32] })) (fun v42 => AC Tryd.prog w0 n_spec_l1Hex [cellOf a0 4] s40 (fun v43 s44 => pBin Tryd.prog 9 BinOp.add v42 v43 (fun v45 => pBin Tryd.prog 9 BinOp.add v45 (Value.string ({ data := #[10] })) (fun v46 => R v46 s44))))))))) (pBin Tryd.prog 3 BinOp.eql (cellOf a0 1) (Value.int IntKind.i64 3) (fun v47 => pIf v47 (pBin Tryd.prog 9 BinOp.add (Value.string ({ data := #[109, 111, 100, 101, 32] })) v0 (fun v48 => pBin Tryd.prog 9 BinOp.add v48 (Value.string ({ data := #[32] })) (fun v49 => AC Tryd.prog w0 n_spec_l1Dec [cellOf a0 3] s1 (fun v50 s51 => pBin Tryd.prog 9 BinOp.add v49 v50 (fun v52 => pBin Tryd.prog 9 BinOp.add v52 (Value.string ({ data := #[10] })) (fun v53 => R v53 s51)))))) (pBin Tryd.prog 9 BinOp.add (Value.string ({ data := #[100, 97, 116, 97, 32] })) v0 (fun v54 => pBin Tryd.prog 9 BinOp.add v54 (Value.string ({ data := #[32] })) (fun v55 => AC Tryd.prog w0 n_spec_l1Hex [cellOf a0 4] s1 (fun v56 s57 => pBin Tryd.prog 9 BinOp.add v55 v56 (fun v58 => pBin Tryd.prog 9 BinOp.add v58 (Value.string ({ data := #[10] })) (fun v59 => R v59 s57)))))))))))))))
theorem vc_spec_l3Text_eq (w0 : World) (a0 : Value) (σ : Vw) (R : Value → Vw → Prop) : vc_spec_l3Text w0 a0 σ R = den Tryd.prog w0 kp_spec_l3Text esc_spec_l3Text (Tryd.f49.body.getD .skip) (entry Tryd.f49.ntmps [a0]) σ (retK Tryd.prog Tryd.f49.results.toList R) := by kernel_rfl
theorem ac_spec_l3Text {w0 : World} {a0 : Value} {σ : Vw} {R : Value → Vw → Prop} (h : vc_spec_l3Text w0 a0 σ R) : AC Tryd.prog w0 n_spec_l3Text [a0] σ R := by
  refine ac_rule (fn := Tryd.f49) (c := Tryd.f49.body.getD .skip) kp_spec_l3Text esc_spec_l3Text Tryd.func49 (by kernel_rfl) (by kernel_rfl) ?_
  rw [← vc_spec_l3Text_eq]
  exact h

/-- laws.toEntry -/
def kp_laws_toEntry : Nat → Keep
  | _ => ⟨[], [], [], .done, []⟩
def esc_laws_toEntry : Nat → Bool
  | _ => false
def vc_laws_toEntry (w0 : World) (a0 : Value) (σ : Vw) (R : Value → Vw → Prop) : Prop :=
  pVal true 5 a0 (AC Tryd.prog w0 n_laws_toStringS [cellOf a0 0] σ (fun v0 s1 => pVal false 1 v0 (pVal false 1 (cellOf a0 1) (pVal false 1 (cellOf a0 2) (pVal false 1 (cellOf a0 3) (pVal false 1 (cellOf a0 4) (pVal true 5 (Value.agg (⟨[v0, cellOf a0 1, cellOf a0 2, cellOf a0 3, cellOf a0 4]⟩)) (R (Value.agg (⟨[v0, cellOf a0 1, cellOf a0 2, cellOf a0 3, cellOf a0 4]⟩)) s1))))))))
theorem vc_laws_toEntry_eq (w0 : World) (a0 : Value) (σ : Vw) (R : Value → Vw → Prop) : vc_laws_toEntry w0 a0 σ R = den Tryd.prog w0 kp_laws_toEntry esc_laws_toEntry (Tryd.f50.body.getD .skip) (entry Tryd.f50.ntmps [a0]) σ (retK Tryd.prog Tryd.f50.results.toList R) := by kernel_rfl
theorem ac_laws_toEntry {w0 : World} {a0 : Value} {σ : Vw} {R : Value → Vw → Prop} (h : vc_laws_toEntry w0 a0 σ R) : AC Tryd.prog w0 n_laws_toEntry [a0] σ R := by
  refine ac_rule (fn := Tryd.f50) (c := Tryd.f50.body.getD .skip) kp_laws_toEntry esc_laws_toEntry Tryd.func50 (by kernel_rfl) (by kernel_rfl) ?_
  rw [← vc_laws_toEntry_eq]
  exact h

/-- impl.entryOk -/
def kp_impl_entryOk : Nat → Keep
  | _ => ⟨[], [], [], .done, []⟩
def esc_impl_entryOk : Nat → Bool
  | _ => false
def vc_impl_entryOk (w0 : World) (a0 : Value) (σ : Vw) (R : Value → Vw → Prop) : Prop :=
  pVal true 5 a0 (pBin Tryd.prog 3 BinOp.eql (cellOf a0 1) (Value.int IntKind.i64 3) (fun v0 => pIf v0 (AC Tryd.prog w0 n_impl_namesOk [cellOf a0 0, Value.int IntKind.i64 0] σ (fun v1 s2 => pUn UnOp.not v1 (fun v3 => pIf v3 (R (Value.bool false) s2) (AC Tryd.prog w0 n_impl_modeOk [cellOf a0 3] s2 (fun v4 s5 => pUn UnOp.not v4 (fun v6 => pIf v6 (R (Value.bool false) s5) (pLenS (cellOf a0 4) (fun v7 => pBin Tryd.prog 3 BinOp.gtr v7 (Value.int IntKind.i64 24) (fun v8 => pIf v8 (R (Value.bool false) s5) (pBin Tryd.prog 3 BinOp.eql (cellOf a0 1) (Value.int IntKind.i64 1) (fun v9 => pIf v9 (pUn UnOp.not (cellOf a0 2) (fun v10 => pIf v10 (pBin Tryd.prog 3 BinOp.eql (cellOf a0 3) (Value.int IntKind.i64 0) (fun v11 => pIf v11 (pBin Tryd.prog 9 BinOp.eql (cellOf a0 4) (Value.string ({ data := #[] })) (fun v12 => R v12 s5)) (R (Value.bool false) s5))) (R (Value.bool false) s5))) (pBin Tryd.prog 3 BinOp.eql (cellOf a0 1) (Value.int IntKind.i64 2) (fun v13 => pIf v13 (pUn UnOp.not (cellOf a0 2) (fun v14 => pIf v14 (R (Value.bool true) s5) (pBin Tryd.prog 9 BinOp.eql (cellOf a0 4) (Value.string ({ data := #[] })) (fun v15 => R v15 s5)))) (pBin Tryd.prog 3 BinOp.eql (cellOf a0 1) (Value.int IntKind.i64 3) (fun v16 => pIf v16 (pUn UnOp.not (cellOf a0 2) (fun v17 => pIf v17 (pBin Tryd.prog 9 BinOp.eql (cellOf a0 4) (Value.string ({ data := #[] })) (fun v18 => R v18 s5)) (R (Value.bool false) s5))) (pBin Tryd.prog 3 BinOp.eql (cellOf a0 1) (Value.int IntKind.i64 4) (fun v19 => pIf v19 (pUn UnOp.not (cellOf a0 2) (fun v20 => pIf v20 (pBin Tryd.prog 3 BinOp.eql (cellOf a0 3) (Value.int IntKind.i64 0) (fun v21 => R v21 s5)) (R (Value.bool false) s5))) (R (Value.bool false) s5)))))))))))))))))) (AC Tryd.prog w0 n_impl_namesOk [cellOf a0 0, Value.int IntKind.i64 1] σ (fun v22 s23 => pUn UnOp.not v22 (fun v24 => pIf v24 (R (Value.bool false) s23) (AC Tryd.prog w0 n_impl_modeOk [cellOf a0 3] s23 (fun v25 s26 => pUn UnOp.not v25 (fun v27 => pIf v27 (R (Value.bool false) s26) (pLenS (cellOf a0 4) (fun v28 => pBin Tryd.prog 3 BinOp.gtr v28 (Value.int IntKind.i64 24) (fun v29 => pIf v29 (R (Value.bool false) s26) (pBin Tryd.prog 3 BinOp.eql (cellOf a0 1) (Value.int IntKind.i64 1) (fun v30 => pIf v30 (pUn UnOp.not (cellOf a0 2) (fun v31 => pIf v31 (pBin Tryd.prog 3 BinOp.eql (cellOf a0 3) (Value.int IntKind.i64 0) (fun v32 => pIf v32 (pBin Tryd.prog 9 BinOp.eql (cellOf a0 4) (Value.string ({ data := #[] })) (fun v33 => R v33 s26)) (R (Value.bool false) s26))) (R (Value.bool false) s26))) (pBin Tryd.prog 3 BinOp.eql (cellOf a0 1) (Value.int IntKind.i64 2) (fun v34 => pIf v34 (pUn UnOp.not (cellOf a0 2) (fun v35 => pIf v35 (R (Value.bool true) s26) (pBin Tryd.prog 9 BinOp.eql (cellOf a0 4) (Value.string ({ data := #[] })) (fun v36 => R v36 s26)))) (pBin Tryd.prog 3 BinOp.eql (cellOf a0 1) (Value.int IntKind.i64 3) (fun v37 => pIf v37 (pUn UnOp.not (cellOf a0 2) (fun v38 => pIf v38 (pBin Tryd.prog 9 BinOp.eql (cellOf a0 4) (Value.string ({ data := #[] })) (fun v39 => R v39 s26)) (R (Value.bool false) s26))) (pBin Tryd.prog 3 BinOp.eql (cellOf a0 1) (Value.int IntKind.i64 4) (fun v40 => pIf v40 (pUn UnOp.not (cellOf a0 2) (fun v41 => pIf v41 (pBin Tryd.prog 3 BinOp.eql (cellOf a0 3) (Value.int IntKind.i64 0) (fun v42 => R v42 s26)) (R (Value.bool false) s26))) (R (Value.bool false) s26))))))))))))))))))))
theorem vc_impl_entryOk_eq (w0 : World) (a0 : Value) (σ : Vw) (R : Value → Vw → Prop) : vc_impl_entryOk w0 a0 σ R = den Tryd.prog w0 kp_impl_entryOk esc_impl_entryOk (Tryd.f51.body.getD .skip) (entry Tryd.f51.ntmps [a0]) σ (retK Tryd.prog Tryd.f51.results.toList R) := by kernel_rfl
theorem ac_impl_entryOk {w0 : World} {a0 : Value} {σ : Vw} {R : Value → Vw → Prop} (h : vc_impl_entryOk w0 a0 σ R) : AC Tryd.prog w0 n_impl_entryOk [a0] σ R := by
  refine ac_rule (fn := Tryd.f51) (c := Tryd.f51.body.getD .skip) kp_impl_entryOk esc_impl_entryOk Tryd.func51 (by kernel_rfl) (by kernel_rfl) ?_
  rw [← vc_impl_entryOk_eq]
  exact h

/-- (*strings.Builder).WriteString -/
def kp_p_strings_Builder_WriteString : Nat → Keep
  | _ => ⟨[], [], [], .done, []⟩
def esc_p_strings_Builder_WriteString : Nat → Bool
  | _ => false
def vc_p_strings_Builder_WriteString (w0 : World) (a0 a1 : Value) (σ : Vw) (R : Value → Vw → Prop) : Prop :=
  AC Tryd.prog w0 n_p_strings_Builder_copyCheck [a0] σ (fun v0 s1 => pNil a0 (pField 1 a0 (fun v2 => pLoad w0 1 v2 s1 (fun g3 => False))))
theorem vc_p_strings_Builder_WriteString_eq (w0 : World) (a0 a1 : Value) (σ : Vw) (R : Value → Vw → Prop) : vc_p_strings_Builder_WriteString w0 a0 a1 σ R = den Tryd.prog w0 kp_p_strings_Builder_WriteString esc_p_strings_Builder_WriteString (Tryd.f52.body.getD .skip) (entry Tryd.f52.ntmps [a0, a1]) σ (retK Tryd.prog Tryd.f52.results.toList R) := by kernel_rfl
theorem ac_p_strings_Builder_WriteString {w0 : World} {a0 a1 : Value} {σ : Vw} {R : Value → Vw → Prop} (h : vc_p_strings_Builder_WriteString w0 a0 a1 σ R) : AC Tryd.prog w0 n_p_strings_Builder_WriteString [a0, a1] σ R := by
  refine ac_rule (fn := Tryd.f52) (c := Tryd.f52.body.getD .skip) kp_p_strings_Builder_WriteString esc_p_strings_Builder_WriteString Tryd.func52 (by kernel_rfl) (by kernel_rfl) ?_
  rw [← vc_p_strings_Builder_WriteString_eq]
  exact h

/-- (impl.Entry).line -/
def kp_impl_Entry_line : Nat → Keep
  | 1 => ⟨[], [], [], .step 0 (.step 1 (.step 3 (.step 4 (.step 2 (.step 5 (.step 6 (.step 7 (.done)))))))), [(1, [0]), (2, [0, 1]), (4, [3]), (5, [0, 1, 2, 3, 4]), (6, [0, 1, 2, 3, 4, 5]), (7, [0, 1, 2, 3, 4, 5, 6])]⟩
  | _ => ⟨[], [], [], .done, []⟩
def esc_impl_Entry_line : Nat → Bool
  | _ => false
def vc_impl_Entry_line (w0 : World) (a0 : Value) (σ : Vw) (R : Value → Vw → Prop) : Prop :=
  pVal true 5 a0 (AC Tryd.prog w0 n_impl_pathText [cellOf a0 0] σ (fun v0 s1 => AC Tryd.prog w0 n_strconv_Itoa [cellOf a0 3] s1 (fun v2 s3 => pBin Tryd.prog 3 BinOp.eql (cellOf a0 1) (Value.int IntKind.i64 1) (fun v4 => pIf v4 (pBin Tryd.prog 9 BinOp.add (Value.string ({ data := #[103, 111, 110, 101, 32] })) v0 (fun v5 => pBin Tryd.prog 9 BinOp.add v5 (Value.string ({ data := #[10] })) (fun v6 => R v6 s3))) (pBin Tryd.prog 3 BinOp.eql (cellOf a0 1) (Value.int IntKind.i64 3) (fun v7 => pIf v7 (pBin Tryd.prog 9 BinOp.add (Value.string ({ data := #[109, 111, 100, 101, 32] })) v0 (fun v8 => pBin Tryd.prog 9 BinOp.add v8 (Value.string ({ data := #[32] })) (fun v9 => pBin Tryd.prog 9 BinOp.add v9 v2 (fun v10 => pBin Tryd.prog 9 BinOp.add v10 (Value.string ({ data := #[10] })) (fun v11 => R v11 s3))))) (pBin Tryd.prog 3 BinOp.eql (cellOf a0 1) (Value.int IntKind.i64 4) (fun v12 => pIf v12 (pBin Tryd.prog 9 BinOp.add (Value.string ({ data := #[100, 97, 116, 97, 32] })) v0 (fun v13 => pBin Tryd.prog 9 BinOp.add v13 (Value.string ({ data := #[32] })) (fun v14 => AC Tryd.prog w0 n_impl_dataText [cellOf a0 4] s3 (fun v15 s16 => pBin Tryd.prog 9 BinOp.add v14 v15 (fun v17 => pBin Tryd.prog 9 BinOp.add v17 (Value.string ({ data := #[10] })) (fun v18 => R v18 s16)))))) (pIf (cellOf a0 2) (pBin Tryd.prog 9 BinOp.add (Value.string ({ data := #[110, 101, 119, 100, 105, 114, 32] })) v0 (fun v19 => pBin Tryd.prog 9 BinOp.add v19 (Value.string ({ data := #[32] })) (fun v20 => pBin Tryd.prog 9 BinOp.add v20 v2 (fun v21 => pBin Tryd.prog 9 BinOp.add v21 (Value.string ({ data := #[10] })) (fun v22 => R v22 s3))))) (pBin Tryd.prog 9 BinOp.add (Value.string ({ data := #[110, 101, 119, 32] })) v0 (fun v23 => pBin Tryd.prog 9 BinOp.add v23 (Value.string ({ data := #[32] })) (fun v24 => pBin Tryd.prog 9 BinOp.add v24 v2 (fun v25 => pBin Tryd.prog 9 BinOp.add v25 (Value.string ({ data := #[32] })) (fun v26 => AC Tryd.prog w0 n_impl_dataText [cellOf a0 4] s3 (fun v27 s28 => pBin Tryd.prog 9 BinOp.add v26 v27 (fun v29 => pBin Tryd.prog 9 BinOp.add v29 (Value.string ({ data := #[10] })) (fun v30 => R v30 s28)))))))))))))))))
theorem vc_impl_Entry_line_eq (w0 : World) (a0 : Value) (σ : Vw) (R : Value → Vw → Prop) : vc_impl_Entry_line w0 a0 σ R = den Tryd.prog w0 kp_impl_Entry_line esc_impl_Entry_line (Tryd.f53.body.getD .skip) (entry Tryd.f53.ntmps [a0]) σ (retK Tryd.prog Tryd.f53.results.toList R) := by kernel_rfl
theorem ac_impl_Entry_line {w0 : World} {a0 : Value} {σ : Vw} {R : Value → Vw → Prop} (h : vc_impl_Entry_line w0 a0 σ R) : AC Tryd.prog w0 n_impl_Entry_line [a0] σ R := by
  refine ac_rule (fn := Tryd.f53) (c := Tryd.f53.body.getD .skip) kp_impl_Entry_line esc_impl_Entry_line Tryd.func53 (by kernel_rfl) (by kernel_rfl) ?_
  rw [← vc_impl_Entry_line_eq]
  exact h

/-- (*strings.Builder).Len -/
def kp_p_strings_Builder_Len : Nat → Keep
  | _ => ⟨[], [], [], .done, []⟩
def esc_p_strings_Builder_Len : Nat → Bool
  | _ => false
def vc_p_strings_Builder_Len (w0 : World) (a0 : Value) (σ : Vw) (R : Value → Vw → Prop) : Prop :=
  pNil a0 (pField 1 a0 (fun v0 => pLoad w0 1 v0 σ (fun g1 => pLen (g1 0) (fun v2 => R v2 σ))))
theorem vc_p_strings_Builder_Len_eq (w0 : World) (a0 : Value) (σ : Vw) (R : Value → Vw → Prop) : vc_p_strings_Builder_Len w0 a0 σ R = den Tryd.prog w0 kp_p_strings_Builder_Len esc_p_strings_Builder_Len (Tryd.f54.body.getD .skip) (entry Tryd.f54.ntmps [a0]) σ (retK Tryd.prog Tryd.f54.results.toList R) := by kernel_rfl
theorem ac_p_strings_Builder_Len {w0 : World} {a0 : Value} {σ : Vw} {R : Value → Vw → Prop} (h : vc_p_strings_Builder_Len w0 a0 σ R) : AC Tryd.prog w0 n_p_strings_Builder_Len [a0] σ R := by
  refine ac_rule (fn := Tryd.f54) (c := Tryd.f54.body.getD .skip) kp_p_strings_Builder_Len esc_p_strings_Builder_Len Tryd.func54 (by kernel_rfl) (by kernel_rfl) ?_
  rw [← vc_p_strings_Builder_Len_eq]
  exact h

/-- (*strings.Builder).String -/
def kp_p_strings_Builder_String : Nat → Keep
  | 1 => ⟨[], [], [], .step 0 (.step 1 (.step 2 (.step 3 (.step 5 (.step 6 (.step 7 (.step 8 (.step 9 (.step 4 (.step 10 (.step 11 (.done)))))))))))), [(1, [0]), (2, [0, 1]), (3, [0, 1, 2]), (4, [0, 1, 2, 3]), (6, [5]), (7, [5, 6]), (8, [5, 6, 7]), (9, [5, 6, 7, 8]), (10, [0, 1, 2, 3, 4, 5, 6, 7, 8, 9]), (11, [0, 1, 2, 3, 4, 5, 6, 7, 8, 9, 10])]⟩
  | _ => ⟨[], [], [], .done, []⟩
def esc_p_strings_Builder_String : Nat → Bool
  | _ => false
def vc_p_strings_Builder_String (w0 : World) (a0 : Value) (σ : Vw) (R : Value → Vw → Prop) : Prop :=
  pNil a0 (pField 1 a0 (fun v0 => pLoad w0 1 v0 σ (fun g1 => pNil a0 (pField 1 a0 (fun v2 => pLoad w0 1 v2 σ (fun g3 => pLen (g3 0) (fun v4 => False)))))))
theorem vc_p_strings_Builder_String_eq (w0 : World) (a0 : Value) (σ : Vw) (R : Value → Vw → Prop) : vc_p_strings_Builder_String w0 a0 σ R = den Tryd.prog w0 kp_p_strings_Builder_String esc_p_strings_Builder_String (Tryd.f55.body.getD .skip) (entry Tryd.f55.ntmps [a0]) σ (retK Tryd.prog Tryd.f55.results.toList R) := by kernel_rfl
theorem ac_p_strings_Builder_String {w0 : World} {a0 : Value} {σ : Vw} {R : Value → Vw → Prop} (h : vc_p_strings_Builder_String w0 a0 σ R) : AC Tryd.prog w0 n_p_strings_Builder_String [a0] σ R := by
  refine ac_rule (fn := Tryd.f55) (c := Tryd.f55.body.getD .skip) kp_p_strings_Builder_String esc_p_strings_Builder_String Tryd.func55 (by kernel_rfl) (by kernel_rfl) ?_
  rw [← vc_p_strings_Builder_String_eq]
  exact h

/-- laws.eqEntry -/
def kp_laws_eqEntry : Nat → Keep
  | _ => ⟨[], [], [], .done, []⟩
def esc_laws_eqEntry : Nat → Bool
  | _ => false
def vc_laws_eqEntry (w0 : World) (a0 a1 : Value) (σ : Vw) (R : Value → Vw → Prop) : Prop :=
  pVal true 5 a0 (pVal true 5 a1 (AC Tryd.prog w0 n_laws_eqStringS [cellOf a0 0, cellOf a1 0] σ (fun v0 s1 => pUn UnOp.not v0 (fun v2 => pIf v2 (R (Value.bool false) s1) (pBin Tryd.prog 3 BinOp.neq (cellOf a0 1) (cellOf a1 1) (fun v3 => pIf v3 (R (Value.bool false) s1) (pBin Tryd.prog 4 BinOp.neq (cellOf a0 2) (cellOf a1 2) (fun v4 => pIf v4 (R (Value.bool false) s1) (pBin Tryd.prog 3 BinOp.neq (cellOf a0 3) (cellOf a1 3) (fun v5 => pIf v5 (R (Value.bool false) s1) (pBin Tryd.prog 9 BinOp.neq (cellOf a0 4) (cellOf a1 4) (fun v6 => pIf v6 (R (Value.bool false) s1) (R (Value.bool true) s1)))))))))))))
theorem vc_laws_eqEntry_eq (w0 : World) (a0 a1 : Value) (σ : Vw) (R : Value → Vw → Prop) : vc_laws_eqEntry w0 a0 a1 σ R = den Tryd.prog w0 kp_laws_eqEntry esc_laws_eqEntry (Tryd.f56.body.getD .skip) (entry Tryd.f56.ntmps [a0, a1]) σ (retK Tryd.prog Tryd.f56.results.toList R) := by kernel_rfl
theorem ac_laws_eqEntry {w0 : World} {a0 a1 : Value} {σ : Vw} {R : Value → Vw → Prop} (h : vc_laws_eqEntry w0 a0 a1 σ R) : AC Tryd.prog w0 n_laws_eqEntry [a0, a1] σ R := by
  refine ac_rule (fn := Tryd.f56) (c := Tryd.f56.body.getD .skip) kp_laws_eqEntry esc_laws_eqEntry Tryd.func56 (by kernel_rfl) (by kernel_rfl) ?_
  rw [← vc_laws_eqEntry_eq]
  exact h

/-- spec.l31Of -/
def kp_spec_l31Of : Nat → Keep
  | 1 => ⟨[], [], [], .step 0 (.step 2 (.step 1 (.step 3 (.step 4 (.step 5 (.step 6 (.done))))))), [(1, [0]), (3, [0, 1, 2]), (4, [0, 1, 2, 3]), (5, [0, 1, 2, 3, 4]), (6, [0, 1, 2, 3, 4, 5])]⟩
  | _ => ⟨[], [], [], .done, []⟩
def esc_spec_l31Of : Nat → Bool
  | _ => false
def vc_spec_l31Of (w0 : World) (a0 : Value) (σ : Vw) (R : Value → Vw → Prop) : Prop :=
  pVal true 5 a0 (AC Tryd.prog w0 n_spec_l1Line ([Value.string ({ data := #[47] }), Value.agg (⟨[cellOf a0 0, cellOf a0 1, cellOf a0 2, cellOf a0 3, cellOf a0 4]⟩)]) σ (fun v0 s1 => AC Tryd.prog w0 n_spec_l1Show ([Value.string ({ data := #[] }), Value.agg (⟨[cellOf a0 0, cellOf a0 1, cellOf a0 2, cellOf a0 3, cellOf a0 4]⟩)]) s1 (fun v2 s3 => pBin Tryd.prog 9 BinOp.add v0 v2 (fun v4 => AC Tryd.prog w0 n_spec_l31Id [v4] s3 (fun v5 s6 => R v5 s6)))))
theorem vc_spec_l31Of_eq (w0 : World) (a0 : Value) (σ : Vw) (R : Value → Vw → Prop) : vc_spec_l31Of w0 a0 σ R = den Tryd.prog w0 kp_spec_l31Of esc_spec_l31Of (Tryd.f57.body.getD .skip) (entry Tryd.f57.ntmps [a0]) σ (retK Tryd.prog Tryd.f57.results.toList R) := by kernel_rfl
theorem ac_spec_l31Of {w0 : World} {a0 : Value} {σ : Vw} {R : Value → Vw → Prop} (h : vc_spec_l31Of w0 a0 σ R) : AC Tryd.prog w0 n_spec_l31Of [a0] σ R := by
  refine ac_rule (fn := Tryd.f57) (c := Tryd.f57.body.getD .skip) kp_spec_l31Of esc_spec_l31Of Tryd.func57 (by kernel_rfl) (by kernel_rfl) ?_
  rw [← vc_spec_l31Of_eq]
  exact h

/-- (impl.Tree).id -/
def kp_impl_Tree_id : Nat → Keep
  | 4 => ⟨[3, 4, 9, 10], [], [], .done, []⟩
  | _ => ⟨[], [], [], .done, []⟩
def esc_impl_Tree_id : Nat → Bool
  | _ => false
def vc_impl_Tree_id (w0 : World) (a0 : Value) (σ : Vw) (R : Value → Vw → Prop) : Prop :=
  pVal true 5 a0 (AC Tryd.prog w0 n_impl_Tree_show ([Value.agg (⟨[cellOf a0 0, cellOf a0 1, cellOf a0 2, cellOf a0 3, cellOf a0 4]⟩)]) σ (fun v0 s1 => pLenS v0 (fun v2 => pLoop (fun l3 K4 s5 => pBin Tryd.prog 3 BinOp.lss (vget l3 3) (vget l3 2) (fun v6 => pIf v6 (pBin Tryd.prog 3 BinOp.mul (Value.int IntKind.i64 131) (vget l3 0) (fun v7 => pIndexStr (vget l3 1) (vget l3 3) (fun v8 => pConvInt IntKind.i64 v8 (fun v9 => pBin Tryd.prog 3 BinOp.add v7 v9 (fun v10 => pBin Tryd.prog 3 BinOp.rem v10 (Value.int IntKind.i64 1000000007) (fun v11 => pBin Tryd.prog 3 BinOp.add (vget l3 3) (Value.int IntKind.i64 1) (fun v12 => K4 AX.normal [v11, vget l3 1, vget l3 2, v12] s5))))))) (K4 (AX.exit 0) [vget l3 0, vget l3 1, vget l3 2, vget l3 3] s5))) [Value.int IntKind.i64 7, v0, v2, Value.int IntKind.i64 0] s1 (fun x13 l14 s15 => match x13 with | .normal => R (vget l14 0) s15 | .ret => False | .exit i16 => (match Nat.beq i16 0 with | true => R (vget l14 0) s15 | false => False)))))
theorem vc_impl_Tree_id_eq (w0 : World) (a0 : Value) (σ : Vw) (R : Value → Vw → Prop) : vc_impl_Tree_id w0 a0 σ R = den Tryd.prog w0 kp_impl_Tree_id esc_impl_Tree_id (Tryd.f58.body.getD .skip) (entry Tryd.f58.ntmps [a0]) σ (retK Tryd.prog Tryd.f58.results.toList R) := by kernel_rfl
theorem ac_impl_Tree_id {w0 : World} {a0 : Value} {σ : Vw} {R : Value → Vw → Prop} (h : vc_impl_Tree_id w0 a0 σ R) : AC Tryd.prog w0 n_impl_Tree_id [a0] σ R := by
  refine ac_rule (fn := Tryd.f58) (c := Tryd.f58.body.getD .skip) kp_impl_Tree_id esc_impl_Tree_id Tryd.func58 (by kernel_rfl) (by kernel_rfl) ?_
  rw [← vc_impl_Tree_id_eq]
  exact h

/-- spec.l1Cut -/
def kp_spec_l1Cut : Nat → Keep
  | 4 => ⟨[0, 1, 5, 6, 7], [], [], .done, []⟩
  | _ => ⟨[], [], [], .done, []⟩
def esc_spec_l1Cut : Nat → Bool
  | 8 => true
  | _ => false
def vc_spec_l1Cut (w0 : World) (a0 a1 : Value) (σ : Vw) (R : Value → Vw → Prop) : Prop :=
  pNew w0 9 [] σ (fun n0 s1 => pLoop (fun l2 K3 s4 => pLenS (vget l2 0) (fun v5 => pBin Tryd.prog 3 BinOp.lss (vget l2 4) v5 (fun v6 => pIf v6 (pIndexStr (vget l2 0) (vget l2 4) (fun v7 => pBin Tryd.prog 5 BinOp.eql v7 (vget l2 1) (fun v8 => pIf v8 (pSliceStr (vget l2 0) (Option.some (vget l2 3)) (Option.some (vget l2 4)) (fun v9 => pVal false 1 v9 ((allOne [v9]) ∧ (pAppend w0 9 1 16 (vget l2 2) 1 [v9] s4 (fun v10 s11 => pBin Tryd.prog 3 BinOp.add (vget l2 4) (Value.int IntKind.i64 1) (fun v12 => pBin Tryd.prog 3 BinOp.add (vget l2 4) (Value.int IntKind.i64 1) (fun v13 => K3 AX.normal [vget l2 0, vget l2 1, v10, v12, v13] s11))))))) (pBin Tryd.prog 3 BinOp.add (vget l2 4) (Value.int IntKind.i64 1) (fun v14 => K3 AX.normal [vget l2 0, vget l2 1, vget l2 2, vget l2 3, v14] s4))))) (K3 (AX.exit 0) [vget l2 0, vget l2 1, vget l2 2, vget l2 3, vget l2 4] s4)))) [a0, a1, Value.slice (Option.some (Addr.mk n0 0 Option.none)) 0 0, Value.int IntKind.i64 0, Value.int IntKind.i64 0] s1 (fun x15 l16 s17 => match x15 with | .normal => pSliceStr (vget l16 0) (Option.some (vget l16 3)) Option.none (fun v18 => pVal false 1 v18 ((allOne [v18]) ∧ (pAppend w0 9 1 16 (vget l16 2) 1 [v18] s17 (fun v19 s20 => R v19 s20)))) | .ret => False | .exit i21 => (match Nat.beq i21 0 with | true => pSliceStr (vget l16 0) (Option.some (vget l16 3)) Option.none (fun v22 => pVal false 1 v22 ((allOne [v22]) ∧ (pAppend w0 9 1 16 (vget l16 2) 1 [v22] s17 (fun v23 s24 => R v23 s24)))) | false => False)))
theorem vc_spec_l1Cut_eq (w0 : World) (a0 a1 : Value) (σ : Vw) (R : Value → Vw → Prop) : vc_spec_l1Cut w0 a0 a1 σ R = den Tryd.prog w0 kp_spec_l1Cut esc_spec_l1Cut (Tryd.f59.body.getD .skip) (entry Tryd.f59.ntmps [a0, a1]) σ (retK Tryd.prog Tryd.f59.results.toList R) := by kernel_rfl
theorem ac_spec_l1Cut {w0 : World} {a0 a1 : Value} {σ : Vw} {R : Value → Vw → Prop} (h : vc_spec_l1Cut w0 a0 a1 σ R) : AC Tryd.prog w0 n_spec_l1Cut [a0, a1] σ R := by
  refine ac_rule (fn := Tryd.f59) (c := Tryd.f59.body.getD .skip) kp_spec_l1Cut esc_spec_l1Cut Tryd.func59 (by kernel_rfl) (by kernel_rfl) ?_
  rw [← vc_spec_l1Cut_eq]
  exact h

/-- spec.TrailOk -/
def kp_spec_TrailOk : Nat → Keep
  | 2 => ⟨[0, 2, 3], [], [], .done, []⟩
  | 4 => ⟨[], [], [], .step 0 (.step 1 (.step 2 (.step 3 (.step 4 (.step 5 (.step 6 (.step 7 (.step 8 (.step 9 (.step 10 (.step 11 (.step 12 (.step 13 (.step 14 (.step 15 (.step 16 (.step 17 (.step 18 (.step 19 (.step 20 (.step 21 (.step 22 (.step 23 (.step 24 (.done))))))))))))))))))))))))), [(2, [0, 1]), (3, [0, 1, 2]), (4, [0, 1, 2, 3]), (5, [0, 1, 2, 3, 4]), (6, [0, 1, 2, 3, 4, 5]), (7, [0, 1, 2, 3, 4, 5, 6]), (8, [0, 1, 2, 3, 4, 5, 6, 7]), (9, [0, 1, 2, 3, 4, 5, 6, 7, 8]), (10, [0, 1, 2, 3, 4, 5, 6, 7, 8, 9]), (11, [0, 1, 2, 3, 4, 5, 6, 7, 8, 9]), (12, [0, 1, 2, 3, 4, 5, 6, 7, 8, 9, 11]), (13, [0, 1, 2, 3, 4, 5, 6, 7, 8, 9, 10, 11, 12]), (14, [0, 1, 2, 3, 4, 5, 6, 7, 8, 9, 10, 11, 12, 13]), (15, [0, 1, 2, 3, 4, 5, 6, 7, 8, 9, 10, 11, 12, 13, 14]), (16, [0, 1, 2, 3, 4, 5, 6, 7, 8, 9]), (17, [0, 1, 2, 3, 4, 5, 6, 7, 8, 9]), (18, [0, 1, 2, 3, 4, 5, 6, 7, 8, 9, 16, 17]), (19, [0, 1, 2, 3, 4, 5, 6, 7, 8, 9, 16, 17, 18]), (20, [0, 1, 2, 3, 4, 5, 6, 7, 8, 9, 16, 17, 18, 19]), (21, [0, 1, 2, 3, 4, 5, 6, 7, 8, 9, 10, 11, 12, 13, 14, 15, 16, 17, 18, 19, 20]), (22, [0, 1, 2, 3, 4, 5, 6, 7, 8, 9, 10, 11, 12, 13, 14, 15, 16, 17, 18, 19, 20, 21]), (23, [0, 1, 2, 3, 4, 5, 6, 7, 8, 9, 10, 11, 12, 13, 14, 15, 16, 17, 18, 19, 20, 21, 22]), (24, [0, 1, 2, 3, 4, 5, 6, 7, 8, 9, 10, 11, 12, 13, 14, 15, 16, 17, 18, 19, 20, 21, 22, 23])]⟩
  | 7 => ⟨[0, 2, 3, 4], [], [], .done, []⟩
  | 9 => ⟨[], [], [], .step 0 (.step 1 (.step 2 (.step 3 (.step 4 (.step 5 (.step 6 (.step 7 (.step 8 (.step 9 (.step 10 (.step 11 (.step 12 (.step 13 (.step 14 (.step 15 (.step 16 (.step 17 (.done)))))))))))))))))), [(2, [0, 1]), (3, [0, 1, 2]), (4, [0, 1, 2, 3]), (5, [0, 1, 2, 3, 4]), (6, [0, 1, 2, 3, 4, 5]), (7, [0, 1, 2, 3, 4, 5]), (8, [0, 1, 2, 3, 4, 5, 6, 7]), (9, [0, 1, 2, 3, 4, 5, 6, 7, 8]), (10, [0, 1, 2, 3, 4, 5, 6, 7, 8, 9]), (11, [0, 1, 2, 3, 4, 5]), (12, [0, 1, 2, 3, 4, 5]), (13, [0, 1, 2, 3, 4, 5, 11, 12]), (14, [0, 1, 2, 3, 4, 5, 11, 12, 13]), (15, [0, 1, 2, 3, 4, 5, 11, 12, 13, 14]), (16, [0, 1, 2, 3, 4, 5, 6, 7, 8, 9, 10, 11, 12, 13, 14, 15]), (17, [0, 1, 2, 3, 4, 5, 6, 7, 8, 9, 10, 11, 12, 13, 14, 15, 16])]⟩
  | _ => ⟨[], [], [], .done, []⟩
def esc_spec_TrailOk : Nat → Bool
  | _ => false
def vc_spec_TrailOk (w0 : World) (a0 : Value) (σ : Vw) (R : Value → Vw → Prop) : Prop :=
  pLoop (fun l0 K1 s2 => pLen (vget l0 0) (fun v3 => pBin Tryd.prog 3 BinOp.lss (vget l0 2) v3 (fun v4 => pIf v4 (pIndexAddr 2 (vget l0 0) (vget l0 2) (fun v5 => pLoad w0 2 v5 s2 (fun g6 => AC Tryd.prog w0 n_spec_l11MarkOk ([Value.agg (⟨[g6 0, g6 1]⟩)]) s2 (fun v7 s8 => pUn UnOp.not v7 (fun v9 => pIf v9 (K1 AX.ret [vget l0 0, Value.bool false, vget l0 2] s8) (pBin Tryd.prog 3 BinOp.gtr (vget l0 2) (Value.int IntKind.i64 0) (fun v10 => pIf v10 (pBin Tryd.prog 3 BinOp.sub (vget l0 2) (Value.int IntKind.i64 1) (fun v11 => pIndexAddr 2 (vget l0 0) v11 (fun v12 => pField 0 v12 (fun v13 => pLoad w0 1 v13 s8 (fun g14 => pIndexAddr 2 (vget l0 0) (vget l0 2) (fun v15 => pField 0 v15 (fun v16 => pLoad w0 1 v16 s8 (fun g17 => AC Tryd.prog w0 n_spec_l11Less [g14 0, g17 0] s8 (fun v18 s19 => pUn UnOp.not v18 (fun v20 => pIf v20 (K1 AX.ret [vget l0 0, Value.bool false, vget l0 2] s19) (pLoop (fun l21 K22 s23 => pBin Tryd.prog 3 BinOp.lss (vget l21 3) (vget l21 2) (fun v24 => pIf v24 (pIndexAddr 2 (vget l21 0) (vget l21 3) (fun v25 => pField 1 v25 (fun v26 => pLoad w0 1 v26 s23 (fun g27 => pIf (g27 0) (pIndexAddr 2 (vget l21 0) (vget l21 2) (fun v28 => pField 0 v28 (fun v29 => pLoad w0 1 v29 s23 (fun g30 => pIndexAddr 2 (vget l21 0) (vget l21 3) (fun v31 => pField 0 v31 (fun v32 => pLoad w0 1 v32 s23 (fun g33 => AC Tryd.prog w0 n_spec_l2Within [g30 0, g33 0] s23 (fun v34 s35 => pIf v34 (K22 AX.ret [vget l21 0, Value.bool false, vget l21 2, vget l21 3] s35) (pBin Tryd.prog 3 BinOp.add (vget l21 3) (Value.int IntKind.i64 1) (fun v36 => K22 AX.normal [vget l21 0, vget l21 1, vget l21 2, v36] s35)))))))))) (pBin Tryd.prog 3 BinOp.add (vget l21 3) (Value.int IntKind.i64 1) (fun v37 => K22 AX.normal [vget l21 0, vget l21 1, vget l21 2, v37] s23)))))) (K22 (AX.exit 2) [vget l21 0, vget l21 1, vget l21 2, vget l21 3] s23))) [vget l0 0, vget l0 1, vget l0 2, Value.int IntKind.i64 0] s19 (fun x38 l39 s40 => match x38 with | .normal => pBin Tryd.prog 3 BinOp.add (vget l39 2) (Value.int IntKind.i64 1) (fun v41 => K1 AX.normal [vget l39 0, vget l39 1, v41] s40) | .ret => K1 AX.ret [vget l39 0, vget l39 1, vget l39 2] s40 | .exit i42 => (match Nat.beq i42 2 with | true => pBin Tryd.prog 3 BinOp.add (vget l39 2) (Value.int IntKind.i64 1) (fun v43 => K1 AX.normal [vget l39 0, vget l39 1, v43] s40) | false => (match Nat.beq i42 1 with | true => pBin Tryd.prog 3 BinOp.add (vget l39 2) (Value.int IntKind.i64 1) (fun v44 => K1 AX.normal [vget l39 0, vget l39 1, v44] s40) | false => K1 (AX.exit i42) [vget l39 0, vget l39 1, vget l39 2] s40)))))))))))))) (pLoop (fun l45 K46 s47 => pBin Tryd.prog 3 BinOp.lss (vget l45 3) (vget l45 2) (fun v48 => pIf v48 (pIndexAddr 2 (vget l45 0) (vget l45 3) (fun v49 => pField 1 v49 (fun v50 => pLoad w0 1 v50 s47 (fun g51 => pIf (g51 0) (pIndexAddr 2 (vget l45 0) (vget l45 2) (fun v52 => pField 0 v52 (fun v53 => pLoad w0 1 v53 s47 (fun g54 => pIndexAddr 2 (vget l45 0) (vget l45 3) (fun v55 => pField 0 v55 (fun v56 => pLoad w0 1 v56 s47 (fun g57 => AC Tryd.prog w0 n_spec_l2Within [g54 0, g57 0] s47 (fun v58 s59 => pIf v58 (K46 AX.ret [vget l45 0, Value.bool false, vget l45 2, vget l45 3] s59) (pBin Tryd.prog 3 BinOp.add (vget l45 3) (Value.int IntKind.i64 1) (fun v60 => K46 AX.normal [vget l45 0, vget l45 1, vget l45 2, v60] s59)))))))))) (pBin Tryd.prog 3 BinOp.add (vget l45 3) (Value.int IntKind.i64 1) (fun v61 => K46 AX.normal [vget l45 0, vget l45 1, vget l45 2, v61] s47)))))) (K46 (AX.exit 2) [vget l45 0, vget l45 1, vget l45 2, vget l45 3] s47))) [vget l0 0, vget l0 1, vget l0 2, Value.int IntKind.i64 0] s8 (fun x62 l63 s64 => match x62 with | .normal => pBin Tryd.prog 3 BinOp.add (vget l63 2) (Value.int IntKind.i64 1) (fun v65 => K1 AX.normal [vget l63 0, vget l63 1, v65] s64) | .ret => K1 AX.ret [vget l63 0, vget l63 1, vget l63 2] s64 | .exit i66 => (match Nat.beq i66 2 with | true => pBin Tryd.prog 3 BinOp.add (vget l63 2) (Value.int IntKind.i64 1) (fun v67 => K1 AX.normal [vget l63 0, vget l63 1, v67] s64) | false => (match Nat.beq i66 1 with | true => pBin Tryd.prog 3 BinOp.add (vget l63 2) (Value.int IntKind.i64 1) (fun v68 => K1 AX.normal [vget l63 0, vget l63 1, v68] s64) | false => K1 (AX.exit i66) [vget l63 0, vget l63 1, vget l63 2] s64))))))))))) (K1 (AX.exit 0) [vget l0 0, vget l0 1, vget l0 2] s2)))) [a0, Value.bool false, Value.int IntKind.i64 0] σ (fun x69 l70 s71 => match x69 with | .normal => pLen (vget l70 0) (fun v72 => pBin Tryd.prog 3 BinOp.leq v72 (Value.int IntKind.i64 6) (fun v73 => R v73 s71)) | .ret => R (vget l70 1) s71 | .exit i74 => (match Nat.beq i74 0 with | true => pLen (vget l70 0) (fun v75 => pBin Tryd.prog 3 BinOp.leq v75 (Value.int IntKind.i64 6) (fun v76 => R v76 s71)) | false => False))
theorem vc_spec_TrailOk_eq (w0 : World) (a0 : Value) (σ : Vw) (R : Value → Vw → Prop) : vc_spec_TrailOk w0 a0 σ R = den Tryd.prog w0 kp_spec_TrailOk esc_spec_TrailOk (Tryd.f60.body.getD .skip) (entry Tryd.f60.ntmps [a0]) σ (retK Tryd.prog Tryd.f60.results.toList R) := by kernel_rfl
theorem ac_spec_TrailOk {w0 : World} {a0 : Value} {σ : Vw} {R : Value → Vw → Prop} (h : vc_spec_TrailOk w0 a0 σ R) : AC Tryd.prog w0 n_spec_TrailOk [a0] σ R := by
  refine ac_rule (fn := Tryd.f60) (c := Tryd.f60.body.getD .skip) kp_spec_TrailOk esc_spec_TrailOk Tryd.func60 (by kernel_rfl) (by kernel_rfl) ?_
  rw [← vc_spec_TrailOk_eq]
  exact h

/-- spec.TrailShow -/
def kp_spec_TrailShow : Nat → Keep
  | 5 => ⟨[0, 3, 4], [], [], .done, []⟩
  | _ => ⟨[], [], [], .done, []⟩
def esc_spec_TrailShow : Nat → Bool
  | _ => false
def vc_spec_TrailShow (w0 : World) (a0 : Value) (σ : Vw) (R : Value → Vw → Prop) : Prop :=
  AC Tryd.prog w0 n_spec_TrailOk [a0] σ (fun v0 s1 => pUn UnOp.not v0 (fun v2 => pIf v2 (R (Value.string ({ data := #[] })) s1) (pLoop (fun l3 K4 s5 => pLen (vget l3 0) (fun v6 => pBin Tryd.prog 3 BinOp.lss (vget l3 2) v6 (fun v7 => pIf v7 (pIndexAddr 2 (vget l3 0) (vget l3 2) (fun v8 => pLoad w0 2 v8 s5 (fun g9 => AC Tryd.prog w0 n_spec_l11Text ([Value.agg (⟨[g9 0, g9 1]⟩)]) s5 (fun v10 s11 => pBin Tryd.prog 9 BinOp.add (vget l3 1) v10 (fun v12 => pBin Tryd.prog 3 BinOp.add (vget l3 2) (Value.int IntKind.i64 1) (fun v13 => K4 AX.normal [vget l3 0, v12, v13] s11)))))) (K4 (AX.exit 0) [vget l3 0, vget l3 1, vget l3 2] s5)))) ([a0, Value.string ({ data := #[] }), Value.int IntKind.i64 0]) s1 (fun x14 l15 s16 => match x14 with | .normal => R (vget l15 1) s16 | .ret => False | .exit i17 => (match Nat.beq i17 0 with | true => R (vget l15 1) s16 | false => False)))))
theorem vc_spec_TrailShow_eq (w0 : World) (a0 : Value) (σ : Vw) (R : Value → Vw → Prop) : vc_spec_TrailShow w0 a0 σ R = den Tryd.prog w0 kp_spec_TrailShow esc_spec_TrailShow (Tryd.f61.body.getD .skip) (entry Tryd.f61.ntmps [a0]) σ (retK Tryd.prog Tryd.f61.results.toList R) := by kernel_rfl
theorem ac_spec_TrailShow {w0 : World} {a0 : Value} {σ : Vw} {R : Value → Vw → Prop} (h : vc_spec_TrailShow w0 a0 σ R) : AC Tryd.prog w0 n_spec_TrailShow [a0] σ R := by
  refine ac_rule (fn := Tryd.f61) (c := Tryd.f61.body.getD .skip) kp_spec_TrailShow esc_spec_TrailShow Tryd.func61 (by kernel_rfl) (by kernel_rfl) ?_
  rw [← vc_spec_TrailShow_eq]
  exact h

/-- spec.l11Copy -/
def kp_spec_l11Copy : Nat → Keep
  | 3 => ⟨[0, 3, 4], [], [], .done, []⟩
  | 5 => ⟨[], [], [], .step 0 (.step 2 (.step 3 (.step 4 (.step 5 (.step 6 (.step 8 (.step 9 (.step 10 (.step 11 (.step 12 (.step 1 (.step 7 (.step 13 (.step 14 (.step 15 (.step 16 (.done))))))))))))))))), [(4, [2, 3]), (5, [2, 3, 4]), (6, [2, 3, 4, 5]), (7, [1, 2, 3, 4, 5, 6]), (10, [8, 9]), (11, [8, 9, 10]), (12, [8, 9, 10, 11]), (13, [1, 2, 3, 4, 5, 6, 7, 8, 9, 10, 11, 12]), (14, [1, 2, 3, 4, 5, 6, 7, 8, 9, 10, 11, 12, 13]), (15, [0, 1, 2, 3, 4, 5, 6, 7, 8, 9, 10, 11, 12, 13, 14]), (16, [0, 1, 2, 3, 4, 5, 6, 7, 8, 9, 10, 11, 12, 13, 14, 15])]⟩
  | _ => ⟨[], [], [], .done, []⟩
def esc_spec_l11Copy : Nat → Bool
  | 5 => true
  | 13 => true
  | _ => false
def vc_spec_l11Copy (w0 : World) (a0 : Value) (σ : Vw) (R : Value → Vw → Prop) : Prop :=
  pNew w0 84 [] σ (fun n0 s1 => pLoop (fun l2 K3 s4 => pLen (vget l2 0) (fun v5 => pBin Tryd.prog 3 BinOp.lss (vget l2 2) v5 (fun v6 => pIf v6 (pIndexAddr 2 (vget l2 0) (vget l2 2) (fun v7 => pField 0 v7 (fun v8 => pLoad w0 1 v8 s4 (fun g9 => pIndexAddr 2 (vget l2 0) (vget l2 2) (fun v10 => pField 1 v10 (fun v11 => pLoad w0 1 v11 s4 (fun g12 => pNew w0 9 [] s4 (fun n13 s14 => (Stay w0 s4 s14 v11 1) ∧ ((Stay w0 s4 s14 v8 1) ∧ (pAppendS w0 9 1 16 (Value.slice (Option.some (Addr.mk n13 0 Option.none)) 0 0) (g9 0) s14 (fun v15 s16 => (Stay w0 s14 s16 v11 1) ∧ (pVal false 1 v15 (pVal false 1 (g12 0) (pVal true 2 (Value.agg (⟨[v15, g12 0]⟩)) ((allOne [v15, g12 0]) ∧ (pAppend w0 84 2 32 (vget l2 1) 1 [v15, g12 0] s16 (fun v17 s18 => pBin Tryd.prog 3 BinOp.add (vget l2 2) (Value.int IntKind.i64 1) (fun v19 => K3 AX.normal [vget l2 0, v17, v19] s18)))))))))))))))))) (K3 (AX.exit 0) [vget l2 0, vget l2 1, vget l2 2] s4)))) [a0, Value.slice (Option.some (Addr.mk n0 0 Option.none)) 0 0, Value.int IntKind.i64 0] s1 (fun x20 l21 s22 => match x20 with | .normal => R (vget l21 1) s22 | .ret => False | .exit i23 => (match Nat.beq i23 0 with | true => R (vget l21 1) s22 | false => False)))
theorem vc_spec_l11Copy_eq (w0 : World) (a0 : Value) (σ : Vw) (R : Value → Vw → Prop) : vc_spec_l11Copy w0 a0 σ R = den Tryd.prog w0 kp_spec_l11Copy esc_spec_l11Copy (Tryd.f62.body.getD .skip) (entry Tryd.f62.ntmps [a0]) σ (retK Tryd.prog Tryd.f62.results.toList R) := by kernel_rfl
theorem ac_spec_l11Copy {w0 : World} {a0 : Value} {σ : Vw} {R : Value → Vw → Prop} (h : vc_spec_l11Copy w0 a0 σ R) : AC Tryd.prog w0 n_spec_l11Copy [a0] σ R := by
  refine ac_rule (fn := Tryd.f62) (c := Tryd.f62.body.getD .skip) kp_spec_l11Copy esc_spec_l11Copy Tryd.func62 (by kernel_rfl) (by kernel_rfl) ?_
  rw [← vc_spec_l11Copy_eq]
  exact h

/-- impl.linesOf -/
def kp_impl_linesOf : Nat → Keep
  | _ => ⟨[], [], [], .done, []⟩
def esc_impl_linesOf : Nat → Bool
  | _ => false
def vc_impl_linesOf (w0 : World) (a0 : Value) (σ : Vw) (R : Value → Vw → Prop) : Prop :=
  AC Tryd.prog w0 n_strings_Split ([a0, Value.string ({ data := #[10] })]) σ (fun v0 s1 => pLen v0 (fun v2 => pBin Tryd.prog 3 BinOp.sub v2 (Value.int IntKind.i64 1) (fun v3 => pSlice 1 v0 Option.none (Option.some v3) (fun v4 => R v4 s1))))
theorem vc_impl_linesOf_eq (w0 : World) (a0 : Value) (σ : Vw) (R : Value → Vw → Prop) : vc_impl_linesOf w0 a0 σ R = den Tryd.prog w0 kp_impl_linesOf esc_impl_linesOf (Tryd.f63.body.getD .skip) (entry Tryd.f63.ntmps [a0]) σ (retK Tryd.prog Tryd.f63.results.toList R) := by kernel_rfl
theorem ac_impl_linesOf {w0 : World} {a0 : Value} {σ : Vw} {R : Value → Vw → Prop} (h : vc_impl_linesOf w0 a0 σ R) : AC Tryd.prog w0 n_impl_linesOf [a0] σ R := by
  refine ac_rule (fn := Tryd.f63) (c := Tryd.f63.body.getD .skip) kp_impl_linesOf esc_impl_linesOf Tryd.func63 (by kernel_rfl) (by kernel_rfl) ?_
  rw [← vc_impl_linesOf_eq]
  exact h

/-- strings.Cut -/
def kp_strings_Cut : Nat → Keep
  | _ => ⟨[], [], [], .done, []⟩
def esc_strings_Cut : Nat → Bool
  | _ => false
def vc_strings_Cut (w0 : World) (a0 a1 : Value) (σ : Vw) (R : Value → Vw → Prop) : Prop :=
  AC Tryd.prog w0 n_internal_stringslite_Cut [a0, a1] σ (fun v0 s1 => pExtract v0 0 (fun v2 => pExtract v0 1 (fun v3 => pExtract v0 2 (fun v4 => R (Value.tuple (⟨[v2, v3, v4]⟩)) s1))))
theorem vc_strings_Cut_eq (w0 : World) (a0 a1 : Value) (σ : Vw) (R : Value → Vw → Prop) : vc_strings_Cut w0 a0 a1 σ R = den Tryd.prog w0 kp_strings_Cut esc_strings_Cut (Tryd.f64.body.getD .skip) (entry Tryd.f64.ntmps [a0, a1]) σ (retK Tryd.prog Tryd.f64.results.toList R) := by kernel_rfl
theorem ac_strings_Cut {w0 : World} {a0 a1 : Value} {σ : Vw} {R : Value → Vw → Prop} (h : vc_strings_Cut w0 a0 a1 σ R) : AC Tryd.prog w0 n_strings_Cut [a0, a1] σ R := by
  refine ac_rule (fn := Tryd.f64) (c := Tryd.f64.body.getD .skip) kp_strings_Cut esc_strings_Cut Tryd.func64 (by kernel_rfl) (by kernel_rfl) ?_
  rw [← vc_strings_Cut_eq]
  exact h

/-- impl.pathRead -/
def kp_impl_pathRead : Nat → Keep
  | _ => ⟨[], [], [], .done, []⟩
def esc_impl_pathRead : Nat → Bool
  | 7 => true
  | _ => false
def vc_impl_pathRead (w0 : World) (a0 : Value) (σ : Vw) (R : Value → Vw → Prop) : Prop :=
  AC Tryd.prog w0 n_strings_TrimPrefix ([a0, Value.string ({ data := #[47] })]) σ (fun v0 s1 => pBin Tryd.prog 9 BinOp.eql v0 (Value.string ({ data := #[] })) (fun v2 => pIf v2 (pNew w0 9 [] s1 (fun n3 s4 => R (Value.slice (Option.some (Addr.mk n3 0 Option.none)) 0 0) s4)) (AC Tryd.prog w0 n_strings_Split ([v0, Value.string ({ data := #[47] })]) s1 (fun v5 s6 => R v5 s6))))
theorem vc_impl_pathRead_eq (w0 : World) (a0 : Value) (σ : Vw) (R : Value → Vw → Prop) : vc_impl_pathRead w0 a0 σ R = den Tryd.prog w0 kp_impl_pathRead esc_impl_pathRead (Tryd.f65.body.getD .skip) (entry Tryd.f65.ntmps [a0]) σ (retK Tryd.prog Tryd.f65.results.toList R) := by kernel_rfl
theorem ac_impl_pathRead {w0 : World} {a0 : Value} {σ : Vw} {R : Value → Vw → Prop} (h : vc_impl_pathRead w0 a0 σ R) : AC Tryd.prog w0 n_impl_pathRead [a0] σ R := by
  refine ac_rule (fn := Tryd.f65) (c := Tryd.f65.body.getD .skip) kp_impl_pathRead esc_impl_pathRead Tryd.func65 (by kernel_rfl) (by kernel_rfl) ?_
  rw [← vc_impl_pathRead_eq]
  exact h

/-- impl.TrailOk -/
def kp_impl_TrailOk : Nat → Keep
  | 2 => ⟨[0, 2, 5, 6, 7], [], [], .done, []⟩
  | 4 => ⟨[], [], [], .step 0 (.step 1 (.step 2 (.step 3 (.step 4 (.step 5 (.step 6 (.step 7 (.step 8 (.step 9 (.step 10 (.step 11 (.step 12 (.step 13 (.step 14 (.step 15 (.step 16 (.step 17 (.step 18 (.step 19 (.step 20 (.step 21 (.step 22 (.step 23 (.step 24 (.step 25 (.step 26 (.done))))))))))))))))))))))))))), [(1, [0]), (2, [0, 1]), (3, [0, 1, 2]), (4, [0, 1, 2, 3]), (5, [0, 1, 2, 3, 4]), (6, [0, 1, 2, 3, 4, 5]), (7, [0, 1, 2, 3, 4, 5, 6]), (8, [0, 1, 2, 3, 4, 5, 6]), (9, [0, 1, 2, 3, 4, 5, 6, 8]), (10, [0, 1, 2, 3, 4, 5, 6, 7, 8, 9]), (11, [0, 1, 2, 3, 4, 5, 6, 7, 8, 9, 10]), (12, [0, 1, 2, 3, 4, 5, 6, 7, 8, 9, 10, 11]), (13, [0, 1, 2, 3, 4, 5, 6]), (14, [0, 1, 2, 3, 4, 5, 6, 13]), (15, [0, 1, 2, 3, 4, 5, 6, 7, 8, 9, 10, 11, 12, 13, 14]), (16, [0, 1, 2, 3, 4, 5, 6, 7, 8, 9, 10, 11, 12, 13, 14, 15]), (17, [0, 1, 2, 3, 4, 5, 6, 7, 8, 9, 10, 11, 12, 13, 14, 15, 16]), (18, [0, 1, 2, 3, 4, 5, 6, 7, 8, 9, 10, 11, 12, 13, 14, 15, 16, 17]), (19, [0, 1, 2, 3, 4, 5, 6, 7, 8, 9, 10, 11, 12, 13, 14, 15, 16, 17, 18]), (20, [0, 1, 2, 3, 4, 5, 6, 7, 8, 9, 10, 11, 12, 13, 14, 15, 16, 17, 18, 19]), (21, [0, 1, 2, 3, 4, 5, 6, 7, 8, 9, 10, 11, 12, 13, 14, 15, 16, 17, 18, 19]), (22, [0, 1, 2, 3, 4, 5, 6, 7, 8, 9, 10, 11, 12, 13, 14, 15, 16, 17, 18, 19, 20, 21]), (23, [0, 1, 2, 3, 4, 5, 6, 7, 8, 9, 10, 11, 12, 13, 14, 15, 16, 17, 18, 19]), (24, [0, 1, 2, 3, 4, 5, 6, 7, 8, 9, 10, 11, 12, 13, 14, 15, 16, 17, 18, 19, 23]), (25, [0, 1, 2, 3, 4, 5, 6, 7, 8, 9, 10, 11, 12, 13, 14, 15, 16, 17, 18, 19, 20, 21, 22, 23, 24]), (26, [0, 1, 2, 3, 4, 5, 6, 7, 8, 9, 10, 11, 12, 13, 14, 15, 16, 17, 18, 19, 20, 21, 22, 23, 24, 25])]⟩
  | _ => ⟨[], [], [], .done, []⟩
def esc_impl_TrailOk : Nat → Bool
  | _ => false
def vc_impl_TrailOk (w0 : World) (a0 : Value) (σ : Vw) (R : Value → Vw → Prop) : Prop :=
  pLen a0 (fun v0 => pLoop (fun l1 K2 s3 => pBin Tryd.prog 3 BinOp.lss (vget l1 4) (vget l1 3) (fun v4 => pIf v4 (pIndexAddr 2 (vget l1 2) (vget l1 4) (fun v5 => pLoad w0 2 v5 s3 (fun g6 => pVal true 2 (Value.agg (⟨[g6 0, g6 1]⟩)) (AC Tryd.prog w0 n_impl_markOk ([Value.agg (⟨[g6 0, g6 1]⟩)]) s3 (fun v7 s8 => pUn UnOp.not v7 (fun v9 => pIf v9 (K2 AX.ret [vget l1 0, Value.bool false, vget l1 2, vget l1 3, vget l1 4] s8) (pBin Tryd.prog 3 BinOp.gtr (vget l1 4) (Value.int IntKind.i64 0) (fun v10 => pIf v10 (pBin Tryd.prog 3 BinOp.sub (vget l1 4) (Value.int IntKind.i64 1) (fun v11 => pIndexAddr 2 (vget l1 0) v11 (fun v12 => pField 0 v12 (fun v13 => pLoad w0 1 v13 s8 (fun g14 => AC Tryd.prog w0 n_slices_Compare_string_string [g14 0, g6 0] s8 (fun v15 s16 => pBin Tryd.prog 3 BinOp.geq v15 (Value.int IntKind.i64 0) (fun v17 => pIf v17 (K2 AX.ret [vget l1 0, Value.bool false, vget l1 2, vget l1 3, vget l1 4] s16) (pSlice 2 (vget l1 0) Option.none (Option.some (vget l1 4)) (fun v18 => AC Tryd.prog w0 n_impl_under [v18, g6 0] s16 (fun v19 s20 => pIf v19 (K2 AX.ret [vget l1 0, Value.bool false, vget l1 2, vget l1 3, vget l1 4] s20) (pBin Tryd.prog 3 BinOp.add (vget l1 4) (Value.int IntKind.i64 1) (fun v21 => K2 AX.normal [vget l1 0, vget l1 1, vget l1 2, vget l1 3, v21] s20)))))))))))) (pSlice 2 (vget l1 0) Option.none (Option.some (vget l1 4)) (fun v22 => AC Tryd.prog w0 n_impl_under [v22, g6 0] s8 (fun v23 s24 => pIf v23 (K2 AX.ret [vget l1 0, Value.bool false, vget l1 2, vget l1 3, vget l1 4] s24) (pBin Tryd.prog 3 BinOp.add (vget l1 4) (Value.int IntKind.i64 1) (fun v25 => K2 AX.normal [vget l1 0, vget l1 1, vget l1 2, vget l1 3, v25] s24))))))))))))) (K2 (AX.exit 0) [vget l1 0, vget l1 1, vget l1 2, vget l1 3, vget l1 4] s3))) [a0, Value.bool false, a0, v0, Value.int IntKind.i64 0] σ (fun x26 l27 s28 => match x26 with | .normal => pLen (vget l27 0) (fun v29 => pBin Tryd.prog 3 BinOp.leq v29 (Value.int IntKind.i64 6) (fun v30 => R v30 s28)) | .ret => R (vget l27 1) s28 | .exit i31 => (match Nat.beq i31 0 with | true => pLen (vget l27 0) (fun v32 => pBin Tryd.prog 3 BinOp.leq v32 (Value.int IntKind.i64 6) (fun v33 => R v33 s28)) | false => False)))
theorem vc_impl_TrailOk_eq (w0 : World) (a0 : Value) (σ : Vw) (R : Value → Vw → Prop) : vc_impl_TrailOk w0 a0 σ R = den Tryd.prog w0 kp_impl_TrailOk esc_impl_TrailOk (Tryd.f66.body.getD .skip) (entry Tryd.f66.ntmps [a0]) σ (retK Tryd.prog Tryd.f66.results.toList R) := by kernel_rfl
theorem ac_impl_TrailOk {w0 : World} {a0 : Value} {σ : Vw} {R : Value → Vw → Prop} (h : vc_impl_TrailOk w0 a0 σ R) : AC Tryd.prog w0 n_impl_TrailOk [a0] σ R := by
  refine ac_rule (fn := Tryd.f66) (c := Tryd.f66.body.getD .skip) kp_impl_TrailOk esc_impl_TrailOk Tryd.func66 (by kernel_rfl) (by kernel_rfl) ?_
  rw [← vc_impl_TrailOk_eq]
  exact h

/-- impl.TrailShow -/
def kp_impl_TrailShow : Nat → Keep
  | 5 => ⟨[3, 10, 11, 12], [], [], .done, []⟩
  | _ => ⟨[], [], [], .done, []⟩
def esc_impl_TrailShow : Nat → Bool
  | _ => false
def vc_impl_TrailShow (w0 : World) (a0 : Value) (σ : Vw) (R : Value → Vw → Prop) : Prop :=
  AC Tryd.prog w0 n_impl_TrailOk [a0] σ (fun v0 s1 => pUn UnOp.not v0 (fun v2 => pIf v2 (R (Value.string ({ data := #[] })) s1) (pLen a0 (fun v3 => pLoop (fun l4 K5 s6 => pBin Tryd.prog 3 BinOp.lss (vget l4 3) (vget l4 2) (fun v7 => pIf v7 (pIndexAddr 2 (vget l4 1) (vget l4 3) (fun v8 => pLoad w0 2 v8 s6 (fun g9 => pVal true 2 (Value.agg (⟨[g9 0, g9 1]⟩)) (pIf (g9 1) (AC Tryd.prog w0 n_impl_pathText [g9 0] s6 (fun v10 s11 => pBin Tryd.prog 9 BinOp.add (Value.string ({ data := #[115, 117, 98, 32] })) v10 (fun v12 => pBin Tryd.prog 9 BinOp.add v12 (Value.string ({ data := #[10] })) (fun v13 => pBin Tryd.prog 9 BinOp.add (vget l4 0) v13 (fun v14 => pBin Tryd.prog 3 BinOp.add (vget l4 3) (Value.int IntKind.i64 1) (fun v15 => K5 AX.normal [v14, vget l4 1, vget l4 2, v15] s11)))))) (AC Tryd.prog w0 n_impl_pathText [g9 0] s6 (fun v16 s17 => pBin Tryd.prog 9 BinOp.add (Value.string ({ data := #[97, 116, 32] })) v16 (fun v18 => pBin Tryd.prog 9 BinOp.add v18 (Value.string ({ data := #[10] })) (fun v19 => pBin Tryd.prog 9 BinOp.add (vget l4 0) v19 (fun v20 => pBin Tryd.prog 3 BinOp.add (vget l4 3) (Value.int IntKind.i64 1) (fun v21 => K5 AX.normal [v20, vget l4 1, vget l4 2, v21] s17)))))))))) (K5 (AX.exit 0) [vget l4 0, vget l4 1, vget l4 2, vget l4 3] s6))) ([Value.string ({ data := #[] }), a0, v3, Value.int IntKind.i64 0]) s1 (fun x22 l23 s24 => match x22 with | .normal => R (vget l23 0) s24 | .ret => False | .exit i25 => (match Nat.beq i25 0 with | true => R (vget l23 0) s24 | false => False))))))
theorem vc_impl_TrailShow_eq (w0 : World) (a0 : Value) (σ : Vw) (R : Value → Vw → Prop) : vc_impl_TrailShow w0 a0 σ R = den Tryd.prog w0 kp_impl_TrailShow esc_impl_TrailShow (Tryd.f67.body.getD .skip) (entry Tryd.f67.ntmps [a0]) σ (retK Tryd.prog Tryd.f67.results.toList R) := by kernel_rfl
theorem ac_impl_TrailShow {w0 : World} {a0 : Value} {σ : Vw} {R : Value → Vw → Prop} (h : vc_impl_TrailShow w0 a0 σ R) : AC Tryd.prog w0 n_impl_TrailShow [a0] σ R := by
  refine ac_rule (fn := Tryd.f67) (c := Tryd.f67.body.getD .skip) kp_impl_TrailShow esc_impl_TrailShow Tryd.func67 (by kernel_rfl) (by kernel_rfl) ?_
  rw [← vc_impl_TrailShow_eq]
  exact h

/-- laws.eqMark -/
def kp_laws_eqMark : Nat → Keep
  | _ => ⟨[], [], [], .done, []⟩
def esc_laws_eqMark : Nat → Bool
  | _ => false
def vc_laws_eqMark (w0 : World) (a0 a1 : Value) (σ : Vw) (R : Value → Vw → Prop) : Prop :=
  pVal true 2 a0 (pVal true 2 a1 (AC Tryd.prog w0 n_laws_eqStringS [cellOf a0 0, cellOf a1 0] σ (fun v0 s1 => pUn UnOp.not v0 (fun v2 => pIf v2 (R (Value.bool false) s1) (pBin Tryd.prog 4 BinOp.neq (cellOf a0 1) (cellOf a1 1) (fun v3 => pIf v3 (R (Value.bool false) s1) (R (Value.bool true) s1)))))))
theorem vc_laws_eqMark_eq (w0 : World) (a0 a1 : Value) (σ : Vw) (R : Value → Vw → Prop) : vc_laws_eqMark w0 a0 a1 σ R = den Tryd.prog w0 kp_laws_eqMark esc_laws_eqMark (Tryd.f68.body.getD .skip) (entry Tryd.f68.ntmps [a0, a1]) σ (retK Tryd.prog Tryd.f68.results.toList R) := by kernel_rfl
theorem ac_laws_eqMark {w0 : World} {a0 a1 : Value} {σ : Vw} {R : Value → Vw → Prop} (h : vc_laws_eqMark w0 a0 a1 σ R) : AC Tryd.prog w0 n_laws_eqMark [a0, a1] σ R := by
  refine ac_rule (fn := Tryd.f68) (c := Tryd.f68.body.getD .skip) kp_laws_eqMark esc_laws_eqMark Tryd.func68 (by kernel_rfl) (by kernel_rfl) ?_
  rw [← vc_laws_eqMark_eq]
  exact h

/-- laws.markStringS -/
def kp_laws_markStringS : Nat → Keep
  | 2 => ⟨[0, 1, 5], [], [], .done, []⟩
  | _ => ⟨[], [], [], .done, []⟩
def esc_laws_markStringS : Nat → Bool
  | _ => false
def vc_laws_markStringS (w0 : World) (a0 a1 : Value) (σ : Vw) (R : Value → Vw → Prop) : Prop :=
  pLoop (fun l0 K1 s2 => pLen (vget l0 0) (fun v3 => pBin Tryd.prog 3 BinOp.lss (vget l0 2) v3 (fun v4 => pIf v4 (AC Tryd.prog w0 n_laws_markText [vget l0 1] s2 (fun v5 s6 => pIndexAddr 1 (vget l0 0) (vget l0 2) (fun v7 => pVal false 1 v5 (pStore v7 [v5] s6 (fun s8 => pBin Tryd.prog 3 BinOp.add (vget l0 1) (Value.int IntKind.i64 1) (fun v9 => pBin Tryd.prog 3 BinOp.add (vget l0 2) (Value.int IntKind.i64 1) (fun v10 => K1 AX.normal [vget l0 0, v9, v10] s8))))))) (K1 (AX.exit 0) [vget l0 0, vget l0 1, vget l0 2] s2)))) [a0, a1, Value.int IntKind.i64 0] σ (fun x11 l12 s13 => match x11 with | .normal => R (vget l12 1) s13 | .ret => False | .exit i14 => (match Nat.beq i14 0 with | true => R (vget l12 1) s13 | false => False))
theorem vc_laws_markStringS_eq (w0 : World) (a0 a1 : Value) (σ : Vw) (R : Value → Vw → Prop) : vc_laws_markStringS w0 a0 a1 σ R = den Tryd.prog w0 kp_laws_markStringS esc_laws_markStringS (Tryd.f69.body.getD .skip) (entry Tryd.f69.ntmps [a0, a1]) σ (retK Tryd.prog Tryd.f69.results.toList R) := by kernel_rfl
theorem ac_laws_markStringS {w0 : World} {a0 a1 : Value} {σ : Vw} {R : Value → Vw → Prop} (h : vc_laws_markStringS w0 a0 a1 σ R) : AC Tryd.prog w0 n_laws_markStringS [a0, a1] σ R := by
  refine ac_rule (fn := Tryd.f69) (c := Tryd.f69.body.getD .skip) kp_laws_markStringS esc_laws_markStringS Tryd.func69 (by kernel_rfl) (by kernel_rfl) ?_
  rw [← vc_laws_markStringS_eq]
  exact h

/-- laws.heldStringS -/
def kp_laws_heldStringS : Nat → Keep
  | 2 => ⟨[0, 1, 4, 5], [], [], .done, []⟩
  | 4 => ⟨[], [], [], .step 0 (.step 1 (.step 2 (.step 3 (.step 4 (.step 5 (.step 6 (.done))))))), [(2, [0, 1]), (3, [0, 1, 2]), (5, [4]), (6, [0, 1, 2, 3, 4, 5])]⟩
  | _ => ⟨[], [], [], .done, []⟩
def esc_laws_heldStringS : Nat → Bool
  | _ => false
def vc_laws_heldStringS (w0 : World) (a0 a1 : Value) (σ : Vw) (R : Value → Vw → Prop) : Prop :=
  pLoop (fun l0 K1 s2 => pLen (vget l0 0) (fun v3 => pBin Tryd.prog 3 BinOp.lss (vget l0 3) v3 (fun v4 => pIf v4 (pIndexAddr 1 (vget l0 0) (vget l0 3) (fun v5 => pLoad w0 1 v5 s2 (fun g6 => AC Tryd.prog w0 n_laws_markText [vget l0 1] s2 (fun v7 s8 => (Stay w0 s2 s8 v5 1) ∧ (pBin Tryd.prog 9 BinOp.neq (g6 0) v7 (fun v9 => pIf v9 (K1 AX.ret [vget l0 0, vget l0 1, Value.int IntKind.i64 (-1), vget l0 3] s8) (pBin Tryd.prog 3 BinOp.add (vget l0 1) (Value.int IntKind.i64 1) (fun v10 => pBin Tryd.prog 3 BinOp.add (vget l0 3) (Value.int IntKind.i64 1) (fun v11 => K1 AX.normal [vget l0 0, v10, vget l0 2, v11] s8))))))))) (K1 (AX.exit 0) [vget l0 0, vget l0 1, vget l0 2, vget l0 3] s2)))) [a0, a1, Value.int IntKind.i64 0, Value.int IntKind.i64 0] σ (fun x12 l13 s14 => match x12 with | .normal => R (vget l13 1) s14 | .ret => R (vget l13 2) s14 | .exit i15 => (match Nat.beq i15 0 with | true => R (vget l13 1) s14 | false => False))
theorem vc_laws_heldStringS_eq (w0 : World) (a0 a1 : Value) (σ : Vw) (R : Value → Vw → Prop) : vc_laws_heldStringS w0 a0 a1 σ R = den Tryd.prog w0 kp_laws_heldStringS esc_laws_heldStringS (Tryd.f70.body.getD .skip) (entry Tryd.f70.ntmps [a0, a1]) σ (retK Tryd.prog Tryd.f70.results.toList R) := by kernel_rfl
theorem ac_laws_heldStringS {w0 : World} {a0 a1 : Value} {σ : Vw} {R : Value → Vw → Prop} (h : vc_laws_heldStringS w0 a0 a1 σ R) : AC Tryd.prog w0 n_laws_heldStringS [a0, a1] σ R := by
  refine ac_rule (fn := Tryd.f70) (c := Tryd.f70.body.getD .skip) kp_laws_heldStringS esc_laws_heldStringS Tryd.func70 (by kernel_rfl) (by kernel_rfl) ?_
  rw [← vc_laws_heldStringS_eq]
  exact h

/-- spec.l31Rows -/
def kp_spec_l31Rows : Nat → Keep
  | 1 => ⟨[], [], [], .step 1 (.step 3 (.step 4 (.step 5 (.step 6 (.step 7 (.step 8 (.step 9 (.step 0 (.step 2 (.step 10 (.step 11 (.step 12 (.step 13 (.done)))))))))))))), [(2, [0, 1]), (4, [3]), (6, [5]), (8, [7]), (10, [0, 1, 2, 9]), (11, [0, 1, 2, 3, 4, 5, 6, 7, 8, 9, 10]), (12, [0, 1, 2, 3, 4, 5, 6, 7, 8, 9, 10, 11]), (13, [0, 1, 2, 3, 4, 5, 6, 7, 8, 9, 10, 11, 12])]⟩
  | 3 => ⟨[0, 5, 6], [(3, 5)], [3], .done, []⟩
  | 5 => ⟨[], [], [], .step 0 (.step 1 (.step 2 (.step 3 (.step 4 (.step 5 (.step 6 (.step 8 (.step 9 (.step 10 (.step 11 (.step 12 (.step 7 (.step 13 (.step 14 (.step 15 (.done)))))))))))))))), [(3, [2]), (5, [2, 3, 4]), (6, [2, 3, 4, 5]), (7, [1, 2, 3, 4, 5, 6]), (9, [8]), (11, [8, 9, 10]), (12, [8, 9, 10, 11]), (13, [1, 2, 3, 4, 5, 6, 7, 8, 9, 10, 11, 12]), (14, [0, 1, 2, 3, 4, 5, 6, 7, 8, 9, 10, 11, 12, 13]), (15, [0, 1, 2, 3, 4, 5, 6, 7, 8, 9, 10, 11, 12, 13, 14])]⟩
  | _ => ⟨[], [], [], .done, []⟩
def esc_spec_l31Rows : Nat → Bool
  | 7 => true
  | 19 => true
  | _ => false
def vc_spec_l31Rows (w0 : World) (a0 a1 : Value) (σ : Vw) (R : Value → Vw → Prop) : Prop :=
  pVal true 5 a1 (pNew w0 9 [] σ (fun n0 s1 => pAppendS w0 9 1 16 (Value.slice (Option.some (Addr.mk n0 0 Option.none)) 0 0) a0 s1 (fun v2 s3 => AC Tryd.prog w0 n_spec_l31Of ([Value.agg (⟨[cellOf a1 0, cellOf a1 1, cellOf a1 2, cellOf a1 3, cellOf a1 4]⟩)]) s3 (fun v4 s5 => pVal false 1 v2 (pVal false 1 (cellOf a1 0) (pVal false 1 (cellOf a1 1) (pVal false 1 (cellOf a1 2) (pVal false 1 v4 (pVal true 5 (Value.agg (⟨[v2, cellOf a1 0, cellOf a1 1, cellOf a1 2, v4]⟩)) (pNew w0 96 [v2, cellOf a1 0, cellOf a1 1, cellOf a1 2, v4] s5 (fun n6 s7 => pLoop (fun l8 K9 s10 => pLen (vget l8 6) (fun v11 => pBin Tryd.prog 3 BinOp.lss (vget l8 2) v11 (fun v12 => pIf v12 (pIndexAddr 1 (vget l8 6) (vget l8 2) (fun v13 => pLoad w0 1 v13 s10 (fun g14 => pIndexAddr 5 (vget l8 7) (vget l8 2) (fun v15 => pLoad w0 5 v15 s10 (fun g16 => AC Tryd.prog w0 n_spec_l3Path [vget l8 0, g14 0] s10 (fun v17 s18 => (Stay w0 s10 s18 v15 5) ∧ (AC Tryd.prog w0 n_spec_l31Rows ([v17, Value.agg (⟨[g16 0, g16 1, g16 2, g16 3, g16 4]⟩)]) s18 (fun v19 s20 => pAppendS w0 96 5 64 (vget l8 1) v19 s20 (fun v21 s22 => pBin Tryd.prog 3 BinOp.add (vget l8 2) (Value.int IntKind.i64 1) (fun v23 => K9 AX.normal [vget l8 0, v21, v23, vget l8 3, vget l8 4, vget l8 5, vget l8 6, vget l8 7] s22)))))))))) (K9 (AX.exit 0) [vget l8 0, vget l8 1, vget l8 2, vget l8 3, vget l8 4, vget l8 5, vget l8 6, vget l8 7] s10)))) [a0, Value.slice (Option.some (Addr.mk n6 0 Option.none)) 1 1, Value.int IntKind.i64 0, cellOf a1 0, cellOf a1 1, cellOf a1 2, cellOf a1 3, cellOf a1 4] s7 (fun x24 l25 s26 => match x24 with | .normal => R (vget l25 1) s26 | .ret => False | .exit i27 => (match Nat.beq i27 0 with | true => R (vget l25 1) s26 | false => False)))))))))))))
theorem vc_spec_l31Rows_eq (w0 : World) (a0 a1 : Value) (σ : Vw) (R : Value → Vw → Prop) : vc_spec_l31Rows w0 a0 a1 σ R = den Tryd.prog w0 kp_spec_l31Rows esc_spec_l31Rows (Tryd.f71.body.getD .skip) (entry Tryd.f71.ntmps [a0, a1]) σ (retK Tryd.prog Tryd.f71.results.toList R) := by kernel_rfl
theorem ac_spec_l31Rows {w0 : World} {a0 a1 : Value} {σ : Vw} {R : Value → Vw → Prop} (h : vc_spec_l31Rows w0 a0 a1 σ R) : AC Tryd.prog w0 n_spec_l31Rows [a0, a1] σ R := by
  refine ac_rule (fn := Tryd.f71) (c := Tryd.f71.body.getD .skip) kp_spec_l31Rows esc_spec_l31Rows Tryd.func71 (by kernel_rfl) (by kernel_rfl) ?_
  rw [← vc_spec_l31Rows_eq]
  exact h

/-- (impl.Tree).table -/
def kp_impl_Tree_table : Nat → Keep
  | _ => ⟨[], [], [], .done, []⟩
def esc_impl_Tree_table : Nat → Bool
  | 3 => true
  | 4 => true
  | _ => false
def vc_impl_Tree_table (w0 : World) (a0 : Value) (σ : Vw) (R : Value → Vw → Prop) : Prop :=
  pVal true 5 a0 (pNew w0 96 [] σ (fun n0 s1 => pNew w0 48 [Value.slice Option.none 0 0] s1 (fun n2 s3 => pVal false 1 (Value.slice (Option.some (Addr.mk n0 0 Option.none)) 0 0) (pStore (Value.pointer (Option.some (Addr.mk n2 0 Option.none))) [Value.slice (Option.some (Addr.mk n0 0 Option.none)) 0 0] s3 (fun s4 => AC Tryd.prog w0 n_impl_Tree_each ([Value.agg (⟨[cellOf a0 0, cellOf a0 1, cellOf a0 2, cellOf a0 3, cellOf a0 4]⟩), Value.slice Option.none 0 0, Value.func (Fn.func 109) ⟨[]⟩ (⟨[Value.pointer (Option.some (Addr.mk n2 0 Option.none))]⟩)]) s4 (fun v5 s6 => pLoad w0 1 (Value.pointer (Option.some (Addr.mk n2 0 Option.none))) s6 (fun g7 => R (g7 0) s6)))))))
theorem vc_impl_Tree_table_eq (w0 : World) (a0 : Value) (σ : Vw) (R : Value → Vw → Prop) : vc_impl_Tree_table w0 a0 σ R = den Tryd.prog w0 kp_impl_Tree_table esc_impl_Tree_table (Tryd.f72.body.getD .skip) (entry Tryd.f72.ntmps [a0]) σ (retK Tryd.prog Tryd.f72.results.toList R) := by kernel_rfl
theorem ac_impl_Tree_table {w0 : World} {a0 : Value} {σ : Vw} {R : Value → Vw → Prop} (h : vc_impl_Tree_table w0 a0 σ R) : AC Tryd.prog w0 n_impl_Tree_table [a0] σ R := by
  refine ac_rule (fn := Tryd.f72) (c := Tryd.f72.body.getD .skip) kp_impl_Tree_table esc_impl_Tree_table Tryd.func72 (by kernel_rfl) (by kernel_rfl) ?_
  rw [← vc_impl_Tree_table_eq]
  exact h

/-- laws.eqRow -/
def kp_laws_eqRow : Nat → Keep
  | _ => ⟨[], [], [], .done, []⟩
def esc_laws_eqRow : Nat → Bool
  | _ => false
def vc_laws_eqRow (w0 : World) (a0 a1 : Value) (σ : Vw) (R : Value → Vw → Prop) : Prop :=
  pVal true 5 a0 (pVal true 5 a1 (AC Tryd.prog w0 n_laws_eqStringS [cellOf a0 0, cellOf a1 0] σ (fun v0 s1 => pUn UnOp.not v0 (fun v2 => pIf v2 (R (Value.bool false) s1) (pBin Tryd.prog 4 BinOp.neq (cellOf a0 1) (cellOf a1 1) (fun v3 => pIf v3 (R (Value.bool false) s1) (pBin Tryd.prog 3 BinOp.neq (cellOf a0 2) (cellOf a1 2) (fun v4 => pIf v4 (R (Value.bool false) s1) (pBin Tryd.prog 9 BinOp.neq (cellOf a0 3) (cellOf a1 3) (fun v5 => pIf v5 (R (Value.bool false) s1) (pBin Tryd.prog 3 BinOp.neq (cellOf a0 4) (cellOf a1 4) (fun v6 => pIf v6 (R (Value.bool false) s1) (R (Value.bool true) s1)))))))))))))
theorem vc_laws_eqRow_eq (w0 : World) (a0 a1 : Value) (σ : Vw) (R : Value → Vw → Prop) : vc_laws_eqRow w0 a0 a1 σ R = den Tryd.prog w0 kp_laws_eqRow esc_laws_eqRow (Tryd.f73.body.getD .skip) (entry Tryd.f73.ntmps [a0, a1]) σ (retK Tryd.prog Tryd.f73.results.toList R) := by kernel_rfl
theorem ac_laws_eqRow {w0 : World} {a0 a1 : Value} {σ : Vw} {R : Value → Vw → Prop} (h : vc_laws_eqRow w0 a0 a1 σ R) : AC Tryd.prog w0 n_laws_eqRow [a0, a1] σ R := by
  refine ac_rule (fn := Tryd.f73) (c := Tryd.f73.body.getD .skip) kp_laws_eqRow esc_laws_eqRow Tryd.func73 (by kernel_rfl) (by kernel_rfl) ?_
  rw [← vc_laws_eqRow_eq]
  exact h

/-- laws.markTreeS -/
def kp_laws_markTreeS : Nat → Keep
  | 2 => ⟨[0, 1, 5], [], [], .done, []⟩
  | _ => ⟨[], [], [], .done, []⟩
def esc_laws_markTreeS : Nat → Bool
  | _ => false
def vc_laws_markTreeS (w0 : World) (a0 a1 : Value) (σ : Vw) (R : Value → Vw → Prop) : Prop :=
  pLoop (fun l0 K1 s2 => pLen (vget l0 0) (fun v3 => pBin Tryd.prog 3 BinOp.lss (vget l0 2) v3 (fun v4 => pIf v4 (pBin Tryd.prog 3 BinOp.rem (vget l0 1) (Value.int IntKind.i64 3) (fun v5 => pBin Tryd.prog 3 BinOp.eql v5 (Value.int IntKind.i64 0) (fun v6 => pIndexAddr 5 (vget l0 0) (vget l0 2) (fun v7 => pField 0 v7 (fun v8 => pVal false 1 v6 (pStore v8 [v6] s2 (fun s9 => pBin Tryd.prog 3 BinOp.add (vget l0 1) (Value.int IntKind.i64 1) (fun v10 => pIndexAddr 5 (vget l0 0) (vget l0 2) (fun v11 => pField 1 v11 (fun v12 => pVal false 1 v10 (pStore v12 [v10] s9 (fun s13 => pBin Tryd.prog 3 BinOp.add v10 (Value.int IntKind.i64 1) (fun v14 => AC Tryd.prog w0 n_laws_markText [v14] s13 (fun v15 s16 => pIndexAddr 5 (vget l0 0) (vget l0 2) (fun v17 => pField 2 v17 (fun v18 => pVal false 1 v15 (pStore v18 [v15] s16 (fun s19 => pBin Tryd.prog 3 BinOp.add v14 (Value.int IntKind.i64 1) (fun v20 => pIndexAddr 5 (vget l0 0) (vget l0 2) (fun v21 => pField 3 v21 (fun v22 => pLoad w0 1 v22 s19 (fun g23 => AC Tryd.prog w0 n_laws_markStringS [g23 0, v20] s19 (fun v24 s25 => pIndexAddr 5 (vget l0 0) (vget l0 2) (fun v26 => pField 4 v26 (fun v27 => pLoad w0 1 v27 s25 (fun g28 => AC Tryd.prog w0 n_laws_markTreeS [g28 0, v24] s25 (fun v29 s30 => pBin Tryd.prog 3 BinOp.add (vget l0 2) (Value.int IntKind.i64 1) (fun v31 => K1 AX.normal [vget l0 0, v29, v31] s30)))))))))))))))))))))))))))) (K1 (AX.exit 0) [vget l0 0, vget l0 1, vget l0 2] s2)))) [a0, a1, Value.int IntKind.i64 0] σ (fun x32 l33 s34 => match x32 with | .normal => R (vget l33 1) s34 | .ret => False | .exit i35 => (match Nat.beq i35 0 with | true => R (vget l33 1) s34 | false => False))
theorem vc_laws_markTreeS_eq (w0 : World) (a0 a1 : Value) (σ : Vw) (R : Value → Vw → Prop) : vc_laws_markTreeS w0 a0 a1 σ R = den Tryd.prog w0 kp_laws_markTreeS esc_laws_markTreeS (Tryd.f74.body.getD .skip) (entry Tryd.f74.ntmps [a0, a1]) σ (retK Tryd.prog Tryd.f74.results.toList R) := by kernel_rfl
theorem ac_laws_markTreeS {w0 : World} {a0 a1 : Value} {σ : Vw} {R : Value → Vw → Prop} (h : vc_laws_markTreeS w0 a0 a1 σ R) : AC Tryd.prog w0 n_laws_markTreeS [a0, a1] σ R := by
  refine ac_rule (fn := Tryd.f74) (c := Tryd.f74.body.getD .skip) kp_laws_markTreeS esc_laws_markTreeS Tryd.func74 (by kernel_rfl) (by kernel_rfl) ?_
  rw [← vc_laws_markTreeS_eq]
  exact h

/-- laws.markText -/
def kp_laws_markText : Nat → Keep
  | 4 => ⟨[0, 3], [], [], .done, []⟩
  | _ => ⟨[], [], [], .done, []⟩
def esc_laws_markText : Nat → Bool
  | 12 => true
  | _ => false
def vc_laws_markText (w0 : World) (a0 : Value) (σ : Vw) (R : Value → Vw → Prop) : Prop :=
  pBin Tryd.prog 3 BinOp.leq a0 (Value.int IntKind.i64 0) (fun v0 => pIf v0 (R (Value.string ({ data := #[109, 48] })) σ) (pLoop (fun l1 K2 s3 => pBin Tryd.prog 3 BinOp.gtr (vget l1 0) (Value.int IntKind.i64 0) (fun v4 => pIf v4 (pBin Tryd.prog 3 BinOp.rem (vget l1 0) (Value.int IntKind.i64 10) (fun v5 => pBin Tryd.prog 3 BinOp.add (Value.int IntKind.i64 48) v5 (fun v6 => pConvInt IntKind.u8 v6 (fun v7 => pVal false 1 v7 (pNew w0 5 [v7] s3 (fun n8 s9 => pStr w0 (Value.slice (Option.some (Addr.mk n8 0 Option.none)) 1 1) s9 (fun v10 => pBin Tryd.prog 9 BinOp.add v10 (vget l1 1) (fun v11 => pBin Tryd.prog 3 BinOp.quo (vget l1 0) (Value.int IntKind.i64 10) (fun v12 => K2 AX.normal [v12, v11] s9))))))))) (K2 (AX.exit 0) [vget l1 0, vget l1 1] s3))) ([a0, Value.string ({ data := #[] })]) σ (fun x13 l14 s15 => match x13 with | .normal => pBin Tryd.prog 9 BinOp.add (Value.string ({ data := #[109] })) (vget l14 1) (fun v16 => R v16 s15) | .ret => False | .exit i17 => (match Nat.beq i17 0 with | true => pBin Tryd.prog 9 BinOp.add (Value.string ({ data := #[109] })) (vget l14 1) (fun v18 => R v18 s15) | false => False))))
theorem vc_laws_markText_eq (w0 : World) (a0 : Value) (σ : Vw) (R : Value → Vw → Prop) : vc_laws_markText w0 a0 σ R = den Tryd.prog w0 kp_laws_markText esc_laws_markText (Tryd.f75.body.getD .skip) (entry Tryd.f75.ntmps [a0]) σ (retK Tryd.prog Tryd.f75.results.toList R) := by kernel_rfl
theorem ac_laws_markText {w0 : World} {a0 : Value} {σ : Vw} {R : Value → Vw → Prop} (h : vc_laws_markText w0 a0 σ R) : AC Tryd.prog w0 n_laws_markText [a0] σ R := by
  refine ac_rule (fn := Tryd.f75) (c := Tryd.f75.body.getD .skip) kp_laws_markText esc_laws_markText Tryd.func75 (by kernel_rfl) (by kernel_rfl) ?_
  rw [← vc_laws_markText_eq]
  exact h

/-- strings.Split -/
def kp_strings_Split : Nat → Keep
  | _ => ⟨[], [], [], .done, []⟩
def esc_strings_Split : Nat → Bool
  | _ => false
def vc_strings_Split (w0 : World) (a0 a1 : Value) (σ : Vw) (R : Value → Vw → Prop) : Prop :=
  AC Tryd.prog w0 n_strings_genSplit [a0, a1, Value.int IntKind.i64 0, Value.int IntKind.i64 (-1)] σ (fun v0 s1 => R v0 s1)
theorem vc_strings_Split_eq (w0 : World) (a0 a1 : Value) (σ : Vw) (R : Value → Vw → Prop) : vc_strings_Split w0 a0 a1 σ R = den Tryd.prog w0 kp_strings_Split esc_strings_Split (Tryd.f77.body.getD .skip) (entry Tryd.f77.ntmps [a0, a1]) σ (retK Tryd.prog Tryd.f77.results.toList R) := by kernel_rfl
theorem ac_strings_Split {w0 : World} {a0 a1 : Value} {σ : Vw} {R : Value → Vw → Prop} (h : vc_strings_Split w0 a0 a1 σ R) : AC Tryd.prog w0 n_strings_Split [a0, a1] σ R := by
  refine ac_rule (fn := Tryd.f77) (c := Tryd.f77.body.getD .skip) kp_strings_Split esc_strings_Split Tryd.func77 (by kernel_rfl) (by kernel_rfl) ?_
  rw [← vc_strings_Split_eq]
  exact h

end Go.Proofs.YtlbpnfhhoalenaaDoor
