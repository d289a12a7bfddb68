/- The law FnExactStoreSave holds: it returns true, and the input reads as it did. No condition. This is part 4 of 5 of its proof. -/
import Derived.Test.YtkndffhcncmbjaaDoorXFnExactStoreSave3

/- What each function owes, reckoned out, part 2. MADE BY PROGRAM (emit.py). -/
set_option linter.unusedVariables false
namespace Go.Proofs.YtkndffhcncmbjaaDoor
open Go Go.Av

/-- (*strings.Builder).String -/
def kp_p_strings_Builder_String : Nat → Keep
  | 1 => ⟨[], [], [], .step 0 (.step 1 (.step 2 (.step 3 (.step 5 (.step 6 (.step 7 (.step 8 (.step 9 (.step 4 (.step 10 (.step 11 (.done)))))))))))), [(1, [0]), (2, [0, 1]), (3, [0, 1, 2]), (4, [0, 1, 2, 3]), (6, [5]), (7, [5, 6]), (8, [5, 6, 7]), (9, [5, 6, 7, 8]), (10, [0, 1, 2, 3, 4, 5, 6, 7, 8, 9]), (11, [0, 1, 2, 3, 4, 5, 6, 7, 8, 9, 10])]⟩
  | _ => ⟨[], [], [], .done, []⟩
def esc_p_strings_Builder_String : Nat → Bool
  | _ => false
def vc_p_strings_Builder_String (w0 : World) (a0 : Value) (σ : Vw) (R : Value → Vw → Prop) : Prop :=
  pNil a0 (pField 1 a0 (fun v0 => pLoad w0 1 v0 σ (fun g1 => pNil a0 (pField 1 a0 (fun v2 => pLoad w0 1 v2 σ (fun g3 => pLen (g3 0) (fun v4 => False)))))))
theorem vc_p_strings_Builder_String_eq (w0 : World) (a0 : Value) (σ : Vw) (R : Value → Vw → Prop) : vc_p_strings_Builder_String w0 a0 σ R = den Tryd.prog w0 kp_p_strings_Builder_String esc_p_strings_Builder_String (Tryd.f63.body.getD .skip) (entry Tryd.f63.ntmps [a0]) σ (retK Tryd.prog Tryd.f63.results.toList R) := by kernel_rfl
theorem ac_p_strings_Builder_String {w0 : World} {a0 : Value} {σ : Vw} {R : Value → Vw → Prop} (h : vc_p_strings_Builder_String w0 a0 σ R) : AC Tryd.prog w0 n_p_strings_Builder_String [a0] σ R := by
  refine ac_rule (fn := Tryd.f63) (c := Tryd.f63.body.getD .skip) kp_p_strings_Builder_String esc_p_strings_Builder_String Tryd.func63 (by kernel_rfl) (by kernel_rfl) ?_
  rw [← vc_p_strings_Builder_String_eq]
  exact h

/-- laws.eqPageS -/
def kp_laws_eqPageS : Nat → Keep
  | 4 => ⟨[0, 1, 4, 5], [], [], .done, []⟩
  | 6 => ⟨[], [], [], .step 0 (.step 1 (.step 2 (.step 3 (.step 4 (.step 5 (.step 6 (.step 7 (.step 8 (.step 9 (.done)))))))))), [(2, [0, 1]), (3, [0, 1, 2]), (6, [4, 5]), (7, [4, 5, 6]), (8, [0, 1, 2, 3, 4, 5, 6, 7]), (9, [0, 1, 2, 3, 4, 5, 6, 7, 8])]⟩
  | _ => ⟨[], [], [], .done, []⟩
def esc_laws_eqPageS : Nat → Bool
  | _ => false
def vc_laws_eqPageS (w0 : World) (a0 a1 : Value) (σ : Vw) (R : Value → Vw → Prop) : Prop :=
  pLen a0 (fun v0 => pLen a1 (fun v1 => pBin Tryd.prog 3 BinOp.neq v0 v1 (fun v2 => pIf v2 (R (Value.bool false) σ) (pLoop (fun l3 K4 s5 => pLen (vget l3 0) (fun v6 => pBin Tryd.prog 3 BinOp.lss (vget l3 3) v6 (fun v7 => pIf v7 (pIndexAddr 3 (vget l3 0) (vget l3 3) (fun v8 => pLoad w0 3 v8 s5 (fun g9 => pIndexAddr 3 (vget l3 1) (vget l3 3) (fun v10 => pLoad w0 3 v10 s5 (fun g11 => AC Tryd.prog w0 n_laws_eqPage ([Value.agg (⟨[g9 0, g9 1, g9 2]⟩), Value.agg (⟨[g11 0, g11 1, g11 2]⟩)]) s5 (fun v12 s13 => pUn UnOp.not v12 (fun v14 => pIf v14 (K4 AX.ret [vget l3 0, vget l3 1, Value.bool false, vget l3 3] s13) (pBin Tryd.prog 3 BinOp.add (vget l3 3) (Value.int IntKind.i64 1) (fun v15 => K4 AX.normal [vget l3 0, vget l3 1, vget l3 2, v15] s13))))))))) (K4 (AX.exit 0) [vget l3 0, vget l3 1, vget l3 2, vget l3 3] s5)))) [a0, a1, Value.bool false, Value.int IntKind.i64 0] σ (fun x16 l17 s18 => match x16 with | .normal => R (Value.bool true) s18 | .ret => R (vget l17 2) s18 | .exit i19 => (match Nat.beq i19 0 with | true => R (Value.bool true) s18 | false => False))))))
theorem vc_laws_eqPageS_eq (w0 : World) (a0 a1 : Value) (σ : Vw) (R : Value → Vw → Prop) : vc_laws_eqPageS w0 a0 a1 σ R = den Tryd.prog w0 kp_laws_eqPageS esc_laws_eqPageS (Tryd.f64.body.getD .skip) (entry Tryd.f64.ntmps [a0, a1]) σ (retK Tryd.prog Tryd.f64.results.toList R) := by kernel_rfl
theorem ac_laws_eqPageS {w0 : World} {a0 a1 : Value} {σ : Vw} {R : Value → Vw → Prop} (h : vc_laws_eqPageS w0 a0 a1 σ R) : AC Tryd.prog w0 n_laws_eqPageS [a0, a1] σ R := by
  refine ac_rule (fn := Tryd.f64) (c := Tryd.f64.body.getD .skip) kp_laws_eqPageS esc_laws_eqPageS Tryd.func64 (by kernel_rfl) (by kernel_rfl) ?_
  rw [← vc_laws_eqPageS_eq]
  exact h

/-- laws.eqPageNameS -/
def kp_laws_eqPageNameS : Nat → Keep
  | 4 => ⟨[0, 1, 4, 5], [], [], .done, []⟩
  | 6 => ⟨[], [], [], .step 0 (.step 1 (.step 2 (.step 3 (.step 4 (.step 5 (.step 6 (.step 7 (.step 8 (.step 9 (.done)))))))))), [(2, [0, 1]), (3, [0, 1, 2]), (6, [4, 5]), (7, [4, 5, 6]), (8, [0, 1, 2, 3, 4, 5, 6, 7]), (9, [0, 1, 2, 3, 4, 5, 6, 7, 8])]⟩
  | _ => ⟨[], [], [], .done, []⟩
def esc_laws_eqPageNameS : Nat → Bool
  | _ => false
def vc_laws_eqPageNameS (w0 : World) (a0 a1 : Value) (σ : Vw) (R : Value → Vw → Prop) : Prop :=
  pLen a0 (fun v0 => pLen a1 (fun v1 => pBin Tryd.prog 3 BinOp.neq v0 v1 (fun v2 => pIf v2 (R (Value.bool false) σ) (pLoop (fun l3 K4 s5 => pLen (vget l3 0) (fun v6 => pBin Tryd.prog 3 BinOp.lss (vget l3 3) v6 (fun v7 => pIf v7 (pIndexAddr 3 (vget l3 0) (vget l3 3) (fun v8 => pLoad w0 3 v8 s5 (fun g9 => pIndexAddr 3 (vget l3 1) (vget l3 3) (fun v10 => pLoad w0 3 v10 s5 (fun g11 => AC Tryd.prog w0 n_laws_eqPageName ([Value.agg (⟨[g9 0, g9 1, g9 2]⟩), Value.agg (⟨[g11 0, g11 1, g11 2]⟩)]) s5 (fun v12 s13 => pUn UnOp.not v12 (fun v14 => pIf v14 (K4 AX.ret [vget l3 0, vget l3 1, Value.bool false, vget l3 3] s13) (pBin Tryd.prog 3 BinOp.add (vget l3 3) (Value.int IntKind.i64 1) (fun v15 => K4 AX.normal [vget l3 0, vget l3 1, vget l3 2, v15] s13))))))))) (K4 (AX.exit 0) [vget l3 0, vget l3 1, vget l3 2, vget l3 3] s5)))) [a0, a1, Value.bool false, Value.int IntKind.i64 0] σ (fun x16 l17 s18 => match x16 with | .normal => R (Value.bool true) s18 | .ret => R (vget l17 2) s18 | .exit i19 => (match Nat.beq i19 0 with | true => R (Value.bool true) s18 | false => False))))))
theorem vc_laws_eqPageNameS_eq (w0 : World) (a0 a1 : Value) (σ : Vw) (R : Value → Vw → Prop) : vc_laws_eqPageNameS w0 a0 a1 σ R = den Tryd.prog w0 kp_laws_eqPageNameS esc_laws_eqPageNameS (Tryd.f65.body.getD .skip) (entry Tryd.f65.ntmps [a0, a1]) σ (retK Tryd.prog Tryd.f65.results.toList R) := by kernel_rfl
theorem ac_laws_eqPageNameS {w0 : World} {a0 a1 : Value} {σ : Vw} {R : Value → Vw → Prop} (h : vc_laws_eqPageNameS w0 a0 a1 σ R) : AC Tryd.prog w0 n_laws_eqPageNameS [a0, a1] σ R := by
  refine ac_rule (fn := Tryd.f65) (c := Tryd.f65.body.getD .skip) kp_laws_eqPageNameS esc_laws_eqPageNameS Tryd.func65 (by kernel_rfl) (by kernel_rfl) ?_
  rw [← vc_laws_eqPageNameS_eq]
  exact h

/-- spec.l1Open -/
def kp_spec_l1Open : Nat → Keep
  | _ => ⟨[], [], [], .done, []⟩
def esc_spec_l1Open : Nat → Bool
  | 10 => true
  | _ => false
def vc_spec_l1Open (w0 : World) (a0 : Value) (σ : Vw) (R : Value → Vw → Prop) : Prop :=
  pLen a0 (fun v0 => pBin Tryd.prog 3 BinOp.gtr v0 (Value.int IntKind.i64 2000) (fun v1 => pIf v1 (pSlice 1 a0 Option.none (Option.some (Value.int IntKind.i64 2000)) (fun v2 => pVal false 1 v2 (pVal true 2 (Value.agg (⟨[v2, Value.int IntKind.i64 0]⟩)) (pNew w0 118 [v2, Value.int IntKind.i64 0] σ (fun n3 s4 => R (Value.pointer (Option.some (Addr.mk n3 0 Option.none))) s4))))) (pVal false 1 a0 (pVal true 2 (Value.agg (⟨[a0, Value.int IntKind.i64 0]⟩)) (pNew w0 118 [a0, Value.int IntKind.i64 0] σ (fun n5 s6 => R (Value.pointer (Option.some (Addr.mk n5 0 Option.none))) s6))))))
theorem vc_spec_l1Open_eq (w0 : World) (a0 : Value) (σ : Vw) (R : Value → Vw → Prop) : vc_spec_l1Open w0 a0 σ R = den Tryd.prog w0 kp_spec_l1Open esc_spec_l1Open (Tryd.f66.body.getD .skip) (entry Tryd.f66.ntmps [a0]) σ (retK Tryd.prog Tryd.f66.results.toList R) := by kernel_rfl
theorem ac_spec_l1Open {w0 : World} {a0 : Value} {σ : Vw} {R : Value → Vw → Prop} (h : vc_spec_l1Open w0 a0 σ R) : AC Tryd.prog w0 n_spec_l1Open [a0] σ R := by
  refine ac_rule (fn := Tryd.f66) (c := Tryd.f66.body.getD .skip) kp_spec_l1Open esc_spec_l1Open Tryd.func66 (by kernel_rfl) (by kernel_rfl) ?_
  rw [← vc_spec_l1Open_eq]
  exact h

/-- spec.l24Store -/
def kp_spec_l24Store : Nat → Keep
  | 8 => ⟨[], [], [], .step 0 (.step 1 (.step 2 (.step 3 (.step 4 (.step 5 (.step 6 (.step 7 (.step 8 (.step 9 (.done)))))))))), [(1, [0]), (3, [2]), (4, [2, 3]), (5, [2, 3, 4]), (6, [2, 3, 4, 5]), (7, [0, 1, 2, 3, 4, 5, 6]), (8, [0, 1, 2, 3, 4, 5, 6, 7]), (9, [0, 1, 2, 3, 4, 5, 6, 7, 8])]⟩
  | _ => ⟨[], [], [], .done, []⟩
def esc_spec_l24Store : Nat → Bool
  | 21 => true
  | _ => false
def vc_spec_l24Store (w0 : World) (a0 : Value) (σ : Vw) (R : Value → Vw → Prop) : Prop :=
  AC Tryd.prog w0 n_spec_l24Disk [a0] σ (fun v0 s1 => AC Tryd.prog w0 n_spec_StoreOpen [v0] s1 (fun v2 s3 => pExtract v2 0 (fun v4 => pExtract v2 1 (fun v5 => pVal true 4 v4 (AC Tryd.prog w0 n_p_spec_l1Rd_pick [a0, Value.int IntKind.i64 24] s3 (fun v6 s7 => pBin Tryd.prog 3 BinOp.eql v6 (Value.int IntKind.i64 0) (fun v8 => pIf v8 (pBin Tryd.prog 3 BinOp.add (cellOf v4 3) (Value.int IntKind.i64 1) (fun v9 => pVal false 1 v9 (pVal true 4 (Value.agg (⟨[cellOf v4 0, cellOf v4 1, cellOf v4 2, v9]⟩)) (R (Value.agg (⟨[cellOf v4 0, cellOf v4 1, cellOf v4 2, v9]⟩)) s7)))) (pBin Tryd.prog 3 BinOp.eql v6 (Value.int IntKind.i64 1) (fun v10 => pIf v10 (pVal false 1 (Value.int IntKind.i64 0) (pVal false 1 (Value.int IntKind.i64 99999) (pVal false 1 (Value.int IntKind.i64 100000) (pVal false 1 (Value.int IntKind.i64 99998) (pNew w0 3 [Value.int IntKind.i64 0, Value.int IntKind.i64 99999, Value.int IntKind.i64 100000, Value.int IntKind.i64 99998] s7 (fun n11 s12 => AC Tryd.prog w0 n_p_spec_l1Rd_pick [a0, Value.int IntKind.i64 4] s12 (fun v13 s14 => pIndexAddr 1 (Value.slice (Option.some (Addr.mk n11 0 Option.none)) 4 4) v13 (fun v15 => pLoad w0 1 v15 s14 (fun g16 => pVal false 1 (g16 0) (pVal true 4 (Value.agg (⟨[g16 0, cellOf v4 1, cellOf v4 2, cellOf v4 3]⟩)) (R (Value.agg (⟨[g16 0, cellOf v4 1, cellOf v4 2, cellOf v4 3]⟩)) s14))))))))))) (pBin Tryd.prog 3 BinOp.eql v6 (Value.int IntKind.i64 2) (fun v17 => pIf v17 (AC Tryd.prog w0 n_p_spec_l1Rd_pick [a0, Value.int IntKind.i64 2] s7 (fun v18 s19 => pBin Tryd.prog 3 BinOp.add (Value.int IntKind.i64 600) v18 (fun v20 => AC Tryd.prog w0 n_spec_l1Many ([Value.string ({ data := #[120] }), v20]) s19 (fun v21 s22 => pVal false 1 v21 ((allOne [v21]) ∧ (pAppend w0 9 1 16 (cellOf v4 2) 1 [v21] s22 (fun v23 s24 => pVal false 1 v23 (pVal true 4 (Value.agg (⟨[cellOf v4 0, cellOf v4 1, v23, cellOf v4 3]⟩)) (R (Value.agg (⟨[cellOf v4 0, cellOf v4 1, v23, cellOf v4 3]⟩)) s24))))))))) (pBin Tryd.prog 3 BinOp.eql v6 (Value.int IntKind.i64 3) (fun v25 => pIf v25 (AC Tryd.prog w0 n_p_spec_l1Rd_pick [a0, Value.int IntKind.i64 2] s7 (fun v26 s27 => pBin Tryd.prog 3 BinOp.add (Value.int IntKind.i64 5760) v26 (fun v28 => AC Tryd.prog w0 n_spec_l1Many ([Value.string ({ data := #[120] }), v28]) s27 (fun v29 s30 => pVal false 1 v29 (pVal true 4 (Value.agg (⟨[cellOf v4 0, v29, cellOf v4 2, cellOf v4 3]⟩)) (R (Value.agg (⟨[cellOf v4 0, v29, cellOf v4 2, cellOf v4 3]⟩)) s30)))))) (pVal true 4 (Value.agg (⟨[cellOf v4 0, cellOf v4 1, cellOf v4 2, cellOf v4 3]⟩)) (R (Value.agg (⟨[cellOf v4 0, cellOf v4 1, cellOf v4 2, cellOf v4 3]⟩)) s7)))))))))))))))
theorem vc_spec_l24Store_eq (w0 : World) (a0 : Value) (σ : Vw) (R : Value → Vw → Prop) : vc_spec_l24Store w0 a0 σ R = den Tryd.prog w0 kp_spec_l24Store esc_spec_l24Store (Tryd.f67.body.getD .skip) (entry Tryd.f67.ntmps [a0]) σ (retK Tryd.prog Tryd.f67.results.toList R) := by kernel_rfl
theorem ac_spec_l24Store {w0 : World} {a0 : Value} {σ : Vw} {R : Value → Vw → Prop} (h : vc_spec_l24Store w0 a0 σ R) : AC Tryd.prog w0 n_spec_l24Store [a0] σ R := by
  refine ac_rule (fn := Tryd.f67) (c := Tryd.f67.body.getD .skip) kp_spec_l24Store esc_spec_l24Store Tryd.func67 (by kernel_rfl) (by kernel_rfl) ?_
  rw [← vc_spec_l24Store_eq]
  exact h

/-- spec.l24Group -/
def kp_spec_l24Group : Nat → Keep
  | _ => ⟨[], [], [], .done, []⟩
def esc_spec_l24Group : Nat → Bool
  | 29 => true
  | _ => false
def vc_spec_l24Group (w0 : World) (a0 : Value) (σ : Vw) (R : Value → Vw → Prop) : Prop :=
  AC Tryd.prog w0 n_p_spec_l1Rd_pick [a0, Value.int IntKind.i64 10] σ (fun v0 s1 => pBin Tryd.prog 3 BinOp.eql v0 (Value.int IntKind.i64 0) (fun v2 => pIf v2 (AC Tryd.prog w0 n_p_spec_l1Rd_pick [a0, Value.int IntKind.i64 2] s1 (fun v3 s4 => pBin Tryd.prog 3 BinOp.sub (Value.int IntKind.i64 600) v3 (fun v5 => AC Tryd.prog w0 n_p_spec_l1Rd_pick [a0, Value.int IntKind.i64 3] s4 (fun v6 s7 => pBin Tryd.prog 3 BinOp.add v5 v6 (fun v8 => AC Tryd.prog w0 n_spec_l1Many ([Value.string ({ data := #[103] }), v8]) s7 (fun v9 s10 => R v9 s10)))))) (pBin Tryd.prog 3 BinOp.eql v0 (Value.int IntKind.i64 1) (fun v11 => pIf v11 (AC Tryd.prog w0 n_p_spec_l1Rd_pick [a0, Value.int IntKind.i64 30] s1 (fun v12 s13 => AC Tryd.prog w0 n_spec_l1Many ([Value.string ({ data := #[72, 32, 49, 32, 49, 32, 48] }), v12]) s13 (fun v14 s15 => R v14 s15))) (pBin Tryd.prog 3 BinOp.eql v0 (Value.int IntKind.i64 2) (fun v16 => pIf v16 (AC Tryd.prog w0 n_p_spec_l1Rd_pick [a0, Value.int IntKind.i64 4] s1 (fun v17 s18 => pBin Tryd.prog 3 BinOp.mul (Value.int IntKind.i64 63) v17 (fun v19 => AC Tryd.prog w0 n_p_spec_l1Rd_pick [a0, Value.int IntKind.i64 2] s18 (fun v20 s21 => pBin Tryd.prog 3 BinOp.add v19 v20 (fun v22 => AC Tryd.prog w0 n_spec_l1Many ([Value.string ({ data := #[100] }), v22]) s21 (fun v23 s24 => R v23 s24)))))) (pVal false 1 (Value.string ({ data := #[] })) (pVal false 1 (Value.string ({ data := #[98] })) (pVal false 1 (Value.string ({ data := #[112, 117, 116, 32, 120, 32] })) (pVal false 1 (Value.string ({ data := #[72, 32, 50, 32, 49, 32, 48] })) (pNew w0 9 ([Value.string ({ data := #[] }), Value.string ({ data := #[98] }), Value.string ({ data := #[112, 117, 116, 32, 120, 32] }), Value.string ({ data := #[72, 32, 50, 32, 49, 32, 48] })]) s1 (fun n25 s26 => AC Tryd.prog w0 n_p_spec_l1Rd_of [a0, Value.slice (Option.some (Addr.mk n25 0 Option.none)) 4 4] s26 (fun v27 s28 => AC Tryd.prog w0 n_p_spec_l1Rd_pick [a0, Value.int IntKind.i64 16] s28 (fun v29 s30 => AC Tryd.prog w0 n_spec_l1Many [v27, v29] s30 (fun v31 s32 => R v31 s32)))))))))))))))
theorem vc_spec_l24Group_eq (w0 : World) (a0 : Value) (σ : Vw) (R : Value → Vw → Prop) : vc_spec_l24Group w0 a0 σ R = den Tryd.prog w0 kp_spec_l24Group esc_spec_l24Group (Tryd.f68.body.getD .skip) (entry Tryd.f68.ntmps [a0]) σ (retK Tryd.prog Tryd.f68.results.toList R) := by kernel_rfl
theorem ac_spec_l24Group {w0 : World} {a0 : Value} {σ : Vw} {R : Value → Vw → Prop} (h : vc_spec_l24Group w0 a0 σ R) : AC Tryd.prog w0 n_spec_l24Group [a0] σ R := by
  refine ac_rule (fn := Tryd.f68) (c := Tryd.f68.body.getD .skip) kp_spec_l24Group esc_spec_l24Group Tryd.func68 (by kernel_rfl) (by kernel_rfl) ?_
  rw [← vc_spec_l24Group_eq]
  exact h

/-- laws.wdTexts -/
def kp_laws_wdTexts : Nat → Keep
  | 4 => ⟨[0, 1, 4, 5], [], [], .done, []⟩
  | 6 => ⟨[], [], [], .step 0 (.step 1 (.step 2 (.step 3 (.step 4 (.step 5 (.step 6 (.step 7 (.step 8 (.done))))))))), [(2, [0, 1]), (3, [0, 1, 2]), (6, [4, 5]), (7, [4, 5, 6]), (8, [0, 1, 2, 3, 4, 5, 6, 7])]⟩
  | _ => ⟨[], [], [], .done, []⟩
def esc_laws_wdTexts : Nat → Bool
  | _ => false
def vc_laws_wdTexts (w0 : World) (a0 a1 : Value) (σ : Vw) (R : Value → Vw → Prop) : Prop :=
  pLen a0 (fun v0 => pLen a1 (fun v1 => pBin Tryd.prog 3 BinOp.neq v0 v1 (fun v2 => pIf v2 (R (Value.bool false) σ) (pLoop (fun l3 K4 s5 => pLen (vget l3 0) (fun v6 => pBin Tryd.prog 3 BinOp.lss (vget l3 3) v6 (fun v7 => pIf v7 (pIndexAddr 1 (vget l3 0) (vget l3 3) (fun v8 => pLoad w0 1 v8 s5 (fun g9 => pIndexAddr 1 (vget l3 1) (vget l3 3) (fun v10 => pLoad w0 1 v10 s5 (fun g11 => pBin Tryd.prog 9 BinOp.neq (g9 0) (g11 0) (fun v12 => pIf v12 (K4 AX.ret [vget l3 0, vget l3 1, Value.bool false, vget l3 3] s5) (pBin Tryd.prog 3 BinOp.add (vget l3 3) (Value.int IntKind.i64 1) (fun v13 => K4 AX.normal [vget l3 0, vget l3 1, vget l3 2, v13] s5)))))))) (K4 (AX.exit 0) [vget l3 0, vget l3 1, vget l3 2, vget l3 3] s5)))) [a0, a1, Value.bool false, Value.int IntKind.i64 0] σ (fun x14 l15 s16 => match x14 with | .normal => R (Value.bool true) s16 | .ret => R (vget l15 2) s16 | .exit i17 => (match Nat.beq i17 0 with | true => R (Value.bool true) s16 | false => False))))))
theorem vc_laws_wdTexts_eq (w0 : World) (a0 a1 : Value) (σ : Vw) (R : Value → Vw → Prop) : vc_laws_wdTexts w0 a0 a1 σ R = den Tryd.prog w0 kp_laws_wdTexts esc_laws_wdTexts (Tryd.f69.body.getD .skip) (entry Tryd.f69.ntmps [a0, a1]) σ (retK Tryd.prog Tryd.f69.results.toList R) := by kernel_rfl
theorem ac_laws_wdTexts {w0 : World} {a0 a1 : Value} {σ : Vw} {R : Value → Vw → Prop} (h : vc_laws_wdTexts w0 a0 a1 σ R) : AC Tryd.prog w0 n_laws_wdTexts [a0, a1] σ R := by
  refine ac_rule (fn := Tryd.f69) (c := Tryd.f69.body.getD .skip) kp_laws_wdTexts esc_laws_wdTexts Tryd.func69 (by kernel_rfl) (by kernel_rfl) ?_
  rw [← vc_laws_wdTexts_eq]
  exact h

/-- spec.l24Text -/
def kp_spec_l24Text : Nat → Keep
  | _ => ⟨[], [], [], .done, []⟩
def esc_spec_l24Text : Nat → Bool
  | 27 => true
  | _ => false
def vc_spec_l24Text (w0 : World) (a0 : Value) (σ : Vw) (R : Value → Vw → Prop) : Prop :=
  AC Tryd.prog w0 n_p_spec_l1Rd_pick [a0, Value.int IntKind.i64 12] σ (fun v0 s1 => pBin Tryd.prog 3 BinOp.eql v0 (Value.int IntKind.i64 0) (fun v2 => pIf v2 (AC Tryd.prog w0 n_p_spec_l1Rd_pick [a0, Value.int IntKind.i64 2] s1 (fun v3 s4 => pBin Tryd.prog 3 BinOp.sub (Value.int IntKind.i64 5760) v3 (fun v5 => AC Tryd.prog w0 n_p_spec_l1Rd_pick [a0, Value.int IntKind.i64 2] s4 (fun v6 s7 => pBin Tryd.prog 3 BinOp.add v5 v6 (fun v8 => AC Tryd.prog w0 n_spec_l1Many ([Value.string ({ data := #[121] }), v8]) s7 (fun v9 s10 => R v9 s10)))))) (pBin Tryd.prog 3 BinOp.eql v0 (Value.int IntKind.i64 1) (fun v11 => pIf v11 (AC Tryd.prog w0 n_p_spec_l1Rd_pick [a0, Value.int IntKind.i64 20] s1 (fun v12 s13 => AC Tryd.prog w0 n_spec_l1Many ([Value.string ({ data := #[72, 32, 49, 32, 48, 32, 51, 32] }), v12]) s13 (fun v14 s15 => pBin Tryd.prog 9 BinOp.add v14 (Value.string ({ data := #[67, 32, 57, 32, 48] })) (fun v16 => R v16 s15)))) (pBin Tryd.prog 3 BinOp.eql v0 (Value.int IntKind.i64 2) (fun v17 => pIf v17 (AC Tryd.prog w0 n_p_spec_l1Rd_pick [a0, Value.int IntKind.i64 4] s1 (fun v18 s19 => pBin Tryd.prog 3 BinOp.mul (Value.int IntKind.i64 64) v18 (fun v20 => AC Tryd.prog w0 n_spec_l1Many ([Value.string ({ data := #[122] }), v20]) s19 (fun v21 s22 => R v21 s22)))) (pVal false 1 (Value.string ({ data := #[] })) (pVal false 1 (Value.string ({ data := #[97] })) (pVal false 1 (Value.string ({ data := #[104, 101, 108, 108, 111, 32] })) (pVal false 1 (Value.string ({ data := #[67, 32, 51, 32, 49] })) (pVal false 1 (Value.string ({ data := #[72, 32, 50, 32, 48, 32, 49] })) (pVal false 1 (Value.string ({ data := #[0] })) (pNew w0 9 ([Value.string ({ data := #[] }), Value.string ({ data := #[97] }), Value.string ({ data := #[104, 101, 108, 108, 111, 32] }), Value.string ({ data := #[67, 32, 51, 32, 49] }), Value.string ({ data := #[72, 32, 50, 32, 48, 32, 49] }), Value.string ({ data := #[0] })]) s1 (fun n23 s24 => AC Tryd.prog w0 n_p_spec_l1Rd_of [a0, Value.slice (Option.some (Addr.mk n23 0 Option.none)) 6 6] s24 (fun v25 s26 => AC Tryd.prog w0 n_p_spec_l1Rd_pick [a0, Value.int IntKind.i64 30] s26 (fun v27 s28 => AC Tryd.prog w0 n_spec_l1Many [v25, v27] s28 (fun v29 s30 => R v29 s30)))))))))))))))))
theorem vc_spec_l24Text_eq (w0 : World) (a0 : Value) (σ : Vw) (R : Value → Vw → Prop) : vc_spec_l24Text w0 a0 σ R = den Tryd.prog w0 kp_spec_l24Text esc_spec_l24Text (Tryd.f70.body.getD .skip) (entry Tryd.f70.ntmps [a0]) σ (retK Tryd.prog Tryd.f70.results.toList R) := by kernel_rfl
theorem ac_spec_l24Text {w0 : World} {a0 : Value} {σ : Vw} {R : Value → Vw → Prop} (h : vc_spec_l24Text w0 a0 σ R) : AC Tryd.prog w0 n_spec_l24Text [a0] σ R := by
  refine ac_rule (fn := Tryd.f70) (c := Tryd.f70.body.getD .skip) kp_spec_l24Text esc_spec_l24Text Tryd.func70 (by kernel_rfl) (by kernel_rfl) ?_
  rw [← vc_spec_l24Text_eq]
  exact h

/-- spec.l22Many -/
def kp_spec_l22Many : Nat → Keep
  | _ => ⟨[], [], [], .done, []⟩
def esc_spec_l22Many : Nat → Bool
  | _ => false
def vc_spec_l22Many (w0 : World) (a0 a1 : Value) (σ : Vw) (R : Value → Vw → Prop) : Prop :=
  pLenS a0 (fun v0 => pBin Tryd.prog 3 BinOp.add v0 a1 (fun v1 => pBin Tryd.prog 3 BinOp.sub v1 (Value.int IntKind.i64 1) (fun v2 => pBin Tryd.prog 3 BinOp.quo v2 a1 (fun v3 => R v3 σ))))
theorem vc_spec_l22Many_eq (w0 : World) (a0 a1 : Value) (σ : Vw) (R : Value → Vw → Prop) : vc_spec_l22Many w0 a0 a1 σ R = den Tryd.prog w0 kp_spec_l22Many esc_spec_l22Many (Tryd.f71.body.getD .skip) (entry Tryd.f71.ntmps [a0, a1]) σ (retK Tryd.prog Tryd.f71.results.toList R) := by kernel_rfl
theorem ac_spec_l22Many {w0 : World} {a0 a1 : Value} {σ : Vw} {R : Value → Vw → Prop} (h : vc_spec_l22Many w0 a0 a1 σ R) : AC Tryd.prog w0 n_spec_l22Many [a0, a1] σ R := by
  refine ac_rule (fn := Tryd.f71) (c := Tryd.f71.body.getD .skip) kp_spec_l22Many esc_spec_l22Many Tryd.func71 (by kernel_rfl) (by kernel_rfl) ?_
  rw [← vc_spec_l22Many_eq]
  exact h

/-- spec.l22Area -/
def kp_spec_l22Area : Nat → Keep
  | _ => ⟨[], [], [], .done, []⟩
def esc_spec_l22Area : Nat → Bool
  | _ => false
def vc_spec_l22Area (w0 : World) (a0 : Value) (σ : Vw) (R : Value → Vw → Prop) : Prop :=
  pBin Tryd.prog 3 BinOp.rem a0 (Value.int IntKind.i64 2) (fun v0 => pBin Tryd.prog 3 BinOp.mul v0 (Value.int IntKind.i64 90) (fun v1 => pBin Tryd.prog 3 BinOp.add (Value.int IntKind.i64 14) v1 (fun v2 => R v2 σ)))
theorem vc_spec_l22Area_eq (w0 : World) (a0 : Value) (σ : Vw) (R : Value → Vw → Prop) : vc_spec_l22Area w0 a0 σ R = den Tryd.prog w0 kp_spec_l22Area esc_spec_l22Area (Tryd.f72.body.getD .skip) (entry Tryd.f72.ntmps [a0]) σ (retK Tryd.prog Tryd.f72.results.toList R) := by kernel_rfl
theorem ac_spec_l22Area {w0 : World} {a0 : Value} {σ : Vw} {R : Value → Vw → Prop} (h : vc_spec_l22Area w0 a0 σ R) : AC Tryd.prog w0 n_spec_l22Area [a0] σ R := by
  refine ac_rule (fn := Tryd.f72) (c := Tryd.f72.body.getD .skip) kp_spec_l22Area esc_spec_l22Area Tryd.func72 (by kernel_rfl) (by kernel_rfl) ?_
  rw [← vc_spec_l22Area_eq]
  exact h

/-- spec.l22Head -/
def kp_spec_l22Head : Nat → Keep
  | _ => ⟨[], [], [], .done, []⟩
def esc_spec_l22Head : Nat → Bool
  | _ => false
def vc_spec_l22Head (w0 : World) (a0 a1 : Value) (σ : Vw) (R : Value → Vw → Prop) : Prop :=
  AC Tryd.prog w0 n_spec_l22Dec [a0] σ (fun v0 s1 => pBin Tryd.prog 9 BinOp.add (Value.string ({ data := #[67, 32] })) v0 (fun v2 => pBin Tryd.prog 9 BinOp.add v2 (Value.string ({ data := #[32] })) (fun v3 => pLenS a1 (fun v4 => AC Tryd.prog w0 n_spec_l22Dec [v4] s1 (fun v5 s6 => pBin Tryd.prog 9 BinOp.add v3 v5 (fun v7 => R v7 s6))))))
theorem vc_spec_l22Head_eq (w0 : World) (a0 a1 : Value) (σ : Vw) (R : Value → Vw → Prop) : vc_spec_l22Head w0 a0 a1 σ R = den Tryd.prog w0 kp_spec_l22Head esc_spec_l22Head (Tryd.f73.body.getD .skip) (entry Tryd.f73.ntmps [a0, a1]) σ (retK Tryd.prog Tryd.f73.results.toList R) := by kernel_rfl
theorem ac_spec_l22Head {w0 : World} {a0 a1 : Value} {σ : Vw} {R : Value → Vw → Prop} (h : vc_spec_l22Head w0 a0 a1 σ R) : AC Tryd.prog w0 n_spec_l22Head [a0, a1] σ R := by
  refine ac_rule (fn := Tryd.f73) (c := Tryd.f73.body.getD .skip) kp_spec_l22Head esc_spec_l22Head Tryd.func73 (by kernel_rfl) (by kernel_rfl) ?_
  rw [← vc_spec_l22Head_eq]
  exact h

/-- impl.areaFirst -/
def kp_impl_areaFirst : Nat → Keep
  | _ => ⟨[], [], [], .done, []⟩
def esc_impl_areaFirst : Nat → Bool
  | _ => false
def vc_impl_areaFirst (w0 : World) (a0 : Value) (σ : Vw) (R : Value → Vw → Prop) : Prop :=
  pBin Tryd.prog 3 BinOp.rem a0 (Value.int IntKind.i64 2) (fun v0 => pBin Tryd.prog 3 BinOp.mul v0 (Value.int IntKind.i64 90) (fun v1 => pBin Tryd.prog 3 BinOp.add (Value.int IntKind.i64 14) v1 (fun v2 => R v2 σ)))
theorem vc_impl_areaFirst_eq (w0 : World) (a0 : Value) (σ : Vw) (R : Value → Vw → Prop) : vc_impl_areaFirst w0 a0 σ R = den Tryd.prog w0 kp_impl_areaFirst esc_impl_areaFirst (Tryd.f74.body.getD .skip) (entry Tryd.f74.ntmps [a0]) σ (retK Tryd.prog Tryd.f74.results.toList R) := by kernel_rfl
theorem ac_impl_areaFirst {w0 : World} {a0 : Value} {σ : Vw} {R : Value → Vw → Prop} (h : vc_impl_areaFirst w0 a0 σ R) : AC Tryd.prog w0 n_impl_areaFirst [a0] σ R := by
  refine ac_rule (fn := Tryd.f74) (c := Tryd.f74.body.getD .skip) kp_impl_areaFirst esc_impl_areaFirst Tryd.func74 (by kernel_rfl) (by kernel_rfl) ?_
  rw [← vc_impl_areaFirst_eq]
  exact h

/-- impl.checkHead -/
def kp_impl_checkHead : Nat → Keep
  | _ => ⟨[], [], [], .done, []⟩
def esc_impl_checkHead : Nat → Bool
  | _ => false
def vc_impl_checkHead (w0 : World) (a0 a1 : Value) (σ : Vw) (R : Value → Vw → Prop) : Prop :=
  AC Tryd.prog w0 n_strconv_Itoa [a0] σ (fun v0 s1 => pBin Tryd.prog 9 BinOp.add (Value.string ({ data := #[67, 32] })) v0 (fun v2 => pBin Tryd.prog 9 BinOp.add v2 (Value.string ({ data := #[32] })) (fun v3 => AC Tryd.prog w0 n_strconv_Itoa [a1] s1 (fun v4 s5 => pBin Tryd.prog 9 BinOp.add v3 v4 (fun v6 => R v6 s5)))))
theorem vc_impl_checkHead_eq (w0 : World) (a0 a1 : Value) (σ : Vw) (R : Value → Vw → Prop) : vc_impl_checkHead w0 a0 a1 σ R = den Tryd.prog w0 kp_impl_checkHead esc_impl_checkHead (Tryd.f75.body.getD .skip) (entry Tryd.f75.ntmps [a0, a1]) σ (retK Tryd.prog Tryd.f75.results.toList R) := by kernel_rfl
theorem ac_impl_checkHead {w0 : World} {a0 a1 : Value} {σ : Vw} {R : Value → Vw → Prop} (h : vc_impl_checkHead w0 a0 a1 σ R) : AC Tryd.prog w0 n_impl_checkHead [a0, a1] σ R := by
  refine ac_rule (fn := Tryd.f75) (c := Tryd.f75.body.getD .skip) kp_impl_checkHead esc_impl_checkHead Tryd.func75 (by kernel_rfl) (by kernel_rfl) ?_
  rw [← vc_impl_checkHead_eq]
  exact h

/-- spec.l21In -/
def kp_spec_l21In : Nat → Keep
  | _ => ⟨[], [], [], .done, []⟩
def esc_spec_l21In : Nat → Bool
  | _ => false
def vc_spec_l21In (w0 : World) (a0 a1 a2 : Value) (σ : Vw) (R : Value → Vw → Prop) : Prop :=
  pBin Tryd.prog 3 BinOp.geq a0 a1 (fun v0 => pIf v0 (pBin Tryd.prog 3 BinOp.leq a0 a2 (fun v1 => R v1 σ)) (R (Value.bool false) σ))
theorem vc_spec_l21In_eq (w0 : World) (a0 a1 a2 : Value) (σ : Vw) (R : Value → Vw → Prop) : vc_spec_l21In w0 a0 a1 a2 σ R = den Tryd.prog w0 kp_spec_l21In esc_spec_l21In (Tryd.f76.body.getD .skip) (entry Tryd.f76.ntmps [a0, a1, a2]) σ (retK Tryd.prog Tryd.f76.results.toList R) := by kernel_rfl
theorem ac_spec_l21In {w0 : World} {a0 a1 a2 : Value} {σ : Vw} {R : Value → Vw → Prop} (h : vc_spec_l21In w0 a0 a1 a2 σ R) : AC Tryd.prog w0 n_spec_l21In [a0, a1, a2] σ R := by
  refine ac_rule (fn := Tryd.f76) (c := Tryd.f76.body.getD .skip) kp_spec_l21In esc_spec_l21In Tryd.func76 (by kernel_rfl) (by kernel_rfl) ?_
  rw [← vc_spec_l21In_eq]
  exact h

/-- impl.within -/
def kp_impl_within : Nat → Keep
  | _ => ⟨[], [], [], .done, []⟩
def esc_impl_within : Nat → Bool
  | _ => false
def vc_impl_within (w0 : World) (a0 a1 a2 : Value) (σ : Vw) (R : Value → Vw → Prop) : Prop :=
  pBin Tryd.prog 3 BinOp.geq a0 a1 (fun v0 => pIf v0 (pBin Tryd.prog 3 BinOp.leq a0 a2 (fun v1 => R v1 σ)) (R (Value.bool false) σ))
theorem vc_impl_within_eq (w0 : World) (a0 a1 a2 : Value) (σ : Vw) (R : Value → Vw → Prop) : vc_impl_within w0 a0 a1 a2 σ R = den Tryd.prog w0 kp_impl_within esc_impl_within (Tryd.f77.body.getD .skip) (entry Tryd.f77.ntmps [a0, a1, a2]) σ (retK Tryd.prog Tryd.f77.results.toList R) := by kernel_rfl
theorem ac_impl_within {w0 : World} {a0 a1 a2 : Value} {σ : Vw} {R : Value → Vw → Prop} (h : vc_impl_within w0 a0 a1 a2 σ R) : AC Tryd.prog w0 n_impl_within [a0, a1, a2] σ R := by
  refine ac_rule (fn := Tryd.f77) (c := Tryd.f77.body.getD .skip) kp_impl_within esc_impl_within Tryd.func77 (by kernel_rfl) (by kernel_rfl) ?_
  rw [← vc_impl_within_eq]
  exact h

/-- laws.szPage -/
def kp_laws_szPage : Nat → Keep
  | _ => ⟨[], [], [], .done, []⟩
def esc_laws_szPage : Nat → Bool
  | _ => false
def vc_laws_szPage (w0 : World) (a0 a1 : Value) (σ : Vw) (R : Value → Vw → Prop) : Prop :=
  pVal true 3 a0 (pLenS (cellOf a0 1) (fun v0 => pBin Tryd.prog 3 BinOp.sub a1 v0 (fun v1 => pBin Tryd.prog 3 BinOp.lss v1 (Value.int IntKind.i64 0) (fun v2 => pIf v2 (R (Value.int IntKind.i64 (-1)) σ) (R v1 σ)))))
theorem vc_laws_szPage_eq (w0 : World) (a0 a1 : Value) (σ : Vw) (R : Value → Vw → Prop) : vc_laws_szPage w0 a0 a1 σ R = den Tryd.prog w0 kp_laws_szPage esc_laws_szPage (Tryd.f78.body.getD .skip) (entry Tryd.f78.ntmps [a0, a1]) σ (retK Tryd.prog Tryd.f78.results.toList R) := by kernel_rfl
theorem ac_laws_szPage {w0 : World} {a0 a1 : Value} {σ : Vw} {R : Value → Vw → Prop} (h : vc_laws_szPage w0 a0 a1 σ R) : AC Tryd.prog w0 n_laws_szPage [a0, a1] σ R := by
  refine ac_rule (fn := Tryd.f78) (c := Tryd.f78.body.getD .skip) kp_laws_szPage esc_laws_szPage Tryd.func78 (by kernel_rfl) (by kernel_rfl) ?_
  rw [← vc_laws_szPage_eq]
  exact h

/-- laws.szPageName -/
def kp_laws_szPageName : Nat → Keep
  | _ => ⟨[], [], [], .done, []⟩
def esc_laws_szPageName : Nat → Bool
  | _ => false
def vc_laws_szPageName (w0 : World) (a0 a1 : Value) (σ : Vw) (R : Value → Vw → Prop) : Prop :=
  pVal true 3 a0 (pLenS (cellOf a0 0) (fun v0 => pBin Tryd.prog 3 BinOp.sub a1 v0 (fun v1 => pBin Tryd.prog 3 BinOp.lss v1 (Value.int IntKind.i64 0) (fun v2 => pIf v2 (R (Value.int IntKind.i64 (-1)) σ) (R v1 σ)))))
theorem vc_laws_szPageName_eq (w0 : World) (a0 a1 : Value) (σ : Vw) (R : Value → Vw → Prop) : vc_laws_szPageName w0 a0 a1 σ R = den Tryd.prog w0 kp_laws_szPageName esc_laws_szPageName (Tryd.f79.body.getD .skip) (entry Tryd.f79.ntmps [a0, a1]) σ (retK Tryd.prog Tryd.f79.results.toList R) := by kernel_rfl
theorem ac_laws_szPageName {w0 : World} {a0 a1 : Value} {σ : Vw} {R : Value → Vw → Prop} (h : vc_laws_szPageName w0 a0 a1 σ R) : AC Tryd.prog w0 n_laws_szPageName [a0, a1] σ R := by
  refine ac_rule (fn := Tryd.f79) (c := Tryd.f79.body.getD .skip) kp_laws_szPageName esc_laws_szPageName Tryd.func79 (by kernel_rfl) (by kernel_rfl) ?_
  rw [← vc_laws_szPageName_eq]
  exact h

/-- spec.l1NameOk -/
def kp_spec_l1NameOk : Nat → Keep
  | 2 => ⟨[0, 2, 3], [], [], .done, []⟩
  | _ => ⟨[], [], [], .done, []⟩
def esc_spec_l1NameOk : Nat → Bool
  | _ => false
def vc_spec_l1NameOk (w0 : World) (a0 : Value) (σ : Vw) (R : Value → Vw → Prop) : Prop :=
  pLoop (fun l0 K1 s2 => pLenS (vget l0 0) (fun v3 => pBin Tryd.prog 3 BinOp.lss (vget l0 2) v3 (fun v4 => pIf v4 (pIndexStr (vget l0 0) (vget l0 2) (fun v5 => pBin Tryd.prog 5 BinOp.geq v5 (Value.int IntKind.u8 97) (fun v6 => pIf v6 (pIndexStr (vget l0 0) (vget l0 2) (fun v7 => pBin Tryd.prog 5 BinOp.leq v7 (Value.int IntKind.u8 122) (fun v8 => pIf v8 (pUn UnOp.not (Value.bool true) (fun v9 => pIf v9 (K1 AX.ret [vget l0 0, Value.bool false, vget l0 2] s2) (pBin Tryd.prog 3 BinOp.add (vget l0 2) (Value.int IntKind.i64 1) (fun v10 => K1 AX.normal [vget l0 0, vget l0 1, v10] s2)))) (pIndexStr (vget l0 0) (vget l0 2) (fun v11 => pBin Tryd.prog 5 BinOp.geq v11 (Value.int IntKind.u8 48) (fun v12 => pIf v12 (pIndexStr (vget l0 0) (vget l0 2) (fun v13 => pBin Tryd.prog 5 BinOp.leq v13 (Value.int IntKind.u8 57) (fun v14 => pUn UnOp.not v14 (fun v15 => pIf v15 (K1 AX.ret [vget l0 0, Value.bool false, vget l0 2] s2) (pBin Tryd.prog 3 BinOp.add (vget l0 2) (Value.int IntKind.i64 1) (fun v16 => K1 AX.normal [vget l0 0, vget l0 1, v16] s2)))))) (pUn UnOp.not (Value.bool false) (fun v17 => pIf v17 (K1 AX.ret [vget l0 0, Value.bool false, vget l0 2] s2) (pBin Tryd.prog 3 BinOp.add (vget l0 2) (Value.int IntKind.i64 1) (fun v18 => K1 AX.normal [vget l0 0, vget l0 1, v18] s2)))))))))) (pIndexStr (vget l0 0) (vget l0 2) (fun v19 => pBin Tryd.prog 5 BinOp.geq v19 (Value.int IntKind.u8 48) (fun v20 => pIf v20 (pIndexStr (vget l0 0) (vget l0 2) (fun v21 => pBin Tryd.prog 5 BinOp.leq v21 (Value.int IntKind.u8 57) (fun v22 => pUn UnOp.not v22 (fun v23 => pIf v23 (K1 AX.ret [vget l0 0, Value.bool false, vget l0 2] s2) (pBin Tryd.prog 3 BinOp.add (vget l0 2) (Value.int IntKind.i64 1) (fun v24 => K1 AX.normal [vget l0 0, vget l0 1, v24] s2)))))) (pUn UnOp.not (Value.bool false) (fun v25 => pIf v25 (K1 AX.ret [vget l0 0, Value.bool false, vget l0 2] s2) (pBin Tryd.prog 3 BinOp.add (vget l0 2) (Value.int IntKind.i64 1) (fun v26 => K1 AX.normal [vget l0 0, vget l0 1, v26] s2)))))))))) (K1 (AX.exit 0) [vget l0 0, vget l0 1, vget l0 2] s2)))) [a0, Value.bool false, Value.int IntKind.i64 0] σ (fun x27 l28 s29 => match x27 with | .normal => pLenS (vget l28 0) (fun v30 => AC Tryd.prog w0 n_spec_l1In [v30, Value.int IntKind.i64 1, Value.int IntKind.i64 5] s29 (fun v31 s32 => R v31 s32)) | .ret => R (vget l28 1) s29 | .exit i33 => (match Nat.beq i33 0 with | true => pLenS (vget l28 0) (fun v34 => AC Tryd.prog w0 n_spec_l1In [v34, Value.int IntKind.i64 1, Value.int IntKind.i64 5] s29 (fun v35 s36 => R v35 s36)) | false => False))
theorem vc_spec_l1NameOk_eq (w0 : World) (a0 : Value) (σ : Vw) (R : Value → Vw → Prop) : vc_spec_l1NameOk w0 a0 σ R = den Tryd.prog w0 kp_spec_l1NameOk esc_spec_l1NameOk (Tryd.f80.body.getD .skip) (entry Tryd.f80.ntmps [a0]) σ (retK Tryd.prog Tryd.f80.results.toList R) := by kernel_rfl
theorem ac_spec_l1NameOk {w0 : World} {a0 : Value} {σ : Vw} {R : Value → Vw → Prop} (h : vc_spec_l1NameOk w0 a0 σ R) : AC Tryd.prog w0 n_spec_l1NameOk [a0] σ R := by
  refine ac_rule (fn := Tryd.f80) (c := Tryd.f80.body.getD .skip) kp_spec_l1NameOk esc_spec_l1NameOk Tryd.func80 (by kernel_rfl) (by kernel_rfl) ?_
  rw [← vc_spec_l1NameOk_eq]
  exact h

/-- spec.l1In -/
def kp_spec_l1In : Nat → Keep
  | _ => ⟨[], [], [], .done, []⟩
def esc_spec_l1In : Nat → Bool
  | _ => false
def vc_spec_l1In (w0 : World) (a0 a1 a2 : Value) (σ : Vw) (R : Value → Vw → Prop) : Prop :=
  pBin Tryd.prog 3 BinOp.geq a0 a1 (fun v0 => pIf v0 (pBin Tryd.prog 3 BinOp.leq a0 a2 (fun v1 => R v1 σ)) (R (Value.bool false) σ))
theorem vc_spec_l1In_eq (w0 : World) (a0 a1 a2 : Value) (σ : Vw) (R : Value → Vw → Prop) : vc_spec_l1In w0 a0 a1 a2 σ R = den Tryd.prog w0 kp_spec_l1In esc_spec_l1In (Tryd.f81.body.getD .skip) (entry Tryd.f81.ntmps [a0, a1, a2]) σ (retK Tryd.prog Tryd.f81.results.toList R) := by kernel_rfl
theorem ac_spec_l1In {w0 : World} {a0 a1 a2 : Value} {σ : Vw} {R : Value → Vw → Prop} (h : vc_spec_l1In w0 a0 a1 a2 σ R) : AC Tryd.prog w0 n_spec_l1In [a0, a1, a2] σ R := by
  refine ac_rule (fn := Tryd.f81) (c := Tryd.f81.body.getD .skip) kp_spec_l1In esc_spec_l1In Tryd.func81 (by kernel_rfl) (by kernel_rfl) ?_
  rw [← vc_spec_l1In_eq]
  exact h

/-- spec.l32Chain -/
def kp_spec_l32Chain : Nat → Keep
  | 4 => ⟨[4, 5, 6, 7, 8], [(2, 2)], [2], .done, []⟩
  | _ => ⟨[], [], [], .done, []⟩
def esc_spec_l32Chain : Nat → Bool
  | 10 => true
  | _ => false
def vc_spec_l32Chain (w0 : World) (a0 a1 : Value) (σ : Vw) (R : Value → Vw → Prop) : Prop :=
  pVal true 2 a0 (pVal true 3 a1 (pNew w0 3 [] σ (fun n0 s1 => pLoop (fun l2 K3 s4 => pBin Tryd.prog 3 BinOp.geq (vget l2 3) (Value.int IntKind.i64 0) (fun v5 => pIf v5 (pLen (vget l2 5) (fun v6 => pBin Tryd.prog 3 BinOp.geq (vget l2 3) v6 (fun v7 => pIf v7 (K3 AX.ret [vget l2 2, Value.bool false, vget l2 2, vget l2 3, vget l2 4, vget l2 5, vget l2 6] s4) (pIndexAddr 3 (vget l2 5) (vget l2 3) (fun v8 => pField 0 v8 (fun v9 => pLoad w0 1 v9 s4 (fun g10 => pUn UnOp.not (g10 0) (fun v11 => pIf v11 (K3 AX.ret [vget l2 2, Value.bool false, vget l2 2, vget l2 3, vget l2 4, vget l2 5, vget l2 6] s4) (pLen (vget l2 2) (fun v12 => pBin Tryd.prog 3 BinOp.gtr v12 (Value.int IntKind.i64 96) (fun v13 => pIf v13 (K3 AX.ret [vget l2 2, Value.bool false, vget l2 2, vget l2 3, vget l2 4, vget l2 5, vget l2 6] s4) (pBin Tryd.prog 3 BinOp.gtr (vget l2 4) (Value.int IntKind.i64 40) (fun v14 => pIf v14 (pIndexAddr 3 (vget l2 5) (vget l2 3) (fun v15 => pField 1 v15 (fun v16 => pLoad w0 1 v16 s4 (fun g17 => pLenS (g17 0) (fun v18 => pBin Tryd.prog 3 BinOp.neq v18 (Value.int IntKind.i64 40) (fun v19 => pIf v19 (K3 AX.ret [vget l2 2, Value.bool false, vget l2 2, vget l2 3, vget l2 4, vget l2 5, vget l2 6] s4) (pBin Tryd.prog 3 BinOp.eql (Value.int IntKind.i64 40) (Value.int IntKind.i64 0) (fun v20 => pIf v20 (K3 AX.ret [vget l2 2, Value.bool false, vget l2 2, vget l2 3, vget l2 4, vget l2 5, vget l2 6] s4) (pVal false 1 (vget l2 3) ((allOne [vget l2 3]) ∧ (pAppend w0 3 1 8 (vget l2 2) 1 [vget l2 3] s4 (fun v21 s22 => pBin Tryd.prog 3 BinOp.sub (vget l2 4) (Value.int IntKind.i64 40) (fun v23 => pIndexAddr 3 (vget l2 5) (vget l2 3) (fun v24 => pField 2 v24 (fun v25 => pLoad w0 1 v25 s22 (fun g26 => K3 AX.normal [vget l2 0, vget l2 1, v21, g26 0, v23, vget l2 5, vget l2 6] s22)))))))))))))))) (pIndexAddr 3 (vget l2 5) (vget l2 3) (fun v27 => pField 1 v27 (fun v28 => pLoad w0 1 v28 s4 (fun g29 => pLenS (g29 0) (fun v30 => pBin Tryd.prog 3 BinOp.neq v30 (vget l2 4) (fun v31 => pIf v31 (K3 AX.ret [vget l2 2, Value.bool false, vget l2 2, vget l2 3, vget l2 4, vget l2 5, vget l2 6] s4) (pBin Tryd.prog 3 BinOp.eql (vget l2 4) (Value.int IntKind.i64 0) (fun v32 => pIf v32 (K3 AX.ret [vget l2 2, Value.bool false, vget l2 2, vget l2 3, vget l2 4, vget l2 5, vget l2 6] s4) (pVal false 1 (vget l2 3) ((allOne [vget l2 3]) ∧ (pAppend w0 3 1 8 (vget l2 2) 1 [vget l2 3] s4 (fun v33 s34 => pBin Tryd.prog 3 BinOp.sub (vget l2 4) (vget l2 4) (fun v35 => pIndexAddr 3 (vget l2 5) (vget l2 3) (fun v36 => pField 2 v36 (fun v37 => pLoad w0 1 v37 s34 (fun g38 => K3 AX.normal [vget l2 0, vget l2 1, v33, g38 0, v35, vget l2 5, vget l2 6] s34))))))))))))))))))))))))))))) (K3 (AX.exit 0) [vget l2 0, vget l2 1, vget l2 2, vget l2 3, vget l2 4, vget l2 5, vget l2 6] s4))) [Value.slice Option.none 0 0, Value.bool false, Value.slice (Option.some (Addr.mk n0 0 Option.none)) 0 0, cellOf a1 1, cellOf a1 2, cellOf a0 0, cellOf a0 1] s1 (fun x39 l40 s41 => match x39 with | .normal => pBin Tryd.prog 3 BinOp.eql (vget l40 4) (Value.int IntKind.i64 0) (fun v42 => R (Value.tuple (⟨[vget l40 2, v42]⟩)) s41) | .ret => R (Value.tuple (⟨[vget l40 0, vget l40 1]⟩)) s41 | .exit i43 => (match Nat.beq i43 0 with | true => pBin Tryd.prog 3 BinOp.eql (vget l40 4) (Value.int IntKind.i64 0) (fun v44 => R (Value.tuple (⟨[vget l40 2, v44]⟩)) s41) | false => False)))))
theorem vc_spec_l32Chain_eq (w0 : World) (a0 a1 : Value) (σ : Vw) (R : Value → Vw → Prop) : vc_spec_l32Chain w0 a0 a1 σ R = den Tryd.prog w0 kp_spec_l32Chain esc_spec_l32Chain (Tryd.f82.body.getD .skip) (entry Tryd.f82.ntmps [a0, a1]) σ (retK Tryd.prog Tryd.f82.results.toList R) := by kernel_rfl
theorem ac_spec_l32Chain {w0 : World} {a0 a1 : Value} {σ : Vw} {R : Value → Vw → Prop} (h : vc_spec_l32Chain w0 a0 a1 σ R) : AC Tryd.prog w0 n_spec_l32Chain [a0, a1] σ R := by
  refine ac_rule (fn := Tryd.f82) (c := Tryd.f82.body.getD .skip) kp_spec_l32Chain esc_spec_l32Chain Tryd.func82 (by kernel_rfl) (by kernel_rfl) ?_
  rw [← vc_spec_l32Chain_eq]
  exact h

/-- laws.toPage -/
def kp_laws_toPage : Nat → Keep
  | _ => ⟨[], [], [], .done, []⟩
def esc_laws_toPage : Nat → Bool
  | _ => false
def vc_laws_toPage (w0 : World) (a0 : Value) (σ : Vw) (R : Value → Vw → Prop) : Prop :=
  pVal true 3 a0 (pVal false 1 (cellOf a0 0) (pVal false 1 (cellOf a0 1) (pVal false 1 (cellOf a0 2) (pVal true 3 (Value.agg (⟨[cellOf a0 0, cellOf a0 1, cellOf a0 2]⟩)) (R (Value.agg (⟨[cellOf a0 0, cellOf a0 1, cellOf a0 2]⟩)) σ)))))
theorem vc_laws_toPage_eq (w0 : World) (a0 : Value) (σ : Vw) (R : Value → Vw → Prop) : vc_laws_toPage w0 a0 σ R = den Tryd.prog w0 kp_laws_toPage esc_laws_toPage (Tryd.f83.body.getD .skip) (entry Tryd.f83.ntmps [a0]) σ (retK Tryd.prog Tryd.f83.results.toList R) := by kernel_rfl
theorem ac_laws_toPage {w0 : World} {a0 : Value} {σ : Vw} {R : Value → Vw → Prop} (h : vc_laws_toPage w0 a0 σ R) : AC Tryd.prog w0 n_laws_toPage [a0] σ R := by
  refine ac_rule (fn := Tryd.f83) (c := Tryd.f83.body.getD .skip) kp_laws_toPage esc_laws_toPage Tryd.func83 (by kernel_rfl) (by kernel_rfl) ?_
  rw [← vc_laws_toPage_eq]
  exact h

/-- laws.toPageName -/
def kp_laws_toPageName : Nat → Keep
  | _ => ⟨[], [], [], .done, []⟩
def esc_laws_toPageName : Nat → Bool
  | _ => false
def vc_laws_toPageName (w0 : World) (a0 : Value) (σ : Vw) (R : Value → Vw → Prop) : Prop :=
  pVal true 3 a0 (pVal false 1 (cellOf a0 0) (pVal false 1 (cellOf a0 1) (pVal false 1 (cellOf a0 2) (pVal true 3 (Value.agg (⟨[cellOf a0 0, cellOf a0 1, cellOf a0 2]⟩)) (R (Value.agg (⟨[cellOf a0 0, cellOf a0 1, cellOf a0 2]⟩)) σ)))))
theorem vc_laws_toPageName_eq (w0 : World) (a0 : Value) (σ : Vw) (R : Value → Vw → Prop) : vc_laws_toPageName w0 a0 σ R = den Tryd.prog w0 kp_laws_toPageName esc_laws_toPageName (Tryd.f84.body.getD .skip) (entry Tryd.f84.ntmps [a0]) σ (retK Tryd.prog Tryd.f84.results.toList R) := by kernel_rfl
theorem ac_laws_toPageName {w0 : World} {a0 : Value} {σ : Vw} {R : Value → Vw → Prop} (h : vc_laws_toPageName w0 a0 σ R) : AC Tryd.prog w0 n_laws_toPageName [a0] σ R := by
  refine ac_rule (fn := Tryd.f84) (c := Tryd.f84.body.getD .skip) kp_laws_toPageName esc_laws_toPageName Tryd.func84 (by kernel_rfl) (by kernel_rfl) ?_
  rw [← vc_laws_toPageName_eq]
  exact h

/-- impl.nameOk -/
def kp_impl_nameOk : Nat → Keep
  | 2 => ⟨[0, 2, 5, 6], [], [], .done, []⟩
  | _ => ⟨[], [], [], .done, []⟩
def esc_impl_nameOk : Nat → Bool
  | _ => false
def vc_impl_nameOk (w0 : World) (a0 : Value) (σ : Vw) (R : Value → Vw → Prop) : Prop :=
  pLenS a0 (fun v0 => pLoop (fun l1 K2 s3 => pBin Tryd.prog 3 BinOp.lss (vget l1 3) (vget l1 2) (fun v4 => pIf v4 (pIndexStr (vget l1 0) (vget l1 3) (fun v5 => pBin Tryd.prog 5 BinOp.lss v5 (Value.int IntKind.u8 97) (fun v6 => pIf v6 (pIndexStr (vget l1 0) (vget l1 3) (fun v7 => pBin Tryd.prog 5 BinOp.lss v7 (Value.int IntKind.u8 48) (fun v8 => pIf v8 (K2 AX.ret [vget l1 0, Value.bool false, vget l1 2, vget l1 3] s3) (pIndexStr (vget l1 0) (vget l1 3) (fun v9 => pBin Tryd.prog 5 BinOp.gtr v9 (Value.int IntKind.u8 57) (fun v10 => pIf v10 (K2 AX.ret [vget l1 0, Value.bool false, vget l1 2, vget l1 3] s3) (pBin Tryd.prog 3 BinOp.add (vget l1 3) (Value.int IntKind.i64 1) (fun v11 => K2 AX.normal [vget l1 0, vget l1 1, vget l1 2, v11] s3)))))))) (pIndexStr (vget l1 0) (vget l1 3) (fun v12 => pBin Tryd.prog 5 BinOp.gtr v12 (Value.int IntKind.u8 122) (fun v13 => pIf v13 (pIndexStr (vget l1 0) (vget l1 3) (fun v14 => pBin Tryd.prog 5 BinOp.lss v14 (Value.int IntKind.u8 48) (fun v15 => pIf v15 (K2 AX.ret [vget l1 0, Value.bool false, vget l1 2, vget l1 3] s3) (pIndexStr (vget l1 0) (vget l1 3) (fun v16 => pBin Tryd.prog 5 BinOp.gtr v16 (Value.int IntKind.u8 57) (fun v17 => pIf v17 (K2 AX.ret [vget l1 0, Value.bool false, vget l1 2, vget l1 3] s3) (pBin Tryd.prog 3 BinOp.add (vget l1 3) (Value.int IntKind.i64 1) (fun v18 => K2 AX.normal [vget l1 0, vget l1 1, vget l1 2, v18] s3)))))))) (pBin Tryd.prog 3 BinOp.add (vget l1 3) (Value.int IntKind.i64 1) (fun v19 => K2 AX.normal [vget l1 0, vget l1 1, vget l1 2, v19] s3)))))))) (K2 (AX.exit 0) [vget l1 0, vget l1 1, vget l1 2, vget l1 3] s3))) [a0, Value.bool false, v0, Value.int IntKind.i64 0] σ (fun x20 l21 s22 => match x20 with | .normal => pLenS (vget l21 0) (fun v23 => AC Tryd.prog w0 n_impl_within [v23, Value.int IntKind.i64 1, Value.int IntKind.i64 5] s22 (fun v24 s25 => R v24 s25)) | .ret => R (vget l21 1) s22 | .exit i26 => (match Nat.beq i26 0 with | true => pLenS (vget l21 0) (fun v27 => AC Tryd.prog w0 n_impl_within [v27, Value.int IntKind.i64 1, Value.int IntKind.i64 5] s22 (fun v28 s29 => R v28 s29)) | false => False)))
theorem vc_impl_nameOk_eq (w0 : World) (a0 : Value) (σ : Vw) (R : Value → Vw → Prop) : vc_impl_nameOk w0 a0 σ R = den Tryd.prog w0 kp_impl_nameOk esc_impl_nameOk (Tryd.f85.body.getD .skip) (entry Tryd.f85.ntmps [a0]) σ (retK Tryd.prog Tryd.f85.results.toList R) := by kernel_rfl
theorem ac_impl_nameOk {w0 : World} {a0 : Value} {σ : Vw} {R : Value → Vw → Prop} (h : vc_impl_nameOk w0 a0 σ R) : AC Tryd.prog w0 n_impl_nameOk [a0] σ R := by
  refine ac_rule (fn := Tryd.f85) (c := Tryd.f85.body.getD .skip) kp_impl_nameOk esc_impl_nameOk Tryd.func85 (by kernel_rfl) (by kernel_rfl) ?_
  rw [← vc_impl_nameOk_eq]
  exact h

/-- (impl.Pages).chain -/
def kp_impl_Pages_chain : Nat → Keep
  | 4 => ⟨[4, 5, 6, 7, 15, 16], [(2, 2), (3, 3)], [2, 3], .done, []⟩
  | _ => ⟨[], [], [], .done, []⟩
def esc_impl_Pages_chain : Nat → Bool
  | 10 => true
  | _ => false
def vc_impl_Pages_chain (w0 : World) (a0 a1 : Value) (σ : Vw) (R : Value → Vw → Prop) : Prop :=
  pVal true 2 a0 (pVal true 3 a1 (pNew w0 3 [] σ (fun n0 s1 => AC Tryd.prog w0 n_impl_pieces [cellOf a1 2, Value.int IntKind.i64 40] s1 (fun v2 s3 => pLoop (fun l4 K5 s6 => pBin Tryd.prog 3 BinOp.lss (vget l4 5) (vget l4 4) (fun v7 => pIf v7 (pBin Tryd.prog 3 BinOp.mul (vget l4 5) (Value.int IntKind.i64 40) (fun v8 => pBin Tryd.prog 3 BinOp.sub (vget l4 10) v8 (fun v9 => pMin (Value.int IntKind.i64 40) v9 (fun v10 => AC Tryd.prog w0 n_impl_within [vget l4 3, Value.int IntKind.i64 0, Value.int IntKind.i64 95] s6 (fun v11 s12 => pUn UnOp.not v11 (fun v13 => pIf v13 (K5 AX.ret [Value.slice Option.none 0 0, Value.bool false, vget l4 2, vget l4 3, vget l4 4, vget l4 5, vget l4 6, vget l4 7, vget l4 8, vget l4 9, vget l4 10] s12) (AC Tryd.prog w0 n_slices_Contains_int_int [vget l4 2, vget l4 3] s12 (fun v14 s15 => pIf v14 (K5 AX.ret [Value.slice Option.none 0 0, Value.bool false, vget l4 2, vget l4 3, vget l4 4, vget l4 5, vget l4 6, vget l4 7, vget l4 8, vget l4 9, vget l4 10] s15) (pIndexAddr 3 (vget l4 6) (vget l4 3) (fun v16 => pField 0 v16 (fun v17 => pLoad w0 1 v17 s15 (fun g18 => pUn UnOp.not (g18 0) (fun v19 => pIf v19 (K5 AX.ret [Value.slice Option.none 0 0, Value.bool false, vget l4 2, vget l4 3, vget l4 4, vget l4 5, vget l4 6, vget l4 7, vget l4 8, vget l4 9, vget l4 10] s15) (pIndexAddr 3 (vget l4 6) (vget l4 3) (fun v20 => pField 1 v20 (fun v21 => pLoad w0 1 v21 s15 (fun g22 => pLenS (g22 0) (fun v23 => pBin Tryd.prog 3 BinOp.neq v23 v10 (fun v24 => pIf v24 (K5 AX.ret [Value.slice Option.none 0 0, Value.bool false, vget l4 2, vget l4 3, vget l4 4, vget l4 5, vget l4 6, vget l4 7, vget l4 8, vget l4 9, vget l4 10] s15) (pVal false 1 (vget l4 3) ((allOne [vget l4 3]) ∧ (pAppend w0 3 1 8 (vget l4 2) 1 [vget l4 3] s15 (fun v25 s26 => pIndexAddr 3 (vget l4 6) (vget l4 3) (fun v27 => pField 2 v27 (fun v28 => pLoad w0 1 v28 s26 (fun g29 => pBin Tryd.prog 3 BinOp.add (vget l4 5) (Value.int IntKind.i64 1) (fun v30 => K5 AX.normal [vget l4 0, vget l4 1, v25, g29 0, vget l4 4, v30, vget l4 6, vget l4 7, vget l4 8, vget l4 9, vget l4 10] s26))))))))))))))))))))))))))) (K5 (AX.exit 0) [vget l4 0, vget l4 1, vget l4 2, vget l4 3, vget l4 4, vget l4 5, vget l4 6, vget l4 7, vget l4 8, vget l4 9, vget l4 10] s6))) [Value.slice Option.none 0 0, Value.bool false, Value.slice (Option.some (Addr.mk n0 0 Option.none)) 0 0, cellOf a1 1, v2, Value.int IntKind.i64 0, cellOf a0 0, cellOf a0 1, cellOf a1 0, cellOf a1 1, cellOf a1 2] s3 (fun x31 l32 s33 => match x31 with | .normal => pBin Tryd.prog 3 BinOp.eql (vget l32 3) (Value.int IntKind.i64 (-1)) (fun v34 => R (Value.tuple (⟨[vget l32 2, v34]⟩)) s33) | .ret => R (Value.tuple (⟨[vget l32 0, vget l32 1]⟩)) s33 | .exit i35 => (match Nat.beq i35 0 with | true => pBin Tryd.prog 3 BinOp.eql (vget l32 3) (Value.int IntKind.i64 (-1)) (fun v36 => R (Value.tuple (⟨[vget l32 2, v36]⟩)) s33) | false => False))))))
theorem vc_impl_Pages_chain_eq (w0 : World) (a0 a1 : Value) (σ : Vw) (R : Value → Vw → Prop) : vc_impl_Pages_chain w0 a0 a1 σ R = den Tryd.prog w0 kp_impl_Pages_chain esc_impl_Pages_chain (Tryd.f86.body.getD .skip) (entry Tryd.f86.ntmps [a0, a1]) σ (retK Tryd.prog Tryd.f86.results.toList R) := by kernel_rfl
theorem ac_impl_Pages_chain {w0 : World} {a0 a1 : Value} {σ : Vw} {R : Value → Vw → Prop} (h : vc_impl_Pages_chain w0 a0 a1 σ R) : AC Tryd.prog w0 n_impl_Pages_chain [a0, a1] σ R := by
  refine ac_rule (fn := Tryd.f86) (c := Tryd.f86.body.getD .skip) kp_impl_Pages_chain esc_impl_Pages_chain Tryd.func86 (by kernel_rfl) (by kernel_rfl) ?_
  rw [← vc_impl_Pages_chain_eq]
  exact h

/-- (impl.Pages).find -/
def kp_impl_Pages_find : Nat → Keep
  | _ => ⟨[], [], [], .done, []⟩
def esc_impl_Pages_find : Nat → Bool
  | 3 => true
  | _ => false
def vc_impl_Pages_find (w0 : World) (a0 a1 : Value) (σ : Vw) (R : Value → Vw → Prop) : Prop :=
  pVal true 2 a0 (pVal false 1 a1 (pNew w0 9 [a1] σ (fun n0 s1 => AC Tryd.prog w0 n_slices_IndexFunc_impl_PageName_impl_PageName ([cellOf a0 1, Value.func (Fn.func 99) ⟨[]⟩ (⟨[Value.pointer (Option.some (Addr.mk n0 0 Option.none))]⟩)]) s1 (fun v2 s3 => R v2 s3))))
theorem vc_impl_Pages_find_eq (w0 : World) (a0 a1 : Value) (σ : Vw) (R : Value → Vw → Prop) : vc_impl_Pages_find w0 a0 a1 σ R = den Tryd.prog w0 kp_impl_Pages_find esc_impl_Pages_find (Tryd.f87.body.getD .skip) (entry Tryd.f87.ntmps [a0, a1]) σ (retK Tryd.prog Tryd.f87.results.toList R) := by kernel_rfl
theorem ac_impl_Pages_find {w0 : World} {a0 a1 : Value} {σ : Vw} {R : Value → Vw → Prop} (h : vc_impl_Pages_find w0 a0 a1 σ R) : AC Tryd.prog w0 n_impl_Pages_find [a0, a1] σ R := by
  refine ac_rule (fn := Tryd.f87) (c := Tryd.f87.body.getD .skip) kp_impl_Pages_find esc_impl_Pages_find Tryd.func87 (by kernel_rfl) (by kernel_rfl) ?_
  rw [← vc_impl_Pages_find_eq]
  exact h

/-- internal/strconv.Itoa -/
def kp_internal_strconv_Itoa : Nat → Keep
  | _ => ⟨[], [], [], .done, []⟩
def esc_internal_strconv_Itoa : Nat → Bool
  | _ => false
def vc_internal_strconv_Itoa (w0 : World) (a0 : Value) (σ : Vw) (R : Value → Vw → Prop) : Prop :=
  AC Tryd.prog w0 n_internal_strconv_FormatInt [a0, Value.int IntKind.i64 10] σ (fun v0 s1 => R v0 s1)
theorem vc_internal_strconv_Itoa_eq (w0 : World) (a0 : Value) (σ : Vw) (R : Value → Vw → Prop) : vc_internal_strconv_Itoa w0 a0 σ R = den Tryd.prog w0 kp_internal_strconv_Itoa esc_internal_strconv_Itoa (Tryd.f89.body.getD .skip) (entry Tryd.f89.ntmps [a0]) σ (retK Tryd.prog Tryd.f89.results.toList R) := by kernel_rfl
theorem ac_internal_strconv_Itoa {w0 : World} {a0 : Value} {σ : Vw} {R : Value → Vw → Prop} (h : vc_internal_strconv_Itoa w0 a0 σ R) : AC Tryd.prog w0 n_internal_strconv_Itoa [a0] σ R := by
  refine ac_rule (fn := Tryd.f89) (c := Tryd.f89.body.getD .skip) kp_internal_strconv_Itoa esc_internal_strconv_Itoa Tryd.func89 (by kernel_rfl) (by kernel_rfl) ?_
  rw [← vc_internal_strconv_Itoa_eq]
  exact h

/-- laws.eqPage -/
def kp_laws_eqPage : Nat → Keep
  | _ => ⟨[], [], [], .done, []⟩
def esc_laws_eqPage : Nat → Bool
  | _ => false
def vc_laws_eqPage (w0 : World) (a0 a1 : Value) (σ : Vw) (R : Value → Vw → Prop) : Prop :=
  pVal true 3 a0 (pVal true 3 a1 (pBin Tryd.prog 4 BinOp.neq (cellOf a0 0) (cellOf a1 0) (fun v0 => pIf v0 (R (Value.bool false) σ) (pBin Tryd.prog 9 BinOp.neq (cellOf a0 1) (cellOf a1 1) (fun v1 => pIf v1 (R (Value.bool false) σ) (pBin Tryd.prog 3 BinOp.neq (cellOf a0 2) (cellOf a1 2) (fun v2 => pIf v2 (R (Value.bool false) σ) (R (Value.bool true) σ))))))))
theorem vc_laws_eqPage_eq (w0 : World) (a0 a1 : Value) (σ : Vw) (R : Value → Vw → Prop) : vc_laws_eqPage w0 a0 a1 σ R = den Tryd.prog w0 kp_laws_eqPage esc_laws_eqPage (Tryd.f90.body.getD .skip) (entry Tryd.f90.ntmps [a0, a1]) σ (retK Tryd.prog Tryd.f90.results.toList R) := by kernel_rfl
theorem ac_laws_eqPage {w0 : World} {a0 a1 : Value} {σ : Vw} {R : Value → Vw → Prop} (h : vc_laws_eqPage w0 a0 a1 σ R) : AC Tryd.prog w0 n_laws_eqPage [a0, a1] σ R := by
  refine ac_rule (fn := Tryd.f90) (c := Tryd.f90.body.getD .skip) kp_laws_eqPage esc_laws_eqPage Tryd.func90 (by kernel_rfl) (by kernel_rfl) ?_
  rw [← vc_laws_eqPage_eq]
  exact h

/-- laws.eqPageName -/
def kp_laws_eqPageName : Nat → Keep
  | _ => ⟨[], [], [], .done, []⟩
def esc_laws_eqPageName : Nat → Bool
  | _ => false
def vc_laws_eqPageName (w0 : World) (a0 a1 : Value) (σ : Vw) (R : Value → Vw → Prop) : Prop :=
  pVal true 3 a0 (pVal true 3 a1 (pBin Tryd.prog 9 BinOp.neq (cellOf a0 0) (cellOf a1 0) (fun v0 => pIf v0 (R (Value.bool false) σ) (pBin Tryd.prog 3 BinOp.neq (cellOf a0 1) (cellOf a1 1) (fun v1 => pIf v1 (R (Value.bool false) σ) (pBin Tryd.prog 3 BinOp.neq (cellOf a0 2) (cellOf a1 2) (fun v2 => pIf v2 (R (Value.bool false) σ) (R (Value.bool true) σ))))))))
theorem vc_laws_eqPageName_eq (w0 : World) (a0 a1 : Value) (σ : Vw) (R : Value → Vw → Prop) : vc_laws_eqPageName w0 a0 a1 σ R = den Tryd.prog w0 kp_laws_eqPageName esc_laws_eqPageName (Tryd.f91.body.getD .skip) (entry Tryd.f91.ntmps [a0, a1]) σ (retK Tryd.prog Tryd.f91.results.toList R) := by kernel_rfl
theorem ac_laws_eqPageName {w0 : World} {a0 a1 : Value} {σ : Vw} {R : Value → Vw → Prop} (h : vc_laws_eqPageName w0 a0 a1 σ R) : AC Tryd.prog w0 n_laws_eqPageName [a0, a1] σ R := by
  refine ac_rule (fn := Tryd.f91) (c := Tryd.f91.body.getD .skip) kp_laws_eqPageName esc_laws_eqPageName Tryd.func91 (by kernel_rfl) (by kernel_rfl) ?_
  rw [← vc_laws_eqPageName_eq]
  exact h

/-- spec.StoreOpen -/
def kp_spec_StoreOpen : Nat → Keep
  | 10 => ⟨[], [], [], .step 0 (.step 1 (.step 3 (.step 2 (.step 4 (.step 5 (.step 6 (.step 7 (.step 8 (.step 9 (.done)))))))))), [(2, [1]), (4, [0, 1, 2, 3]), (5, [0, 1, 2, 3, 4]), (6, [0, 1, 2, 3, 4, 5]), (7, [0, 1, 2, 3, 4, 5]), (8, [0, 1, 2, 3, 4, 5, 6]), (9, [0, 1, 2, 3, 4, 5, 6, 7, 8])]⟩
  | 14 => ⟨[3, 4], [(1, 1), (2, 4), (10, 4)], [1, 2, 10], .done, []⟩
  | _ => ⟨[], [], [], .done, []⟩
def esc_spec_StoreOpen : Nat → Bool
  | _ => false
def vc_spec_StoreOpen (w0 : World) (a0 : Value) (σ : Vw) (R : Value → Vw → Prop) : Prop :=
  pVal true 1 a0 (AC Tryd.prog w0 n_spec_DiskOk ([Value.agg (⟨[cellOf a0 0]⟩)]) σ (fun v0 s1 => pUn UnOp.not v0 (fun v2 => pIf v2 (pVal true 4 (Value.agg (⟨[Value.int IntKind.i64 0, Value.string ({ data := #[] }), Value.slice Option.none 0 0, Value.int IntKind.i64 0]⟩)) (R (Value.tuple (⟨[Value.agg (⟨[Value.int IntKind.i64 0, Value.string ({ data := #[] }), Value.slice Option.none 0 0, Value.int IntKind.i64 0]⟩), Value.bool false]⟩)) s1)) (AC Tryd.prog w0 n_spec_l22Found ([Value.agg (⟨[cellOf a0 0]⟩), Value.int IntKind.i64 0]) s1 (fun v3 s4 => pExtract v3 0 (fun v5 => pExtract v3 1 (fun v6 => AC Tryd.prog w0 n_spec_l22Found ([Value.agg (⟨[cellOf a0 0]⟩), Value.int IntKind.i64 1]) s4 (fun v7 s8 => pExtract v7 0 (fun v9 => pExtract v7 1 (fun v10 => pBin Tryd.prog 3 BinOp.gtr v9 v5 (fun v11 => pIf v11 (pBin Tryd.prog 3 BinOp.eql v9 (Value.int IntKind.i64 0) (fun v12 => pIf v12 (pVal true 4 (Value.agg (⟨[Value.int IntKind.i64 0, Value.string ({ data := #[] }), Value.slice Option.none 0 0, Value.int IntKind.i64 0]⟩)) (R (Value.tuple (⟨[Value.agg (⟨[Value.int IntKind.i64 0, Value.string ({ data := #[] }), Value.slice Option.none 0 0, Value.int IntKind.i64 0]⟩), Value.bool false]⟩)) s8)) (AC Tryd.prog w0 n_spec_l22Area [v9] s8 (fun v13 s14 => AC Tryd.prog w0 n_spec_l22Text ([Value.agg (⟨[cellOf a0 0]⟩), v13, Value.int IntKind.i64 90, v10, Value.int IntKind.i64 0]) s14 (fun v15 s16 => pExtract v15 0 (fun v17 => pExtract v15 1 (fun v18 => pUn UnOp.not v18 (fun v19 => pIf v19 (pVal true 4 (Value.agg (⟨[Value.int IntKind.i64 0, Value.string ({ data := #[] }), Value.slice Option.none 0 0, Value.int IntKind.i64 0]⟩)) (R (Value.tuple (⟨[Value.agg (⟨[Value.int IntKind.i64 0, Value.string ({ data := #[] }), Value.slice Option.none 0 0, Value.int IntKind.i64 0]⟩), Value.bool false]⟩)) s16)) (pVal false 1 v9 (pVal false 1 v17 (pVal true 4 (Value.agg (⟨[v9, v17, Value.slice Option.none 0 0, Value.int IntKind.i64 0]⟩)) (pLoop (fun l20 K21 s22 => pLen (vget l20 9) (fun v23 => AC Tryd.prog w0 n_spec_l22Group ([Value.agg (⟨[vget l20 2]⟩), vget l20 1, v23, vget l20 10]) s22 (fun v24 s25 => pExtract v24 0 (fun v26 => pExtract v24 1 (fun v27 => pBin Tryd.prog 3 BinOp.eql v27 (Value.int IntKind.i64 0) (fun v28 => pIf v28 (AC Tryd.prog w0 n_spec_l22Clean ([Value.agg (⟨[vget l20 2]⟩), Value.agg (⟨[vget l20 7, vget l20 8, vget l20 9, vget l20 10]⟩)]) s25 (fun v29 s30 => pExtract v29 0 (fun v31 => pExtract v29 1 (fun v32 => pVal true 4 v31 (K21 AX.ret [v32, vget l20 1, vget l20 2, cellOf v31 0, cellOf v31 1, cellOf v31 2, cellOf v31 3, vget l20 7, vget l20 8, vget l20 9, vget l20 10] s30))))) (pVal false 1 v26 ((allOne [v26]) ∧ (pAppend w0 9 1 16 (vget l20 9) 1 [v26] s25 (fun v33 s34 => pVal false 1 v33 (pBin Tryd.prog 3 BinOp.add (vget l20 10) v27 (fun v35 => pVal false 1 v35 (K21 AX.normal [vget l20 0, vget l20 1, vget l20 2, vget l20 3, vget l20 4, vget l20 5, vget l20 6, vget l20 7, vget l20 8, v33, v35] s34))))))))))))) ([Value.bool false, v9, cellOf a0 0, Value.int IntKind.i64 0, Value.string ({ data := #[] }), Value.slice Option.none 0 0, Value.int IntKind.i64 0, v9, v17, Value.slice Option.none 0 0, Value.int IntKind.i64 0]) s16 (fun x36 l37 s38 => match x36 with | .normal => R (Value.tuple (⟨[Value.agg (⟨[vget l37 3, vget l37 4, vget l37 5, vget l37 6]⟩), vget l37 0]⟩)) s38 | .ret => R (Value.tuple (⟨[Value.agg (⟨[vget l37 3, vget l37 4, vget l37 5, vget l37 6]⟩), vget l37 0]⟩)) s38 | .exit i39 => (match Nat.beq i39 0 with | true => R (Value.tuple (⟨[Value.agg (⟨[vget l37 3, vget l37 4, vget l37 5, vget l37 6]⟩), vget l37 0]⟩)) s38 | false => False)))))))))))))) (pBin Tryd.prog 3 BinOp.eql v5 (Value.int IntKind.i64 0) (fun v40 => pIf v40 (pVal true 4 (Value.agg (⟨[Value.int IntKind.i64 0, Value.string ({ data := #[] }), Value.slice Option.none 0 0, Value.int IntKind.i64 0]⟩)) (R (Value.tuple (⟨[Value.agg (⟨[Value.int IntKind.i64 0, Value.string ({ data := #[] }), Value.slice Option.none 0 0, Value.int IntKind.i64 0]⟩), Value.bool false]⟩)) s8)) (AC Tryd.prog w0 n_spec_l22Area [v5] s8 (fun v41 s42 => AC Tryd.prog w0 n_spec_l22Text ([Value.agg (⟨[cellOf a0 0]⟩), v41, Value.int IntKind.i64 90, v6, Value.int IntKind.i64 0]) s42 (fun v43 s44 => pExtract v43 0 (fun v45 => pExtract v43 1 (fun v46 => pUn UnOp.not v46 (fun v47 => pIf v47 (pVal true 4 (Value.agg (⟨[Value.int IntKind.i64 0, Value.string ({ data := #[] }), Value.slice Option.none 0 0, Value.int IntKind.i64 0]⟩)) (R (Value.tuple (⟨[Value.agg (⟨[Value.int IntKind.i64 0, Value.string ({ data := #[] }), Value.slice Option.none 0 0, Value.int IntKind.i64 0]⟩), Value.bool false]⟩)) s44)) (pVal false 1 v5 (pVal false 1 v45 (pVal true 4 (Value.agg (⟨[v5, v45, Value.slice Option.none 0 0, Value.int IntKind.i64 0]⟩)) (pLoop (fun l48 K49 s50 => pLen (vget l48 9) (fun v51 => AC Tryd.prog w0 n_spec_l22Group ([Value.agg (⟨[vget l48 2]⟩), vget l48 1, v51, vget l48 10]) s50 (fun v52 s53 => pExtract v52 0 (fun v54 => pExtract v52 1 (fun v55 => pBin Tryd.prog 3 BinOp.eql v55 (Value.int IntKind.i64 0) (fun v56 => pIf v56 (AC Tryd.prog w0 n_spec_l22Clean ([Value.agg (⟨[vget l48 2]⟩), Value.agg (⟨[vget l48 7, vget l48 8, vget l48 9, vget l48 10]⟩)]) s53 (fun v57 s58 => pExtract v57 0 (fun v59 => pExtract v57 1 (fun v60 => pVal true 4 v59 (K49 AX.ret [v60, vget l48 1, vget l48 2, cellOf v59 0, cellOf v59 1, cellOf v59 2, cellOf v59 3, vget l48 7, vget l48 8, vget l48 9, vget l48 10] s58))))) (pVal false 1 v54 ((allOne [v54]) ∧ (pAppend w0 9 1 16 (vget l48 9) 1 [v54] s53 (fun v61 s62 => pVal false 1 v61 (pBin Tryd.prog 3 BinOp.add (vget l48 10) v55 (fun v63 => pVal false 1 v63 (K49 AX.normal [vget l48 0, vget l48 1, vget l48 2, vget l48 3, vget l48 4, vget l48 5, vget l48 6, vget l48 7, vget l48 8, v61, v63] s62))))))))))))) ([Value.bool false, v5, cellOf a0 0, Value.int IntKind.i64 0, Value.string ({ data := #[] }), Value.slice Option.none 0 0, Value.int IntKind.i64 0, v5, v45, Value.slice Option.none 0 0, Value.int IntKind.i64 0]) s44 (fun x64 l65 s66 => match x64 with | .normal => R (Value.tuple (⟨[Value.agg (⟨[vget l65 3, vget l65 4, vget l65 5, vget l65 6]⟩), vget l65 0]⟩)) s66 | .ret => R (Value.tuple (⟨[Value.agg (⟨[vget l65 3, vget l65 4, vget l65 5, vget l65 6]⟩), vget l65 0]⟩)) s66 | .exit i67 => (match Nat.beq i67 0 with | true => R (Value.tuple (⟨[Value.agg (⟨[vget l65 3, vget l65 4, vget l65 5, vget l65 6]⟩), vget l65 0]⟩)) s66 | false => False)))))))))))))))))))))))))
theorem vc_spec_StoreOpen_eq (w0 : World) (a0 : Value) (σ : Vw) (R : Value → Vw → Prop) : vc_spec_StoreOpen w0 a0 σ R = den Tryd.prog w0 kp_spec_StoreOpen esc_spec_StoreOpen (Tryd.f92.body.getD .skip) (entry Tryd.f92.ntmps [a0]) σ (retK Tryd.prog Tryd.f92.results.toList R) := by kernel_rfl
theorem ac_spec_StoreOpen {w0 : World} {a0 : Value} {σ : Vw} {R : Value → Vw → Prop} (h : vc_spec_StoreOpen w0 a0 σ R) : AC Tryd.prog w0 n_spec_StoreOpen [a0] σ R := by
  refine ac_rule (fn := Tryd.f92) (c := Tryd.f92.body.getD .skip) kp_spec_StoreOpen esc_spec_StoreOpen Tryd.func92 (by kernel_rfl) (by kernel_rfl) ?_
  rw [← vc_spec_StoreOpen_eq]
  exact h

/-- spec.l24Disk -/
def kp_spec_l24Disk : Nat → Keep
  | _ => ⟨[], [], [], .done, []⟩
def esc_spec_l24Disk : Nat → Bool
  | _ => false
def vc_spec_l24Disk (w0 : World) (a0 : Value) (σ : Vw) (R : Value → Vw → Prop) : Prop :=
  AC Tryd.prog w0 n_spec_l24New [a0] σ (fun v0 s1 => AC Tryd.prog w0 n_spec_l24Steps [a0, Value.int IntKind.i64 14] s1 (fun v2 s3 => AC Tryd.prog w0 n_spec_StorePlay [v0, v2] s3 (fun v4 s5 => pExtract v4 0 (fun v6 => pExtract v4 1 (fun v7 => pExtract v4 2 (fun v8 => pVal true 1 v6 (pVal true 4 v7 (pVal true 1 (Value.agg (⟨[cellOf v6 0]⟩)) (R (Value.agg (⟨[cellOf v6 0]⟩)) s5)))))))))
theorem vc_spec_l24Disk_eq (w0 : World) (a0 : Value) (σ : Vw) (R : Value → Vw → Prop) : vc_spec_l24Disk w0 a0 σ R = den Tryd.prog w0 kp_spec_l24Disk esc_spec_l24Disk (Tryd.f93.body.getD .skip) (entry Tryd.f93.ntmps [a0]) σ (retK Tryd.prog Tryd.f93.results.toList R) := by kernel_rfl
theorem ac_spec_l24Disk {w0 : World} {a0 : Value} {σ : Vw} {R : Value → Vw → Prop} (h : vc_spec_l24Disk w0 a0 σ R) : AC Tryd.prog w0 n_spec_l24Disk [a0] σ R := by
  refine ac_rule (fn := Tryd.f93) (c := Tryd.f93.body.getD .skip) kp_spec_l24Disk esc_spec_l24Disk Tryd.func93 (by kernel_rfl) (by kernel_rfl) ?_
  rw [← vc_spec_l24Disk_eq]
  exact h

/-- (*spec.l1Rd).pick -/
def kp_p_spec_l1Rd_pick : Nat → Keep
  | 7 => ⟨[], [], [], .step 0 (.step 1 (.step 2 (.step 3 (.step 4 (.step 5 (.step 6 (.step 7 (.step 8 (.step 9 (.step 10 (.step 11 (.step 12 (.step 13 (.step 14 (.step 15 (.step 16 (.step 17 (.step 18 (.step 19 (.step 20 (.step 21 (.step 22 (.step 23 (.step 24 (.step 25 (.step 26 (.step 27 (.step 28 (.step 29 (.step 30 (.step 31 (.step 32 (.step 33 (.step 34 (.step 35 (.step 36 (.step 37 (.step 38 (.step 39 (.step 40 (.step 41 (.step 42 (.step 43 (.step 44 (.step 45 (.done)))))))))))))))))))))))))))))))))))))))))))))), [(1, [0]), (2, [0, 1]), (3, [0, 1, 2]), (6, [5]), (7, [5, 6]), (8, [5, 6, 7]), (9, [5, 6, 7, 8]), (10, [4, 5, 6, 7, 8, 9]), (11, [0, 1, 2, 3, 4, 5, 6, 7, 8, 9, 10]), (12, [0, 1, 2, 3, 4, 5, 6, 7, 8, 9, 10, 11]), (13, [0, 1, 2, 3, 4, 5, 6, 7, 8, 9, 10, 11, 12]), (14, [0, 1, 2, 3, 4, 5, 6, 7, 8, 9, 10, 11, 12, 13]), (16, [15]), (17, [15, 16]), (18, [15, 16, 17]), (20, [19]), (21, [19, 20]), (23, [22]), (24, [22, 23]), (25, [22, 23, 24]), (26, [22, 23, 24, 25]), (27, [19, 20, 21, 22, 23, 24, 25, 26]), (28, [15, 16, 17, 18, 19, 20, 21, 22, 23, 24, 25, 26, 27]), (29, [15, 16, 17, 18, 19, 20, 21, 22, 23, 24, 25, 26, 27, 28]), (30, [15, 16, 17, 18, 19, 20, 21, 22, 23, 24, 25, 26, 27, 28, 29]), (31, [15, 16, 17, 18, 19, 20, 21, 22, 23, 24, 25, 26, 27, 28, 29, 30]), (32, [0, 1, 2, 3, 4, 5, 6, 7, 8, 9, 10, 11, 12, 13, 14, 15, 16, 17, 18, 19, 20, 21, 22, 23, 24, 25, 26, 27, 28, 29, 30, 31]), (34, [33]), (35, [0, 1, 2, 3, 4, 5, 6, 7, 8, 9, 10, 11, 12, 13, 14, 15, 16, 17, 18, 19, 20, 21, 22, 23, 24, 25, 26, 27, 28, 29, 30, 31, 32, 33, 34]), (38, [37]), (39, [37, 38]), (40, [37, 38, 39]), (41, [37, 38, 39, 40]), (42, [36, 37, 38, 39, 40, 41]), (43, [36, 37, 38, 39, 40, 41, 42]), (44, [0, 1, 2, 3, 4, 5, 6, 7, 8, 9, 10, 11, 12, 13, 14, 15, 16, 17, 18, 19, 20, 21, 22, 23, 24, 25, 26, 27, 28, 29, 30, 31, 32, 33, 34, 35, 36, 37, 38, 39, 40, 41, 42, 43]), (45, [0, 1, 2, 3, 4, 5, 6, 7, 8, 9, 10, 11, 12, 13, 14, 15, 16, 17, 18, 19, 20, 21, 22, 23, 24, 25, 26, 27, 28, 29, 30, 31, 32, 33, 34, 35, 36, 37, 38, 39, 40, 41, 42, 43, 44])]⟩
  | _ => ⟨[], [], [], .done, []⟩
def esc_p_spec_l1Rd_pick : Nat → Bool
  | _ => false
def vc_p_spec_l1Rd_pick (w0 : World) (a0 a1 : Value) (σ : Vw) (R : Value → Vw → Prop) : Prop :=
  pNil a0 (pField 1 a0 (fun v0 => pLoad w0 1 v0 σ (fun g1 => pBin Tryd.prog 3 BinOp.add (g1 0) (Value.int IntKind.i64 1) (fun v2 => pNil a0 (pField 1 a0 (fun v3 => pVal false 1 v2 (pStore v3 [v2] σ (fun s4 => pBin Tryd.prog 3 BinOp.lss a1 (Value.int IntKind.i64 1) (fun v5 => pIf v5 (R (Value.int IntKind.i64 0) s4) (pNil a0 (pField 0 a0 (fun v6 => pLoad w0 1 v6 s4 (fun g7 => pLen (g7 0) (fun v8 => pBin Tryd.prog 3 BinOp.eql v8 (Value.int IntKind.i64 0) (fun v9 => pIf v9 (R (Value.int IntKind.i64 0) s4) (pNil a0 (pField 1 a0 (fun v10 => pLoad w0 1 v10 s4 (fun g11 => pBin Tryd.prog 3 BinOp.sub (g11 0) (Value.int IntKind.i64 1) (fun v12 => pNil a0 (pField 0 a0 (fun v13 => pLoad w0 1 v13 s4 (fun g14 => pLen (g14 0) (fun v15 => pBin Tryd.prog 3 BinOp.lss v12 v15 (fun v16 => pIf v16 (pNil a0 (pField 0 a0 (fun v17 => pLoad w0 1 v17 s4 (fun g18 => pIndexAddr 1 (g18 0) v12 (fun v19 => pLoad w0 1 v19 s4 (fun g20 => pConvInt IntKind.i64 (g20 0) (fun v21 => pBin Tryd.prog 3 BinOp.rem v21 a1 (fun v22 => R v22 s4)))))))) (pNil a0 (pField 0 a0 (fun v23 => pLoad w0 1 v23 s4 (fun g24 => pNil a0 (pField 0 a0 (fun v25 => pLoad w0 1 v25 s4 (fun g26 => pLen (g26 0) (fun v27 => pBin Tryd.prog 3 BinOp.rem v12 v27 (fun v28 => pIndexAddr 1 (g24 0) v28 (fun v29 => pLoad w0 1 v29 s4 (fun g30 => pConvInt IntKind.i64 (g30 0) (fun v31 => pBin Tryd.prog 3 BinOp.mul v31 (Value.int IntKind.i64 131) (fun v32 => pNil a0 (pField 0 a0 (fun v33 => pLoad w0 1 v33 s4 (fun g34 => pBin Tryd.prog 3 BinOp.mul v12 (Value.int IntKind.i64 7) (fun v35 => pBin Tryd.prog 3 BinOp.add v35 (Value.int IntKind.i64 3) (fun v36 => pNil a0 (pField 0 a0 (fun v37 => pLoad w0 1 v37 s4 (fun g38 => pLen (g38 0) (fun v39 => pBin Tryd.prog 3 BinOp.rem v36 v39 (fun v40 => pIndexAddr 1 (g34 0) v40 (fun v41 => pLoad w0 1 v41 s4 (fun g42 => pConvInt IntKind.i64 (g42 0) (fun v43 => pBin Tryd.prog 3 BinOp.mul v43 (Value.int IntKind.i64 1117) (fun v44 => pBin Tryd.prog 3 BinOp.add v32 v44 (fun v45 => pBin Tryd.prog 3 BinOp.mul v12 (Value.int IntKind.i64 29) (fun v46 => pBin Tryd.prog 3 BinOp.add v45 v46 (fun v47 => pNil a0 (pField 0 a0 (fun v48 => pLoad w0 1 v48 s4 (fun g49 => pLen (g49 0) (fun v50 => pBin Tryd.prog 3 BinOp.quo v12 v50 (fun v51 => pBin Tryd.prog 3 BinOp.mul v51 (Value.int IntKind.i64 53) (fun v52 => pBin Tryd.prog 3 BinOp.add v47 v52 (fun v53 => pBin Tryd.prog 3 BinOp.quo v53 (Value.int IntKind.i64 64) (fun v54 => pBin Tryd.prog 3 BinOp.xor v53 v54 (fun v55 => pBin Tryd.prog 3 BinOp.rem v55 a1 (fun v56 => R v56 s4)))))))))))))))))))))))))))))))))))))))))))))))))))))))))))))))))
theorem vc_p_spec_l1Rd_pick_eq (w0 : World) (a0 a1 : Value) (σ : Vw) (R : Value → Vw → Prop) : vc_p_spec_l1Rd_pick w0 a0 a1 σ R = den Tryd.prog w0 kp_p_spec_l1Rd_pick esc_p_spec_l1Rd_pick (Tryd.f94.body.getD .skip) (entry Tryd.f94.ntmps [a0, a1]) σ (retK Tryd.prog Tryd.f94.results.toList R) := by kernel_rfl
theorem ac_p_spec_l1Rd_pick {w0 : World} {a0 a1 : Value} {σ : Vw} {R : Value → Vw → Prop} (h : vc_p_spec_l1Rd_pick w0 a0 a1 σ R) : AC Tryd.prog w0 n_p_spec_l1Rd_pick [a0, a1] σ R := by
  refine ac_rule (fn := Tryd.f94) (c := Tryd.f94.body.getD .skip) kp_p_spec_l1Rd_pick esc_p_spec_l1Rd_pick Tryd.func94 (by kernel_rfl) (by kernel_rfl) ?_
  rw [← vc_p_spec_l1Rd_pick_eq]
  exact h

/-- spec.l1Many -/
def kp_spec_l1Many : Nat → Keep
  | 2 => ⟨[0, 1, 5], [], [], .done, []⟩
  | _ => ⟨[], [], [], .done, []⟩
def esc_spec_l1Many : Nat → Bool
  | _ => false
def vc_spec_l1Many (w0 : World) (a0 a1 : Value) (σ : Vw) (R : Value → Vw → Prop) : Prop :=
  pLoop (fun l0 K1 s2 => pBin Tryd.prog 3 BinOp.gtr (vget l0 1) (Value.int IntKind.i64 0) (fun v3 => pIf v3 (pBin Tryd.prog 3 BinOp.rem (vget l0 1) (Value.int IntKind.i64 2) (fun v4 => pBin Tryd.prog 3 BinOp.eql v4 (Value.int IntKind.i64 1) (fun v5 => pIf v5 (pBin Tryd.prog 9 BinOp.add (vget l0 2) (vget l0 0) (fun v6 => pBin Tryd.prog 9 BinOp.add (vget l0 0) (vget l0 0) (fun v7 => pBin Tryd.prog 3 BinOp.quo (vget l0 1) (Value.int IntKind.i64 2) (fun v8 => K1 AX.normal [v7, v8, v6] s2)))) (pBin Tryd.prog 9 BinOp.add (vget l0 0) (vget l0 0) (fun v9 => pBin Tryd.prog 3 BinOp.quo (vget l0 1) (Value.int IntKind.i64 2) (fun v10 => K1 AX.normal [v9, v10, vget l0 2] s2)))))) (K1 (AX.exit 0) [vget l0 0, vget l0 1, vget l0 2] s2))) ([a0, a1, Value.string ({ data := #[] })]) σ (fun x11 l12 s13 => match x11 with | .normal => R (vget l12 2) s13 | .ret => False | .exit i14 => (match Nat.beq i14 0 with | true => R (vget l12 2) s13 | false => False))
theorem vc_spec_l1Many_eq (w0 : World) (a0 a1 : Value) (σ : Vw) (R : Value → Vw → Prop) : vc_spec_l1Many w0 a0 a1 σ R = den Tryd.prog w0 kp_spec_l1Many esc_spec_l1Many (Tryd.f95.body.getD .skip) (entry Tryd.f95.ntmps [a0, a1]) σ (retK Tryd.prog Tryd.f95.results.toList R) := by kernel_rfl
theorem ac_spec_l1Many {w0 : World} {a0 a1 : Value} {σ : Vw} {R : Value → Vw → Prop} (h : vc_spec_l1Many w0 a0 a1 σ R) : AC Tryd.prog w0 n_spec_l1Many [a0, a1] σ R := by
  refine ac_rule (fn := Tryd.f95) (c := Tryd.f95.body.getD .skip) kp_spec_l1Many esc_spec_l1Many Tryd.func95 (by kernel_rfl) (by kernel_rfl) ?_
  rw [← vc_spec_l1Many_eq]
  exact h

/-- (*spec.l1Rd).of -/
def kp_p_spec_l1Rd_of : Nat → Keep
  | _ => ⟨[], [], [], .done, []⟩
def esc_p_spec_l1Rd_of : Nat → Bool
  | _ => false
def vc_p_spec_l1Rd_of (w0 : World) (a0 a1 : Value) (σ : Vw) (R : Value → Vw → Prop) : Prop :=
  pLen a1 (fun v0 => AC Tryd.prog w0 n_p_spec_l1Rd_pick [a0, v0] σ (fun v1 s2 => pIndexAddr 1 a1 v1 (fun v3 => pLoad w0 1 v3 s2 (fun g4 => R (g4 0) s2))))
theorem vc_p_spec_l1Rd_of_eq (w0 : World) (a0 a1 : Value) (σ : Vw) (R : Value → Vw → Prop) : vc_p_spec_l1Rd_of w0 a0 a1 σ R = den Tryd.prog w0 kp_p_spec_l1Rd_of esc_p_spec_l1Rd_of (Tryd.f96.body.getD .skip) (entry Tryd.f96.ntmps [a0, a1]) σ (retK Tryd.prog Tryd.f96.results.toList R) := by kernel_rfl
theorem ac_p_spec_l1Rd_of {w0 : World} {a0 a1 : Value} {σ : Vw} {R : Value → Vw → Prop} (h : vc_p_spec_l1Rd_of w0 a0 a1 σ R) : AC Tryd.prog w0 n_p_spec_l1Rd_of [a0, a1] σ R := by
  refine ac_rule (fn := Tryd.f96) (c := Tryd.f96.body.getD .skip) kp_p_spec_l1Rd_of esc_p_spec_l1Rd_of Tryd.func96 (by kernel_rfl) (by kernel_rfl) ?_
  rw [← vc_p_spec_l1Rd_of_eq]
  exact h

/-- slices.Contains[[]int,int] -/
def kp_slices_Contains_int_int : Nat → Keep
  | _ => ⟨[], [], [], .done, []⟩
def esc_slices_Contains_int_int : Nat → Bool
  | _ => false
def vc_slices_Contains_int_int (w0 : World) (a0 a1 : Value) (σ : Vw) (R : Value → Vw → Prop) : Prop :=
  AC Tryd.prog w0 n_slices_Index_int_int [a0, a1] σ (fun v0 s1 => pBin Tryd.prog 3 BinOp.geq v0 (Value.int IntKind.i64 0) (fun v2 => R v2 s1))
theorem vc_slices_Contains_int_int_eq (w0 : World) (a0 a1 : Value) (σ : Vw) (R : Value → Vw → Prop) : vc_slices_Contains_int_int w0 a0 a1 σ R = den Tryd.prog w0 kp_slices_Contains_int_int esc_slices_Contains_int_int (Tryd.f97.body.getD .skip) (entry Tryd.f97.ntmps [a0, a1]) σ (retK Tryd.prog Tryd.f97.results.toList R) := by kernel_rfl
theorem ac_slices_Contains_int_int {w0 : World} {a0 a1 : Value} {σ : Vw} {R : Value → Vw → Prop} (h : vc_slices_Contains_int_int w0 a0 a1 σ R) : AC Tryd.prog w0 n_slices_Contains_int_int [a0, a1] σ R := by
  refine ac_rule (fn := Tryd.f97) (c := Tryd.f97.body.getD .skip) kp_slices_Contains_int_int esc_slices_Contains_int_int Tryd.func97 (by kernel_rfl) (by kernel_rfl) ?_
  rw [← vc_slices_Contains_int_int_eq]
  exact h

/-- slices.IndexFunc[[]impl.PageName,impl.PageName] -/
def kp_slices_IndexFunc_impl_PageName_impl_PageName : Nat → Keep
  | 2 => ⟨[0, 1, 4, 7, 8], [], [], .done, []⟩
  | _ => ⟨[], [], [], .done, []⟩
def esc_slices_IndexFunc_impl_PageName_impl_PageName : Nat → Bool
  | _ => false
def vc_slices_IndexFunc_impl_PageName_impl_PageName (w0 : World) (a0 a1 : Value) (σ : Vw) (R : Value → Vw → Prop) : Prop :=
  pLen a0 (fun v0 => pLoop (fun l1 K2 s3 => pBin Tryd.prog 3 BinOp.lss (vget l1 4) (vget l1 3) (fun v4 => pIf v4 (pIndexAddr 3 (vget l1 0) (vget l1 4) (fun v5 => pLoad w0 3 v5 s3 (fun g6 => pCallV (fun n7 l8 s9 K10 => AC Tryd.prog w0 n7 l8 s9 K10) (vget l1 1) ([Value.agg (⟨[g6 0, g6 1, g6 2]⟩)]) s3 (fun v11 s12 => pIf v11 (K2 AX.ret [vget l1 0, vget l1 1, vget l1 4, vget l1 3, vget l1 4] s12) (pBin Tryd.prog 3 BinOp.add (vget l1 4) (Value.int IntKind.i64 1) (fun v13 => K2 AX.normal [vget l1 0, vget l1 1, vget l1 2, vget l1 3, v13] s12)))))) (K2 (AX.exit 0) [vget l1 0, vget l1 1, vget l1 2, vget l1 3, vget l1 4] s3))) [a0, a1, Value.int IntKind.i64 0, v0, Value.int IntKind.i64 0] σ (fun x14 l15 s16 => match x14 with | .normal => R (Value.int IntKind.i64 (-1)) s16 | .ret => R (vget l15 2) s16 | .exit i17 => (match Nat.beq i17 0 with | true => R (Value.int IntKind.i64 (-1)) s16 | false => False)))
theorem vc_slices_IndexFunc_impl_PageName_impl_PageName_eq (w0 : World) (a0 a1 : Value) (σ : Vw) (R : Value → Vw → Prop) : vc_slices_IndexFunc_impl_PageName_impl_PageName w0 a0 a1 σ R = den Tryd.prog w0 kp_slices_IndexFunc_impl_PageName_impl_PageName esc_slices_IndexFunc_impl_PageName_impl_PageName (Tryd.f98.body.getD .skip) (entry Tryd.f98.ntmps [a0, a1]) σ (retK Tryd.prog Tryd.f98.results.toList R) := by kernel_rfl
theorem ac_slices_IndexFunc_impl_PageName_impl_PageName {w0 : World} {a0 a1 : Value} {σ : Vw} {R : Value → Vw → Prop} (h : vc_slices_IndexFunc_impl_PageName_impl_PageName w0 a0 a1 σ R) : AC Tryd.prog w0 n_slices_IndexFunc_impl_PageName_impl_PageName [a0, a1] σ R := by
  refine ac_rule (fn := Tryd.f98) (c := Tryd.f98.body.getD .skip) kp_slices_IndexFunc_impl_PageName_impl_PageName esc_slices_IndexFunc_impl_PageName_impl_PageName Tryd.func98 (by kernel_rfl) (by kernel_rfl) ?_
  rw [← vc_slices_IndexFunc_impl_PageName_impl_PageName_eq]
  exact h

/-- (impl.Pages).find$1 -/
def kp_impl_Pages_find_c1 : Nat → Keep
  | _ => ⟨[], [], [], .done, []⟩
def esc_impl_Pages_find_c1 : Nat → Bool
  | _ => false
def vc_impl_Pages_find_c1 (w0 : World) (a0 a1 : Value) (σ : Vw) (R : Value → Vw → Prop) : Prop :=
  pVal true 3 a0 (pLoad w0 1 a1 σ (fun g0 => pBin Tryd.prog 9 BinOp.eql (cellOf a0 0) (g0 0) (fun v1 => R v1 σ)))
theorem vc_impl_Pages_find_c1_eq (w0 : World) (a0 a1 : Value) (σ : Vw) (R : Value → Vw → Prop) : vc_impl_Pages_find_c1 w0 a0 a1 σ R = den Tryd.prog w0 kp_impl_Pages_find_c1 esc_impl_Pages_find_c1 (Tryd.f99.body.getD .skip) (entry Tryd.f99.ntmps [a0, a1]) σ (retK Tryd.prog Tryd.f99.results.toList R) := by kernel_rfl
theorem ac_impl_Pages_find_c1 {w0 : World} {a0 a1 : Value} {σ : Vw} {R : Value → Vw → Prop} (h : vc_impl_Pages_find_c1 w0 a0 a1 σ R) : AC Tryd.prog w0 n_impl_Pages_find_c1 [a0, a1] σ R := by
  refine ac_rule (fn := Tryd.f99) (c := Tryd.f99.body.getD .skip) kp_impl_Pages_find_c1 esc_impl_Pages_find_c1 Tryd.func99 (by kernel_rfl) (by kernel_rfl) ?_
  rw [← vc_impl_Pages_find_c1_eq]
  exact h

/-- internal/strconv.FormatInt -/
def kp_internal_strconv_FormatInt : Nat → Keep
  | _ => ⟨[], [], [], .done, []⟩
def esc_internal_strconv_FormatInt : Nat → Bool
  | 5 => true
  | _ => false
def vc_internal_strconv_FormatInt (w0 : World) (a0 a1 : Value) (σ : Vw) (R : Value → Vw → Prop) : Prop :=
  pBin Tryd.prog 3 BinOp.eql a1 (Value.int IntKind.i64 10) (fun v0 => pIf v0 (pBin Tryd.prog 2 BinOp.leq (Value.int IntKind.i64 0) a0 (fun v1 => pIf v1 (pBin Tryd.prog 2 BinOp.lss a0 (Value.int IntKind.i64 100) (fun v2 => pIf v2 (AC Tryd.prog w0 n_internal_strconv_small [a0] σ (fun v3 s4 => R v3 s4)) (pNew w0 144 [Value.int IntKind.u8 0, Value.int IntKind.u8 0, Value.int IntKind.u8 0, Value.int IntKind.u8 0, Value.int IntKind.u8 0, Value.int IntKind.u8 0, Value.int IntKind.u8 0, Value.int IntKind.u8 0, Value.int IntKind.u8 0, Value.int IntKind.u8 0, Value.int IntKind.u8 0, Value.int IntKind.u8 0, Value.int IntKind.u8 0, Value.int IntKind.u8 0, Value.int IntKind.u8 0, Value.int IntKind.u8 0, Value.int IntKind.u8 0, Value.int IntKind.u8 0, Value.int IntKind.u8 0, Value.int IntKind.u8 0, Value.int IntKind.u8 0, Value.int IntKind.u8 0, Value.int IntKind.u8 0, Value.int IntKind.u8 0] σ (fun n5 s6 => pConvInt IntKind.u64 a0 (fun v7 => pBin Tryd.prog 2 BinOp.lss a0 (Value.int IntKind.i64 0) (fun v8 => pIf v8 (pUn UnOp.neg v7 (fun v9 => AC Tryd.prog w0 n_internal_strconv_numDigits [v9] s6 (fun v10 s11 => pBin Tryd.prog 3 BinOp.add (Value.int IntKind.i64 1) v10 (fun v12 => False)))) (AC Tryd.prog w0 n_internal_strconv_numDigits [v7] s6 (fun v13 s14 => pBin Tryd.prog 3 BinOp.add (Value.int IntKind.i64 1) v13 (fun v15 => False))))))))) (pNew w0 144 [Value.int IntKind.u8 0, Value.int IntKind.u8 0, Value.int IntKind.u8 0, Value.int IntKind.u8 0, Value.int IntKind.u8 0, Value.int IntKind.u8 0, Value.int IntKind.u8 0, Value.int IntKind.u8 0, Value.int IntKind.u8 0, Value.int IntKind.u8 0, Value.int IntKind.u8 0, Value.int IntKind.u8 0, Value.int IntKind.u8 0, Value.int IntKind.u8 0, Value.int IntKind.u8 0, Value.int IntKind.u8 0, Value.int IntKind.u8 0, Value.int IntKind.u8 0, Value.int IntKind.u8 0, Value.int IntKind.u8 0, Value.int IntKind.u8 0, Value.int IntKind.u8 0, Value.int IntKind.u8 0, Value.int IntKind.u8 0] σ (fun n16 s17 => pConvInt IntKind.u64 a0 (fun v18 => pBin Tryd.prog 2 BinOp.lss a0 (Value.int IntKind.i64 0) (fun v19 => pIf v19 (pUn UnOp.neg v18 (fun v20 => AC Tryd.prog w0 n_internal_strconv_numDigits [v20] s17 (fun v21 s22 => pBin Tryd.prog 3 BinOp.add (Value.int IntKind.i64 1) v21 (fun v23 => False)))) (AC Tryd.prog w0 n_internal_strconv_numDigits [v18] s17 (fun v24 s25 => pBin Tryd.prog 3 BinOp.add (Value.int IntKind.i64 1) v24 (fun v26 => False))))))))) (pConvInt IntKind.u64 a0 (fun v27 => pBin Tryd.prog 2 BinOp.lss a0 (Value.int IntKind.i64 0) (fun v28 => AC Tryd.prog w0 n_internal_strconv_formatBits [Value.slice Option.none 0 0, v27, a1, v28, Value.bool false] σ (fun v29 s30 => pExtract v29 0 (fun v31 => pExtract v29 1 (fun v32 => R v32 s30)))))))
theorem vc_internal_strconv_FormatInt_eq (w0 : World) (a0 a1 : Value) (σ : Vw) (R : Value → Vw → Prop) : vc_internal_strconv_FormatInt w0 a0 a1 σ R = den Tryd.prog w0 kp_internal_strconv_FormatInt esc_internal_strconv_FormatInt (Tryd.f101.body.getD .skip) (entry Tryd.f101.ntmps [a0, a1]) σ (retK Tryd.prog Tryd.f101.results.toList R) := by kernel_rfl
theorem ac_internal_strconv_FormatInt {w0 : World} {a0 a1 : Value} {σ : Vw} {R : Value → Vw → Prop} (h : vc_internal_strconv_FormatInt w0 a0 a1 σ R) : AC Tryd.prog w0 n_internal_strconv_FormatInt [a0, a1] σ R := by
  refine ac_rule (fn := Tryd.f101) (c := Tryd.f101.body.getD .skip) kp_internal_strconv_FormatInt esc_internal_strconv_FormatInt Tryd.func101 (by kernel_rfl) (by kernel_rfl) ?_
  rw [← vc_internal_strconv_FormatInt_eq]
  exact h

/-- spec.DiskOk -/
def kp_spec_DiskOk : Nat → Keep
  | 2 => ⟨[2, 3], [(1, 1)], [1], .done, []⟩
  | _ => ⟨[], [], [], .done, []⟩
def esc_spec_DiskOk : Nat → Bool
  | _ => false
def vc_spec_DiskOk (w0 : World) (a0 : Value) (σ : Vw) (R : Value → Vw → Prop) : Prop :=
  pVal true 1 a0 (pLoop (fun l0 K1 s2 => pLen (vget l0 2) (fun v3 => pBin Tryd.prog 3 BinOp.lss (vget l0 1) v3 (fun v4 => pIf v4 (pIndexAddr 1 (vget l0 2) (vget l0 1) (fun v5 => pLoad w0 1 v5 s2 (fun g6 => pLenS (g6 0) (fun v7 => pBin Tryd.prog 3 BinOp.gtr v7 (Value.int IntKind.i64 64) (fun v8 => pIf v8 (K1 AX.ret [Value.bool false, vget l0 1, vget l0 2] s2) (pBin Tryd.prog 3 BinOp.add (vget l0 1) (Value.int IntKind.i64 1) (fun v9 => K1 AX.normal [vget l0 0, v9, vget l0 2] s2))))))) (K1 (AX.exit 0) [vget l0 0, vget l0 1, vget l0 2] s2)))) [Value.bool false, Value.int IntKind.i64 0, cellOf a0 0] σ (fun x10 l11 s12 => match x10 with | .normal => pLen (vget l11 2) (fun v13 => pBin Tryd.prog 3 BinOp.eql v13 (Value.int IntKind.i64 194) (fun v14 => R v14 s12)) | .ret => R (vget l11 0) s12 | .exit i15 => (match Nat.beq i15 0 with | true => pLen (vget l11 2) (fun v16 => pBin Tryd.prog 3 BinOp.eql v16 (Value.int IntKind.i64 194) (fun v17 => R v17 s12)) | false => False)))
theorem vc_spec_DiskOk_eq (w0 : World) (a0 : Value) (σ : Vw) (R : Value → Vw → Prop) : vc_spec_DiskOk w0 a0 σ R = den Tryd.prog w0 kp_spec_DiskOk esc_spec_DiskOk (Tryd.f102.body.getD .skip) (entry Tryd.f102.ntmps [a0]) σ (retK Tryd.prog Tryd.f102.results.toList R) := by kernel_rfl
theorem ac_spec_DiskOk {w0 : World} {a0 : Value} {σ : Vw} {R : Value → Vw → Prop} (h : vc_spec_DiskOk w0 a0 σ R) : AC Tryd.prog w0 n_spec_DiskOk [a0] σ R := by
  refine ac_rule (fn := Tryd.f102) (c := Tryd.f102.body.getD .skip) kp_spec_DiskOk esc_spec_DiskOk Tryd.func102 (by kernel_rfl) (by kernel_rfl) ?_
  rw [← vc_spec_DiskOk_eq]
  exact h

/-- spec.l22Found -/
def kp_spec_l22Found : Nat → Keep
  | _ => ⟨[], [], [], .done, []⟩
def esc_spec_l22Found : Nat → Bool
  | _ => false
def vc_spec_l22Found (w0 : World) (a0 a1 : Value) (σ : Vw) (R : Value → Vw → Prop) : Prop :=
  pVal true 1 a0 (pIndexAddr 1 (cellOf a0 0) a1 (fun v0 => pLoad w0 1 v0 σ (fun g1 => AC Tryd.prog w0 n_spec_l22Cut [g1 0, Value.int IntKind.u8 32] σ (fun v2 s3 => pLen v2 (fun v4 => pBin Tryd.prog 3 BinOp.neq v4 (Value.int IntKind.i64 3) (fun v5 => pIf v5 (R (Value.tuple (⟨[Value.int IntKind.i64 0, Value.int IntKind.i64 0]⟩)) s3) (pIndexAddr 1 v2 (Value.int IntKind.i64 0) (fun v6 => pLoad w0 1 v6 s3 (fun g7 => pBin Tryd.prog 9 BinOp.neq (g7 0) (Value.string ({ data := #[67] })) (fun v8 => pIf v8 (R (Value.tuple (⟨[Value.int IntKind.i64 0, Value.int IntKind.i64 0]⟩)) s3) (pIndexAddr 1 v2 (Value.int IntKind.i64 1) (fun v9 => pLoad w0 1 v9 s3 (fun g10 => AC Tryd.prog w0 n_spec_l22Num [g10 0] s3 (fun v11 s12 => pIndexAddr 1 v2 (Value.int IntKind.i64 2) (fun v13 => pLoad w0 1 v13 s12 (fun g14 => AC Tryd.prog w0 n_spec_l22Num [g14 0] s12 (fun v15 s16 => AC Tryd.prog w0 n_spec_l21In [v11, Value.int IntKind.i64 1, Value.int IntKind.i64 99999] s16 (fun v17 s18 => pUn UnOp.not v17 (fun v19 => pIf v19 (R (Value.tuple (⟨[Value.int IntKind.i64 0, Value.int IntKind.i64 0]⟩)) s18) (pBin Tryd.prog 3 BinOp.rem v11 (Value.int IntKind.i64 2) (fun v20 => pBin Tryd.prog 3 BinOp.neq v20 a1 (fun v21 => pIf v21 (R (Value.tuple (⟨[Value.int IntKind.i64 0, Value.int IntKind.i64 0]⟩)) s18) (AC Tryd.prog w0 n_spec_l21In [v15, Value.int IntKind.i64 0, Value.int IntKind.i64 5760] s18 (fun v22 s23 => pUn UnOp.not v22 (fun v24 => pIf v24 (R (Value.tuple (⟨[Value.int IntKind.i64 0, Value.int IntKind.i64 0]⟩)) s23) (R (Value.tuple (⟨[v11, v15]⟩)) s23))))))))))))))))))))))))))
theorem vc_spec_l22Found_eq (w0 : World) (a0 a1 : Value) (σ : Vw) (R : Value → Vw → Prop) : vc_spec_l22Found w0 a0 a1 σ R = den Tryd.prog w0 kp_spec_l22Found esc_spec_l22Found (Tryd.f103.body.getD .skip) (entry Tryd.f103.ntmps [a0, a1]) σ (retK Tryd.prog Tryd.f103.results.toList R) := by kernel_rfl
theorem ac_spec_l22Found {w0 : World} {a0 a1 : Value} {σ : Vw} {R : Value → Vw → Prop} (h : vc_spec_l22Found w0 a0 a1 σ R) : AC Tryd.prog w0 n_spec_l22Found [a0, a1] σ R := by
  refine ac_rule (fn := Tryd.f103) (c := Tryd.f103.body.getD .skip) kp_spec_l22Found esc_spec_l22Found Tryd.func103 (by kernel_rfl) (by kernel_rfl) ?_
  rw [← vc_spec_l22Found_eq]
  exact h

/-- spec.l22Text -/
def kp_spec_l22Text : Nat → Keep
  | 3 => ⟨[1, 2, 3, 4, 10, 11, 12, 13], [(5, 1)], [5], .done, []⟩
  | _ => ⟨[], [], [], .done, []⟩
def esc_spec_l22Text : Nat → Bool
  | _ => false
def vc_spec_l22Text (w0 : World) (a0 a1 a2 a3 a4 : Value) (σ : Vw) (R : Value → Vw → Prop) : Prop :=
  pVal true 1 a0 (pLoop (fun l0 K1 s2 => pLenS (vget l0 6) (fun v3 => pBin Tryd.prog 3 BinOp.lss v3 (vget l0 2) (fun v4 => pIf v4 (pBin Tryd.prog 3 BinOp.geq (vget l0 7) (vget l0 1) (fun v5 => pIf v5 (K1 AX.ret ([vget l0 0, vget l0 1, vget l0 2, vget l0 3, Value.string ({ data := #[] }), Value.bool false, vget l0 6, vget l0 7, vget l0 8]) s2) (pBin Tryd.prog 3 BinOp.add (vget l0 0) (vget l0 7) (fun v6 => pIndexAddr 1 (vget l0 8) v6 (fun v7 => pLoad w0 1 v7 s2 (fun g8 => pLenS (g8 0) (fun v9 => pBin Tryd.prog 3 BinOp.leq v9 (vget l0 3) (fun v10 => pIf v10 (K1 AX.ret ([vget l0 0, vget l0 1, vget l0 2, vget l0 3, Value.string ({ data := #[] }), Value.bool false, vget l0 6, vget l0 7, vget l0 8]) s2) (pBin Tryd.prog 3 BinOp.eql (vget l0 3) (Value.int IntKind.i64 1) (fun v11 => pIf v11 (pBin Tryd.prog 3 BinOp.add (vget l0 0) (vget l0 7) (fun v12 => pIndexAddr 1 (vget l0 8) v12 (fun v13 => pLoad w0 1 v13 s2 (fun g14 => pIndexStr (g14 0) (Value.int IntKind.i64 0) (fun v15 => pBin Tryd.prog 5 BinOp.neq v15 (Value.int IntKind.u8 68) (fun v16 => pIf v16 (K1 AX.ret ([vget l0 0, vget l0 1, vget l0 2, vget l0 3, Value.string ({ data := #[] }), Value.bool false, vget l0 6, vget l0 7, vget l0 8]) s2) (pBin Tryd.prog 3 BinOp.add (vget l0 0) (vget l0 7) (fun v17 => pIndexAddr 1 (vget l0 8) v17 (fun v18 => pLoad w0 1 v18 s2 (fun g19 => pSliceStr (g19 0) (Option.some (vget l0 3)) Option.none (fun v20 => pBin Tryd.prog 9 BinOp.add (vget l0 6) v20 (fun v21 => pBin Tryd.prog 3 BinOp.add (vget l0 7) (Value.int IntKind.i64 1) (fun v22 => K1 AX.normal [vget l0 0, vget l0 1, vget l0 2, vget l0 3, vget l0 4, vget l0 5, v21, v22, vget l0 8] s2))))))))))))) (pBin Tryd.prog 3 BinOp.add (vget l0 0) (vget l0 7) (fun v23 => pIndexAddr 1 (vget l0 8) v23 (fun v24 => pLoad w0 1 v24 s2 (fun g25 => pSliceStr (g25 0) (Option.some (vget l0 3)) Option.none (fun v26 => pBin Tryd.prog 9 BinOp.add (vget l0 6) v26 (fun v27 => pBin Tryd.prog 3 BinOp.add (vget l0 7) (Value.int IntKind.i64 1) (fun v28 => K1 AX.normal [vget l0 0, vget l0 1, vget l0 2, vget l0 3, vget l0 4, vget l0 5, v27, v28, vget l0 8] s2))))))))))))))))) (K1 (AX.exit 0) [vget l0 0, vget l0 1, vget l0 2, vget l0 3, vget l0 4, vget l0 5, vget l0 6, vget l0 7, vget l0 8] s2)))) ([a1, a2, a3, a4, Value.string ({ data := #[] }), Value.bool false, Value.string ({ data := #[] }), Value.int IntKind.i64 0, cellOf a0 0]) σ (fun x29 l30 s31 => match x29 with | .normal => pLenS (vget l30 6) (fun v32 => pBin Tryd.prog 3 BinOp.eql v32 (vget l30 2) (fun v33 => R (Value.tuple (⟨[vget l30 6, v33]⟩)) s31)) | .ret => R (Value.tuple (⟨[vget l30 4, vget l30 5]⟩)) s31 | .exit i34 => (match Nat.beq i34 0 with | true => pLenS (vget l30 6) (fun v35 => pBin Tryd.prog 3 BinOp.eql v35 (vget l30 2) (fun v36 => R (Value.tuple (⟨[vget l30 6, v36]⟩)) s31)) | false => False)))
theorem vc_spec_l22Text_eq (w0 : World) (a0 a1 a2 a3 a4 : Value) (σ : Vw) (R : Value → Vw → Prop) : vc_spec_l22Text w0 a0 a1 a2 a3 a4 σ R = den Tryd.prog w0 kp_spec_l22Text esc_spec_l22Text (Tryd.f104.body.getD .skip) (entry Tryd.f104.ntmps [a0, a1, a2, a3, a4]) σ (retK Tryd.prog Tryd.f104.results.toList R) := by kernel_rfl
theorem ac_spec_l22Text {w0 : World} {a0 a1 a2 a3 a4 : Value} {σ : Vw} {R : Value → Vw → Prop} (h : vc_spec_l22Text w0 a0 a1 a2 a3 a4 σ R) : AC Tryd.prog w0 n_spec_l22Text [a0, a1, a2, a3, a4] σ R := by
  refine ac_rule (fn := Tryd.f104) (c := Tryd.f104.body.getD .skip) kp_spec_l22Text esc_spec_l22Text Tryd.func104 (by kernel_rfl) (by kernel_rfl) ?_
  rw [← vc_spec_l22Text_eq]
  exact h

/-- spec.l22Group -/
def kp_spec_l22Group : Nat → Keep
  | _ => ⟨[], [], [], .done, []⟩
def esc_spec_l22Group : Nat → Bool
  | _ => false
def vc_spec_l22Group (w0 : World) (a0 a1 a2 a3 : Value) (σ : Vw) (R : Value → Vw → Prop) : Prop :=
  pVal true 1 a0 (pBin Tryd.prog 3 BinOp.geq a3 (Value.int IntKind.i64 12) (fun v0 => pIf v0 (R (Value.tuple (⟨[Value.string ({ data := #[] }), Value.int IntKind.i64 0]⟩)) σ) (pBin Tryd.prog 3 BinOp.add (Value.int IntKind.i64 2) a3 (fun v1 => pIndexAddr 1 (cellOf a0 0) v1 (fun v2 => pLoad w0 1 v2 σ (fun g3 => AC Tryd.prog w0 n_spec_l22Cut [g3 0, Value.int IntKind.u8 32] σ (fun v4 s5 => pLen v4 (fun v6 => pBin Tryd.prog 3 BinOp.neq v6 (Value.int IntKind.i64 4) (fun v7 => pIf v7 (R (Value.tuple (⟨[Value.string ({ data := #[] }), Value.int IntKind.i64 0]⟩)) s5) (pIndexAddr 1 v4 (Value.int IntKind.i64 0) (fun v8 => pLoad w0 1 v8 s5 (fun g9 => pBin Tryd.prog 9 BinOp.neq (g9 0) (Value.string ({ data := #[72] })) (fun v10 => pIf v10 (R (Value.tuple (⟨[Value.string ({ data := #[] }), Value.int IntKind.i64 0]⟩)) s5) (pIndexAddr 1 v4 (Value.int IntKind.i64 1) (fun v11 => pLoad w0 1 v11 s5 (fun g12 => AC Tryd.prog w0 n_spec_l22Num [g12 0] s5 (fun v13 s14 => pBin Tryd.prog 3 BinOp.neq v13 a1 (fun v15 => pIf v15 (R (Value.tuple (⟨[Value.string ({ data := #[] }), Value.int IntKind.i64 0]⟩)) s14) (pIndexAddr 1 v4 (Value.int IntKind.i64 2) (fun v16 => pLoad w0 1 v16 s14 (fun g17 => AC Tryd.prog w0 n_spec_l22Num [g17 0] s14 (fun v18 s19 => pBin Tryd.prog 3 BinOp.neq v18 a2 (fun v20 => pIf v20 (R (Value.tuple (⟨[Value.string ({ data := #[] }), Value.int IntKind.i64 0]⟩)) s19) (pIndexAddr 1 v4 (Value.int IntKind.i64 3) (fun v21 => pLoad w0 1 v21 s19 (fun g22 => AC Tryd.prog w0 n_spec_l22Num [g22 0] s19 (fun v23 s24 => pBin Tryd.prog 3 BinOp.add v23 (Value.int IntKind.i64 64) (fun v25 => pBin Tryd.prog 3 BinOp.sub v25 (Value.int IntKind.i64 2) (fun v26 => pBin Tryd.prog 3 BinOp.quo v26 (Value.int IntKind.i64 63) (fun v27 => pBin Tryd.prog 3 BinOp.add (Value.int IntKind.i64 1) v27 (fun v28 => AC Tryd.prog w0 n_spec_l21In [v23, Value.int IntKind.i64 0, Value.int IntKind.i64 600] s24 (fun v29 s30 => pUn UnOp.not v29 (fun v31 => pIf v31 (R (Value.tuple (⟨[Value.string ({ data := #[] }), Value.int IntKind.i64 0]⟩)) s30) (pBin Tryd.prog 3 BinOp.add a3 v28 (fun v32 => pBin Tryd.prog 3 BinOp.gtr v32 (Value.int IntKind.i64 12) (fun v33 => pIf v33 (R (Value.tuple (⟨[Value.string ({ data := #[] }), Value.int IntKind.i64 0]⟩)) s30) (pBin Tryd.prog 3 BinOp.add (Value.int IntKind.i64 2) a3 (fun v34 => pBin Tryd.prog 3 BinOp.add v34 (Value.int IntKind.i64 1) (fun v35 => pBin Tryd.prog 3 BinOp.sub v28 (Value.int IntKind.i64 1) (fun v36 => AC Tryd.prog w0 n_spec_l22Text ([Value.agg (⟨[cellOf a0 0]⟩), v35, v36, v23, Value.int IntKind.i64 1]) s30 (fun v37 s38 => pExtract v37 0 (fun v39 => pExtract v37 1 (fun v40 => pUn UnOp.not v40 (fun v41 => pIf v41 (R (Value.tuple (⟨[Value.string ({ data := #[] }), Value.int IntKind.i64 0]⟩)) s38) (R (Value.tuple (⟨[v39, v28]⟩)) s38)))))))))))))))))))))))))))))))))))))))))))))
theorem vc_spec_l22Group_eq (w0 : World) (a0 a1 a2 a3 : Value) (σ : Vw) (R : Value → Vw → Prop) : vc_spec_l22Group w0 a0 a1 a2 a3 σ R = den Tryd.prog w0 kp_spec_l22Group esc_spec_l22Group (Tryd.f105.body.getD .skip) (entry Tryd.f105.ntmps [a0, a1, a2, a3]) σ (retK Tryd.prog Tryd.f105.results.toList R) := by kernel_rfl
theorem ac_spec_l22Group {w0 : World} {a0 a1 a2 a3 : Value} {σ : Vw} {R : Value → Vw → Prop} (h : vc_spec_l22Group w0 a0 a1 a2 a3 σ R) : AC Tryd.prog w0 n_spec_l22Group [a0, a1, a2, a3] σ R := by
  refine ac_rule (fn := Tryd.f105) (c := Tryd.f105.body.getD .skip) kp_spec_l22Group esc_spec_l22Group Tryd.func105 (by kernel_rfl) (by kernel_rfl) ?_
  rw [← vc_spec_l22Group_eq]
  exact h

/-- spec.l22Clean -/
def kp_spec_l22Clean : Nat → Keep
  | 2 => ⟨[5, 6], [(2, 1), (3, 4), (4, 4)], [2, 3, 4], .done, []⟩
  | 5 => ⟨[], [], [], .step 0 (.step 1 (.step 2 (.step 3 (.step 4 (.step 5 (.step 6 (.step 7 (.step 8 (.step 9 (.step 10 (.step 11 (.step 12 (.step 14 (.step 15 (.step 13 (.step 16 (.step 17 (.done)))))))))))))))))), [(1, [0]), (2, [0, 1]), (3, [0, 1, 2]), (4, [0, 1, 2, 3]), (5, [0, 1, 2, 3, 4]), (6, [0, 1, 2, 3, 4, 5]), (7, [0, 1, 2, 3, 4, 5, 6]), (8, [0, 1, 2, 3, 4, 5, 6, 7]), (9, [0, 1, 2, 3, 4, 5, 6, 7, 8]), (10, [0, 1, 2, 3, 4, 5, 6, 7, 8, 9]), (11, [0, 1, 2, 3, 4, 5, 6, 7, 8, 9, 10]), (12, [0, 1, 2, 3, 4, 5, 6, 7, 8, 9, 10, 11]), (13, [0, 1, 2, 3, 4, 5, 6, 7, 8, 9, 10, 11, 12]), (14, [0, 1, 2, 3, 4, 5, 6, 7, 8, 9]), (15, [0, 1, 2, 3, 4, 5, 6, 7, 8, 9, 14]), (16, [0, 1, 2, 3, 4, 5, 6, 7, 8, 9, 10, 11, 12, 13, 14, 15]), (17, [0, 1, 2, 3, 4, 5, 6, 7, 8, 9, 10, 11, 12, 13, 14, 15, 16])]⟩
  | _ => ⟨[], [], [], .done, []⟩
def esc_spec_l22Clean : Nat → Bool
  | _ => false
def vc_spec_l22Clean (w0 : World) (a0 a1 : Value) (σ : Vw) (R : Value → Vw → Prop) : Prop :=
  pVal true 1 a0 (pVal true 4 a1 (pLoop (fun l0 K1 s2 => pBin Tryd.prog 3 BinOp.lss (vget l0 1) (Value.int IntKind.i64 12) (fun v3 => pIf v3 (pBin Tryd.prog 3 BinOp.add (Value.int IntKind.i64 2) (vget l0 1) (fun v4 => pIndexAddr 1 (vget l0 2) v4 (fun v5 => pLoad w0 1 v5 s2 (fun g6 => AC Tryd.prog w0 n_spec_l22Cut [g6 0, Value.int IntKind.u8 32] s2 (fun v7 s8 => pLen v7 (fun v9 => pBin Tryd.prog 3 BinOp.eql v9 (Value.int IntKind.i64 4) (fun v10 => pIf v10 (pIndexAddr 1 v7 (Value.int IntKind.i64 0) (fun v11 => pLoad w0 1 v11 s8 (fun g12 => pBin Tryd.prog 9 BinOp.eql (g12 0) (Value.string ({ data := #[72] })) (fun v13 => pIf v13 (pIndexAddr 1 v7 (Value.int IntKind.i64 1) (fun v14 => pLoad w0 1 v14 s8 (fun g15 => AC Tryd.prog w0 n_spec_l22Num [g15 0] s8 (fun v16 s17 => pBin Tryd.prog 3 BinOp.geq v16 (vget l0 3) (fun v18 => pIf v18 (pVal true 4 (Value.agg (⟨[Value.int IntKind.i64 0, Value.string ({ data := #[] }), Value.slice Option.none 0 0, Value.int IntKind.i64 0]⟩)) (K1 AX.ret ([Value.bool false, vget l0 1, vget l0 2, vget l0 3, vget l0 4, vget l0 5, vget l0 6, Value.int IntKind.i64 0, Value.string ({ data := #[] }), Value.slice Option.none 0 0, Value.int IntKind.i64 0]) s17)) (pBin Tryd.prog 3 BinOp.add (vget l0 1) (Value.int IntKind.i64 1) (fun v19 => K1 AX.normal [vget l0 0, v19, vget l0 2, vget l0 3, vget l0 4, vget l0 5, vget l0 6, vget l0 7, vget l0 8, vget l0 9, vget l0 10] s17))))))) (pBin Tryd.prog 3 BinOp.add (vget l0 1) (Value.int IntKind.i64 1) (fun v20 => K1 AX.normal [vget l0 0, v20, vget l0 2, vget l0 3, vget l0 4, vget l0 5, vget l0 6, vget l0 7, vget l0 8, vget l0 9, vget l0 10] s8)))))) (pBin Tryd.prog 3 BinOp.add (vget l0 1) (Value.int IntKind.i64 1) (fun v21 => K1 AX.normal [vget l0 0, v21, vget l0 2, vget l0 3, vget l0 4, vget l0 5, vget l0 6, vget l0 7, vget l0 8, vget l0 9, vget l0 10] s8))))))))) (K1 (AX.exit 0) [vget l0 0, vget l0 1, vget l0 2, vget l0 3, vget l0 4, vget l0 5, vget l0 6, vget l0 7, vget l0 8, vget l0 9, vget l0 10] s2))) ([Value.bool false, cellOf a1 3, cellOf a0 0, cellOf a1 0, cellOf a1 1, cellOf a1 2, cellOf a1 3, Value.int IntKind.i64 0, Value.string ({ data := #[] }), Value.slice Option.none 0 0, Value.int IntKind.i64 0]) σ (fun x22 l23 s24 => match x22 with | .normal => pVal true 4 (Value.agg (⟨[vget l23 3, vget l23 4, vget l23 5, vget l23 6]⟩)) (R (Value.tuple (⟨[Value.agg (⟨[vget l23 3, vget l23 4, vget l23 5, vget l23 6]⟩), Value.bool true]⟩)) s24) | .ret => R (Value.tuple (⟨[Value.agg (⟨[vget l23 7, vget l23 8, vget l23 9, vget l23 10]⟩), vget l23 0]⟩)) s24 | .exit i25 => (match Nat.beq i25 0 with | true => pVal true 4 (Value.agg (⟨[vget l23 3, vget l23 4, vget l23 5, vget l23 6]⟩)) (R (Value.tuple (⟨[Value.agg (⟨[vget l23 3, vget l23 4, vget l23 5, vget l23 6]⟩), Value.bool true]⟩)) s24) | false => False))))
theorem vc_spec_l22Clean_eq (w0 : World) (a0 a1 : Value) (σ : Vw) (R : Value → Vw → Prop) : vc_spec_l22Clean w0 a0 a1 σ R = den Tryd.prog w0 kp_spec_l22Clean esc_spec_l22Clean (Tryd.f106.body.getD .skip) (entry Tryd.f106.ntmps [a0, a1]) σ (retK Tryd.prog Tryd.f106.results.toList R) := by kernel_rfl
theorem ac_spec_l22Clean {w0 : World} {a0 a1 : Value} {σ : Vw} {R : Value → Vw → Prop} (h : vc_spec_l22Clean w0 a0 a1 σ R) : AC Tryd.prog w0 n_spec_l22Clean [a0, a1] σ R := by
  refine ac_rule (fn := Tryd.f106) (c := Tryd.f106.body.getD .skip) kp_spec_l22Clean esc_spec_l22Clean Tryd.func106 (by kernel_rfl) (by kernel_rfl) ?_
  rw [← vc_spec_l22Clean_eq]
  exact h

/-- spec.StorePlay -/
def kp_spec_StorePlay : Nat → Keep
  | 6 => ⟨[1, 6, 10], [(4, 1), (5, 4), (7, 4), (9, 1)], [4, 5, 7, 9], .done, []⟩
  | 8 => ⟨[], [], [], .step 0 (.step 1 (.step 2 (.step 3 (.step 4 (.step 5 (.step 11 (.step 12 (.step 6 (.step 7 (.step 8 (.step 9 (.step 10 (.step 13 (.step 14 (.step 15 (.done)))))))))))))))), [(4, [2, 3]), (5, [2, 3, 4]), (6, [0, 1, 2, 3, 4, 5]), (7, [0, 1, 2, 3, 4, 5, 6]), (8, [0, 1, 2, 3, 4, 5, 6, 7]), (9, [0, 1, 2, 3, 4, 5, 6, 7]), (10, [0, 1, 2, 3, 4, 5, 6, 7]), (13, [0, 1, 2, 3, 4, 5, 6, 7, 8, 11, 12]), (14, [0, 1, 2, 3, 4, 5, 6, 7, 8, 9, 11, 12, 13]), (15, [0, 1, 2, 3, 4, 5, 6, 7, 8, 9, 10, 11, 12, 13, 14])]⟩
  | 13 => ⟨[], [], [], .step 0 (.step 2 (.step 1 (.step 3 (.step 4 (.step 5 (.step 6 (.done))))))), [(1, [0]), (3, [0, 1, 2]), (4, [0, 1, 2, 3]), (5, [0, 1, 2, 3, 4]), (6, [0, 1, 2, 3, 4, 5])]⟩
  | _ => ⟨[], [], [], .done, []⟩
def esc_spec_StorePlay : Nat → Bool
  | _ => false
def vc_spec_StorePlay (w0 : World) (a0 a1 : Value) (σ : Vw) (R : Value → Vw → Prop) : Prop :=
  pVal true 1 a0 (AC Tryd.prog w0 n_spec_StoreOpen ([Value.agg (⟨[cellOf a0 0]⟩)]) σ (fun v0 s1 => pExtract v0 0 (fun v2 => pExtract v0 1 (fun v3 => pVal true 4 v2 (pUn UnOp.not v3 (fun v4 => pIf v4 (pVal true 1 (Value.agg (⟨[Value.slice Option.none 0 0]⟩)) (pVal true 4 (Value.agg (⟨[Value.int IntKind.i64 0, Value.string ({ data := #[] }), Value.slice Option.none 0 0, Value.int IntKind.i64 0]⟩)) (R (Value.tuple (⟨[Value.agg (⟨[Value.slice Option.none 0 0]⟩), Value.agg (⟨[Value.int IntKind.i64 0, Value.string ({ data := #[] }), Value.slice Option.none 0 0, Value.int IntKind.i64 0]⟩), Value.bool false]⟩)) s1))) (AC Tryd.prog w0 n_spec_l21Copy ([Value.agg (⟨[cellOf a0 0]⟩)]) s1 (fun v5 s6 => pVal true 1 v5 (pLoop (fun l7 K8 s9 => pLen (vget l7 0) (fun v10 => pBin Tryd.prog 3 BinOp.lss (vget l7 2) v10 (fun v11 => pIf v11 (pIndexAddr 3 (vget l7 0) (vget l7 2) (fun v12 => pLoad w0 3 v12 s9 (fun g13 => AC Tryd.prog w0 n_spec_l23Step ([Value.agg (⟨[vget l7 12]⟩), Value.agg (⟨[vget l7 8, vget l7 9, vget l7 10, vget l7 11]⟩), Value.agg (⟨[g13 0, g13 1, g13 2]⟩)]) s9 (fun v14 s15 => pExtract v14 0 (fun v16 => pExtract v14 1 (fun v17 => pExtract v14 2 (fun v18 => pVal true 1 v16 (pVal true 4 v17 (pUn UnOp.not v18 (fun v19 => pIf v19 (pVal true 1 (Value.agg (⟨[Value.slice Option.none 0 0]⟩)) (pVal true 4 (Value.agg (⟨[Value.int IntKind.i64 0, Value.string ({ data := #[] }), Value.slice Option.none 0 0, Value.int IntKind.i64 0]⟩)) (K8 AX.ret ([vget l7 0, Value.bool false, vget l7 2, Value.slice Option.none 0 0, Value.int IntKind.i64 0, Value.string ({ data := #[] }), Value.slice Option.none 0 0, Value.int IntKind.i64 0, vget l7 8, vget l7 9, vget l7 10, vget l7 11, vget l7 12]) s15))) (pVal true 1 (Value.agg (⟨[cellOf v16 0]⟩)) (pVal true 4 (Value.agg (⟨[cellOf v17 0, cellOf v17 1, cellOf v17 2, cellOf v17 3]⟩)) (pBin Tryd.prog 3 BinOp.add (vget l7 2) (Value.int IntKind.i64 1) (fun v20 => K8 AX.normal [vget l7 0, vget l7 1, v20, vget l7 3, vget l7 4, vget l7 5, vget l7 6, vget l7 7, cellOf v17 0, cellOf v17 1, cellOf v17 2, cellOf v17 3, cellOf v16 0] s15)))))))))))))) (K8 (AX.exit 0) [vget l7 0, vget l7 1, vget l7 2, vget l7 3, vget l7 4, vget l7 5, vget l7 6, vget l7 7, vget l7 8, vget l7 9, vget l7 10, vget l7 11, vget l7 12] s9)))) ([a1, Value.bool false, Value.int IntKind.i64 0, Value.slice Option.none 0 0, Value.int IntKind.i64 0, Value.string ({ data := #[] }), Value.slice Option.none 0 0, Value.int IntKind.i64 0, cellOf v2 0, cellOf v2 1, cellOf v2 2, cellOf v2 3, cellOf v5 0]) s6 (fun x21 l22 s23 => match x21 with | .normal => AC Tryd.prog w0 n_spec_l21Copy ([Value.agg (⟨[vget l22 12]⟩)]) s23 (fun v24 s25 => AC Tryd.prog w0 n_spec_l22Copy ([Value.agg (⟨[vget l22 8, vget l22 9, vget l22 10, vget l22 11]⟩)]) s25 (fun v26 s27 => pVal true 1 v24 (pVal true 4 v26 (R (Value.tuple (⟨[Value.agg (⟨[cellOf v24 0]⟩), Value.agg (⟨[cellOf v26 0, cellOf v26 1, cellOf v26 2, cellOf v26 3]⟩), Value.bool true]⟩)) s27)))) | .ret => R (Value.tuple (⟨[Value.agg (⟨[vget l22 3]⟩), Value.agg (⟨[vget l22 4, vget l22 5, vget l22 6, vget l22 7]⟩), vget l22 1]⟩)) s23 | .exit i28 => (match Nat.beq i28 0 with | true => AC Tryd.prog w0 n_spec_l21Copy ([Value.agg (⟨[vget l22 12]⟩)]) s23 (fun v29 s30 => AC Tryd.prog w0 n_spec_l22Copy ([Value.agg (⟨[vget l22 8, vget l22 9, vget l22 10, vget l22 11]⟩)]) s30 (fun v31 s32 => pVal true 1 v29 (pVal true 4 v31 (R (Value.tuple (⟨[Value.agg (⟨[cellOf v29 0]⟩), Value.agg (⟨[cellOf v31 0, cellOf v31 1, cellOf v31 2, cellOf v31 3]⟩), Value.bool true]⟩)) s32)))) | false => False)))))))))))
theorem vc_spec_StorePlay_eq (w0 : World) (a0 a1 : Value) (σ : Vw) (R : Value → Vw → Prop) : vc_spec_StorePlay w0 a0 a1 σ R = den Tryd.prog w0 kp_spec_StorePlay esc_spec_StorePlay (Tryd.f107.body.getD .skip) (entry Tryd.f107.ntmps [a0, a1]) σ (retK Tryd.prog Tryd.f107.results.toList R) := by kernel_rfl
theorem ac_spec_StorePlay {w0 : World} {a0 a1 : Value} {σ : Vw} {R : Value → Vw → Prop} (h : vc_spec_StorePlay w0 a0 a1 σ R) : AC Tryd.prog w0 n_spec_StorePlay [a0, a1] σ R := by
  refine ac_rule (fn := Tryd.f107) (c := Tryd.f107.body.getD .skip) kp_spec_StorePlay esc_spec_StorePlay Tryd.func107 (by kernel_rfl) (by kernel_rfl) ?_
  rw [← vc_spec_StorePlay_eq]
  exact h

/-- spec.l24New -/
def kp_spec_l24New : Nat → Keep
  | _ => ⟨[], [], [], .done, []⟩
def esc_spec_l24New : Nat → Bool
  | _ => false
def vc_spec_l24New (w0 : World) (a0 : Value) (σ : Vw) (R : Value → Vw → Prop) : Prop :=
  AC Tryd.prog w0 n_p_spec_l1Rd_pick [a0, Value.int IntKind.i64 200] σ (fun v0 s1 => AC Tryd.prog w0 n_spec_l1Many ([Value.string ({ data := #[116] }), v0]) s1 (fun v2 s3 => AC Tryd.prog w0 n_spec_StoreNew [v2] s3 (fun v4 s5 => pExtract v4 0 (fun v6 => pExtract v4 1 (fun v7 => AC Tryd.prog w0 n_spec_l24Blank [] s5 (fun v8 s9 => pLen v6 (fun v10 => AC Tryd.prog w0 n_spec_DiskWrite [v8, v6, v10] s9 (fun v11 s12 => pVal true 1 v11 (R (Value.agg (⟨[cellOf v11 0]⟩)) s12)))))))))
theorem vc_spec_l24New_eq (w0 : World) (a0 : Value) (σ : Vw) (R : Value → Vw → Prop) : vc_spec_l24New w0 a0 σ R = den Tryd.prog w0 kp_spec_l24New esc_spec_l24New (Tryd.f108.body.getD .skip) (entry Tryd.f108.ntmps [a0]) σ (retK Tryd.prog Tryd.f108.results.toList R) := by kernel_rfl
theorem ac_spec_l24New {w0 : World} {a0 : Value} {σ : Vw} {R : Value → Vw → Prop} (h : vc_spec_l24New w0 a0 σ R) : AC Tryd.prog w0 n_spec_l24New [a0] σ R := by
  refine ac_rule (fn := Tryd.f108) (c := Tryd.f108.body.getD .skip) kp_spec_l24New esc_spec_l24New Tryd.func108 (by kernel_rfl) (by kernel_rfl) ?_
  rw [← vc_spec_l24New_eq]
  exact h

/-- spec.l24Steps -/
def kp_spec_l24Steps : Nat → Keep
  | 3 => ⟨[0, 5, 6], [], [], .done, []⟩
  | _ => ⟨[], [], [], .done, []⟩
def esc_spec_l24Steps : Nat → Bool
  | 8 => true
  | _ => false
def vc_spec_l24Steps (w0 : World) (a0 a1 : Value) (σ : Vw) (R : Value → Vw → Prop) : Prop :=
  pNew w0 154 [] σ (fun n0 s1 => AC Tryd.prog w0 n_p_spec_l1Rd_pick [a0, a1] s1 (fun v2 s3 => pLoop (fun l4 K5 s6 => pBin Tryd.prog 3 BinOp.gtr (vget l4 2) (Value.int IntKind.i64 0) (fun v7 => pIf v7 (AC Tryd.prog w0 n_spec_l24Group [vget l4 0] s6 (fun v8 s9 => pVal false 1 v8 (pVal false 1 (Value.int IntKind.i64 (-1)) (pVal true 3 (Value.agg (⟨[Value.bool false, v8, Value.int IntKind.i64 (-1)]⟩)) (AC Tryd.prog w0 n_p_spec_l1Rd_pick [vget l4 0, Value.int IntKind.i64 4] s9 (fun v10 s11 => pBin Tryd.prog 3 BinOp.eql v10 (Value.int IntKind.i64 0) (fun v12 => pIf v12 (pVal false 1 (Value.bool true) (AC Tryd.prog w0 n_spec_l24Text [vget l4 0] s11 (fun v13 s14 => pVal false 1 v13 (AC Tryd.prog w0 n_p_spec_l1Rd_pick [vget l4 0, Value.int IntKind.i64 3] s14 (fun v15 s16 => pBin Tryd.prog 3 BinOp.eql v15 (Value.int IntKind.i64 0) (fun v17 => pIf v17 (AC Tryd.prog w0 n_p_spec_l1Rd_pick [vget l4 0, Value.int IntKind.i64 12] s16 (fun v18 s19 => AC Tryd.prog w0 n_p_spec_l1Rd_pick [vget l4 0, Value.int IntKind.i64 2] s19 (fun v20 s21 => pBin Tryd.prog 3 BinOp.mul v18 v20 (fun v22 => pVal false 1 v22 (AC Tryd.prog w0 n_p_spec_l1Rd_pick [vget l4 0, Value.int IntKind.i64 4] s21 (fun v23 s24 => pBin Tryd.prog 3 BinOp.eql v23 (Value.int IntKind.i64 0) (fun v25 => pIf v25 (AC Tryd.prog w0 n_p_spec_l1Rd_pick [vget l4 0, Value.int IntKind.i64 70] s24 (fun v26 s27 => pVal false 1 v26 (pVal true 3 (Value.agg (⟨[Value.bool true, v13, v26]⟩)) ((allOne [Value.bool true, v13, v26]) ∧ (pAppend w0 154 3 32 (vget l4 1) 1 [Value.bool true, v13, v26] s27 (fun v28 s29 => pBin Tryd.prog 3 BinOp.sub (vget l4 2) (Value.int IntKind.i64 1) (fun v30 => K5 AX.normal [vget l4 0, v28, v30] s29))))))) (pVal true 3 (Value.agg (⟨[Value.bool true, v13, v22]⟩)) ((allOne [Value.bool true, v13, v22]) ∧ (pAppend w0 154 3 32 (vget l4 1) 1 [Value.bool true, v13, v22] s24 (fun v31 s32 => pBin Tryd.prog 3 BinOp.sub (vget l4 2) (Value.int IntKind.i64 1) (fun v33 => K5 AX.normal [vget l4 0, v31, v33] s32)))))))))))) (pVal true 3 (Value.agg (⟨[Value.bool true, v13, Value.int IntKind.i64 (-1)]⟩)) ((allOne [Value.bool true, v13, Value.int IntKind.i64 (-1)]) ∧ (pAppend w0 154 3 32 (vget l4 1) 1 [Value.bool true, v13, Value.int IntKind.i64 (-1)] s16 (fun v34 s35 => pBin Tryd.prog 3 BinOp.sub (vget l4 2) (Value.int IntKind.i64 1) (fun v36 => K5 AX.normal [vget l4 0, v34, v36] s35))))))))))) (AC Tryd.prog w0 n_p_spec_l1Rd_pick [vget l4 0, Value.int IntKind.i64 3] s11 (fun v37 s38 => pBin Tryd.prog 3 BinOp.eql v37 (Value.int IntKind.i64 0) (fun v39 => pIf v39 (AC Tryd.prog w0 n_p_spec_l1Rd_pick [vget l4 0, Value.int IntKind.i64 12] s38 (fun v40 s41 => AC Tryd.prog w0 n_p_spec_l1Rd_pick [vget l4 0, Value.int IntKind.i64 2] s41 (fun v42 s43 => pBin Tryd.prog 3 BinOp.mul v40 v42 (fun v44 => pVal false 1 v44 (AC Tryd.prog w0 n_p_spec_l1Rd_pick [vget l4 0, Value.int IntKind.i64 4] s43 (fun v45 s46 => pBin Tryd.prog 3 BinOp.eql v45 (Value.int IntKind.i64 0) (fun v47 => pIf v47 (AC Tryd.prog w0 n_p_spec_l1Rd_pick [vget l4 0, Value.int IntKind.i64 70] s46 (fun v48 s49 => pVal false 1 v48 (pVal true 3 (Value.agg (⟨[Value.bool false, v8, v48]⟩)) ((allOne [Value.bool false, v8, v48]) ∧ (pAppend w0 154 3 32 (vget l4 1) 1 [Value.bool false, v8, v48] s49 (fun v50 s51 => pBin Tryd.prog 3 BinOp.sub (vget l4 2) (Value.int IntKind.i64 1) (fun v52 => K5 AX.normal [vget l4 0, v50, v52] s51))))))) (pVal true 3 (Value.agg (⟨[Value.bool false, v8, v44]⟩)) ((allOne [Value.bool false, v8, v44]) ∧ (pAppend w0 154 3 32 (vget l4 1) 1 [Value.bool false, v8, v44] s46 (fun v53 s54 => pBin Tryd.prog 3 BinOp.sub (vget l4 2) (Value.int IntKind.i64 1) (fun v55 => K5 AX.normal [vget l4 0, v53, v55] s54)))))))))))) (pVal true 3 (Value.agg (⟨[Value.bool false, v8, Value.int IntKind.i64 (-1)]⟩)) ((allOne [Value.bool false, v8, Value.int IntKind.i64 (-1)]) ∧ (pAppend w0 154 3 32 (vget l4 1) 1 [Value.bool false, v8, Value.int IntKind.i64 (-1)] s38 (fun v56 s57 => pBin Tryd.prog 3 BinOp.sub (vget l4 2) (Value.int IntKind.i64 1) (fun v58 => K5 AX.normal [vget l4 0, v56, v58] s57))))))))))))))) (K5 (AX.exit 0) [vget l4 0, vget l4 1, vget l4 2] s6))) [a0, Value.slice (Option.some (Addr.mk n0 0 Option.none)) 0 0, v2] s3 (fun x59 l60 s61 => match x59 with | .normal => R (vget l60 1) s61 | .ret => False | .exit i62 => (match Nat.beq i62 0 with | true => R (vget l60 1) s61 | false => False))))
theorem vc_spec_l24Steps_eq (w0 : World) (a0 a1 : Value) (σ : Vw) (R : Value → Vw → Prop) : vc_spec_l24Steps w0 a0 a1 σ R = den Tryd.prog w0 kp_spec_l24Steps esc_spec_l24Steps (Tryd.f109.body.getD .skip) (entry Tryd.f109.ntmps [a0, a1]) σ (retK Tryd.prog Tryd.f109.results.toList R) := by kernel_rfl
theorem ac_spec_l24Steps {w0 : World} {a0 a1 : Value} {σ : Vw} {R : Value → Vw → Prop} (h : vc_spec_l24Steps w0 a0 a1 σ R) : AC Tryd.prog w0 n_spec_l24Steps [a0, a1] σ R := by
  refine ac_rule (fn := Tryd.f109) (c := Tryd.f109.body.getD .skip) kp_spec_l24Steps esc_spec_l24Steps Tryd.func109 (by kernel_rfl) (by kernel_rfl) ?_
  rw [← vc_spec_l24Steps_eq]
  exact h

/-- slices.Index[[]int,int] -/
def kp_slices_Index_int_int : Nat → Keep
  | 2 => ⟨[0, 1, 4, 7, 8], [], [], .done, []⟩
  | _ => ⟨[], [], [], .done, []⟩
def esc_slices_Index_int_int : Nat → Bool
  | _ => false
def vc_slices_Index_int_int (w0 : World) (a0 a1 : Value) (σ : Vw) (R : Value → Vw → Prop) : Prop :=
  pLen a0 (fun v0 => pLoop (fun l1 K2 s3 => pBin Tryd.prog 3 BinOp.lss (vget l1 4) (vget l1 3) (fun v4 => pIf v4 (pIndexAddr 1 (vget l1 0) (vget l1 4) (fun v5 => pLoad w0 1 v5 s3 (fun g6 => pBin Tryd.prog 3 BinOp.eql (vget l1 1) (g6 0) (fun v7 => pIf v7 (K2 AX.ret [vget l1 0, vget l1 1, vget l1 4, vget l1 3, vget l1 4] s3) (pBin Tryd.prog 3 BinOp.add (vget l1 4) (Value.int IntKind.i64 1) (fun v8 => K2 AX.normal [vget l1 0, vget l1 1, vget l1 2, vget l1 3, v8] s3)))))) (K2 (AX.exit 0) [vget l1 0, vget l1 1, vget l1 2, vget l1 3, vget l1 4] s3))) [a0, a1, Value.int IntKind.i64 0, v0, Value.int IntKind.i64 0] σ (fun x9 l10 s11 => match x9 with | .normal => R (Value.int IntKind.i64 (-1)) s11 | .ret => R (vget l10 2) s11 | .exit i12 => (match Nat.beq i12 0 with | true => R (Value.int IntKind.i64 (-1)) s11 | false => False)))
theorem vc_slices_Index_int_int_eq (w0 : World) (a0 a1 : Value) (σ : Vw) (R : Value → Vw → Prop) : vc_slices_Index_int_int w0 a0 a1 σ R = den Tryd.prog w0 kp_slices_Index_int_int esc_slices_Index_int_int (Tryd.f110.body.getD .skip) (entry Tryd.f110.ntmps [a0, a1]) σ (retK Tryd.prog Tryd.f110.results.toList R) := by kernel_rfl
theorem ac_slices_Index_int_int {w0 : World} {a0 a1 : Value} {σ : Vw} {R : Value → Vw → Prop} (h : vc_slices_Index_int_int w0 a0 a1 σ R) : AC Tryd.prog w0 n_slices_Index_int_int [a0, a1] σ R := by
  refine ac_rule (fn := Tryd.f110) (c := Tryd.f110.body.getD .skip) kp_slices_Index_int_int esc_slices_Index_int_int Tryd.func110 (by kernel_rfl) (by kernel_rfl) ?_
  rw [← vc_slices_Index_int_int_eq]
  exact h

/-- internal/strconv.small -/
def kp_internal_strconv_small : Nat → Keep
  | _ => ⟨[], [], [], .done, []⟩
def esc_internal_strconv_small : Nat → Bool
  | _ => false
def vc_internal_strconv_small (w0 : World) (a0 : Value) (σ : Vw) (R : Value → Vw → Prop) : Prop :=
  pBin Tryd.prog 3 BinOp.lss a0 (Value.int IntKind.i64 10) (fun v0 => pIf v0 (pBin Tryd.prog 3 BinOp.add a0 (Value.int IntKind.i64 1) (fun v1 => pSliceStr (Value.string ({ data := #[48, 49, 50, 51, 52, 53, 54, 55, 56, 57, 97, 98, 99, 100, 101, 102, 103, 104, 105, 106, 107, 108, 109, 110, 111, 112, 113, 114, 115, 116, 117, 118, 119, 120, 121, 122] })) (Option.some a0) (Option.some v1) (fun v2 => R v2 σ))) (pBin Tryd.prog 3 BinOp.mul a0 (Value.int IntKind.i64 2) (fun v3 => pBin Tryd.prog 3 BinOp.mul a0 (Value.int IntKind.i64 2) (fun v4 => pBin Tryd.prog 3 BinOp.add v4 (Value.int IntKind.i64 2) (fun v5 => pSliceStr (Value.string ({ data := (([48, 48, 48, 49, 48, 50, 48, 51, 48, 52, 48, 53, 48, 54, 48, 55, 48, 56, 48, 57, 49, 48, 49, 49, 49, 50, 49, 51, 49, 52, 49, 53, 49, 54, 49, 55, 49, 56, 49, 57, 50, 48, 50, 49, 50, 50, 50, 51, 50, 52].append [50, 53, 50, 54, 50, 55, 50, 56, 50, 57, 51, 48, 51, 49, 51, 50, 51, 51, 51, 52, 51, 53, 51, 54, 51, 55, 51, 56, 51, 57, 52, 48, 52, 49, 52, 50, 52, 51, 52, 52, 52, 53, 52, 54, 52, 55, 52, 56, 52, 57]).append ([53, 48, 53, 49, 53, 50, 53, 51, 53, 52, 53, 53, 53, 54, 53, 55, 53, 56, 53, 57, 54, 48, 54, 49, 54, 50, 54, 51, 54, 52, 54, 53, 54, 54, 54, 55, 54, 56, 54, 57, 55, 48, 55, 49, 55, 50, 55, 51, 55, 52].append [55, 53, 55, 54, 55, 55, 55, 56, 55, 57, 56, 48, 56, 49, 56, 50, 56, 51, 56, 52, 56, 53, 56, 54, 56, 55, 56, 56, 56, 57, 57, 48, 57, 49, 57, 50, 57, 51, 57, 52, 57, 53, 57, 54, 57, 55, 57, 56, 57, 57])).toArray })) (Option.some v3) (Option.some v5) (fun v6 => R v6 σ))))))
theorem vc_internal_strconv_small_eq (w0 : World) (a0 : Value) (σ : Vw) (R : Value → Vw → Prop) : vc_internal_strconv_small w0 a0 σ R = den Tryd.prog w0 kp_internal_strconv_small esc_internal_strconv_small (Tryd.f111.body.getD .skip) (entry Tryd.f111.ntmps [a0]) σ (retK Tryd.prog Tryd.f111.results.toList R) := by kernel_rfl
theorem ac_internal_strconv_small {w0 : World} {a0 : Value} {σ : Vw} {R : Value → Vw → Prop} (h : vc_internal_strconv_small w0 a0 σ R) : AC Tryd.prog w0 n_internal_strconv_small [a0] σ R := by
  refine ac_rule (fn := Tryd.f111) (c := Tryd.f111.body.getD .skip) kp_internal_strconv_small esc_internal_strconv_small Tryd.func111 (by kernel_rfl) (by kernel_rfl) ?_
  rw [← vc_internal_strconv_small_eq]
  exact h

/-- internal/strconv.numDigits -/
def kp_internal_strconv_numDigits : Nat → Keep
  | _ => ⟨[], [], [], .done, []⟩
def esc_internal_strconv_numDigits : Nat → Bool
  | _ => false
def vc_internal_strconv_numDigits (w0 : World) (a0 : Value) (σ : Vw) (R : Value → Vw → Prop) : Prop :=
  AC Tryd.prog w0 n_math_bits_Len64 [a0] σ (fun v0 s1 => AC Tryd.prog w0 n_internal_strconv_log10Pow2 [v0] s1 (fun v2 s3 => pIndexArr 20 1 (Value.pointer (Option.some (Addr.mk 0 0 Option.none))) v2 (fun v4 => pLoad w0 1 v4 s3 (fun g5 => pBin Tryd.prog 145 BinOp.geq a0 (g5 0) (fun v6 => AC Tryd.prog w0 n_internal_strconv_bool2_int [v6] s3 (fun v7 s8 => pBin Tryd.prog 3 BinOp.add v2 v7 (fun v9 => R v9 s8)))))))
theorem vc_internal_strconv_numDigits_eq (w0 : World) (a0 : Value) (σ : Vw) (R : Value → Vw → Prop) : vc_internal_strconv_numDigits w0 a0 σ R = den Tryd.prog w0 kp_internal_strconv_numDigits esc_internal_strconv_numDigits (Tryd.f112.body.getD .skip) (entry Tryd.f112.ntmps [a0]) σ (retK Tryd.prog Tryd.f112.results.toList R) := by kernel_rfl
theorem ac_internal_strconv_numDigits {w0 : World} {a0 : Value} {σ : Vw} {R : Value → Vw → Prop} (h : vc_internal_strconv_numDigits w0 a0 σ R) : AC Tryd.prog w0 n_internal_strconv_numDigits [a0] σ R := by
  refine ac_rule (fn := Tryd.f112) (c := Tryd.f112.body.getD .skip) kp_internal_strconv_numDigits esc_internal_strconv_numDigits Tryd.func112 (by kernel_rfl) (by kernel_rfl) ?_
  rw [← vc_internal_strconv_numDigits_eq]
  exact h

/-- internal/strconv.formatBase10 -/
def kp_internal_strconv_formatBase10 : Nat → Keep
  | 1 => ⟨[0, 1, 4], [], [], .done, []⟩
  | 7 => ⟨[], [], [], .step 0 (.step 1 (.step 2 (.step 3 (.step 4 (.step 5 (.step 6 (.step 7 (.step 8 (.step 9 (.step 10 (.step 11 (.step 12 (.step 13 (.step 14 (.done))))))))))))))), [(2, [1]), (5, [4]), (7, [6]), (8, [6, 7]), (10, [9]), (11, [0, 1, 2, 6, 7, 8]), (12, [0, 1, 2, 6, 7, 8, 11]), (13, [0, 1, 2, 3, 4, 5, 6, 7, 8, 9, 10, 11, 12]), (14, [0, 1, 2, 3, 4, 5, 6, 7, 8, 9, 10, 11, 12, 13])]⟩
  | 8 => ⟨[], [], [], .step 0 (.step 1 (.step 2 (.step 3 (.step 4 (.step 5 (.step 6 (.step 7 (.step 8 (.step 9 (.step 10 (.step 11 (.step 12 (.step 13 (.step 14 (.done))))))))))))))), [(2, [1]), (5, [4]), (7, [6]), (8, [6, 7]), (10, [9]), (11, [0, 1, 2, 6, 7, 8]), (12, [0, 1, 2, 6, 7, 8, 11]), (13, [0, 1, 2, 3, 4, 5, 6, 7, 8, 9, 10, 11, 12]), (14, [0, 1, 2, 3, 4, 5, 6, 7, 8, 9, 10, 11, 12, 13])]⟩
  | 9 => ⟨[], [], [], .step 0 (.step 1 (.step 2 (.step 3 (.step 4 (.step 5 (.step 6 (.step 7 (.step 8 (.step 9 (.step 10 (.step 11 (.step 12 (.step 13 (.step 14 (.done))))))))))))))), [(2, [1]), (5, [4]), (7, [6]), (8, [6, 7]), (10, [9]), (11, [0, 1, 2, 6, 7, 8]), (12, [0, 1, 2, 6, 7, 8, 11]), (13, [0, 1, 2, 3, 4, 5, 6, 7, 8, 9, 10, 11, 12]), (14, [0, 1, 2, 3, 4, 5, 6, 7, 8, 9, 10, 11, 12, 13])]⟩
  | 10 => ⟨[], [], [], .step 0 (.step 1 (.step 2 (.step 3 (.step 4 (.step 5 (.step 6 (.step 7 (.step 8 (.step 9 (.step 10 (.step 11 (.step 12 (.step 13 (.step 14 (.done))))))))))))))), [(2, [1]), (5, [4]), (7, [6]), (8, [6, 7]), (10, [9]), (11, [0, 1, 2, 6, 7, 8]), (12, [0, 1, 2, 6, 7, 8, 11]), (13, [0, 1, 2, 3, 4, 5, 6, 7, 8, 9, 10, 11, 12]), (14, [0, 1, 2, 3, 4, 5, 6, 7, 8, 9, 10, 11, 12, 13])]⟩
  | 17 => ⟨[], [], [], .step 0 (.step 1 (.step 2 (.step 3 (.step 4 (.step 5 (.step 6 (.step 7 (.step 8 (.step 9 (.step 10 (.step 11 (.step 12 (.step 13 (.step 14 (.done))))))))))))))), [(2, [1]), (5, [4]), (7, [6]), (8, [6, 7]), (10, [9]), (11, [0, 1, 2, 6, 7, 8]), (12, [0, 1, 2, 6, 7, 8, 11]), (13, [0, 1, 2, 3, 4, 5, 6, 7, 8, 9, 10, 11, 12]), (14, [0, 1, 2, 3, 4, 5, 6, 7, 8, 9, 10, 11, 12, 13])]⟩
  | 18 => ⟨[], [], [], .step 0 (.step 1 (.step 2 (.step 3 (.step 4 (.step 5 (.step 6 (.step 7 (.step 8 (.step 9 (.step 10 (.step 11 (.step 12 (.step 13 (.step 14 (.done))))))))))))))), [(2, [1]), (5, [4]), (7, [6]), (8, [6, 7]), (10, [9]), (11, [0, 1, 2, 6, 7, 8]), (12, [0, 1, 2, 6, 7, 8, 11]), (13, [0, 1, 2, 3, 4, 5, 6, 7, 8, 9, 10, 11, 12]), (14, [0, 1, 2, 3, 4, 5, 6, 7, 8, 9, 10, 11, 12, 13])]⟩
  | 23 => ⟨[], [], [], .step 0 (.step 1 (.step 2 (.step 3 (.step 4 (.step 5 (.step 6 (.step 7 (.step 8 (.step 9 (.step 10 (.step 11 (.step 12 (.step 13 (.step 14 (.done))))))))))))))), [(2, [1]), (5, [4]), (7, [6]), (8, [6, 7]), (10, [9]), (11, [0, 1, 2, 6, 7, 8]), (12, [0, 1, 2, 6, 7, 8, 11]), (13, [0, 1, 2, 3, 4, 5, 6, 7, 8, 9, 10, 11, 12]), (14, [0, 1, 2, 3, 4, 5, 6, 7, 8, 9, 10, 11, 12, 13])]⟩
  | _ => ⟨[], [], [], .done, []⟩
def esc_internal_strconv_formatBase10 : Nat → Bool
  | _ => false
def vc_internal_strconv_formatBase10 (w0 : World) (a0 a1 : Value) (σ : Vw) (R : Value → Vw → Prop) : Prop :=
  pLen a0 (fun v0 => pLoop (fun l1 K2 s3 => pBin Tryd.prog 3 BinOp.geq (vget l1 2) (Value.int IntKind.i64 8) (fun v4 => pIf v4 (pBin Tryd.prog 145 BinOp.rem (vget l1 1) (Value.int IntKind.u64 100000000) (fun v5 => pConvInt IntKind.u32 v5 (fun v6 => pBin Tryd.prog 145 BinOp.quo (vget l1 1) (Value.int IntKind.u64 100000000) (fun v7 => pBin Tryd.prog 159 BinOp.quo v6 (Value.int IntKind.u32 10000) (fun v8 => pBin Tryd.prog 159 BinOp.rem v6 (Value.int IntKind.u32 10000) (fun v9 => pBin Tryd.prog 159 BinOp.quo v9 (Value.int IntKind.u32 100) (fun v10 => pBin Tryd.prog 159 BinOp.mul v10 (Value.int IntKind.u32 2) (fun v11 => pBin Tryd.prog 159 BinOp.rem v9 (Value.int IntKind.u32 100) (fun v12 => pBin Tryd.prog 159 BinOp.mul v12 (Value.int IntKind.u32 2) (fun v13 => pBin Tryd.prog 159 BinOp.quo v8 (Value.int IntKind.u32 100) (fun v14 => pBin Tryd.prog 159 BinOp.mul v14 (Value.int IntKind.u32 2) (fun v15 => pBin Tryd.prog 159 BinOp.rem v8 (Value.int IntKind.u32 100) (fun v16 => pBin Tryd.prog 159 BinOp.mul v16 (Value.int IntKind.u32 2) (fun v17 => pBin Tryd.prog 3 BinOp.sub (vget l1 2) (Value.int IntKind.i64 1) (fun v18 => pBin Tryd.prog 3 BinOp.sub (vget l1 2) (Value.int IntKind.i64 2) (fun v19 => pBin Tryd.prog 159 BinOp.add v13 (Value.int IntKind.u32 1) (fun v20 => pIndexStr (Value.string ({ data := (([48, 48, 48, 49, 48, 50, 48, 51, 48, 52, 48, 53, 48, 54, 48, 55, 48, 56, 48, 57, 49, 48, 49, 49, 49, 50, 49, 51, 49, 52, 49, 53, 49, 54, 49, 55, 49, 56, 49, 57, 50, 48, 50, 49, 50, 50, 50, 51, 50, 52].append [50, 53, 50, 54, 50, 55, 50, 56, 50, 57, 51, 48, 51, 49, 51, 50, 51, 51, 51, 52, 51, 53, 51, 54, 51, 55, 51, 56, 51, 57, 52, 48, 52, 49, 52, 50, 52, 51, 52, 52, 52, 53, 52, 54, 52, 55, 52, 56, 52, 57]).append ([53, 48, 53, 49, 53, 50, 53, 51, 53, 52, 53, 53, 53, 54, 53, 55, 53, 56, 53, 57, 54, 48, 54, 49, 54, 50, 54, 51, 54, 52, 54, 53, 54, 54, 54, 55, 54, 56, 54, 57, 55, 48, 55, 49, 55, 50, 55, 51, 55, 52].append [55, 53, 55, 54, 55, 55, 55, 56, 55, 57, 56, 48, 56, 49, 56, 50, 56, 51, 56, 52, 56, 53, 56, 54, 56, 55, 56, 56, 56, 57, 57, 48, 57, 49, 57, 50, 57, 51, 57, 52, 57, 53, 57, 54, 57, 55, 57, 56, 57, 57])).toArray })) v20 (fun v21 => pIndexStr (Value.string ({ data := (([48, 48, 48, 49, 48, 50, 48, 51, 48, 52, 48, 53, 48, 54, 48, 55, 48, 56, 48, 57, 49, 48, 49, 49, 49, 50, 49, 51, 49, 52, 49, 53, 49, 54, 49, 55, 49, 56, 49, 57, 50, 48, 50, 49, 50, 50, 50, 51, 50, 52].append [50, 53, 50, 54, 50, 55, 50, 56, 50, 57, 51, 48, 51, 49, 51, 50, 51, 51, 51, 52, 51, 53, 51, 54, 51, 55, 51, 56, 51, 57, 52, 48, 52, 49, 52, 50, 52, 51, 52, 52, 52, 53, 52, 54, 52, 55, 52, 56, 52, 57]).append ([53, 48, 53, 49, 53, 50, 53, 51, 53, 52, 53, 53, 53, 54, 53, 55, 53, 56, 53, 57, 54, 48, 54, 49, 54, 50, 54, 51, 54, 52, 54, 53, 54, 54, 54, 55, 54, 56, 54, 57, 55, 48, 55, 49, 55, 50, 55, 51, 55, 52].append [55, 53, 55, 54, 55, 55, 55, 56, 55, 57, 56, 48, 56, 49, 56, 50, 56, 51, 56, 52, 56, 53, 56, 54, 56, 55, 56, 56, 56, 57, 57, 48, 57, 49, 57, 50, 57, 51, 57, 52, 57, 53, 57, 54, 57, 55, 57, 56, 57, 57])).toArray })) v13 (fun v22 => pIndexAddr 1 (vget l1 0) v18 (fun v23 => pVal false 1 v21 (pStore v23 [v21] s3 (fun s24 => pIndexAddr 1 (vget l1 0) v19 (fun v25 => pVal false 1 v22 (pStore v25 [v22] s24 (fun s26 => pBin Tryd.prog 3 BinOp.sub (vget l1 2) (Value.int IntKind.i64 3) (fun v27 => pBin Tryd.prog 3 BinOp.sub (vget l1 2) (Value.int IntKind.i64 4) (fun v28 => pBin Tryd.prog 159 BinOp.add v11 (Value.int IntKind.u32 1) (fun v29 => pIndexStr (Value.string ({ data := (([48, 48, 48, 49, 48, 50, 48, 51, 48, 52, 48, 53, 48, 54, 48, 55, 48, 56, 48, 57, 49, 48, 49, 49, 49, 50, 49, 51, 49, 52, 49, 53, 49, 54, 49, 55, 49, 56, 49, 57, 50, 48, 50, 49, 50, 50, 50, 51, 50, 52].append [50, 53, 50, 54, 50, 55, 50, 56, 50, 57, 51, 48, 51, 49, 51, 50, 51, 51, 51, 52, 51, 53, 51, 54, 51, 55, 51, 56, 51, 57, 52, 48, 52, 49, 52, 50, 52, 51, 52, 52, 52, 53, 52, 54, 52, 55, 52, 56, 52, 57]).append ([53, 48, 53, 49, 53, 50, 53, 51, 53, 52, 53, 53, 53, 54, 53, 55, 53, 56, 53, 57, 54, 48, 54, 49, 54, 50, 54, 51, 54, 52, 54, 53, 54, 54, 54, 55, 54, 56, 54, 57, 55, 48, 55, 49, 55, 50, 55, 51, 55, 52].append [55, 53, 55, 54, 55, 55, 55, 56, 55, 57, 56, 48, 56, 49, 56, 50, 56, 51, 56, 52, 56, 53, 56, 54, 56, 55, 56, 56, 56, 57, 57, 48, 57, 49, 57, 50, 57, 51, 57, 52, 57, 53, 57, 54, 57, 55, 57, 56, 57, 57])).toArray })) v29 (fun v30 => pIndexStr (Value.string ({ data := (([48, 48, 48, 49, 48, 50, 48, 51, 48, 52, 48, 53, 48, 54, 48, 55, 48, 56, 48, 57, 49, 48, 49, 49, 49, 50, 49, 51, 49, 52, 49, 53, 49, 54, 49, 55, 49, 56, 49, 57, 50, 48, 50, 49, 50, 50, 50, 51, 50, 52].append [50, 53, 50, 54, 50, 55, 50, 56, 50, 57, 51, 48, 51, 49, 51, 50, 51, 51, 51, 52, 51, 53, 51, 54, 51, 55, 51, 56, 51, 57, 52, 48, 52, 49, 52, 50, 52, 51, 52, 52, 52, 53, 52, 54, 52, 55, 52, 56, 52, 57]).append ([53, 48, 53, 49, 53, 50, 53, 51, 53, 52, 53, 53, 53, 54, 53, 55, 53, 56, 53, 57, 54, 48, 54, 49, 54, 50, 54, 51, 54, 52, 54, 53, 54, 54, 54, 55, 54, 56, 54, 57, 55, 48, 55, 49, 55, 50, 55, 51, 55, 52].append [55, 53, 55, 54, 55, 55, 55, 56, 55, 57, 56, 48, 56, 49, 56, 50, 56, 51, 56, 52, 56, 53, 56, 54, 56, 55, 56, 56, 56, 57, 57, 48, 57, 49, 57, 50, 57, 51, 57, 52, 57, 53, 57, 54, 57, 55, 57, 56, 57, 57])).toArray })) v11 (fun v31 => pIndexAddr 1 (vget l1 0) v27 (fun v32 => pVal false 1 v30 (pStore v32 [v30] s26 (fun s33 => pIndexAddr 1 (vget l1 0) v28 (fun v34 => pVal false 1 v31 (pStore v34 [v31] s33 (fun s35 => pBin Tryd.prog 3 BinOp.sub (vget l1 2) (Value.int IntKind.i64 5) (fun v36 => pBin Tryd.prog 3 BinOp.sub (vget l1 2) (Value.int IntKind.i64 6) (fun v37 => pBin Tryd.prog 159 BinOp.add v17 (Value.int IntKind.u32 1) (fun v38 => pIndexStr (Value.string ({ data := (([48, 48, 48, 49, 48, 50, 48, 51, 48, 52, 48, 53, 48, 54, 48, 55, 48, 56, 48, 57, 49, 48, 49, 49, 49, 50, 49, 51, 49, 52, 49, 53, 49, 54, 49, 55, 49, 56, 49, 57, 50, 48, 50, 49, 50, 50, 50, 51, 50, 52].append [50, 53, 50, 54, 50, 55, 50, 56, 50, 57, 51, 48, 51, 49, 51, 50, 51, 51, 51, 52, 51, 53, 51, 54, 51, 55, 51, 56, 51, 57, 52, 48, 52, 49, 52, 50, 52, 51, 52, 52, 52, 53, 52, 54, 52, 55, 52, 56, 52, 57]).append ([53, 48, 53, 49, 53, 50, 53, 51, 53, 52, 53, 53, 53, 54, 53, 55, 53, 56, 53, 57, 54, 48, 54, 49, 54, 50, 54, 51, 54, 52, 54, 53, 54, 54, 54, 55, 54, 56, 54, 57, 55, 48, 55, 49, 55, 50, 55, 51, 55, 52].append [55, 53, 55, 54, 55, 55, 55, 56, 55, 57, 56, 48, 56, 49, 56, 50, 56, 51, 56, 52, 56, 53, 56, 54, 56, 55, 56, 56, 56, 57, 57, 48, 57, 49, 57, 50, 57, 51, 57, 52, 57, 53, 57, 54, 57, 55, 57, 56, 57, 57])).toArray })) v38 (fun v39 => pIndexStr (Value.string ({ data := (([48, 48, 48, 49, 48, 50, 48, 51, 48, 52, 48, 53, 48, 54, 48, 55, 48, 56, 48, 57, 49, 48, 49, 49, 49, 50, 49, 51, 49, 52, 49, 53, 49, 54, 49, 55, 49, 56, 49, 57, 50, 48, 50, 49, 50, 50, 50, 51, 50, 52].append [50, 53, 50, 54, 50, 55, 50, 56, 50, 57, 51, 48, 51, 49, 51, 50, 51, 51, 51, 52, 51, 53, 51, 54, 51, 55, 51, 56, 51, 57, 52, 48, 52, 49, 52, 50, 52, 51, 52, 52, 52, 53, 52, 54, 52, 55, 52, 56, 52, 57]).append ([53, 48, 53, 49, 53, 50, 53, 51, 53, 52, 53, 53, 53, 54, 53, 55, 53, 56, 53, 57, 54, 48, 54, 49, 54, 50, 54, 51, 54, 52, 54, 53, 54, 54, 54, 55, 54, 56, 54, 57, 55, 48, 55, 49, 55, 50, 55, 51, 55, 52].append [55, 53, 55, 54, 55, 55, 55, 56, 55, 57, 56, 48, 56, 49, 56, 50, 56, 51, 56, 52, 56, 53, 56, 54, 56, 55, 56, 56, 56, 57, 57, 48, 57, 49, 57, 50, 57, 51, 57, 52, 57, 53, 57, 54, 57, 55, 57, 56, 57, 57])).toArray })) v17 (fun v40 => pIndexAddr 1 (vget l1 0) v36 (fun v41 => pVal false 1 v39 (pStore v41 [v39] s35 (fun s42 => pIndexAddr 1 (vget l1 0) v37 (fun v43 => pVal false 1 v40 (pStore v43 [v40] s42 (fun s44 => pBin Tryd.prog 3 BinOp.sub (vget l1 2) (Value.int IntKind.i64 7) (fun v45 => pBin Tryd.prog 3 BinOp.sub (vget l1 2) (Value.int IntKind.i64 8) (fun v46 => pBin Tryd.prog 159 BinOp.add v15 (Value.int IntKind.u32 1) (fun v47 => pIndexStr (Value.string ({ data := (([48, 48, 48, 49, 48, 50, 48, 51, 48, 52, 48, 53, 48, 54, 48, 55, 48, 56, 48, 57, 49, 48, 49, 49, 49, 50, 49, 51, 49, 52, 49, 53, 49, 54, 49, 55, 49, 56, 49, 57, 50, 48, 50, 49, 50, 50, 50, 51, 50, 52].append [50, 53, 50, 54, 50, 55, 50, 56, 50, 57, 51, 48, 51, 49, 51, 50, 51, 51, 51, 52, 51, 53, 51, 54, 51, 55, 51, 56, 51, 57, 52, 48, 52, 49, 52, 50, 52, 51, 52, 52, 52, 53, 52, 54, 52, 55, 52, 56, 52, 57]).append ([53, 48, 53, 49, 53, 50, 53, 51, 53, 52, 53, 53, 53, 54, 53, 55, 53, 56, 53, 57, 54, 48, 54, 49, 54, 50, 54, 51, 54, 52, 54, 53, 54, 54, 54, 55, 54, 56, 54, 57, 55, 48, 55, 49, 55, 50, 55, 51, 55, 52].append [55, 53, 55, 54, 55, 55, 55, 56, 55, 57, 56, 48, 56, 49, 56, 50, 56, 51, 56, 52, 56, 53, 56, 54, 56, 55, 56, 56, 56, 57, 57, 48, 57, 49, 57, 50, 57, 51, 57, 52, 57, 53, 57, 54, 57, 55, 57, 56, 57, 57])).toArray })) v47 (fun v48 => pIndexStr (Value.string ({ data := (([48, 48, 48, 49, 48, 50, 48, 51, 48, 52, 48, 53, 48, 54, 48, 55, 48, 56, 48, 57, 49, 48, 49, 49, 49, 50, 49, 51, 49, 52, 49, 53, 49, 54, 49, 55, 49, 56, 49, 57, 50, 48, 50, 49, 50, 50, 50, 51, 50, 52].append [50, 53, 50, 54, 50, 55, 50, 56, 50, 57, 51, 48, 51, 49, 51, 50, 51, 51, 51, 52, 51, 53, 51, 54, 51, 55, 51, 56, 51, 57, 52, 48, 52, 49, 52, 50, 52, 51, 52, 52, 52, 53, 52, 54, 52, 55, 52, 56, 52, 57]).append ([53, 48, 53, 49, 53, 50, 53, 51, 53, 52, 53, 53, 53, 54, 53, 55, 53, 56, 53, 57, 54, 48, 54, 49, 54, 50, 54, 51, 54, 52, 54, 53, 54, 54, 54, 55, 54, 56, 54, 57, 55, 48, 55, 49, 55, 50, 55, 51, 55, 52].append [55, 53, 55, 54, 55, 55, 55, 56, 55, 57, 56, 48, 56, 49, 56, 50, 56, 51, 56, 52, 56, 53, 56, 54, 56, 55, 56, 56, 56, 57, 57, 48, 57, 49, 57, 50, 57, 51, 57, 52, 57, 53, 57, 54, 57, 55, 57, 56, 57, 57])).toArray })) v15 (fun v49 => pIndexAddr 1 (vget l1 0) v45 (fun v50 => pVal false 1 v48 (pStore v50 [v48] s44 (fun s51 => pIndexAddr 1 (vget l1 0) v46 (fun v52 => pVal false 1 v49 (pStore v52 [v49] s51 (fun s53 => pBin Tryd.prog 3 BinOp.sub (vget l1 2) (Value.int IntKind.i64 8) (fun v54 => K2 AX.normal [vget l1 0, v7, v54] s53))))))))))))))))))))))))))))))))))))))))))))))))))))))))))) (K2 (AX.exit 0) [vget l1 0, vget l1 1, vget l1 2] s3))) [a0, a1, v0] σ (fun x55 l56 s57 => match x55 with | .normal => pConvInt IntKind.u32 (vget l56 1) (fun v58 => pBin Tryd.prog 3 BinOp.geq (vget l56 2) (Value.int IntKind.i64 4) (fun v59 => pIf v59 (pBin Tryd.prog 159 BinOp.rem v58 (Value.int IntKind.u32 10000) (fun v60 => pBin Tryd.prog 159 BinOp.quo v58 (Value.int IntKind.u32 10000) (fun v61 => pBin Tryd.prog 159 BinOp.quo v60 (Value.int IntKind.u32 100) (fun v62 => pBin Tryd.prog 159 BinOp.mul v62 (Value.int IntKind.u32 2) (fun v63 => pBin Tryd.prog 159 BinOp.rem v60 (Value.int IntKind.u32 100) (fun v64 => pBin Tryd.prog 159 BinOp.mul v64 (Value.int IntKind.u32 2) (fun v65 => pBin Tryd.prog 3 BinOp.sub (vget l56 2) (Value.int IntKind.i64 1) (fun v66 => pBin Tryd.prog 3 BinOp.sub (vget l56 2) (Value.int IntKind.i64 2) (fun v67 => pBin Tryd.prog 159 BinOp.add v65 (Value.int IntKind.u32 1) (fun v68 => pIndexStr (Value.string ({ data := (([48, 48, 48, 49, 48, 50, 48, 51, 48, 52, 48, 53, 48, 54, 48, 55, 48, 56, 48, 57, 49, 48, 49, 49, 49, 50, 49, 51, 49, 52, 49, 53, 49, 54, 49, 55, 49, 56, 49, 57, 50, 48, 50, 49, 50, 50, 50, 51, 50, 52].append [50, 53, 50, 54, 50, 55, 50, 56, 50, 57, 51, 48, 51, 49, 51, 50, 51, 51, 51, 52, 51, 53, 51, 54, 51, 55, 51, 56, 51, 57, 52, 48, 52, 49, 52, 50, 52, 51, 52, 52, 52, 53, 52, 54, 52, 55, 52, 56, 52, 57]).append ([53, 48, 53, 49, 53, 50, 53, 51, 53, 52, 53, 53, 53, 54, 53, 55, 53, 56, 53, 57, 54, 48, 54, 49, 54, 50, 54, 51, 54, 52, 54, 53, 54, 54, 54, 55, 54, 56, 54, 57, 55, 48, 55, 49, 55, 50, 55, 51, 55, 52].append [55, 53, 55, 54, 55, 55, 55, 56, 55, 57, 56, 48, 56, 49, 56, 50, 56, 51, 56, 52, 56, 53, 56, 54, 56, 55, 56, 56, 56, 57, 57, 48, 57, 49, 57, 50, 57, 51, 57, 52, 57, 53, 57, 54, 57, 55, 57, 56, 57, 57])).toArray })) v68 (fun v69 => pIndexStr (Value.string ({ data := (([48, 48, 48, 49, 48, 50, 48, 51, 48, 52, 48, 53, 48, 54, 48, 55, 48, 56, 48, 57, 49, 48, 49, 49, 49, 50, 49, 51, 49, 52, 49, 53, 49, 54, 49, 55, 49, 56, 49, 57, 50, 48, 50, 49, 50, 50, 50, 51, 50, 52].append [50, 53, 50, 54, 50, 55, 50, 56, 50, 57, 51, 48, 51, 49, 51, 50, 51, 51, 51, 52, 51, 53, 51, 54, 51, 55, 51, 56, 51, 57, 52, 48, 52, 49, 52, 50, 52, 51, 52, 52, 52, 53, 52, 54, 52, 55, 52, 56, 52, 57]).append ([53, 48, 53, 49, 53, 50, 53, 51, 53, 52, 53, 53, 53, 54, 53, 55, 53, 56, 53, 57, 54, 48, 54, 49, 54, 50, 54, 51, 54, 52, 54, 53, 54, 54, 54, 55, 54, 56, 54, 57, 55, 48, 55, 49, 55, 50, 55, 51, 55, 52].append [55, 53, 55, 54, 55, 55, 55, 56, 55, 57, 56, 48, 56, 49, 56, 50, 56, 51, 56, 52, 56, 53, 56, 54, 56, 55, 56, 56, 56, 57, 57, 48, 57, 49, 57, 50, 57, 51, 57, 52, 57, 53, 57, 54, 57, 55, 57, 56, 57, 57])).toArray })) v65 (fun v70 => pIndexAddr 1 (vget l56 0) v66 (fun v71 => pVal false 1 v69 (pStore v71 [v69] s57 (fun s72 => pIndexAddr 1 (vget l56 0) v67 (fun v73 => pVal false 1 v70 (pStore v73 [v70] s72 (fun s74 => pBin Tryd.prog 3 BinOp.sub (vget l56 2) (Value.int IntKind.i64 3) (fun v75 => pBin Tryd.prog 3 BinOp.sub (vget l56 2) (Value.int IntKind.i64 4) (fun v76 => pBin Tryd.prog 159 BinOp.add v63 (Value.int IntKind.u32 1) (fun v77 => pIndexStr (Value.string ({ data := (([48, 48, 48, 49, 48, 50, 48, 51, 48, 52, 48, 53, 48, 54, 48, 55, 48, 56, 48, 57, 49, 48, 49, 49, 49, 50, 49, 51, 49, 52, 49, 53, 49, 54, 49, 55, 49, 56, 49, 57, 50, 48, 50, 49, 50, 50, 50, 51, 50, 52].append [50, 53, 50, 54, 50, 55, 50, 56, 50, 57, 51, 48, 51, 49, 51, 50, 51, 51, 51, 52, 51, 53, 51, 54, 51, 55, 51, 56, 51, 57, 52, 48, 52, 49, 52, 50, 52, 51, 52, 52, 52, 53, 52, 54, 52, 55, 52, 56, 52, 57]).append ([53, 48, 53, 49, 53, 50, 53, 51, 53, 52, 53, 53, 53, 54, 53, 55, 53, 56, 53, 57, 54, 48, 54, 49, 54, 50, 54, 51, 54, 52, 54, 53, 54, 54, 54, 55, 54, 56, 54, 57, 55, 48, 55, 49, 55, 50, 55, 51, 55, 52].append [55, 53, 55, 54, 55, 55, 55, 56, 55, 57, 56, 48, 56, 49, 56, 50, 56, 51, 56, 52, 56, 53, 56, 54, 56, 55, 56, 56, 56, 57, 57, 48, 57, 49, 57, 50, 57, 51, 57, 52, 57, 53, 57, 54, 57, 55, 57, 56, 57, 57])).toArray })) v77 (fun v78 => pIndexStr (Value.string ({ data := (([48, 48, 48, 49, 48, 50, 48, 51, 48, 52, 48, 53, 48, 54, 48, 55, 48, 56, 48, 57, 49, 48, 49, 49, 49, 50, 49, 51, 49, 52, 49, 53, 49, 54, 49, 55, 49, 56, 49, 57, 50, 48, 50, 49, 50, 50, 50, 51, 50, 52].append [50, 53, 50, 54, 50, 55, 50, 56, 50, 57, 51, 48, 51, 49, 51, 50, 51, 51, 51, 52, 51, 53, 51, 54, 51, 55, 51, 56, 51, 57, 52, 48, 52, 49, 52, 50, 52, 51, 52, 52, 52, 53, 52, 54, 52, 55, 52, 56, 52, 57]).append ([53, 48, 53, 49, 53, 50, 53, 51, 53, 52, 53, 53, 53, 54, 53, 55, 53, 56, 53, 57, 54, 48, 54, 49, 54, 50, 54, 51, 54, 52, 54, 53, 54, 54, 54, 55, 54, 56, 54, 57, 55, 48, 55, 49, 55, 50, 55, 51, 55, 52].append [55, 53, 55, 54, 55, 55, 55, 56, 55, 57, 56, 48, 56, 49, 56, 50, 56, 51, 56, 52, 56, 53, 56, 54, 56, 55, 56, 56, 56, 57, 57, 48, 57, 49, 57, 50, 57, 51, 57, 52, 57, 53, 57, 54, 57, 55, 57, 56, 57, 57])).toArray })) v63 (fun v79 => pIndexAddr 1 (vget l56 0) v75 (fun v80 => pVal false 1 v78 (pStore v80 [v78] s74 (fun s81 => pIndexAddr 1 (vget l56 0) v76 (fun v82 => pVal false 1 v79 (pStore v82 [v79] s81 (fun s83 => pBin Tryd.prog 3 BinOp.sub (vget l56 2) (Value.int IntKind.i64 4) (fun v84 => pBin Tryd.prog 3 BinOp.geq v84 (Value.int IntKind.i64 2) (fun v85 => pIf v85 (pBin Tryd.prog 159 BinOp.rem v61 (Value.int IntKind.u32 100) (fun v86 => pBin Tryd.prog 159 BinOp.mul v86 (Value.int IntKind.u32 2) (fun v87 => pBin Tryd.prog 159 BinOp.quo v61 (Value.int IntKind.u32 100) (fun v88 => pBin Tryd.prog 3 BinOp.sub v84 (Value.int IntKind.i64 1) (fun v89 => pBin Tryd.prog 3 BinOp.sub v84 (Value.int IntKind.i64 2) (fun v90 => pBin Tryd.prog 159 BinOp.add v87 (Value.int IntKind.u32 1) (fun v91 => pIndexStr (Value.string ({ data := (([48, 48, 48, 49, 48, 50, 48, 51, 48, 52, 48, 53, 48, 54, 48, 55, 48, 56, 48, 57, 49, 48, 49, 49, 49, 50, 49, 51, 49, 52, 49, 53, 49, 54, 49, 55, 49, 56, 49, 57, 50, 48, 50, 49, 50, 50, 50, 51, 50, 52].append [50, 53, 50, 54, 50, 55, 50, 56, 50, 57, 51, 48, 51, 49, 51, 50, 51, 51, 51, 52, 51, 53, 51, 54, 51, 55, 51, 56, 51, 57, 52, 48, 52, 49, 52, 50, 52, 51, 52, 52, 52, 53, 52, 54, 52, 55, 52, 56, 52, 57]).append ([53, 48, 53, 49, 53, 50, 53, 51, 53, 52, 53, 53, 53, 54, 53, 55, 53, 56, 53, 57, 54, 48, 54, 49, 54, 50, 54, 51, 54, 52, 54, 53, 54, 54, 54, 55, 54, 56, 54, 57, 55, 48, 55, 49, 55, 50, 55, 51, 55, 52].append [55, 53, 55, 54, 55, 55, 55, 56, 55, 57, 56, 48, 56, 49, 56, 50, 56, 51, 56, 52, 56, 53, 56, 54, 56, 55, 56, 56, 56, 57, 57, 48, 57, 49, 57, 50, 57, 51, 57, 52, 57, 53, 57, 54, 57, 55, 57, 56, 57, 57])).toArray })) v91 (fun v92 => pIndexStr (Value.string ({ data := (([48, 48, 48, 49, 48, 50, 48, 51, 48, 52, 48, 53, 48, 54, 48, 55, 48, 56, 48, 57, 49, 48, 49, 49, 49, 50, 49, 51, 49, 52, 49, 53, 49, 54, 49, 55, 49, 56, 49, 57, 50, 48, 50, 49, 50, 50, 50, 51, 50, 52].append [50, 53, 50, 54, 50, 55, 50, 56, 50, 57, 51, 48, 51, 49, 51, 50, 51, 51, 51, 52, 51, 53, 51, 54, 51, 55, 51, 56, 51, 57, 52, 48, 52, 49, 52, 50, 52, 51, 52, 52, 52, 53, 52, 54, 52, 55, 52, 56, 52, 57]).append ([53, 48, 53, 49, 53, 50, 53, 51, 53, 52, 53, 53, 53, 54, 53, 55, 53, 56, 53, 57, 54, 48, 54, 49, 54, 50, 54, 51, 54, 52, 54, 53, 54, 54, 54, 55, 54, 56, 54, 57, 55, 48, 55, 49, 55, 50, 55, 51, 55, 52].append [55, 53, 55, 54, 55, 55, 55, 56, 55, 57, 56, 48, 56, 49, 56, 50, 56, 51, 56, 52, 56, 53, 56, 54, 56, 55, 56, 56, 56, 57, 57, 48, 57, 49, 57, 50, 57, 51, 57, 52, 57, 53, 57, 54, 57, 55, 57, 56, 57, 57])).toArray })) v87 (fun v93 => pIndexAddr 1 (vget l56 0) v89 (fun v94 => pVal false 1 v92 (pStore v94 [v92] s83 (fun s95 => pIndexAddr 1 (vget l56 0) v90 (fun v96 => pVal false 1 v93 (pStore v96 [v93] s95 (fun s97 => pBin Tryd.prog 3 BinOp.sub v84 (Value.int IntKind.i64 2) (fun v98 => pBin Tryd.prog 3 BinOp.gtr v98 (Value.int IntKind.i64 0) (fun v99 => pIf v99 (pBin Tryd.prog 159 BinOp.add (Value.int IntKind.u32 48) v88 (fun v100 => pConvInt IntKind.u8 v100 (fun v101 => pIndexAddr 1 (vget l56 0) (Value.int IntKind.i64 0) (fun v102 => pVal false 1 v101 (pStore v102 [v101] s97 (fun s103 => R (Value.tuple ⟨[]⟩) s103)))))) (R (Value.tuple ⟨[]⟩) s97)))))))))))))))))) (pBin Tryd.prog 3 BinOp.gtr v84 (Value.int IntKind.i64 0) (fun v104 => pIf v104 (pBin Tryd.prog 159 BinOp.add (Value.int IntKind.u32 48) v61 (fun v105 => pConvInt IntKind.u8 v105 (fun v106 => pIndexAddr 1 (vget l56 0) (Value.int IntKind.i64 0) (fun v107 => pVal false 1 v106 (pStore v107 [v106] s83 (fun s108 => R (Value.tuple ⟨[]⟩) s108)))))) (R (Value.tuple ⟨[]⟩) s83)))))))))))))))))))))))))))))))))) (pBin Tryd.prog 3 BinOp.geq (vget l56 2) (Value.int IntKind.i64 2) (fun v109 => pIf v109 (pBin Tryd.prog 159 BinOp.rem v58 (Value.int IntKind.u32 100) (fun v110 => pBin Tryd.prog 159 BinOp.mul v110 (Value.int IntKind.u32 2) (fun v111 => pBin Tryd.prog 159 BinOp.quo v58 (Value.int IntKind.u32 100) (fun v112 => pBin Tryd.prog 3 BinOp.sub (vget l56 2) (Value.int IntKind.i64 1) (fun v113 => pBin Tryd.prog 3 BinOp.sub (vget l56 2) (Value.int IntKind.i64 2) (fun v114 => pBin Tryd.prog 159 BinOp.add v111 (Value.int IntKind.u32 1) (fun v115 => pIndexStr (Value.string ({ data := (([48, 48, 48, 49, 48, 50, 48, 51, 48, 52, 48, 53, 48, 54, 48, 55, 48, 56, 48, 57, 49, 48, 49, 49, 49, 50, 49, 51, 49, 52, 49, 53, 49, 54, 49, 55, 49, 56, 49, 57, 50, 48, 50, 49, 50, 50, 50, 51, 50, 52].append [50, 53, 50, 54, 50, 55, 50, 56, 50, 57, 51, 48, 51, 49, 51, 50, 51, 51, 51, 52, 51, 53, 51, 54, 51, 55, 51, 56, 51, 57, 52, 48, 52, 49, 52, 50, 52, 51, 52, 52, 52, 53, 52, 54, 52, 55, 52, 56, 52, 57]).append ([53, 48, 53, 49, 53, 50, 53, 51, 53, 52, 53, 53, 53, 54, 53, 55, 53, 56, 53, 57, 54, 48, 54, 49, 54, 50, 54, 51, 54, 52, 54, 53, 54, 54, 54, 55, 54, 56, 54, 57, 55, 48, 55, 49, 55, 50, 55, 51, 55, 52].append [55, 53, 55, 54, 55, 55, 55, 56, 55, 57, 56, 48, 56, 49, 56, 50, 56, 51, 56, 52, 56, 53, 56, 54, 56, 55, 56, 56, 56, 57, 57, 48, 57, 49, 57, 50, 57, 51, 57, 52, 57, 53, 57, 54, 57, 55, 57, 56, 57, 57])).toArray })) v115 (fun v116 => pIndexStr (Value.string ({ data := (([48, 48, 48, 49, 48, 50, 48, 51, 48, 52, 48, 53, 48, 54, 48, 55, 48, 56, 48, 57, 49, 48, 49, 49, 49, 50, 49, 51, 49, 52, 49, 53, 49, 54, 49, 55, 49, 56, 49, 57, 50, 48, 50, 49, 50, 50, 50, 51, 50, 52].append [50, 53, 50, 54, 50, 55, 50, 56, 50, 57, 51, 48, 51, 49, 51, 50, 51, 51, 51, 52, 51, 53, 51, 54, 51, 55, 51, 56, 51, 57, 52, 48, 52, 49, 52, 50, 52, 51, 52, 52, 52, 53, 52, 54, 52, 55, 52, 56, 52, 57]).append ([53, 48, 53, 49, 53, 50, 53, 51, 53, 52, 53, 53, 53, 54, 53, 55, 53, 56, 53, 57, 54, 48, 54, 49, 54, 50, 54, 51, 54, 52, 54, 53, 54, 54, 54, 55, 54, 56, 54, 57, 55, 48, 55, 49, 55, 50, 55, 51, 55, 52].append [55, 53, 55, 54, 55, 55, 55, 56, 55, 57, 56, 48, 56, 49, 56, 50, 56, 51, 56, 52, 56, 53, 56, 54, 56, 55, 56, 56, 56, 57, 57, 48, 57, 49, 57, 50, 57, 51, 57, 52, 57, 53, 57, 54, 57, 55, 57, 56, 57, 57])).toArray })) v111 (fun v117 => pIndexAddr 1 (vget l56 0) v113 (fun v118 => pVal false 1 v116 (pStore v118 [v116] s57 (fun s119 => pIndexAddr 1 (vget l56 0) v114 (fun v120 => pVal false 1 v117 (pStore v120 [v117] s119 (fun s121 => pBin Tryd.prog 3 BinOp.sub (vget l56 2) (Value.int IntKind.i64 2) (fun v122 => pBin Tryd.prog 3 BinOp.gtr v122 (Value.int IntKind.i64 0) (fun v123 => pIf v123 (pBin Tryd.prog 159 BinOp.add (Value.int IntKind.u32 48) v112 (fun v124 => pConvInt IntKind.u8 v124 (fun v125 => pIndexAddr 1 (vget l56 0) (Value.int IntKind.i64 0) (fun v126 => pVal false 1 v125 (pStore v126 [v125] s121 (fun s127 => R (Value.tuple ⟨[]⟩) s127)))))) (R (Value.tuple ⟨[]⟩) s121)))))))))))))))))) (pBin Tryd.prog 3 BinOp.gtr (vget l56 2) (Value.int IntKind.i64 0) (fun v128 => pIf v128 (pBin Tryd.prog 159 BinOp.add (Value.int IntKind.u32 48) v58 (fun v129 => pConvInt IntKind.u8 v129 (fun v130 => pIndexAddr 1 (vget l56 0) (Value.int IntKind.i64 0) (fun v131 => pVal false 1 v130 (pStore v131 [v130] s57 (fun s132 => R (Value.tuple ⟨[]⟩) s132)))))) (R (Value.tuple ⟨[]⟩) s57))))))) | .ret => R (Value.tuple ⟨[]⟩) s57 | .exit i133 => (match Nat.beq i133 0 with | true => pConvInt IntKind.u32 (vget l56 1) (fun v134 => pBin Tryd.prog 3 BinOp.geq (vget l56 2) (Value.int IntKind.i64 4) (fun v135 => pIf v135 (pBin Tryd.prog 159 BinOp.rem v134 (Value.int IntKind.u32 10000) (fun v136 => pBin Tryd.prog 159 BinOp.quo v134 (Value.int IntKind.u32 10000) (fun v137 => pBin Tryd.prog 159 BinOp.quo v136 (Value.int IntKind.u32 100) (fun v138 => pBin Tryd.prog 159 BinOp.mul v138 (Value.int IntKind.u32 2) (fun v139 => pBin Tryd.prog 159 BinOp.rem v136 (Value.int IntKind.u32 100) (fun v140 => pBin Tryd.prog 159 BinOp.mul v140 (Value.int IntKind.u32 2) (fun v141 => pBin Tryd.prog 3 BinOp.sub (vget l56 2) (Value.int IntKind.i64 1) (fun v142 => pBin Tryd.prog 3 BinOp.sub (vget l56 2) (Value.int IntKind.i64 2) (fun v143 => pBin Tryd.prog 159 BinOp.add v141 (Value.int IntKind.u32 1) (fun v144 => pIndexStr (Value.string ({ data := (([48, 48, 48, 49, 48, 50, 48, 51, 48, 52, 48, 53, 48, 54, 48, 55, 48, 56, 48, 57, 49, 48, 49, 49, 49, 50, 49, 51, 49, 52, 49, 53, 49, 54, 49, 55, 49, 56, 49, 57, 50, 48, 50, 49, 50, 50, 50, 51, 50, 52].append [50, 53, 50, 54, 50, 55, 50, 56, 50, 57, 51, 48, 51, 49, 51, 50, 51, 51, 51, 52, 51, 53, 51, 54, 51, 55, 51, 56, 51, 57, 52, 48, 52, 49, 52, 50, 52, 51, 52, 52, 52, 53, 52, 54, 52, 55, 52, 56, 52, 57]).append ([53, 48, 53, 49, 53, 50, 53, 51, 53, 52, 53, 53, 53, 54, 53, 55, 53, 56, 53, 57, 54, 48, 54, 49, 54, 50, 54, 51, 54, 52, 54, 53, 54, 54, 54, 55, 54, 56, 54, 57, 55, 48, 55, 49, 55, 50, 55, 51, 55, 52].append [55, 53, 55, 54, 55, 55, 55, 56, 55, 57, 56, 48, 56, 49, 56, 50, 56, 51, 56, 52, 56, 53, 56, 54, 56, 55, 56, 56, 56, 57, 57, 48, 57, 49, 57, 50, 57, 51, 57, 52, 57, 53, 57, 54, 57, 55, 57, 56, 57, 57])).toArray })) v144 (fun v145 => pIndexStr (Value.string ({ data := (([48, 48, 48, 49, 48, 50, 48, 51, 48, 52, 48, 53, 48, 54, 48, 55, 48, 56, 48, 57, 49, 48, 49, 49, 49, 50, 49, 51, 49, 52, 49, 53, 49, 54, 49, 55, 49, 56, 49, 57, 50, 48, 50, 49, 50, 50, 50, 51, 50, 52].append [50, 53, 50, 54, 50, 55, 50, 56, 50, 57, 51, 48, 51, 49, 51, 50, 51, 51, 51, 52, 51, 53, 51, 54, 51, 55, 51, 56, 51, 57, 52, 48, 52, 49, 52, 50, 52, 51, 52, 52, 52, 53, 52, 54, 52, 55, 52, 56, 52, 57]).append ([53, 48, 53, 49, 53, 50, 53, 51, 53, 52, 53, 53, 53, 54, 53, 55, 53, 56, 53, 57, 54, 48, 54, 49, 54, 50, 54, 51, 54, 52, 54, 53, 54, 54, 54, 55, 54, 56, 54, 57, 55, 48, 55, 49, 55, 50, 55, 51, 55, 52].append [55, 53, 55, 54, 55, 55, 55, 56, 55, 57, 56, 48, 56, 49, 56, 50, 56, 51, 56, 52, 56, 53, 56, 54, 56, 55, 56, 56, 56, 57, 57, 48, 57, 49, 57, 50, 57, 51, 57, 52, 57, 53, 57, 54, 57, 55, 57, 56, 57, 57])).toArray })) v141 (fun v146 => pIndexAddr 1 (vget l56 0) v142 (fun v147 => pVal false 1 v145 (pStore v147 [v145] s57 (fun s148 => pIndexAddr 1 (vget l56 0) v143 (fun v149 => pVal false 1 v146 (pStore v149 [v146] s148 (fun s150 => pBin Tryd.prog 3 BinOp.sub (vget l56 2) (Value.int IntKind.i64 3) (fun v151 => pBin Tryd.prog 3 BinOp.sub (vget l56 2) (Value.int IntKind.i64 4) (fun v152 => pBin Tryd.prog 159 BinOp.add v139 (Value.int IntKind.u32 1) (fun v153 => pIndexStr (Value.string ({ data := (([48, 48, 48, 49, 48, 50, 48, 51, 48, 52, 48, 53, 48, 54, 48, 55, 48, 56, 48, 57, 49, 48, 49, 49, 49, 50, 49, 51, 49, 52, 49, 53, 49, 54, 49, 55, 49, 56, 49, 57, 50, 48, 50, 49, 50, 50, 50, 51, 50, 52].append [50, 53, 50, 54, 50, 55, 50, 56, 50, 57, 51, 48, 51, 49, 51, 50, 51, 51, 51, 52, 51, 53, 51, 54, 51, 55, 51, 56, 51, 57, 52, 48, 52, 49, 52, 50, 52, 51, 52, 52, 52, 53, 52, 54, 52, 55, 52, 56, 52, 57]).append ([53, 48, 53, 49, 53, 50, 53, 51, 53, 52, 53, 53, 53, 54, 53, 55, 53, 56, 53, 57, 54, 48, 54, 49, 54, 50, 54, 51, 54, 52, 54, 53, 54, 54, 54, 55, 54, 56, 54, 57, 55, 48, 55, 49, 55, 50, 55, 51, 55, 52].append [55, 53, 55, 54, 55, 55, 55, 56, 55, 57, 56, 48, 56, 49, 56, 50, 56, 51, 56, 52, 56, 53, 56, 54, 56, 55, 56, 56, 56, 57, 57, 48, 57, 49, 57, 50, 57, 51, 57, 52, 57, 53, 57, 54, 57, 55, 57, 56, 57, 57])).toArray })) v153 (fun v154 => pIndexStr (Value.string ({ data := (([48, 48, 48, 49, 48, 50, 48, 51, 48, 52, 48, 53, 48, 54, 48, 55, 48, 56, 48, 57, 49, 48, 49, 49, 49, 50, 49, 51, 49, 52, 49, 53, 49, 54, 49, 55, 49, 56, 49, 57, 50, 48, 50, 49, 50, 50, 50, 51, 50, 52].append [50, 53, 50, 54, 50, 55, 50, 56, 50, 57, 51, 48, 51, 49, 51, 50, 51, 51, 51, 52, 51, 53, 51, 54, 51, 55, 51, 56, 51, 57, 52, 48, 52, 49, 52, 50, 52, 51, 52, 52, 52, 53, 52, 54, 52, 55, 52, 56, 52, 57]).append ([53, 48, 53, 49, 53, 50, 53, 51, 53, 52, 53, 53, 53, 54, 53, 55, 53, 56, 53, 57, 54, 48, 54, 49, 54, 50, 54, 51, 54, 52, 54, 53, 54, 54, 54, 55, 54, 56, 54, 57, 55, 48, 55, 49, 55, 50, 55, 51, 55, 52].append [55, 53, 55, 54, 55, 55, 55, 56, 55, 57, 56, 48, 56, 49, 56, 50, 56, 51, 56, 52, 56, 53, 56, 54, 56, 55, 56, 56, 56, 57, 57, 48, 57, 49, 57, 50, 57, 51, 57, 52, 57, 53, 57, 54, 57, 55, 57, 56, 57, 57])).toArray })) v139 (fun v155 => pIndexAddr 1 (vget l56 0) v151 (fun v156 => pVal false 1 v154 (pStore v156 [v154] s150 (fun s157 => pIndexAddr 1 (vget l56 0) v152 (fun v158 => pVal false 1 v155 (pStore v158 [v155] s157 (fun s159 => pBin Tryd.prog 3 BinOp.sub (vget l56 2) (Value.int IntKind.i64 4) (fun v160 => pBin Tryd.prog 3 BinOp.geq v160 (Value.int IntKind.i64 2) (fun v161 => pIf v161 (pBin Tryd.prog 159 BinOp.rem v137 (Value.int IntKind.u32 100) (fun v162 => pBin Tryd.prog 159 BinOp.mul v162 (Value.int IntKind.u32 2) (fun v163 => pBin Tryd.prog 159 BinOp.quo v137 (Value.int IntKind.u32 100) (fun v164 => pBin Tryd.prog 3 BinOp.sub v160 (Value.int IntKind.i64 1) (fun v165 => pBin Tryd.prog 3 BinOp.sub v160 (Value.int IntKind.i64 2) (fun v166 => pBin Tryd.prog 159 BinOp.add v163 (Value.int IntKind.u32 1) (fun v167 => pIndexStr (Value.string ({ data := (([48, 48, 48, 49, 48, 50, 48, 51, 48, 52, 48, 53, 48, 54, 48, 55, 48, 56, 48, 57, 49, 48, 49, 49, 49, 50, 49, 51, 49, 52, 49, 53, 49, 54, 49, 55, 49, 56, 49, 57, 50, 48, 50, 49, 50, 50, 50, 51, 50, 52].append [50, 53, 50, 54, 50, 55, 50, 56, 50, 57, 51, 48, 51, 49, 51, 50, 51, 51, 51, 52, 51, 53, 51, 54, 51, 55, 51, 56, 51, 57, 52, 48, 52, 49, 52, 50, 52, 51, 52, 52, 52, 53, 52, 54, 52, 55, 52, 56, 52, 57]).append ([53, 48, 53, 49, 53, 50, 53, 51, 53, 52, 53, 53, 53, 54, 53, 55, 53, 56, 53, 57, 54, 48, 54, 49, 54, 50, 54, 51, 54, 52, 54, 53, 54, 54, 54, 55, 54, 56, 54, 57, 55, 48, 55, 49, 55, 50, 55, 51, 55, 52].append [55, 53, 55, 54, 55, 55, 55, 56, 55, 57, 56, 48, 56, 49, 56, 50, 56, 51, 56, 52, 56, 53, 56, 54, 56, 55, 56, 56, 56, 57, 57, 48, 57, 49, 57, 50, 57, 51, 57, 52, 57, 53, 57, 54, 57, 55, 57, 56, 57, 57])).toArray })) v167 (fun v168 => pIndexStr (Value.string ({ data := (([48, 48, 48, 49, 48, 50, 48, 51, 48, 52, 48, 53, 48, 54, 48, 55, 48, 56, 48, 57, 49, 48, 49, 49, 49, 50, 49, 51, 49, 52, 49, 53, 49, 54, 49, 55, 49, 56, 49, 57, 50, 48, 50, 49, 50, 50, 50, 51, 50, 52].append [50, 53, 50, 54, 50, 55, 50, 56, 50, 57, 51, 48, 51, 49, 51, 50, 51, 51, 51, 52, 51, 53, 51, 54, 51, 55, 51, 56, 51, 57, 52, 48, 52, 49, 52, 50, 52, 51, 52, 52, 52, 53, 52, 54, 52, 55, 52, 56, 52, 57]).append ([53, 48, 53, 49, 53, 50, 53, 51, 53, 52, 53, 53, 53, 54, 53, 55, 53, 56, 53, 57, 54, 48, 54, 49, 54, 50, 54, 51, 54, 52, 54, 53, 54, 54, 54, 55, 54, 56, 54, 57, 55, 48, 55, 49, 55, 50, 55, 51, 55, 52].append [55, 53, 55, 54, 55, 55, 55, 56, 55, 57, 56, 48, 56, 49, 56, 50, 56, 51, 56, 52, 56, 53, 56, 54, 56, 55, 56, 56, 56, 57, 57, 48, 57, 49, 57, 50, 57, 51, 57, 52, 57, 53, 57, 54, 57, 55, 57, 56, 57, 57])).toArray })) v163 (fun v169 => pIndexAddr 1 (vget l56 0) v165 (fun v170 => pVal false 1 v168 (pStore v170 [v168] s159 (fun s171 => pIndexAddr 1 (vget l56 0) v166 (fun v172 => pVal false 1 v169 (pStore v172 [v169] s171 (fun s173 => pBin Tryd.prog 3 BinOp.sub v160 (Value.int IntKind.i64 2) (fun v174 => pBin Tryd.prog 3 BinOp.gtr v174 (Value.int IntKind.i64 0) (fun v175 => pIf v175 (pBin Tryd.prog 159 BinOp.add (Value.int IntKind.u32 48) v164 (fun v176 => pConvInt IntKind.u8 v176 (fun v177 => pIndexAddr 1 (vget l56 0) (Value.int IntKind.i64 0) (fun v178 => pVal false 1 v177 (pStore v178 [v177] s173 (fun s179 => R (Value.tuple ⟨[]⟩) s179)))))) (R (Value.tuple ⟨[]⟩) s173)))))))))))))))))) (pBin Tryd.prog 3 BinOp.gtr v160 (Value.int IntKind.i64 0) (fun v180 => pIf v180 (pBin Tryd.prog 159 BinOp.add (Value.int IntKind.u32 48) v137 (fun v181 => pConvInt IntKind.u8 v181 (fun v182 => pIndexAddr 1 (vget l56 0) (Value.int IntKind.i64 0) (fun v183 => pVal false 1 v182 (pStore v183 [v182] s159 (fun s184 => R (Value.tuple ⟨[]⟩) s184)))))) (R (Value.tuple ⟨[]⟩) s159)))))))))))))))))))))))))))))))))) (pBin Tryd.prog 3 BinOp.geq (vget l56 2) (Value.int IntKind.i64 2) (fun v185 => pIf v185 (pBin Tryd.prog 159 BinOp.rem v134 (Value.int IntKind.u32 100) (fun v186 => pBin Tryd.prog 159 BinOp.mul v186 (Value.int IntKind.u32 2) (fun v187 => pBin Tryd.prog 159 BinOp.quo v134 (Value.int IntKind.u32 100) (fun v188 => pBin Tryd.prog 3 BinOp.sub (vget l56 2) (Value.int IntKind.i64 1) (fun v189 => pBin Tryd.prog 3 BinOp.sub (vget l56 2) (Value.int IntKind.i64 2) (fun v190 => pBin Tryd.prog 159 BinOp.add v187 (Value.int IntKind.u32 1) (fun v191 => pIndexStr (Value.string ({ data := (([48, 48, 48, 49, 48, 50, 48, 51, 48, 52, 48, 53, 48, 54, 48, 55, 48, 56, 48, 57, 49, 48, 49, 49, 49, 50, 49, 51, 49, 52, 49, 53, 49, 54, 49, 55, 49, 56, 49, 57, 50, 48, 50, 49, 50, 50, 50, 51, 50, 52].append [50, 53, 50, 54, 50, 55, 50, 56, 50, 57, 51, 48, 51, 49, 51, 50, 51, 51, 51, 52, 51, 53, 51, 54, 51, 55, 51, 56, 51, 57, 52, 48, 52, 49, 52, 50, 52, 51, 52, 52, 52, 53, 52, 54, 52, 55, 52, 56, 52, 57]).append ([53, 48, 53, 49, 53, 50, 53, 51, 53, 52, 53, 53, 53, 54, 53, 55, 53, 56, 53, 57, 54, 48, 54, 49, 54, 50, 54, 51, 54, 52, 54, 53, 54, 54, 54, 55, 54, 56, 54, 57, 55, 48, 55, 49, 55, 50, 55, 51, 55, 52].append [55, 53, 55, 54, 55, 55, 55, 56, 55, 57, 56, 48, 56, 49, 56, 50, 56, 51, 56, 52, 56, 53, 56, 54, 56, 55, 56, 56, 56, 57, 57, 48, 57, 49, 57, 50, 57, 51, 57, 52, 57, 53, 57, 54, 57, 55, 57, 56, 57, 57])).toArray })) v191 (fun v192 => pIndexStr (Value.string ({ data := (([48, 48, 48, 49, 48, 50, 48, 51, 48, 52, 48, 53, 48, 54, 48, 55, 48, 56, 48, 57, 49, 48, 49, 49, 49, 50, 49, 51, 49, 52, 49, 53, 49, 54, 49, 55, 49, 56, 49, 57, 50, 48, 50, 49, 50, 50, 50, 51, 50, 52].append [50, 53, 50, 54, 50, 55, 50, 56, 50, 57, 51, 48, 51, 49, 51, 50, 51, 51, 51, 52, 51, 53, 51, 54, 51, 55, 51, 56, 51, 57, 52, 48, 52, 49, 52, 50, 52, 51, 52, 52, 52, 53, 52, 54, 52, 55, 52, 56, 52, 57]).append ([53, 48, 53, 49, 53, 50, 53, 51, 53, 52, 53, 53, 53, 54, 53, 55, 53, 56, 53, 57, 54, 48, 54, 49, 54, 50, 54, 51, 54, 52, 54, 53, 54, 54, 54, 55, 54, 56, 54, 57, 55, 48, 55, 49, 55, 50, 55, 51, 55, 52].append [55, 53, 55, 54, 55, 55, 55, 56, 55, 57, 56, 48, 56, 49, 56, 50, 56, 51, 56, 52, 56, 53, 56, 54, 56, 55, 56, 56, 56, 57, 57, 48, 57, 49, 57, 50, 57, 51, 57, 52, 57, 53, 57, 54, 57, 55, 57, 56, 57, 57])).toArray })) v187 (fun v193 => pIndexAddr 1 (vget l56 0) v189 (fun v194 => pVal false 1 v192 (pStore v194 [v192] s57 (fun s195 => pIndexAddr 1 (vget l56 0) v190 (fun v196 => pVal false 1 v193 (pStore v196 [v193] s195 (fun s197 => pBin Tryd.prog 3 BinOp.sub (vget l56 2) (Value.int IntKind.i64 2) (fun v198 => pBin Tryd.prog 3 BinOp.gtr v198 (Value.int IntKind.i64 0) (fun v199 => pIf v199 (pBin Tryd.prog 159 BinOp.add (Value.int IntKind.u32 48) v188 (fun v200 => pConvInt IntKind.u8 v200 (fun v201 => pIndexAddr 1 (vget l56 0) (Value.int IntKind.i64 0) (fun v202 => pVal false 1 v201 (pStore v202 [v201] s197 (fun s203 => R (Value.tuple ⟨[]⟩) s203)))))) (R (Value.tuple ⟨[]⟩) s197)))))))))))))))))) (pBin Tryd.prog 3 BinOp.gtr (vget l56 2) (Value.int IntKind.i64 0) (fun v204 => pIf v204 (pBin Tryd.prog 159 BinOp.add (Value.int IntKind.u32 48) v134 (fun v205 => pConvInt IntKind.u8 v205 (fun v206 => pIndexAddr 1 (vget l56 0) (Value.int IntKind.i64 0) (fun v207 => pVal false 1 v206 (pStore v207 [v206] s57 (fun s208 => R (Value.tuple ⟨[]⟩) s208)))))) (R (Value.tuple ⟨[]⟩) s57))))))) | false => False)))
theorem vc_internal_strconv_formatBase10_eq (w0 : World) (a0 a1 : Value) (σ : Vw) (R : Value → Vw → Prop) : vc_internal_strconv_formatBase10 w0 a0 a1 σ R = den Tryd.prog w0 kp_internal_strconv_formatBase10 esc_internal_strconv_formatBase10 (Tryd.f113.body.getD .skip) (entry Tryd.f113.ntmps [a0, a1]) σ (retK Tryd.prog Tryd.f113.results.toList R) := by kernel_rfl
theorem ac_internal_strconv_formatBase10 {w0 : World} {a0 a1 : Value} {σ : Vw} {R : Value → Vw → Prop} (h : vc_internal_strconv_formatBase10 w0 a0 a1 σ R) : AC Tryd.prog w0 n_internal_strconv_formatBase10 [a0, a1] σ R := by
  refine ac_rule (fn := Tryd.f113) (c := Tryd.f113.body.getD .skip) kp_internal_strconv_formatBase10 esc_internal_strconv_formatBase10 Tryd.func113 (by kernel_rfl) (by kernel_rfl) ?_
  rw [← vc_internal_strconv_formatBase10_eq]
  exact h

/-- internal/strconv.formatBits -/
def kp_internal_strconv_formatBits : Nat → Keep
  | 11 => ⟨[0, 1, 3, 4, 10, 11, 12, 13, 14, 15, 16], [], [], .done, []⟩
  | 18 => ⟨[0, 1, 3, 4, 10, 11, 12, 13, 17], [], [], .done, []⟩
  | _ => ⟨[], [], [], .done, []⟩
def esc_internal_strconv_formatBits : Nat → Bool
  | 12 => true
  | _ => false
def vc_internal_strconv_formatBits (w0 : World) (a0 a1 a2 a3 a4 : Value) (σ : Vw) (R : Value → Vw → Prop) : Prop :=
  pBin Tryd.prog 3 BinOp.lss a2 (Value.int IntKind.i64 2) (fun v0 => pIf v0 False (pBin Tryd.prog 3 BinOp.eql a2 (Value.int IntKind.i64 10) (fun v1 => pIf v1 False (pBin Tryd.prog 3 BinOp.gtr a2 (Value.int IntKind.i64 36) (fun v2 => pIf v2 False (pNew w0 160 [Value.int IntKind.u8 0, Value.int IntKind.u8 0, Value.int IntKind.u8 0, Value.int IntKind.u8 0, Value.int IntKind.u8 0, Value.int IntKind.u8 0, Value.int IntKind.u8 0, Value.int IntKind.u8 0, Value.int IntKind.u8 0, Value.int IntKind.u8 0, Value.int IntKind.u8 0, Value.int IntKind.u8 0, Value.int IntKind.u8 0, Value.int IntKind.u8 0, Value.int IntKind.u8 0, Value.int IntKind.u8 0, Value.int IntKind.u8 0, Value.int IntKind.u8 0, Value.int IntKind.u8 0, Value.int IntKind.u8 0, Value.int IntKind.u8 0, Value.int IntKind.u8 0, Value.int IntKind.u8 0, Value.int IntKind.u8 0, Value.int IntKind.u8 0, Value.int IntKind.u8 0, Value.int IntKind.u8 0, Value.int IntKind.u8 0, Value.int IntKind.u8 0, Value.int IntKind.u8 0, Value.int IntKind.u8 0, Value.int IntKind.u8 0, Value.int IntKind.u8 0, Value.int IntKind.u8 0, Value.int IntKind.u8 0, Value.int IntKind.u8 0, Value.int IntKind.u8 0, Value.int IntKind.u8 0, Value.int IntKind.u8 0, Value.int IntKind.u8 0, Value.int IntKind.u8 0, Value.int IntKind.u8 0, Value.int IntKind.u8 0, Value.int IntKind.u8 0, Value.int IntKind.u8 0, Value.int IntKind.u8 0, Value.int IntKind.u8 0, Value.int IntKind.u8 0, Value.int IntKind.u8 0, Value.int IntKind.u8 0, Value.int IntKind.u8 0, Value.int IntKind.u8 0, Value.int IntKind.u8 0, Value.int IntKind.u8 0, Value.int IntKind.u8 0, Value.int IntKind.u8 0, Value.int IntKind.u8 0, Value.int IntKind.u8 0, Value.int IntKind.u8 0, Value.int IntKind.u8 0, Value.int IntKind.u8 0, Value.int IntKind.u8 0, Value.int IntKind.u8 0, Value.int IntKind.u8 0, Value.int IntKind.u8 0] σ (fun n3 s4 => pIf a3 (pUn UnOp.neg a1 (fun v5 => AC Tryd.prog w0 n_internal_strconv_isPowerOfTwo [a2] s4 (fun v6 s7 => pIf v6 (pConvInt IntKind.u64 a2 (fun v8 => AC Tryd.prog w0 n_math_bits_TrailingZeros [v8] s7 (fun v9 s10 => pConvInt IntKind.u64 v9 (fun v11 => pConvInt IntKind.u64 a2 (fun v12 => pConvInt IntKind.u64 a2 (fun v13 => pBin Tryd.prog 162 BinOp.sub v13 (Value.int IntKind.u64 1) (fun v14 => pLoop (fun l15 K16 s17 => pBin Tryd.prog 145 BinOp.geq (vget l15 1) (vget l15 9) (fun v18 => pIf v18 (pBin Tryd.prog 3 BinOp.sub (vget l15 7) (Value.int IntKind.i64 1) (fun v19 => pBin Tryd.prog 162 BinOp.and (vget l15 1) (vget l15 10) (fun v20 => pIndexStr (Value.string ({ data := #[48, 49, 50, 51, 52, 53, 54, 55, 56, 57, 97, 98, 99, 100, 101, 102, 103, 104, 105, 106, 107, 108, 109, 110, 111, 112, 113, 114, 115, 116, 117, 118, 119, 120, 121, 122] })) v20 (fun v21 => pIndexArr 65 1 (vget l15 6) v19 (fun v22 => pVal false 1 v21 (pStore v22 [v21] s17 (fun s23 => pBin Tryd.prog 145 BinOp.shr (vget l15 1) (vget l15 8) (fun v24 => K16 AX.normal [vget l15 0, v24, vget l15 2, vget l15 3, vget l15 4, vget l15 5, vget l15 6, v19, vget l15 8, vget l15 9, vget l15 10] s23)))))))) (K16 (AX.exit 0) [vget l15 0, vget l15 1, vget l15 2, vget l15 3, vget l15 4, vget l15 5, vget l15 6, vget l15 7, vget l15 8, vget l15 9, vget l15 10] s17))) ([a0, v5, a3, a4, Value.slice Option.none 0 0, Value.string ({ data := #[] }), Value.pointer (Option.some (Addr.mk n3 0 Option.none)), Value.int IntKind.i64 65, v11, v12, v14]) s10 (fun x25 l26 s27 => match x25 with | .normal => pBin Tryd.prog 3 BinOp.sub (vget l26 7) (Value.int IntKind.i64 1) (fun v28 => pIndexStr (Value.string ({ data := #[48, 49, 50, 51, 52, 53, 54, 55, 56, 57, 97, 98, 99, 100, 101, 102, 103, 104, 105, 106, 107, 108, 109, 110, 111, 112, 113, 114, 115, 116, 117, 118, 119, 120, 121, 122] })) (vget l26 1) (fun v29 => pIndexArr 65 1 (vget l26 6) v28 (fun v30 => pVal false 1 v29 (pStore v30 [v29] s27 (fun s31 => pIf (vget l26 2) (pBin Tryd.prog 3 BinOp.sub v28 (Value.int IntKind.i64 1) (fun v32 => pIndexArr 65 1 (vget l26 6) v32 (fun v33 => pVal false 1 (Value.int IntKind.u8 45) (pStore v33 [Value.int IntKind.u8 45] s31 (fun s34 => pIf (vget l26 3) False False))))) (pIf (vget l26 3) False False)))))) | .ret => R (Value.tuple (⟨[vget l26 4, vget l26 5]⟩)) s27 | .exit i35 => (match Nat.beq i35 0 with | true => pBin Tryd.prog 3 BinOp.sub (vget l26 7) (Value.int IntKind.i64 1) (fun v36 => pIndexStr (Value.string ({ data := #[48, 49, 50, 51, 52, 53, 54, 55, 56, 57, 97, 98, 99, 100, 101, 102, 103, 104, 105, 106, 107, 108, 109, 110, 111, 112, 113, 114, 115, 116, 117, 118, 119, 120, 121, 122] })) (vget l26 1) (fun v37 => pIndexArr 65 1 (vget l26 6) v36 (fun v38 => pVal false 1 v37 (pStore v38 [v37] s27 (fun s39 => pIf (vget l26 2) (pBin Tryd.prog 3 BinOp.sub v36 (Value.int IntKind.i64 1) (fun v40 => pIndexArr 65 1 (vget l26 6) v40 (fun v41 => pVal false 1 (Value.int IntKind.u8 45) (pStore v41 [Value.int IntKind.u8 45] s39 (fun s42 => pIf (vget l26 3) False False))))) (pIf (vget l26 3) False False)))))) | false => False))))))))) (pConvInt IntKind.u64 a2 (fun v43 => pLoop (fun l44 K45 s46 => pBin Tryd.prog 145 BinOp.geq (vget l44 1) (vget l44 8) (fun v47 => pIf v47 (pBin Tryd.prog 3 BinOp.sub (vget l44 7) (Value.int IntKind.i64 1) (fun v48 => pBin Tryd.prog 145 BinOp.quo (vget l44 1) (vget l44 8) (fun v49 => pBin Tryd.prog 145 BinOp.mul v49 (vget l44 8) (fun v50 => pBin Tryd.prog 145 BinOp.sub (vget l44 1) v50 (fun v51 => pIndexStr (Value.string ({ data := #[48, 49, 50, 51, 52, 53, 54, 55, 56, 57, 97, 98, 99, 100, 101, 102, 103, 104, 105, 106, 107, 108, 109, 110, 111, 112, 113, 114, 115, 116, 117, 118, 119, 120, 121, 122] })) v51 (fun v52 => pIndexArr 65 1 (vget l44 6) v48 (fun v53 => pVal false 1 v52 (pStore v53 [v52] s46 (fun s54 => K45 AX.normal [vget l44 0, v49, vget l44 2, vget l44 3, vget l44 4, vget l44 5, vget l44 6, v48, vget l44 8] s54))))))))) (K45 (AX.exit 2) [vget l44 0, vget l44 1, vget l44 2, vget l44 3, vget l44 4, vget l44 5, vget l44 6, vget l44 7, vget l44 8] s46))) ([a0, v5, a3, a4, Value.slice Option.none 0 0, Value.string ({ data := #[] }), Value.pointer (Option.some (Addr.mk n3 0 Option.none)), Value.int IntKind.i64 65, v43]) s7 (fun x55 l56 s57 => match x55 with | .normal => pBin Tryd.prog 3 BinOp.sub (vget l56 7) (Value.int IntKind.i64 1) (fun v58 => pIndexStr (Value.string ({ data := #[48, 49, 50, 51, 52, 53, 54, 55, 56, 57, 97, 98, 99, 100, 101, 102, 103, 104, 105, 106, 107, 108, 109, 110, 111, 112, 113, 114, 115, 116, 117, 118, 119, 120, 121, 122] })) (vget l56 1) (fun v59 => pIndexArr 65 1 (vget l56 6) v58 (fun v60 => pVal false 1 v59 (pStore v60 [v59] s57 (fun s61 => pIf (vget l56 2) (pBin Tryd.prog 3 BinOp.sub v58 (Value.int IntKind.i64 1) (fun v62 => pIndexArr 65 1 (vget l56 6) v62 (fun v63 => pVal false 1 (Value.int IntKind.u8 45) (pStore v63 [Value.int IntKind.u8 45] s61 (fun s64 => pIf (vget l56 3) False False))))) (pIf (vget l56 3) False False)))))) | .ret => R (Value.tuple (⟨[vget l56 4, vget l56 5]⟩)) s57 | .exit i65 => (match Nat.beq i65 2 with | true => pBin Tryd.prog 3 BinOp.sub (vget l56 7) (Value.int IntKind.i64 1) (fun v66 => pIndexStr (Value.string ({ data := #[48, 49, 50, 51, 52, 53, 54, 55, 56, 57, 97, 98, 99, 100, 101, 102, 103, 104, 105, 106, 107, 108, 109, 110, 111, 112, 113, 114, 115, 116, 117, 118, 119, 120, 121, 122] })) (vget l56 1) (fun v67 => pIndexArr 65 1 (vget l56 6) v66 (fun v68 => pVal false 1 v67 (pStore v68 [v67] s57 (fun s69 => pIf (vget l56 2) (pBin Tryd.prog 3 BinOp.sub v66 (Value.int IntKind.i64 1) (fun v70 => pIndexArr 65 1 (vget l56 6) v70 (fun v71 => pVal false 1 (Value.int IntKind.u8 45) (pStore v71 [Value.int IntKind.u8 45] s69 (fun s72 => pIf (vget l56 3) False False))))) (pIf (vget l56 3) False False)))))) | false => False))))))) (AC Tryd.prog w0 n_internal_strconv_isPowerOfTwo [a2] s4 (fun v73 s74 => pIf v73 (pConvInt IntKind.u64 a2 (fun v75 => AC Tryd.prog w0 n_math_bits_TrailingZeros [v75] s74 (fun v76 s77 => pConvInt IntKind.u64 v76 (fun v78 => pConvInt IntKind.u64 a2 (fun v79 => pConvInt IntKind.u64 a2 (fun v80 => pBin Tryd.prog 162 BinOp.sub v80 (Value.int IntKind.u64 1) (fun v81 => pLoop (fun l82 K83 s84 => pBin Tryd.prog 145 BinOp.geq (vget l82 1) (vget l82 9) (fun v85 => pIf v85 (pBin Tryd.prog 3 BinOp.sub (vget l82 7) (Value.int IntKind.i64 1) (fun v86 => pBin Tryd.prog 162 BinOp.and (vget l82 1) (vget l82 10) (fun v87 => pIndexStr (Value.string ({ data := #[48, 49, 50, 51, 52, 53, 54, 55, 56, 57, 97, 98, 99, 100, 101, 102, 103, 104, 105, 106, 107, 108, 109, 110, 111, 112, 113, 114, 115, 116, 117, 118, 119, 120, 121, 122] })) v87 (fun v88 => pIndexArr 65 1 (vget l82 6) v86 (fun v89 => pVal false 1 v88 (pStore v89 [v88] s84 (fun s90 => pBin Tryd.prog 145 BinOp.shr (vget l82 1) (vget l82 8) (fun v91 => K83 AX.normal [vget l82 0, v91, vget l82 2, vget l82 3, vget l82 4, vget l82 5, vget l82 6, v86, vget l82 8, vget l82 9, vget l82 10] s90)))))))) (K83 (AX.exit 0) [vget l82 0, vget l82 1, vget l82 2, vget l82 3, vget l82 4, vget l82 5, vget l82 6, vget l82 7, vget l82 8, vget l82 9, vget l82 10] s84))) ([a0, a1, a3, a4, Value.slice Option.none 0 0, Value.string ({ data := #[] }), Value.pointer (Option.some (Addr.mk n3 0 Option.none)), Value.int IntKind.i64 65, v78, v79, v81]) s77 (fun x92 l93 s94 => match x92 with | .normal => pBin Tryd.prog 3 BinOp.sub (vget l93 7) (Value.int IntKind.i64 1) (fun v95 => pIndexStr (Value.string ({ data := #[48, 49, 50, 51, 52, 53, 54, 55, 56, 57, 97, 98, 99, 100, 101, 102, 103, 104, 105, 106, 107, 108, 109, 110, 111, 112, 113, 114, 115, 116, 117, 118, 119, 120, 121, 122] })) (vget l93 1) (fun v96 => pIndexArr 65 1 (vget l93 6) v95 (fun v97 => pVal false 1 v96 (pStore v97 [v96] s94 (fun s98 => pIf (vget l93 2) (pBin Tryd.prog 3 BinOp.sub v95 (Value.int IntKind.i64 1) (fun v99 => pIndexArr 65 1 (vget l93 6) v99 (fun v100 => pVal false 1 (Value.int IntKind.u8 45) (pStore v100 [Value.int IntKind.u8 45] s98 (fun s101 => pIf (vget l93 3) False False))))) (pIf (vget l93 3) False False)))))) | .ret => R (Value.tuple (⟨[vget l93 4, vget l93 5]⟩)) s94 | .exit i102 => (match Nat.beq i102 0 with | true => pBin Tryd.prog 3 BinOp.sub (vget l93 7) (Value.int IntKind.i64 1) (fun v103 => pIndexStr (Value.string ({ data := #[48, 49, 50, 51, 52, 53, 54, 55, 56, 57, 97, 98, 99, 100, 101, 102, 103, 104, 105, 106, 107, 108, 109, 110, 111, 112, 113, 114, 115, 116, 117, 118, 119, 120, 121, 122] })) (vget l93 1) (fun v104 => pIndexArr 65 1 (vget l93 6) v103 (fun v105 => pVal false 1 v104 (pStore v105 [v104] s94 (fun s106 => pIf (vget l93 2) (pBin Tryd.prog 3 BinOp.sub v103 (Value.int IntKind.i64 1) (fun v107 => pIndexArr 65 1 (vget l93 6) v107 (fun v108 => pVal false 1 (Value.int IntKind.u8 45) (pStore v108 [Value.int IntKind.u8 45] s106 (fun s109 => pIf (vget l93 3) False False))))) (pIf (vget l93 3) False False)))))) | false => False))))))))) (pConvInt IntKind.u64 a2 (fun v110 => pLoop (fun l111 K112 s113 => pBin Tryd.prog 145 BinOp.geq (vget l111 1) (vget l111 8) (fun v114 => pIf v114 (pBin Tryd.prog 3 BinOp.sub (vget l111 7) (Value.int IntKind.i64 1) (fun v115 => pBin Tryd.prog 145 BinOp.quo (vget l111 1) (vget l111 8) (fun v116 => pBin Tryd.prog 145 BinOp.mul v116 (vget l111 8) (fun v117 => pBin Tryd.prog 145 BinOp.sub (vget l111 1) v117 (fun v118 => pIndexStr (Value.string ({ data := #[48, 49, 50, 51, 52, 53, 54, 55, 56, 57, 97, 98, 99, 100, 101, 102, 103, 104, 105, 106, 107, 108, 109, 110, 111, 112, 113, 114, 115, 116, 117, 118, 119, 120, 121, 122] })) v118 (fun v119 => pIndexArr 65 1 (vget l111 6) v115 (fun v120 => pVal false 1 v119 (pStore v120 [v119] s113 (fun s121 => K112 AX.normal [vget l111 0, v116, vget l111 2, vget l111 3, vget l111 4, vget l111 5, vget l111 6, v115, vget l111 8] s121))))))))) (K112 (AX.exit 2) [vget l111 0, vget l111 1, vget l111 2, vget l111 3, vget l111 4, vget l111 5, vget l111 6, vget l111 7, vget l111 8] s113))) ([a0, a1, a3, a4, Value.slice Option.none 0 0, Value.string ({ data := #[] }), Value.pointer (Option.some (Addr.mk n3 0 Option.none)), Value.int IntKind.i64 65, v110]) s74 (fun x122 l123 s124 => match x122 with | .normal => pBin Tryd.prog 3 BinOp.sub (vget l123 7) (Value.int IntKind.i64 1) (fun v125 => pIndexStr (Value.string ({ data := #[48, 49, 50, 51, 52, 53, 54, 55, 56, 57, 97, 98, 99, 100, 101, 102, 103, 104, 105, 106, 107, 108, 109, 110, 111, 112, 113, 114, 115, 116, 117, 118, 119, 120, 121, 122] })) (vget l123 1) (fun v126 => pIndexArr 65 1 (vget l123 6) v125 (fun v127 => pVal false 1 v126 (pStore v127 [v126] s124 (fun s128 => pIf (vget l123 2) (pBin Tryd.prog 3 BinOp.sub v125 (Value.int IntKind.i64 1) (fun v129 => pIndexArr 65 1 (vget l123 6) v129 (fun v130 => pVal false 1 (Value.int IntKind.u8 45) (pStore v130 [Value.int IntKind.u8 45] s128 (fun s131 => pIf (vget l123 3) False False))))) (pIf (vget l123 3) False False)))))) | .ret => R (Value.tuple (⟨[vget l123 4, vget l123 5]⟩)) s124 | .exit i132 => (match Nat.beq i132 2 with | true => pBin Tryd.prog 3 BinOp.sub (vget l123 7) (Value.int IntKind.i64 1) (fun v133 => pIndexStr (Value.string ({ data := #[48, 49, 50, 51, 52, 53, 54, 55, 56, 57, 97, 98, 99, 100, 101, 102, 103, 104, 105, 106, 107, 108, 109, 110, 111, 112, 113, 114, 115, 116, 117, 118, 119, 120, 121, 122] })) (vget l123 1) (fun v134 => pIndexArr 65 1 (vget l123 6) v133 (fun v135 => pVal false 1 v134 (pStore v135 [v134] s124 (fun s136 => pIf (vget l123 2) (pBin Tryd.prog 3 BinOp.sub v133 (Value.int IntKind.i64 1) (fun v137 => pIndexArr 65 1 (vget l123 6) v137 (fun v138 => pVal false 1 (Value.int IntKind.u8 45) (pStore v138 [Value.int IntKind.u8 45] s136 (fun s139 => pIf (vget l123 3) False False))))) (pIf (vget l123 3) False False)))))) | false => False)))))))))))))
theorem vc_internal_strconv_formatBits_eq (w0 : World) (a0 a1 a2 a3 a4 : Value) (σ : Vw) (R : Value → Vw → Prop) : vc_internal_strconv_formatBits w0 a0 a1 a2 a3 a4 σ R = den Tryd.prog w0 kp_internal_strconv_formatBits esc_internal_strconv_formatBits (Tryd.f114.body.getD .skip) (entry Tryd.f114.ntmps [a0, a1, a2, a3, a4]) σ (retK Tryd.prog Tryd.f114.results.toList R) := by kernel_rfl
theorem ac_internal_strconv_formatBits {w0 : World} {a0 a1 a2 a3 a4 : Value} {σ : Vw} {R : Value → Vw → Prop} (h : vc_internal_strconv_formatBits w0 a0 a1 a2 a3 a4 σ R) : AC Tryd.prog w0 n_internal_strconv_formatBits [a0, a1, a2, a3, a4] σ R := by
  refine ac_rule (fn := Tryd.f114) (c := Tryd.f114.body.getD .skip) kp_internal_strconv_formatBits esc_internal_strconv_formatBits Tryd.func114 (by kernel_rfl) (by kernel_rfl) ?_
  rw [← vc_internal_strconv_formatBits_eq]
  exact h

/-- spec.l22Cut -/
def kp_spec_l22Cut : Nat → Keep
  | 4 => ⟨[0, 1, 5, 6, 7], [], [], .done, []⟩
  | _ => ⟨[], [], [], .done, []⟩
def esc_spec_l22Cut : Nat → Bool
  | 8 => true
  | _ => false
def vc_spec_l22Cut (w0 : World) (a0 a1 : Value) (σ : Vw) (R : Value → Vw → Prop) : Prop :=
  pNew w0 9 [] σ (fun n0 s1 => pLoop (fun l2 K3 s4 => pLenS (vget l2 0) (fun v5 => pBin Tryd.prog 3 BinOp.lss (vget l2 4) v5 (fun v6 => pIf v6 (pIndexStr (vget l2 0) (vget l2 4) (fun v7 => pBin Tryd.prog 5 BinOp.eql v7 (vget l2 1) (fun v8 => pIf v8 (pSliceStr (vget l2 0) (Option.some (vget l2 3)) (Option.some (vget l2 4)) (fun v9 => pVal false 1 v9 ((allOne [v9]) ∧ (pAppend w0 9 1 16 (vget l2 2) 1 [v9] s4 (fun v10 s11 => pBin Tryd.prog 3 BinOp.add (vget l2 4) (Value.int IntKind.i64 1) (fun v12 => pBin Tryd.prog 3 BinOp.add (vget l2 4) (Value.int IntKind.i64 1) (fun v13 => K3 AX.normal [vget l2 0, vget l2 1, v10, v12, v13] s11))))))) (pBin Tryd.prog 3 BinOp.add (vget l2 4) (Value.int IntKind.i64 1) (fun v14 => K3 AX.normal [vget l2 0, vget l2 1, vget l2 2, vget l2 3, v14] s4))))) (K3 (AX.exit 0) [vget l2 0, vget l2 1, vget l2 2, vget l2 3, vget l2 4] s4)))) [a0, a1, Value.slice (Option.some (Addr.mk n0 0 Option.none)) 0 0, Value.int IntKind.i64 0, Value.int IntKind.i64 0] s1 (fun x15 l16 s17 => match x15 with | .normal => pSliceStr (vget l16 0) (Option.some (vget l16 3)) Option.none (fun v18 => pVal false 1 v18 ((allOne [v18]) ∧ (pAppend w0 9 1 16 (vget l16 2) 1 [v18] s17 (fun v19 s20 => R v19 s20)))) | .ret => False | .exit i21 => (match Nat.beq i21 0 with | true => pSliceStr (vget l16 0) (Option.some (vget l16 3)) Option.none (fun v22 => pVal false 1 v22 ((allOne [v22]) ∧ (pAppend w0 9 1 16 (vget l16 2) 1 [v22] s17 (fun v23 s24 => R v23 s24)))) | false => False)))
theorem vc_spec_l22Cut_eq (w0 : World) (a0 a1 : Value) (σ : Vw) (R : Value → Vw → Prop) : vc_spec_l22Cut w0 a0 a1 σ R = den Tryd.prog w0 kp_spec_l22Cut esc_spec_l22Cut (Tryd.f115.body.getD .skip) (entry Tryd.f115.ntmps [a0, a1]) σ (retK Tryd.prog Tryd.f115.results.toList R) := by kernel_rfl
theorem ac_spec_l22Cut {w0 : World} {a0 a1 : Value} {σ : Vw} {R : Value → Vw → Prop} (h : vc_spec_l22Cut w0 a0 a1 σ R) : AC Tryd.prog w0 n_spec_l22Cut [a0, a1] σ R := by
  refine ac_rule (fn := Tryd.f115) (c := Tryd.f115.body.getD .skip) kp_spec_l22Cut esc_spec_l22Cut Tryd.func115 (by kernel_rfl) (by kernel_rfl) ?_
  rw [← vc_spec_l22Cut_eq]
  exact h

/-- spec.l22Num -/
def kp_spec_l22Num : Nat → Keep
  | 5 => ⟨[0, 2, 3, 4], [], [], .done, []⟩
  | _ => ⟨[], [], [], .done, []⟩
def esc_spec_l22Num : Nat → Bool
  | _ => false
def vc_spec_l22Num (w0 : World) (a0 : Value) (σ : Vw) (R : Value → Vw → Prop) : Prop :=
  pLenS a0 (fun v0 => AC Tryd.prog w0 n_spec_l21In [v0, Value.int IntKind.i64 1, Value.int IntKind.i64 5] σ (fun v1 s2 => pUn UnOp.not v1 (fun v3 => pIf v3 (R (Value.int IntKind.i64 (-1)) s2) (pLenS a0 (fun v4 => pBin Tryd.prog 3 BinOp.gtr v4 (Value.int IntKind.i64 1) (fun v5 => pIf v5 (pIndexStr a0 (Value.int IntKind.i64 0) (fun v6 => pBin Tryd.prog 5 BinOp.eql v6 (Value.int IntKind.u8 48) (fun v7 => pIf v7 (R (Value.int IntKind.i64 (-1)) s2) (pLoop (fun l8 K9 s10 => pLenS (vget l8 0) (fun v11 => pBin Tryd.prog 3 BinOp.lss (vget l8 3) v11 (fun v12 => pIf v12 (pIndexStr (vget l8 0) (vget l8 3) (fun v13 => pBin Tryd.prog 5 BinOp.lss v13 (Value.int IntKind.u8 48) (fun v14 => pIf v14 (K9 AX.ret [vget l8 0, Value.int IntKind.i64 (-1), vget l8 2, vget l8 3] s10) (pIndexStr (vget l8 0) (vget l8 3) (fun v15 => pBin Tryd.prog 5 BinOp.gtr v15 (Value.int IntKind.u8 57) (fun v16 => pIf v16 (K9 AX.ret [vget l8 0, Value.int IntKind.i64 (-1), vget l8 2, vget l8 3] s10) (pBin Tryd.prog 3 BinOp.mul (vget l8 2) (Value.int IntKind.i64 10) (fun v17 => pIndexStr (vget l8 0) (vget l8 3) (fun v18 => pBin Tryd.prog 5 BinOp.sub v18 (Value.int IntKind.u8 48) (fun v19 => pConvInt IntKind.i64 v19 (fun v20 => pBin Tryd.prog 3 BinOp.add v17 v20 (fun v21 => pBin Tryd.prog 3 BinOp.add (vget l8 3) (Value.int IntKind.i64 1) (fun v22 => K9 AX.normal [vget l8 0, vget l8 1, v21, v22] s10))))))))))))) (K9 (AX.exit 0) [vget l8 0, vget l8 1, vget l8 2, vget l8 3] s10)))) [a0, Value.int IntKind.i64 0, Value.int IntKind.i64 0, Value.int IntKind.i64 0] s2 (fun x23 l24 s25 => match x23 with | .normal => R (vget l24 2) s25 | .ret => R (vget l24 1) s25 | .exit i26 => (match Nat.beq i26 0 with | true => R (vget l24 2) s25 | false => False)))))) (pLoop (fun l27 K28 s29 => pLenS (vget l27 0) (fun v30 => pBin Tryd.prog 3 BinOp.lss (vget l27 3) v30 (fun v31 => pIf v31 (pIndexStr (vget l27 0) (vget l27 3) (fun v32 => pBin Tryd.prog 5 BinOp.lss v32 (Value.int IntKind.u8 48) (fun v33 => pIf v33 (K28 AX.ret [vget l27 0, Value.int IntKind.i64 (-1), vget l27 2, vget l27 3] s29) (pIndexStr (vget l27 0) (vget l27 3) (fun v34 => pBin Tryd.prog 5 BinOp.gtr v34 (Value.int IntKind.u8 57) (fun v35 => pIf v35 (K28 AX.ret [vget l27 0, Value.int IntKind.i64 (-1), vget l27 2, vget l27 3] s29) (pBin Tryd.prog 3 BinOp.mul (vget l27 2) (Value.int IntKind.i64 10) (fun v36 => pIndexStr (vget l27 0) (vget l27 3) (fun v37 => pBin Tryd.prog 5 BinOp.sub v37 (Value.int IntKind.u8 48) (fun v38 => pConvInt IntKind.i64 v38 (fun v39 => pBin Tryd.prog 3 BinOp.add v36 v39 (fun v40 => pBin Tryd.prog 3 BinOp.add (vget l27 3) (Value.int IntKind.i64 1) (fun v41 => K28 AX.normal [vget l27 0, vget l27 1, v40, v41] s29))))))))))))) (K28 (AX.exit 0) [vget l27 0, vget l27 1, vget l27 2, vget l27 3] s29)))) [a0, Value.int IntKind.i64 0, Value.int IntKind.i64 0, Value.int IntKind.i64 0] s2 (fun x42 l43 s44 => match x42 with | .normal => R (vget l43 2) s44 | .ret => R (vget l43 1) s44 | .exit i45 => (match Nat.beq i45 0 with | true => R (vget l43 2) s44 | false => False)))))))))
theorem vc_spec_l22Num_eq (w0 : World) (a0 : Value) (σ : Vw) (R : Value → Vw → Prop) : vc_spec_l22Num w0 a0 σ R = den Tryd.prog w0 kp_spec_l22Num esc_spec_l22Num (Tryd.f116.body.getD .skip) (entry Tryd.f116.ntmps [a0]) σ (retK Tryd.prog Tryd.f116.results.toList R) := by kernel_rfl
theorem ac_spec_l22Num {w0 : World} {a0 : Value} {σ : Vw} {R : Value → Vw → Prop} (h : vc_spec_l22Num w0 a0 σ R) : AC Tryd.prog w0 n_spec_l22Num [a0] σ R := by
  refine ac_rule (fn := Tryd.f116) (c := Tryd.f116.body.getD .skip) kp_spec_l22Num esc_spec_l22Num Tryd.func116 (by kernel_rfl) (by kernel_rfl) ?_
  rw [← vc_spec_l22Num_eq]
  exact h

/-- spec.l21Copy -/
def kp_spec_l21Copy : Nat → Keep
  | _ => ⟨[], [], [], .done, []⟩
def esc_spec_l21Copy : Nat → Bool
  | 3 => true
  | _ => false
def vc_spec_l21Copy (w0 : World) (a0 : Value) (σ : Vw) (R : Value → Vw → Prop) : Prop :=
  pVal true 1 a0 (pNew w0 9 [] σ (fun n0 s1 => pAppendS w0 9 1 16 (Value.slice (Option.some (Addr.mk n0 0 Option.none)) 0 0) (cellOf a0 0) s1 (fun v2 s3 => pVal false 1 v2 (pVal true 1 (Value.agg ⟨[v2]⟩) (R (Value.agg ⟨[v2]⟩) s3)))))
theorem vc_spec_l21Copy_eq (w0 : World) (a0 : Value) (σ : Vw) (R : Value → Vw → Prop) : vc_spec_l21Copy w0 a0 σ R = den Tryd.prog w0 kp_spec_l21Copy esc_spec_l21Copy (Tryd.f117.body.getD .skip) (entry Tryd.f117.ntmps [a0]) σ (retK Tryd.prog Tryd.f117.results.toList R) := by kernel_rfl
theorem ac_spec_l21Copy {w0 : World} {a0 : Value} {σ : Vw} {R : Value → Vw → Prop} (h : vc_spec_l21Copy w0 a0 σ R) : AC Tryd.prog w0 n_spec_l21Copy [a0] σ R := by
  refine ac_rule (fn := Tryd.f117) (c := Tryd.f117.body.getD .skip) kp_spec_l21Copy esc_spec_l21Copy Tryd.func117 (by kernel_rfl) (by kernel_rfl) ?_
  rw [← vc_spec_l21Copy_eq]
  exact h

/-- spec.l23Step -/
def kp_spec_l23Step : Nat → Keep
  | 5 => ⟨[], [], [], .step 0 (.step 1 (.step 2 (.step 3 (.step 4 (.done))))), [(2, [0]), (3, [0, 1, 2]), (4, [0, 1, 2, 3])]⟩
  | 7 => ⟨[], [], [], .step 0 (.step 1 (.step 2 (.step 3 (.step 5 (.step 4 (.step 6 (.step 7 (.step 8 (.done))))))))), [(3, [2]), (4, [0, 1, 2, 3]), (6, [0, 1, 2, 3, 4]), (7, [0, 1, 2, 3, 4, 5, 6]), (8, [0, 1, 2, 3, 4, 5, 6, 7])]⟩
  | 10 => ⟨[], [], [], .step 0 (.step 1 (.step 2 (.step 3 (.step 4 (.step 5 (.done)))))), [(3, [0]), (4, [0, 1, 3]), (5, [0, 1, 2, 3, 4])]⟩
  | _ => ⟨[], [], [], .done, []⟩
def esc_spec_l23Step : Nat → Bool
  | _ => false
def vc_spec_l23Step (w0 : World) (a0 a1 a2 : Value) (σ : Vw) (R : Value → Vw → Prop) : Prop :=
  pVal true 1 a0 (pVal true 4 a1 (pVal true 3 a2 (AC Tryd.prog w0 n_spec_StoreAppend ([Value.agg (⟨[cellOf a1 0, cellOf a1 1, cellOf a1 2, cellOf a1 3]⟩), cellOf a2 1]) σ (fun v0 s1 => pExtract v0 0 (fun v2 => pExtract v0 1 (fun v3 => pExtract v0 2 (fun v4 => pVal true 4 v3 (pIf (cellOf a2 0) (AC Tryd.prog w0 n_spec_StoreSave ([Value.agg (⟨[cellOf a1 0, cellOf a1 1, cellOf a1 2, cellOf a1 3]⟩), cellOf a2 1]) s1 (fun v5 s6 => pExtract v5 0 (fun v7 => pExtract v5 1 (fun v8 => pExtract v5 2 (fun v9 => pVal true 4 v8 (pBin Tryd.prog 3 BinOp.neq v9 (Value.int IntKind.i64 0) (fun v10 => pIf v10 (pVal true 1 (Value.agg (⟨[cellOf a0 0]⟩)) (pVal true 4 (Value.agg (⟨[cellOf a1 0, cellOf a1 1, cellOf a1 2, cellOf a1 3]⟩)) (R (Value.tuple (⟨[Value.agg (⟨[cellOf a0 0]⟩), Value.agg (⟨[cellOf a1 0, cellOf a1 1, cellOf a1 2, cellOf a1 3]⟩), Value.bool true]⟩)) s6))) (pBin Tryd.prog 3 BinOp.lss (cellOf a2 2) (Value.int IntKind.i64 0) (fun v11 => pIf v11 (pLen v7 (fun v12 => AC Tryd.prog w0 n_spec_DiskWrite ([Value.agg (⟨[cellOf a0 0]⟩), v7, v12]) s6 (fun v13 s14 => pVal true 1 v13 (pVal true 4 (Value.agg (⟨[cellOf v8 0, cellOf v8 1, cellOf v8 2, cellOf v8 3]⟩)) (R (Value.tuple (⟨[Value.agg (⟨[cellOf v13 0]⟩), Value.agg (⟨[cellOf v8 0, cellOf v8 1, cellOf v8 2, cellOf v8 3]⟩), Value.bool true]⟩)) s14))))) (AC Tryd.prog w0 n_spec_DiskWrite ([Value.agg (⟨[cellOf a0 0]⟩), v7, cellOf a2 2]) s6 (fun v15 s16 => pVal true 1 v15 (AC Tryd.prog w0 n_spec_StoreOpen ([Value.agg (⟨[cellOf v15 0]⟩)]) s16 (fun v17 s18 => pExtract v17 0 (fun v19 => pExtract v17 1 (fun v20 => pVal true 4 v19 (pVal true 1 (Value.agg (⟨[cellOf v15 0]⟩)) (pVal true 4 (Value.agg (⟨[cellOf v19 0, cellOf v19 1, cellOf v19 2, cellOf v19 3]⟩)) (R (Value.tuple (⟨[Value.agg (⟨[cellOf v15 0]⟩), Value.agg (⟨[cellOf v19 0, cellOf v19 1, cellOf v19 2, cellOf v19 3]⟩), v20]⟩)) s18)))))))))))))))))) (pBin Tryd.prog 3 BinOp.neq v4 (Value.int IntKind.i64 0) (fun v21 => pIf v21 (pVal true 1 (Value.agg (⟨[cellOf a0 0]⟩)) (pVal true 4 (Value.agg (⟨[cellOf a1 0, cellOf a1 1, cellOf a1 2, cellOf a1 3]⟩)) (R (Value.tuple (⟨[Value.agg (⟨[cellOf a0 0]⟩), Value.agg (⟨[cellOf a1 0, cellOf a1 1, cellOf a1 2, cellOf a1 3]⟩), Value.bool true]⟩)) s1))) (pBin Tryd.prog 3 BinOp.lss (cellOf a2 2) (Value.int IntKind.i64 0) (fun v22 => pIf v22 (pLen v2 (fun v23 => AC Tryd.prog w0 n_spec_DiskWrite ([Value.agg (⟨[cellOf a0 0]⟩), v2, v23]) s1 (fun v24 s25 => pVal true 1 v24 (pVal true 4 (Value.agg (⟨[cellOf v3 0, cellOf v3 1, cellOf v3 2, cellOf v3 3]⟩)) (R (Value.tuple (⟨[Value.agg (⟨[cellOf v24 0]⟩), Value.agg (⟨[cellOf v3 0, cellOf v3 1, cellOf v3 2, cellOf v3 3]⟩), Value.bool true]⟩)) s25))))) (AC Tryd.prog w0 n_spec_DiskWrite ([Value.agg (⟨[cellOf a0 0]⟩), v2, cellOf a2 2]) s1 (fun v26 s27 => pVal true 1 v26 (AC Tryd.prog w0 n_spec_StoreOpen ([Value.agg (⟨[cellOf v26 0]⟩)]) s27 (fun v28 s29 => pExtract v28 0 (fun v30 => pExtract v28 1 (fun v31 => pVal true 4 v30 (pVal true 1 (Value.agg (⟨[cellOf v26 0]⟩)) (pVal true 4 (Value.agg (⟨[cellOf v30 0, cellOf v30 1, cellOf v30 2, cellOf v30 3]⟩)) (R (Value.tuple (⟨[Value.agg (⟨[cellOf v26 0]⟩), Value.agg (⟨[cellOf v30 0, cellOf v30 1, cellOf v30 2, cellOf v30 3]⟩), v31]⟩)) s29)))))))))))))))))))))
theorem vc_spec_l23Step_eq (w0 : World) (a0 a1 a2 : Value) (σ : Vw) (R : Value → Vw → Prop) : vc_spec_l23Step w0 a0 a1 a2 σ R = den Tryd.prog w0 kp_spec_l23Step esc_spec_l23Step (Tryd.f118.body.getD .skip) (entry Tryd.f118.ntmps [a0, a1, a2]) σ (retK Tryd.prog Tryd.f118.results.toList R) := by kernel_rfl
theorem ac_spec_l23Step {w0 : World} {a0 a1 a2 : Value} {σ : Vw} {R : Value → Vw → Prop} (h : vc_spec_l23Step w0 a0 a1 a2 σ R) : AC Tryd.prog w0 n_spec_l23Step [a0, a1, a2] σ R := by
  refine ac_rule (fn := Tryd.f118) (c := Tryd.f118.body.getD .skip) kp_spec_l23Step esc_spec_l23Step Tryd.func118 (by kernel_rfl) (by kernel_rfl) ?_
  rw [← vc_spec_l23Step_eq]
  exact h

end Go.Proofs.YtkndffhcncmbjaaDoor

/- What each function owes, reckoned out, part 3. MADE BY PROGRAM (emit.py). -/
set_option linter.unusedVariables false
namespace Go.Proofs.YtkndffhcncmbjaaDoor
open Go Go.Av

/-- spec.DiskWrite -/
def kp_spec_DiskWrite : Nat → Keep
  | 5 => ⟨[1, 2, 8], [(6, 1), (7, 1)], [6, 7], .done, []⟩
  | 8 => ⟨[], [], [], .step 0 (.step 1 (.step 2 (.step 3 (.step 4 (.step 5 (.step 6 (.step 7 (.step 8 (.step 9 (.step 10 (.step 11 (.step 12 (.step 13 (.done)))))))))))))), [(1, [0]), (4, [2, 3]), (5, [2, 3, 4]), (6, [2, 3, 4, 5]), (9, [7, 8]), (10, [7, 8, 9]), (11, [7, 8, 9, 10]), (12, [0, 1, 2, 3, 4, 5, 6, 7, 8, 9, 10, 11]), (13, [0, 1, 2, 3, 4, 5, 6, 7, 8, 9, 10, 11, 12])]⟩
  | _ => ⟨[], [], [], .done, []⟩
def esc_spec_DiskWrite : Nat → Bool
  | _ => false
def vc_spec_DiskWrite (w0 : World) (a0 a1 a2 : Value) (σ : Vw) (R : Value → Vw → Prop) : Prop :=
  pVal true 1 a0 (AC Tryd.prog w0 n_spec_DiskOk ([Value.agg (⟨[cellOf a0 0]⟩)]) σ (fun v0 s1 => pUn UnOp.not v0 (fun v2 => pIf v2 (pVal true 1 (Value.agg (⟨[Value.slice Option.none 0 0]⟩)) (R (Value.agg (⟨[Value.slice Option.none 0 0]⟩)) s1)) (AC Tryd.prog w0 n_spec_l21Copy ([Value.agg (⟨[cellOf a0 0]⟩)]) s1 (fun v3 s4 => pVal true 1 v3 (pLoop (fun l5 K6 s7 => pLen (vget l5 0) (fun v8 => pBin Tryd.prog 3 BinOp.lss (vget l5 2) v8 (fun v9 => pIf v9 (pBin Tryd.prog 3 BinOp.lss (vget l5 2) (vget l5 1) (fun v10 => pIf v10 (pIndexAddr 2 (vget l5 0) (vget l5 2) (fun v11 => pLoad w0 2 v11 s7 (fun g12 => AC Tryd.prog w0 n_spec_l21RawOk ([Value.agg (⟨[g12 0, g12 1]⟩)]) s7 (fun v13 s14 => pIf v13 (pIndexAddr 2 (vget l5 0) (vget l5 2) (fun v15 => pField 0 v15 (fun v16 => pLoad w0 1 v16 s14 (fun g17 => pIndexAddr 2 (vget l5 0) (vget l5 2) (fun v18 => pField 1 v18 (fun v19 => pLoad w0 1 v19 s14 (fun g20 => pIndexAddr 1 (vget l5 4) (g17 0) (fun v21 => pVal false 1 (g20 0) (pStore v21 [g20 0] s14 (fun s22 => pBin Tryd.prog 3 BinOp.add (vget l5 2) (Value.int IntKind.i64 1) (fun v23 => K6 AX.normal [vget l5 0, vget l5 1, v23, vget l5 3, vget l5 4] s22))))))))))) (pBin Tryd.prog 3 BinOp.add (vget l5 2) (Value.int IntKind.i64 1) (fun v24 => K6 AX.normal [vget l5 0, vget l5 1, v24, vget l5 3, vget l5 4] s14)))))) (K6 (AX.exit 0) [vget l5 0, vget l5 1, vget l5 2, vget l5 3, vget l5 4] s7))) (K6 (AX.exit 0) [vget l5 0, vget l5 1, vget l5 2, vget l5 3, vget l5 4] s7)))) [a1, a2, Value.int IntKind.i64 0, Value.slice Option.none 0 0, cellOf v3 0] s4 (fun x25 l26 s27 => match x25 with | .normal => pVal true 1 (Value.agg (⟨[vget l26 4]⟩)) (R (Value.agg (⟨[vget l26 4]⟩)) s27) | .ret => R (Value.agg (⟨[vget l26 3]⟩)) s27 | .exit i28 => (match Nat.beq i28 0 with | true => pVal true 1 (Value.agg (⟨[vget l26 4]⟩)) (R (Value.agg (⟨[vget l26 4]⟩)) s27) | false => False))))))))
theorem vc_spec_DiskWrite_eq (w0 : World) (a0 a1 a2 : Value) (σ : Vw) (R : Value → Vw → Prop) : vc_spec_DiskWrite w0 a0 a1 a2 σ R = den Tryd.prog w0 kp_spec_DiskWrite esc_spec_DiskWrite (Tryd.f119.body.getD .skip) (entry Tryd.f119.ntmps [a0, a1, a2]) σ (retK Tryd.prog Tryd.f119.results.toList R) := by kernel_rfl
theorem ac_spec_DiskWrite {w0 : World} {a0 a1 a2 : Value} {σ : Vw} {R : Value → Vw → Prop} (h : vc_spec_DiskWrite w0 a0 a1 a2 σ R) : AC Tryd.prog w0 n_spec_DiskWrite [a0, a1, a2] σ R := by
  refine ac_rule (fn := Tryd.f119) (c := Tryd.f119.body.getD .skip) kp_spec_DiskWrite esc_spec_DiskWrite Tryd.func119 (by kernel_rfl) (by kernel_rfl) ?_
  rw [← vc_spec_DiskWrite_eq]
  exact h

/-- spec.l24Blank -/
def kp_spec_l24Blank : Nat → Keep
  | 3 => ⟨[2], [(0, 1), (1, 1)], [0, 1], .done, []⟩
  | _ => ⟨[], [], [], .done, []⟩
def esc_spec_l24Blank : Nat → Bool
  | _ => false
def vc_spec_l24Blank (w0 : World) (σ : Vw) (R : Value → Vw → Prop) : Prop :=
  pVal true 1 (Value.agg (⟨[Value.slice Option.none 0 0]⟩)) (pLoop (fun l0 K1 s2 => pBin Tryd.prog 3 BinOp.lss (vget l0 0) (Value.int IntKind.i64 194) (fun v3 => pIf v3 (pVal false 1 (Value.string ({ data := #[] })) ((allOne ([Value.string ({ data := #[] })])) ∧ (pAppend w0 9 1 16 (vget l0 2) 1 ([Value.string ({ data := #[] })]) s2 (fun v4 s5 => pVal false 1 v4 (pBin Tryd.prog 3 BinOp.add (vget l0 0) (Value.int IntKind.i64 1) (fun v6 => K1 AX.normal [v6, vget l0 1, v4] s5)))))) (K1 (AX.exit 0) [vget l0 0, vget l0 1, vget l0 2] s2))) [Value.int IntKind.i64 0, Value.slice Option.none 0 0, Value.slice Option.none 0 0] σ (fun x7 l8 s9 => match x7 with | .normal => pVal true 1 (Value.agg (⟨[vget l8 2]⟩)) (R (Value.agg (⟨[vget l8 2]⟩)) s9) | .ret => R (Value.agg (⟨[vget l8 1]⟩)) s9 | .exit i10 => (match Nat.beq i10 0 with | true => pVal true 1 (Value.agg (⟨[vget l8 2]⟩)) (R (Value.agg (⟨[vget l8 2]⟩)) s9) | false => False)))
theorem vc_spec_l24Blank_eq (w0 : World) (σ : Vw) (R : Value → Vw → Prop) : vc_spec_l24Blank w0 σ R = den Tryd.prog w0 kp_spec_l24Blank esc_spec_l24Blank (Tryd.f120.body.getD .skip) (entry Tryd.f120.ntmps []) σ (retK Tryd.prog Tryd.f120.results.toList R) := by kernel_rfl
theorem ac_spec_l24Blank {w0 : World} {σ : Vw} {R : Value → Vw → Prop} (h : vc_spec_l24Blank w0 σ R) : AC Tryd.prog w0 n_spec_l24Blank [] σ R := by
  refine ac_rule (fn := Tryd.f120) (c := Tryd.f120.body.getD .skip) kp_spec_l24Blank esc_spec_l24Blank Tryd.func120 (by kernel_rfl) (by kernel_rfl) ?_
  rw [← vc_spec_l24Blank_eq]
  exact h

/-- internal/strconv.log10Pow2 -/
def kp_internal_strconv_log10Pow2 : Nat → Keep
  | _ => ⟨[], [], [], .done, []⟩
def esc_internal_strconv_log10Pow2 : Nat → Bool
  | _ => false
def vc_internal_strconv_log10Pow2 (w0 : World) (a0 : Value) (σ : Vw) (R : Value → Vw → Prop) : Prop :=
  pBin Tryd.prog 3 BinOp.mul a0 (Value.int IntKind.i64 78913) (fun v0 => pBin Tryd.prog 3 BinOp.shr v0 (Value.int IntKind.u64 18) (fun v1 => R v1 σ))
theorem vc_internal_strconv_log10Pow2_eq (w0 : World) (a0 : Value) (σ : Vw) (R : Value → Vw → Prop) : vc_internal_strconv_log10Pow2 w0 a0 σ R = den Tryd.prog w0 kp_internal_strconv_log10Pow2 esc_internal_strconv_log10Pow2 (Tryd.f121.body.getD .skip) (entry Tryd.f121.ntmps [a0]) σ (retK Tryd.prog Tryd.f121.results.toList R) := by kernel_rfl
theorem ac_internal_strconv_log10Pow2 {w0 : World} {a0 : Value} {σ : Vw} {R : Value → Vw → Prop} (h : vc_internal_strconv_log10Pow2 w0 a0 σ R) : AC Tryd.prog w0 n_internal_strconv_log10Pow2 [a0] σ R := by
  refine ac_rule (fn := Tryd.f121) (c := Tryd.f121.body.getD .skip) kp_internal_strconv_log10Pow2 esc_internal_strconv_log10Pow2 Tryd.func121 (by kernel_rfl) (by kernel_rfl) ?_
  rw [← vc_internal_strconv_log10Pow2_eq]
  exact h

/-- math/bits.Len64 -/
def kp_math_bits_Len64 : Nat → Keep
  | _ => ⟨[], [], [], .done, []⟩
def esc_math_bits_Len64 : Nat → Bool
  | _ => false
def vc_math_bits_Len64 (w0 : World) (a0 : Value) (σ : Vw) (R : Value → Vw → Prop) : Prop :=
  pBin Tryd.prog 145 BinOp.geq a0 (Value.int IntKind.u64 4294967296) (fun v0 => pIf v0 (pBin Tryd.prog 145 BinOp.shr a0 (Value.int IntKind.u64 32) (fun v1 => pBin Tryd.prog 145 BinOp.geq v1 (Value.int IntKind.u64 65536) (fun v2 => pIf v2 (pBin Tryd.prog 145 BinOp.shr v1 (Value.int IntKind.u64 16) (fun v3 => pBin Tryd.prog 3 BinOp.add (Value.int IntKind.i64 32) (Value.int IntKind.i64 16) (fun v4 => pBin Tryd.prog 145 BinOp.geq v3 (Value.int IntKind.u64 256) (fun v5 => pIf v5 (pBin Tryd.prog 145 BinOp.shr v3 (Value.int IntKind.u64 8) (fun v6 => pBin Tryd.prog 3 BinOp.add v4 (Value.int IntKind.i64 8) (fun v7 => pConvInt IntKind.u8 v6 (fun v8 => pIndexStr (Value.string ({ data := (([0, 1, 2, 2, 3, 3, 3, 3, 4, 4, 4, 4, 4, 4, 4, 4, 5, 5, 5, 5, 5, 5, 5, 5, 5, 5, 5, 5, 5, 5, 5, 5, 6, 6, 6, 6, 6, 6, 6, 6, 6, 6, 6, 6, 6, 6, 6, 6, 6, 6, 6, 6, 6, 6, 6, 6, 6, 6, 6, 6, 6, 6, 6, 6].append [7, 7, 7, 7, 7, 7, 7, 7, 7, 7, 7, 7, 7, 7, 7, 7, 7, 7, 7, 7, 7, 7, 7, 7, 7, 7, 7, 7, 7, 7, 7, 7, 7, 7, 7, 7, 7, 7, 7, 7, 7, 7, 7, 7, 7, 7, 7, 7, 7, 7, 7, 7, 7, 7, 7, 7, 7, 7, 7, 7, 7, 7, 7, 7]).append ([8, 8, 8, 8, 8, 8, 8, 8, 8, 8, 8, 8, 8, 8, 8, 8, 8, 8, 8, 8, 8, 8, 8, 8, 8, 8, 8, 8, 8, 8, 8, 8, 8, 8, 8, 8, 8, 8, 8, 8, 8, 8, 8, 8, 8, 8, 8, 8, 8, 8, 8, 8, 8, 8, 8, 8, 8, 8, 8, 8, 8, 8, 8, 8].append [8, 8, 8, 8, 8, 8, 8, 8, 8, 8, 8, 8, 8, 8, 8, 8, 8, 8, 8, 8, 8, 8, 8, 8, 8, 8, 8, 8, 8, 8, 8, 8, 8, 8, 8, 8, 8, 8, 8, 8, 8, 8, 8, 8, 8, 8, 8, 8, 8, 8, 8, 8, 8, 8, 8, 8, 8, 8, 8, 8, 8, 8, 8, 8])).toArray })) v8 (fun v9 => pConvInt IntKind.i64 v9 (fun v10 => pBin Tryd.prog 3 BinOp.add v7 v10 (fun v11 => R v11 σ))))))) (pConvInt IntKind.u8 v3 (fun v12 => pIndexStr (Value.string ({ data := (([0, 1, 2, 2, 3, 3, 3, 3, 4, 4, 4, 4, 4, 4, 4, 4, 5, 5, 5, 5, 5, 5, 5, 5, 5, 5, 5, 5, 5, 5, 5, 5, 6, 6, 6, 6, 6, 6, 6, 6, 6, 6, 6, 6, 6, 6, 6, 6, 6, 6, 6, 6, 6, 6, 6, 6, 6, 6, 6, 6, 6, 6, 6, 6].append [7, 7, 7, 7, 7, 7, 7, 7, 7, 7, 7, 7, 7, 7, 7, 7, 7, 7, 7, 7, 7, 7, 7, 7, 7, 7, 7, 7, 7, 7, 7, 7, 7, 7, 7, 7, 7, 7, 7, 7, 7, 7, 7, 7, 7, 7, 7, 7, 7, 7, 7, 7, 7, 7, 7, 7, 7, 7, 7, 7, 7, 7, 7, 7]).append ([8, 8, 8, 8, 8, 8, 8, 8, 8, 8, 8, 8, 8, 8, 8, 8, 8, 8, 8, 8, 8, 8, 8, 8, 8, 8, 8, 8, 8, 8, 8, 8, 8, 8, 8, 8, 8, 8, 8, 8, 8, 8, 8, 8, 8, 8, 8, 8, 8, 8, 8, 8, 8, 8, 8, 8, 8, 8, 8, 8, 8, 8, 8, 8].append [8, 8, 8, 8, 8, 8, 8, 8, 8, 8, 8, 8, 8, 8, 8, 8, 8, 8, 8, 8, 8, 8, 8, 8, 8, 8, 8, 8, 8, 8, 8, 8, 8, 8, 8, 8, 8, 8, 8, 8, 8, 8, 8, 8, 8, 8, 8, 8, 8, 8, 8, 8, 8, 8, 8, 8, 8, 8, 8, 8, 8, 8, 8, 8])).toArray })) v12 (fun v13 => pConvInt IntKind.i64 v13 (fun v14 => pBin Tryd.prog 3 BinOp.add v4 v14 (fun v15 => R v15 σ))))))))) (pBin Tryd.prog 145 BinOp.geq v1 (Value.int IntKind.u64 256) (fun v16 => pIf v16 (pBin Tryd.prog 145 BinOp.shr v1 (Value.int IntKind.u64 8) (fun v17 => pBin Tryd.prog 3 BinOp.add (Value.int IntKind.i64 32) (Value.int IntKind.i64 8) (fun v18 => pConvInt IntKind.u8 v17 (fun v19 => pIndexStr (Value.string ({ data := (([0, 1, 2, 2, 3, 3, 3, 3, 4, 4, 4, 4, 4, 4, 4, 4, 5, 5, 5, 5, 5, 5, 5, 5, 5, 5, 5, 5, 5, 5, 5, 5, 6, 6, 6, 6, 6, 6, 6, 6, 6, 6, 6, 6, 6, 6, 6, 6, 6, 6, 6, 6, 6, 6, 6, 6, 6, 6, 6, 6, 6, 6, 6, 6].append [7, 7, 7, 7, 7, 7, 7, 7, 7, 7, 7, 7, 7, 7, 7, 7, 7, 7, 7, 7, 7, 7, 7, 7, 7, 7, 7, 7, 7, 7, 7, 7, 7, 7, 7, 7, 7, 7, 7, 7, 7, 7, 7, 7, 7, 7, 7, 7, 7, 7, 7, 7, 7, 7, 7, 7, 7, 7, 7, 7, 7, 7, 7, 7]).append ([8, 8, 8, 8, 8, 8, 8, 8, 8, 8, 8, 8, 8, 8, 8, 8, 8, 8, 8, 8, 8, 8, 8, 8, 8, 8, 8, 8, 8, 8, 8, 8, 8, 8, 8, 8, 8, 8, 8, 8, 8, 8, 8, 8, 8, 8, 8, 8, 8, 8, 8, 8, 8, 8, 8, 8, 8, 8, 8, 8, 8, 8, 8, 8].append [8, 8, 8, 8, 8, 8, 8, 8, 8, 8, 8, 8, 8, 8, 8, 8, 8, 8, 8, 8, 8, 8, 8, 8, 8, 8, 8, 8, 8, 8, 8, 8, 8, 8, 8, 8, 8, 8, 8, 8, 8, 8, 8, 8, 8, 8, 8, 8, 8, 8, 8, 8, 8, 8, 8, 8, 8, 8, 8, 8, 8, 8, 8, 8])).toArray })) v19 (fun v20 => pConvInt IntKind.i64 v20 (fun v21 => pBin Tryd.prog 3 BinOp.add v18 v21 (fun v22 => R v22 σ))))))) (pConvInt IntKind.u8 v1 (fun v23 => pIndexStr (Value.string ({ data := (([0, 1, 2, 2, 3, 3, 3, 3, 4, 4, 4, 4, 4, 4, 4, 4, 5, 5, 5, 5, 5, 5, 5, 5, 5, 5, 5, 5, 5, 5, 5, 5, 6, 6, 6, 6, 6, 6, 6, 6, 6, 6, 6, 6, 6, 6, 6, 6, 6, 6, 6, 6, 6, 6, 6, 6, 6, 6, 6, 6, 6, 6, 6, 6].append [7, 7, 7, 7, 7, 7, 7, 7, 7, 7, 7, 7, 7, 7, 7, 7, 7, 7, 7, 7, 7, 7, 7, 7, 7, 7, 7, 7, 7, 7, 7, 7, 7, 7, 7, 7, 7, 7, 7, 7, 7, 7, 7, 7, 7, 7, 7, 7, 7, 7, 7, 7, 7, 7, 7, 7, 7, 7, 7, 7, 7, 7, 7, 7]).append ([8, 8, 8, 8, 8, 8, 8, 8, 8, 8, 8, 8, 8, 8, 8, 8, 8, 8, 8, 8, 8, 8, 8, 8, 8, 8, 8, 8, 8, 8, 8, 8, 8, 8, 8, 8, 8, 8, 8, 8, 8, 8, 8, 8, 8, 8, 8, 8, 8, 8, 8, 8, 8, 8, 8, 8, 8, 8, 8, 8, 8, 8, 8, 8].append [8, 8, 8, 8, 8, 8, 8, 8, 8, 8, 8, 8, 8, 8, 8, 8, 8, 8, 8, 8, 8, 8, 8, 8, 8, 8, 8, 8, 8, 8, 8, 8, 8, 8, 8, 8, 8, 8, 8, 8, 8, 8, 8, 8, 8, 8, 8, 8, 8, 8, 8, 8, 8, 8, 8, 8, 8, 8, 8, 8, 8, 8, 8, 8])).toArray })) v23 (fun v24 => pConvInt IntKind.i64 v24 (fun v25 => pBin Tryd.prog 3 BinOp.add (Value.int IntKind.i64 32) v25 (fun v26 => R v26 σ)))))))))) (pBin Tryd.prog 145 BinOp.geq a0 (Value.int IntKind.u64 65536) (fun v27 => pIf v27 (pBin Tryd.prog 145 BinOp.shr a0 (Value.int IntKind.u64 16) (fun v28 => pBin Tryd.prog 3 BinOp.add (Value.int IntKind.i64 0) (Value.int IntKind.i64 16) (fun v29 => pBin Tryd.prog 145 BinOp.geq v28 (Value.int IntKind.u64 256) (fun v30 => pIf v30 (pBin Tryd.prog 145 BinOp.shr v28 (Value.int IntKind.u64 8) (fun v31 => pBin Tryd.prog 3 BinOp.add v29 (Value.int IntKind.i64 8) (fun v32 => pConvInt IntKind.u8 v31 (fun v33 => pIndexStr (Value.string ({ data := (([0, 1, 2, 2, 3, 3, 3, 3, 4, 4, 4, 4, 4, 4, 4, 4, 5, 5, 5, 5, 5, 5, 5, 5, 5, 5, 5, 5, 5, 5, 5, 5, 6, 6, 6, 6, 6, 6, 6, 6, 6, 6, 6, 6, 6, 6, 6, 6, 6, 6, 6, 6, 6, 6, 6, 6, 6, 6, 6, 6, 6, 6, 6, 6].append [7, 7, 7, 7, 7, 7, 7, 7, 7, 7, 7, 7, 7, 7, 7, 7, 7, 7, 7, 7, 7, 7, 7, 7, 7, 7, 7, 7, 7, 7, 7, 7, 7, 7, 7, 7, 7, 7, 7, 7, 7, 7, 7, 7, 7, 7, 7, 7, 7, 7, 7, 7, 7, 7, 7, 7, 7, 7, 7, 7, 7, 7, 7, 7]).append ([8, 8, 8, 8, 8, 8, 8, 8, 8, 8, 8, 8, 8, 8, 8, 8, 8, 8, 8, 8, 8, 8, 8, 8, 8, 8, 8, 8, 8, 8, 8, 8, 8, 8, 8, 8, 8, 8, 8, 8, 8, 8, 8, 8, 8, 8, 8, 8, 8, 8, 8, 8, 8, 8, 8, 8, 8, 8, 8, 8, 8, 8, 8, 8].append [8, 8, 8, 8, 8, 8, 8, 8, 8, 8, 8, 8, 8, 8, 8, 8, 8, 8, 8, 8, 8, 8, 8, 8, 8, 8, 8, 8, 8, 8, 8, 8, 8, 8, 8, 8, 8, 8, 8, 8, 8, 8, 8, 8, 8, 8, 8, 8, 8, 8, 8, 8, 8, 8, 8, 8, 8, 8, 8, 8, 8, 8, 8, 8])).toArray })) v33 (fun v34 => pConvInt IntKind.i64 v34 (fun v35 => pBin Tryd.prog 3 BinOp.add v32 v35 (fun v36 => R v36 σ))))))) (pConvInt IntKind.u8 v28 (fun v37 => pIndexStr (Value.string ({ data := (([0, 1, 2, 2, 3, 3, 3, 3, 4, 4, 4, 4, 4, 4, 4, 4, 5, 5, 5, 5, 5, 5, 5, 5, 5, 5, 5, 5, 5, 5, 5, 5, 6, 6, 6, 6, 6, 6, 6, 6, 6, 6, 6, 6, 6, 6, 6, 6, 6, 6, 6, 6, 6, 6, 6, 6, 6, 6, 6, 6, 6, 6, 6, 6].append [7, 7, 7, 7, 7, 7, 7, 7, 7, 7, 7, 7, 7, 7, 7, 7, 7, 7, 7, 7, 7, 7, 7, 7, 7, 7, 7, 7, 7, 7, 7, 7, 7, 7, 7, 7, 7, 7, 7, 7, 7, 7, 7, 7, 7, 7, 7, 7, 7, 7, 7, 7, 7, 7, 7, 7, 7, 7, 7, 7, 7, 7, 7, 7]).append ([8, 8, 8, 8, 8, 8, 8, 8, 8, 8, 8, 8, 8, 8, 8, 8, 8, 8, 8, 8, 8, 8, 8, 8, 8, 8, 8, 8, 8, 8, 8, 8, 8, 8, 8, 8, 8, 8, 8, 8, 8, 8, 8, 8, 8, 8, 8, 8, 8, 8, 8, 8, 8, 8, 8, 8, 8, 8, 8, 8, 8, 8, 8, 8].append [8, 8, 8, 8, 8, 8, 8, 8, 8, 8, 8, 8, 8, 8, 8, 8, 8, 8, 8, 8, 8, 8, 8, 8, 8, 8, 8, 8, 8, 8, 8, 8, 8, 8, 8, 8, 8, 8, 8, 8, 8, 8, 8, 8, 8, 8, 8, 8, 8, 8, 8, 8, 8, 8, 8, 8, 8, 8, 8, 8, 8, 8, 8, 8])).toArray })) v37 (fun v38 => pConvInt IntKind.i64 v38 (fun v39 => pBin Tryd.prog 3 BinOp.add v29 v39 (fun v40 => R v40 σ))))))))) (pBin Tryd.prog 145 BinOp.geq a0 (Value.int IntKind.u64 256) (fun v41 => pIf v41 (pBin Tryd.prog 145 BinOp.shr a0 (Value.int IntKind.u64 8) (fun v42 => pBin Tryd.prog 3 BinOp.add (Value.int IntKind.i64 0) (Value.int IntKind.i64 8) (fun v43 => pConvInt IntKind.u8 v42 (fun v44 => pIndexStr (Value.string ({ data := (([0, 1, 2, 2, 3, 3, 3, 3, 4, 4, 4, 4, 4, 4, 4, 4, 5, 5, 5, 5, 5, 5, 5, 5, 5, 5, 5, 5, 5, 5, 5, 5, 6, 6, 6, 6, 6, 6, 6, 6, 6, 6, 6, 6, 6, 6, 6, 6, 6, 6, 6, 6, 6, 6, 6, 6, 6, 6, 6, 6, 6, 6, 6, 6].append [7, 7, 7, 7, 7, 7, 7, 7, 7, 7, 7, 7, 7, 7, 7, 7, 7, 7, 7, 7, 7, 7, 7, 7, 7, 7, 7, 7, 7, 7, 7, 7, 7, 7, 7, 7, 7, 7, 7, 7, 7, 7, 7, 7, 7, 7, 7, 7, 7, 7, 7, 7, 7, 7, 7, 7, 7, 7, 7, 7, 7, 7, 7, 7]).append ([8, 8, 8, 8, 8, 8, 8, 8, 8, 8, 8, 8, 8, 8, 8, 8, 8, 8, 8, 8, 8, 8, 8, 8, 8, 8, 8, 8, 8, 8, 8, 8, 8, 8, 8, 8, 8, 8, 8, 8, 8, 8, 8, 8, 8, 8, 8, 8, 8, 8, 8, 8, 8, 8, 8, 8, 8, 8, 8, 8, 8, 8, 8, 8].append [8, 8, 8, 8, 8, 8, 8, 8, 8, 8, 8, 8, 8, 8, 8, 8, 8, 8, 8, 8, 8, 8, 8, 8, 8, 8, 8, 8, 8, 8, 8, 8, 8, 8, 8, 8, 8, 8, 8, 8, 8, 8, 8, 8, 8, 8, 8, 8, 8, 8, 8, 8, 8, 8, 8, 8, 8, 8, 8, 8, 8, 8, 8, 8])).toArray })) v44 (fun v45 => pConvInt IntKind.i64 v45 (fun v46 => pBin Tryd.prog 3 BinOp.add v43 v46 (fun v47 => R v47 σ))))))) (pConvInt IntKind.u8 a0 (fun v48 => pIndexStr (Value.string ({ data := (([0, 1, 2, 2, 3, 3, 3, 3, 4, 4, 4, 4, 4, 4, 4, 4, 5, 5, 5, 5, 5, 5, 5, 5, 5, 5, 5, 5, 5, 5, 5, 5, 6, 6, 6, 6, 6, 6, 6, 6, 6, 6, 6, 6, 6, 6, 6, 6, 6, 6, 6, 6, 6, 6, 6, 6, 6, 6, 6, 6, 6, 6, 6, 6].append [7, 7, 7, 7, 7, 7, 7, 7, 7, 7, 7, 7, 7, 7, 7, 7, 7, 7, 7, 7, 7, 7, 7, 7, 7, 7, 7, 7, 7, 7, 7, 7, 7, 7, 7, 7, 7, 7, 7, 7, 7, 7, 7, 7, 7, 7, 7, 7, 7, 7, 7, 7, 7, 7, 7, 7, 7, 7, 7, 7, 7, 7, 7, 7]).append ([8, 8, 8, 8, 8, 8, 8, 8, 8, 8, 8, 8, 8, 8, 8, 8, 8, 8, 8, 8, 8, 8, 8, 8, 8, 8, 8, 8, 8, 8, 8, 8, 8, 8, 8, 8, 8, 8, 8, 8, 8, 8, 8, 8, 8, 8, 8, 8, 8, 8, 8, 8, 8, 8, 8, 8, 8, 8, 8, 8, 8, 8, 8, 8].append [8, 8, 8, 8, 8, 8, 8, 8, 8, 8, 8, 8, 8, 8, 8, 8, 8, 8, 8, 8, 8, 8, 8, 8, 8, 8, 8, 8, 8, 8, 8, 8, 8, 8, 8, 8, 8, 8, 8, 8, 8, 8, 8, 8, 8, 8, 8, 8, 8, 8, 8, 8, 8, 8, 8, 8, 8, 8, 8, 8, 8, 8, 8, 8])).toArray })) v48 (fun v49 => pConvInt IntKind.i64 v49 (fun v50 => pBin Tryd.prog 3 BinOp.add (Value.int IntKind.i64 0) v50 (fun v51 => R v51 σ))))))))))
theorem vc_math_bits_Len64_eq (w0 : World) (a0 : Value) (σ : Vw) (R : Value → Vw → Prop) : vc_math_bits_Len64 w0 a0 σ R = den Tryd.prog w0 kp_math_bits_Len64 esc_math_bits_Len64 (Tryd.f122.body.getD .skip) (entry Tryd.f122.ntmps [a0]) σ (retK Tryd.prog Tryd.f122.results.toList R) := by kernel_rfl
theorem ac_math_bits_Len64 {w0 : World} {a0 : Value} {σ : Vw} {R : Value → Vw → Prop} (h : vc_math_bits_Len64 w0 a0 σ R) : AC Tryd.prog w0 n_math_bits_Len64 [a0] σ R := by
  refine ac_rule (fn := Tryd.f122) (c := Tryd.f122.body.getD .skip) kp_math_bits_Len64 esc_math_bits_Len64 Tryd.func122 (by kernel_rfl) (by kernel_rfl) ?_
  rw [← vc_math_bits_Len64_eq]
  exact h

/-- internal/strconv.bool2[int] -/
def kp_internal_strconv_bool2_int : Nat → Keep
  | _ => ⟨[], [], [], .done, []⟩
def esc_internal_strconv_bool2_int : Nat → Bool
  | _ => false
def vc_internal_strconv_bool2_int (w0 : World) (a0 : Value) (σ : Vw) (R : Value → Vw → Prop) : Prop :=
  pIf a0 (R (Value.int IntKind.i64 1) σ) (R (Value.int IntKind.i64 0) σ)
theorem vc_internal_strconv_bool2_int_eq (w0 : World) (a0 : Value) (σ : Vw) (R : Value → Vw → Prop) : vc_internal_strconv_bool2_int w0 a0 σ R = den Tryd.prog w0 kp_internal_strconv_bool2_int esc_internal_strconv_bool2_int (Tryd.f123.body.getD .skip) (entry Tryd.f123.ntmps [a0]) σ (retK Tryd.prog Tryd.f123.results.toList R) := by kernel_rfl
theorem ac_internal_strconv_bool2_int {w0 : World} {a0 : Value} {σ : Vw} {R : Value → Vw → Prop} (h : vc_internal_strconv_bool2_int w0 a0 σ R) : AC Tryd.prog w0 n_internal_strconv_bool2_int [a0] σ R := by
  refine ac_rule (fn := Tryd.f123) (c := Tryd.f123.body.getD .skip) kp_internal_strconv_bool2_int esc_internal_strconv_bool2_int Tryd.func123 (by kernel_rfl) (by kernel_rfl) ?_
  rw [← vc_internal_strconv_bool2_int_eq]
  exact h

/-- internal/strconv.isPowerOfTwo -/
def kp_internal_strconv_isPowerOfTwo : Nat → Keep
  | _ => ⟨[], [], [], .done, []⟩
def esc_internal_strconv_isPowerOfTwo : Nat → Bool
  | _ => false
def vc_internal_strconv_isPowerOfTwo (w0 : World) (a0 : Value) (σ : Vw) (R : Value → Vw → Prop) : Prop :=
  pBin Tryd.prog 3 BinOp.sub a0 (Value.int IntKind.i64 1) (fun v0 => pBin Tryd.prog 3 BinOp.and a0 v0 (fun v1 => pBin Tryd.prog 3 BinOp.eql v1 (Value.int IntKind.i64 0) (fun v2 => R v2 σ)))
theorem vc_internal_strconv_isPowerOfTwo_eq (w0 : World) (a0 : Value) (σ : Vw) (R : Value → Vw → Prop) : vc_internal_strconv_isPowerOfTwo w0 a0 σ R = den Tryd.prog w0 kp_internal_strconv_isPowerOfTwo esc_internal_strconv_isPowerOfTwo (Tryd.f124.body.getD .skip) (entry Tryd.f124.ntmps [a0]) σ (retK Tryd.prog Tryd.f124.results.toList R) := by kernel_rfl
theorem ac_internal_strconv_isPowerOfTwo {w0 : World} {a0 : Value} {σ : Vw} {R : Value → Vw → Prop} (h : vc_internal_strconv_isPowerOfTwo w0 a0 σ R) : AC Tryd.prog w0 n_internal_strconv_isPowerOfTwo [a0] σ R := by
  refine ac_rule (fn := Tryd.f124) (c := Tryd.f124.body.getD .skip) kp_internal_strconv_isPowerOfTwo esc_internal_strconv_isPowerOfTwo Tryd.func124 (by kernel_rfl) (by kernel_rfl) ?_
  rw [← vc_internal_strconv_isPowerOfTwo_eq]
  exact h

/-- math/bits.TrailingZeros -/
def kp_math_bits_TrailingZeros : Nat → Keep
  | _ => ⟨[], [], [], .done, []⟩
def esc_math_bits_TrailingZeros : Nat → Bool
  | _ => false
def vc_math_bits_TrailingZeros (w0 : World) (a0 : Value) (σ : Vw) (R : Value → Vw → Prop) : Prop :=
  AC Tryd.prog w0 n_math_bits_TrailingZeros64 [a0] σ (fun v0 s1 => R v0 s1)
theorem vc_math_bits_TrailingZeros_eq (w0 : World) (a0 : Value) (σ : Vw) (R : Value → Vw → Prop) : vc_math_bits_TrailingZeros w0 a0 σ R = den Tryd.prog w0 kp_math_bits_TrailingZeros esc_math_bits_TrailingZeros (Tryd.f125.body.getD .skip) (entry Tryd.f125.ntmps [a0]) σ (retK Tryd.prog Tryd.f125.results.toList R) := by kernel_rfl
theorem ac_math_bits_TrailingZeros {w0 : World} {a0 : Value} {σ : Vw} {R : Value → Vw → Prop} (h : vc_math_bits_TrailingZeros w0 a0 σ R) : AC Tryd.prog w0 n_math_bits_TrailingZeros [a0] σ R := by
  refine ac_rule (fn := Tryd.f125) (c := Tryd.f125.body.getD .skip) kp_math_bits_TrailingZeros esc_math_bits_TrailingZeros Tryd.func125 (by kernel_rfl) (by kernel_rfl) ?_
  rw [← vc_math_bits_TrailingZeros_eq]
  exact h

/-- spec.l21RawOk -/
def kp_spec_l21RawOk : Nat → Keep
  | _ => ⟨[], [], [], .done, []⟩
def esc_spec_l21RawOk : Nat → Bool
  | _ => false
def vc_spec_l21RawOk (w0 : World) (a0 : Value) (σ : Vw) (R : Value → Vw → Prop) : Prop :=
  pVal true 2 a0 (AC Tryd.prog w0 n_spec_l21In [cellOf a0 0, Value.int IntKind.i64 0, Value.int IntKind.i64 193] σ (fun v0 s1 => pIf v0 (pLenS (cellOf a0 1) (fun v2 => pBin Tryd.prog 3 BinOp.leq v2 (Value.int IntKind.i64 64) (fun v3 => R v3 s1))) (R (Value.bool false) s1)))
theorem vc_spec_l21RawOk_eq (w0 : World) (a0 : Value) (σ : Vw) (R : Value → Vw → Prop) : vc_spec_l21RawOk w0 a0 σ R = den Tryd.prog w0 kp_spec_l21RawOk esc_spec_l21RawOk (Tryd.f126.body.getD .skip) (entry Tryd.f126.ntmps [a0]) σ (retK Tryd.prog Tryd.f126.results.toList R) := by kernel_rfl
theorem ac_spec_l21RawOk {w0 : World} {a0 : Value} {σ : Vw} {R : Value → Vw → Prop} (h : vc_spec_l21RawOk w0 a0 σ R) : AC Tryd.prog w0 n_spec_l21RawOk [a0] σ R := by
  refine ac_rule (fn := Tryd.f126) (c := Tryd.f126.body.getD .skip) kp_spec_l21RawOk esc_spec_l21RawOk Tryd.func126 (by kernel_rfl) (by kernel_rfl) ?_
  rw [← vc_spec_l21RawOk_eq]
  exact h

/-- math/bits.TrailingZeros32 -/
def kp_math_bits_TrailingZeros32 : Nat → Keep
  | _ => ⟨[], [], [], .done, []⟩
def esc_math_bits_TrailingZeros32 : Nat → Bool
  | _ => false
def vc_math_bits_TrailingZeros32 (w0 : World) (a0 : Value) (σ : Vw) (R : Value → Vw → Prop) : Prop :=
  pBin Tryd.prog 159 BinOp.eql a0 (Value.int IntKind.u32 0) (fun v0 => pIf v0 (R (Value.int IntKind.i64 32) σ) (pUn UnOp.neg a0 (fun v1 => pBin Tryd.prog 159 BinOp.and a0 v1 (fun v2 => pBin Tryd.prog 159 BinOp.mul v2 (Value.int IntKind.u32 125613361) (fun v3 => pBin Tryd.prog 159 BinOp.shr v3 (Value.int IntKind.u64 27) (fun v4 => pIndexArr 32 1 (Value.pointer (Option.some (Addr.mk 1 0 Option.none))) v4 (fun v5 => pLoad w0 1 v5 σ (fun g6 => pConvInt IntKind.i64 (g6 0) (fun v7 => R v7 σ)))))))))
theorem vc_math_bits_TrailingZeros32_eq (w0 : World) (a0 : Value) (σ : Vw) (R : Value → Vw → Prop) : vc_math_bits_TrailingZeros32 w0 a0 σ R = den Tryd.prog w0 kp_math_bits_TrailingZeros32 esc_math_bits_TrailingZeros32 (Tryd.f127.body.getD .skip) (entry Tryd.f127.ntmps [a0]) σ (retK Tryd.prog Tryd.f127.results.toList R) := by kernel_rfl
theorem ac_math_bits_TrailingZeros32 {w0 : World} {a0 : Value} {σ : Vw} {R : Value → Vw → Prop} (h : vc_math_bits_TrailingZeros32 w0 a0 σ R) : AC Tryd.prog w0 n_math_bits_TrailingZeros32 [a0] σ R := by
  refine ac_rule (fn := Tryd.f127) (c := Tryd.f127.body.getD .skip) kp_math_bits_TrailingZeros32 esc_math_bits_TrailingZeros32 Tryd.func127 (by kernel_rfl) (by kernel_rfl) ?_
  rw [← vc_math_bits_TrailingZeros32_eq]
  exact h

/-- math/bits.TrailingZeros64 -/
def kp_math_bits_TrailingZeros64 : Nat → Keep
  | _ => ⟨[], [], [], .done, []⟩
def esc_math_bits_TrailingZeros64 : Nat → Bool
  | _ => false
def vc_math_bits_TrailingZeros64 (w0 : World) (a0 : Value) (σ : Vw) (R : Value → Vw → Prop) : Prop :=
  pBin Tryd.prog 145 BinOp.eql a0 (Value.int IntKind.u64 0) (fun v0 => pIf v0 (R (Value.int IntKind.i64 64) σ) (pUn UnOp.neg a0 (fun v1 => pBin Tryd.prog 145 BinOp.and a0 v1 (fun v2 => pBin Tryd.prog 145 BinOp.mul v2 (Value.int IntKind.u64 285870213051353865) (fun v3 => pBin Tryd.prog 145 BinOp.shr v3 (Value.int IntKind.u64 58) (fun v4 => pIndexArr 64 1 (Value.pointer (Option.some (Addr.mk 2 0 Option.none))) v4 (fun v5 => pLoad w0 1 v5 σ (fun g6 => pConvInt IntKind.i64 (g6 0) (fun v7 => R v7 σ)))))))))
theorem vc_math_bits_TrailingZeros64_eq (w0 : World) (a0 : Value) (σ : Vw) (R : Value → Vw → Prop) : vc_math_bits_TrailingZeros64 w0 a0 σ R = den Tryd.prog w0 kp_math_bits_TrailingZeros64 esc_math_bits_TrailingZeros64 (Tryd.f128.body.getD .skip) (entry Tryd.f128.ntmps [a0]) σ (retK Tryd.prog Tryd.f128.results.toList R) := by kernel_rfl
theorem ac_math_bits_TrailingZeros64 {w0 : World} {a0 : Value} {σ : Vw} {R : Value → Vw → Prop} (h : vc_math_bits_TrailingZeros64 w0 a0 σ R) : AC Tryd.prog w0 n_math_bits_TrailingZeros64 [a0] σ R := by
  refine ac_rule (fn := Tryd.f128) (c := Tryd.f128.body.getD .skip) kp_math_bits_TrailingZeros64 esc_math_bits_TrailingZeros64 Tryd.func128 (by kernel_rfl) (by kernel_rfl) ?_
  rw [← vc_math_bits_TrailingZeros64_eq]
  exact h

/-- gosem.cut.vars -/
def kp_gosem_cut_vars : Nat → Keep
  | _ => ⟨[], [], [], .done, []⟩
def esc_gosem_cut_vars : Nat → Bool
  | _ => false
def vc_gosem_cut_vars (w0 : World) (σ : Vw) (R : Value → Vw → Prop) : Prop :=
  pVal false 1 (Value.int IntKind.u8 0) (pVal false 1 (Value.int IntKind.u8 1) (pVal false 1 (Value.int IntKind.u8 28) (pVal false 1 (Value.int IntKind.u8 2) (pVal false 1 (Value.int IntKind.u8 29) (pVal false 1 (Value.int IntKind.u8 14) (pVal false 1 (Value.int IntKind.u8 24) (pVal false 1 (Value.int IntKind.u8 3) (pVal false 1 (Value.int IntKind.u8 30) (pVal false 1 (Value.int IntKind.u8 22) (pVal false 1 (Value.int IntKind.u8 20) (pVal false 1 (Value.int IntKind.u8 15) (pVal false 1 (Value.int IntKind.u8 25) (pVal false 1 (Value.int IntKind.u8 17) (pVal false 1 (Value.int IntKind.u8 4) (pVal false 1 (Value.int IntKind.u8 8) (pVal false 1 (Value.int IntKind.u8 31) (pVal false 1 (Value.int IntKind.u8 27) (pVal false 1 (Value.int IntKind.u8 13) (pVal false 1 (Value.int IntKind.u8 23) (pVal false 1 (Value.int IntKind.u8 21) (pVal false 1 (Value.int IntKind.u8 19) (pVal false 1 (Value.int IntKind.u8 16) (pVal false 1 (Value.int IntKind.u8 7) (pVal false 1 (Value.int IntKind.u8 26) (pVal false 1 (Value.int IntKind.u8 12) (pVal false 1 (Value.int IntKind.u8 18) (pVal false 1 (Value.int IntKind.u8 6) (pVal false 1 (Value.int IntKind.u8 11) (pVal false 1 (Value.int IntKind.u8 5) (pVal false 1 (Value.int IntKind.u8 10) (pVal false 1 (Value.int IntKind.u8 9) (pVal true 32 (Value.agg (⟨[Value.int IntKind.u8 0, Value.int IntKind.u8 1, Value.int IntKind.u8 28, Value.int IntKind.u8 2, Value.int IntKind.u8 29, Value.int IntKind.u8 14, Value.int IntKind.u8 24, Value.int IntKind.u8 3, Value.int IntKind.u8 30, Value.int IntKind.u8 22, Value.int IntKind.u8 20, Value.int IntKind.u8 15, Value.int IntKind.u8 25, Value.int IntKind.u8 17, Value.int IntKind.u8 4, Value.int IntKind.u8 8, Value.int IntKind.u8 31, Value.int IntKind.u8 27, Value.int IntKind.u8 13, Value.int IntKind.u8 23, Value.int IntKind.u8 21, Value.int IntKind.u8 19, Value.int IntKind.u8 16, Value.int IntKind.u8 7, Value.int IntKind.u8 26, Value.int IntKind.u8 12, Value.int IntKind.u8 18, Value.int IntKind.u8 6, Value.int IntKind.u8 11, Value.int IntKind.u8 5, Value.int IntKind.u8 10, Value.int IntKind.u8 9]⟩)) (pStore (Value.pointer (Option.some (Addr.mk 1 0 Option.none))) [Value.int IntKind.u8 0, Value.int IntKind.u8 1, Value.int IntKind.u8 28, Value.int IntKind.u8 2, Value.int IntKind.u8 29, Value.int IntKind.u8 14, Value.int IntKind.u8 24, Value.int IntKind.u8 3, Value.int IntKind.u8 30, Value.int IntKind.u8 22, Value.int IntKind.u8 20, Value.int IntKind.u8 15, Value.int IntKind.u8 25, Value.int IntKind.u8 17, Value.int IntKind.u8 4, Value.int IntKind.u8 8, Value.int IntKind.u8 31, Value.int IntKind.u8 27, Value.int IntKind.u8 13, Value.int IntKind.u8 23, Value.int IntKind.u8 21, Value.int IntKind.u8 19, Value.int IntKind.u8 16, Value.int IntKind.u8 7, Value.int IntKind.u8 26, Value.int IntKind.u8 12, Value.int IntKind.u8 18, Value.int IntKind.u8 6, Value.int IntKind.u8 11, Value.int IntKind.u8 5, Value.int IntKind.u8 10, Value.int IntKind.u8 9] σ (fun s0 => pVal false 1 (Value.int IntKind.u8 0) (pVal false 1 (Value.int IntKind.u8 1) (pVal false 1 (Value.int IntKind.u8 56) (pVal false 1 (Value.int IntKind.u8 2) (pVal false 1 (Value.int IntKind.u8 57) (pVal false 1 (Value.int IntKind.u8 49) (pVal false 1 (Value.int IntKind.u8 28) (pVal false 1 (Value.int IntKind.u8 3) (pVal false 1 (Value.int IntKind.u8 61) (pVal false 1 (Value.int IntKind.u8 58) (pVal false 1 (Value.int IntKind.u8 42) (pVal false 1 (Value.int IntKind.u8 50) (pVal false 1 (Value.int IntKind.u8 38) (pVal false 1 (Value.int IntKind.u8 29) (pVal false 1 (Value.int IntKind.u8 17) (pVal false 1 (Value.int IntKind.u8 4) (pVal false 1 (Value.int IntKind.u8 62) (pVal false 1 (Value.int IntKind.u8 47) (pVal false 1 (Value.int IntKind.u8 59) (pVal false 1 (Value.int IntKind.u8 36) (pVal false 1 (Value.int IntKind.u8 45) (pVal false 1 (Value.int IntKind.u8 43) (pVal false 1 (Value.int IntKind.u8 51) (pVal false 1 (Value.int IntKind.u8 22) (pVal false 1 (Value.int IntKind.u8 53) (pVal false 1 (Value.int IntKind.u8 39) (pVal false 1 (Value.int IntKind.u8 33) (pVal false 1 (Value.int IntKind.u8 30) (pVal false 1 (Value.int IntKind.u8 24) (pVal false 1 (Value.int IntKind.u8 18) (pVal false 1 (Value.int IntKind.u8 12) (pVal false 1 (Value.int IntKind.u8 5) (pVal false 1 (Value.int IntKind.u8 63) (pVal false 1 (Value.int IntKind.u8 55) (pVal false 1 (Value.int IntKind.u8 48) (pVal false 1 (Value.int IntKind.u8 27) (pVal false 1 (Value.int IntKind.u8 60) (pVal false 1 (Value.int IntKind.u8 41) (pVal false 1 (Value.int IntKind.u8 37) (pVal false 1 (Value.int IntKind.u8 16) (pVal false 1 (Value.int IntKind.u8 46) (pVal false 1 (Value.int IntKind.u8 35) (pVal false 1 (Value.int IntKind.u8 44) (pVal false 1 (Value.int IntKind.u8 21) (pVal false 1 (Value.int IntKind.u8 52) (pVal false 1 (Value.int IntKind.u8 32) (pVal false 1 (Value.int IntKind.u8 23) (pVal false 1 (Value.int IntKind.u8 11) (pVal false 1 (Value.int IntKind.u8 54) (pVal false 1 (Value.int IntKind.u8 26) (pVal false 1 (Value.int IntKind.u8 40) (pVal false 1 (Value.int IntKind.u8 15) (pVal false 1 (Value.int IntKind.u8 34) (pVal false 1 (Value.int IntKind.u8 20) (pVal false 1 (Value.int IntKind.u8 31) (pVal false 1 (Value.int IntKind.u8 10) (pVal false 1 (Value.int IntKind.u8 25) (pVal false 1 (Value.int IntKind.u8 14) (pVal false 1 (Value.int IntKind.u8 19) (pVal false 1 (Value.int IntKind.u8 9) (pVal false 1 (Value.int IntKind.u8 13) (pVal false 1 (Value.int IntKind.u8 8) (pVal false 1 (Value.int IntKind.u8 7) (pVal false 1 (Value.int IntKind.u8 6) (pVal true 64 (Value.agg (⟨[Value.int IntKind.u8 0, Value.int IntKind.u8 1, Value.int IntKind.u8 56, Value.int IntKind.u8 2, Value.int IntKind.u8 57, Value.int IntKind.u8 49, Value.int IntKind.u8 28, Value.int IntKind.u8 3, Value.int IntKind.u8 61, Value.int IntKind.u8 58, Value.int IntKind.u8 42, Value.int IntKind.u8 50, Value.int IntKind.u8 38, Value.int IntKind.u8 29, Value.int IntKind.u8 17, Value.int IntKind.u8 4, Value.int IntKind.u8 62, Value.int IntKind.u8 47, Value.int IntKind.u8 59, Value.int IntKind.u8 36, Value.int IntKind.u8 45, Value.int IntKind.u8 43, Value.int IntKind.u8 51, Value.int IntKind.u8 22, Value.int IntKind.u8 53, Value.int IntKind.u8 39, Value.int IntKind.u8 33, Value.int IntKind.u8 30, Value.int IntKind.u8 24, Value.int IntKind.u8 18, Value.int IntKind.u8 12, Value.int IntKind.u8 5, Value.int IntKind.u8 63, Value.int IntKind.u8 55, Value.int IntKind.u8 48, Value.int IntKind.u8 27, Value.int IntKind.u8 60, Value.int IntKind.u8 41, Value.int IntKind.u8 37, Value.int IntKind.u8 16, Value.int IntKind.u8 46, Value.int IntKind.u8 35, Value.int IntKind.u8 44, Value.int IntKind.u8 21, Value.int IntKind.u8 52, Value.int IntKind.u8 32, Value.int IntKind.u8 23, Value.int IntKind.u8 11, Value.int IntKind.u8 54, Value.int IntKind.u8 26, Value.int IntKind.u8 40, Value.int IntKind.u8 15, Value.int IntKind.u8 34, Value.int IntKind.u8 20, Value.int IntKind.u8 31, Value.int IntKind.u8 10, Value.int IntKind.u8 25, Value.int IntKind.u8 14, Value.int IntKind.u8 19, Value.int IntKind.u8 9, Value.int IntKind.u8 13, Value.int IntKind.u8 8, Value.int IntKind.u8 7, Value.int IntKind.u8 6]⟩)) (pStore (Value.pointer (Option.some (Addr.mk 2 0 Option.none))) [Value.int IntKind.u8 0, Value.int IntKind.u8 1, Value.int IntKind.u8 56, Value.int IntKind.u8 2, Value.int IntKind.u8 57, Value.int IntKind.u8 49, Value.int IntKind.u8 28, Value.int IntKind.u8 3, Value.int IntKind.u8 61, Value.int IntKind.u8 58, Value.int IntKind.u8 42, Value.int IntKind.u8 50, Value.int IntKind.u8 38, Value.int IntKind.u8 29, Value.int IntKind.u8 17, Value.int IntKind.u8 4, Value.int IntKind.u8 62, Value.int IntKind.u8 47, Value.int IntKind.u8 59, Value.int IntKind.u8 36, Value.int IntKind.u8 45, Value.int IntKind.u8 43, Value.int IntKind.u8 51, Value.int IntKind.u8 22, Value.int IntKind.u8 53, Value.int IntKind.u8 39, Value.int IntKind.u8 33, Value.int IntKind.u8 30, Value.int IntKind.u8 24, Value.int IntKind.u8 18, Value.int IntKind.u8 12, Value.int IntKind.u8 5, Value.int IntKind.u8 63, Value.int IntKind.u8 55, Value.int IntKind.u8 48, Value.int IntKind.u8 27, Value.int IntKind.u8 60, Value.int IntKind.u8 41, Value.int IntKind.u8 37, Value.int IntKind.u8 16, Value.int IntKind.u8 46, Value.int IntKind.u8 35, Value.int IntKind.u8 44, Value.int IntKind.u8 21, Value.int IntKind.u8 52, Value.int IntKind.u8 32, Value.int IntKind.u8 23, Value.int IntKind.u8 11, Value.int IntKind.u8 54, Value.int IntKind.u8 26, Value.int IntKind.u8 40, Value.int IntKind.u8 15, Value.int IntKind.u8 34, Value.int IntKind.u8 20, Value.int IntKind.u8 31, Value.int IntKind.u8 10, Value.int IntKind.u8 25, Value.int IntKind.u8 14, Value.int IntKind.u8 19, Value.int IntKind.u8 9, Value.int IntKind.u8 13, Value.int IntKind.u8 8, Value.int IntKind.u8 7, Value.int IntKind.u8 6] s0 (fun s1 => pVal false 1 (Value.int IntKind.u64 1) (pVal false 1 (Value.int IntKind.u64 10) (pVal false 1 (Value.int IntKind.u64 100) (pVal false 1 (Value.int IntKind.u64 1000) (pVal false 1 (Value.int IntKind.u64 10000) (pVal false 1 (Value.int IntKind.u64 100000) (pVal false 1 (Value.int IntKind.u64 1000000) (pVal false 1 (Value.int IntKind.u64 10000000) (pVal false 1 (Value.int IntKind.u64 100000000) (pVal false 1 (Value.int IntKind.u64 1000000000) (pVal false 1 (Value.int IntKind.u64 10000000000) (pVal false 1 (Value.int IntKind.u64 100000000000) (pVal false 1 (Value.int IntKind.u64 1000000000000) (pVal false 1 (Value.int IntKind.u64 10000000000000) (pVal false 1 (Value.int IntKind.u64 100000000000000) (pVal false 1 (Value.int IntKind.u64 1000000000000000) (pVal false 1 (Value.int IntKind.u64 10000000000000000) (pVal false 1 (Value.int IntKind.u64 100000000000000000) (pVal false 1 (Value.int IntKind.u64 1000000000000000000) (pVal false 1 (Value.int IntKind.u64 10000000000000000000) (pVal true 20 (Value.agg (⟨[Value.int IntKind.u64 1, Value.int IntKind.u64 10, Value.int IntKind.u64 100, Value.int IntKind.u64 1000, Value.int IntKind.u64 10000, Value.int IntKind.u64 100000, Value.int IntKind.u64 1000000, Value.int IntKind.u64 10000000, Value.int IntKind.u64 100000000, Value.int IntKind.u64 1000000000, Value.int IntKind.u64 10000000000, Value.int IntKind.u64 100000000000, Value.int IntKind.u64 1000000000000, Value.int IntKind.u64 10000000000000, Value.int IntKind.u64 100000000000000, Value.int IntKind.u64 1000000000000000, Value.int IntKind.u64 10000000000000000, Value.int IntKind.u64 100000000000000000, Value.int IntKind.u64 1000000000000000000, Value.int IntKind.u64 10000000000000000000]⟩)) (pStore (Value.pointer (Option.some (Addr.mk 0 0 Option.none))) [Value.int IntKind.u64 1, Value.int IntKind.u64 10, Value.int IntKind.u64 100, Value.int IntKind.u64 1000, Value.int IntKind.u64 10000, Value.int IntKind.u64 100000, Value.int IntKind.u64 1000000, Value.int IntKind.u64 10000000, Value.int IntKind.u64 100000000, Value.int IntKind.u64 1000000000, Value.int IntKind.u64 10000000000, Value.int IntKind.u64 100000000000, Value.int IntKind.u64 1000000000000, Value.int IntKind.u64 10000000000000, Value.int IntKind.u64 100000000000000, Value.int IntKind.u64 1000000000000000, Value.int IntKind.u64 10000000000000000, Value.int IntKind.u64 100000000000000000, Value.int IntKind.u64 1000000000000000000, Value.int IntKind.u64 10000000000000000000] s1 (fun s2 => R (Value.tuple ⟨[]⟩) s2))))))))))))))))))))))))))))))))))))))))))))))))))))))))))))))))))))))))))))))))))))))))))))))))))))))))))))))))))))))))))
theorem vc_gosem_cut_vars_eq (w0 : World) (σ : Vw) (R : Value → Vw → Prop) : vc_gosem_cut_vars w0 σ R = den Tryd.prog w0 kp_gosem_cut_vars esc_gosem_cut_vars (Tryd.f152.body.getD .skip) (entry Tryd.f152.ntmps []) σ (retK Tryd.prog Tryd.f152.results.toList R) := by kernel_rfl
theorem ac_gosem_cut_vars {w0 : World} {σ : Vw} {R : Value → Vw → Prop} (h : vc_gosem_cut_vars w0 σ R) : AC Tryd.prog w0 n_gosem_cut_vars [] σ R := by
  refine ac_rule (fn := Tryd.f152) (c := Tryd.f152.body.getD .skip) kp_gosem_cut_vars esc_gosem_cut_vars Tryd.func152 (by kernel_rfl) (by kernel_rfl) ?_
  rw [← vc_gosem_cut_vars_eq]
  exact h

end Go.Proofs.YtkndffhcncmbjaaDoor

/- What each function owes: all parts. MADE BY PROGRAM (emit.py). -/


/- The lists of texts: their size, their copy, their comparison. -/
set_option linter.unusedVariables false
set_option linter.unusedSimpArgs false
namespace Go.Proofs.YtkndffhcncmbjaaDoor
open Go Go.Av

section
variable {w0 : World} {σ : Vw}

def sumS : List ByteArray → Nat
  | [] => 0
  | s :: r => s.size + sumS r
theorem sumS_take {xs : List ByteArray} : ∀ {j : Nat} {x : ByteArray}, xs[j]? = some x → sumS (xs.take (j + 1)) = sumS (xs.take j) + x.size := by
  induction xs with
  | nil => intro j x h; simp at h
  | cons a r ih =>
    intro j x h
    cases j with
    | zero => simp at h; subst h; simp [sumS]
    | succ j =>
      simp at h
      have := ih h
      simp only [List.take_succ_cons, sumS, this]
      omega
theorem sumS_le {xs : List ByteArray} : ∀ (j : Nat), sumS (xs.take j) ≤ sumS xs := by
  induction xs with
  | nil => intro j; simp [sumS]
  | cons a r ih =>
    intro j
    cases j with
    | zero => simp [sumS]
    | succ j => have := ih j; simp only [List.take_succ_cons, sumS]; omega

/-- What is left of n. -/
def left (n : Int) (t : Nat) : Int := if n - t < 0 then -1 else n - t

theorem szStringS {v : Value} {xs : List ByteArray} {n : Int} (h : RSl 1 RS (Av.get w0 σ) v xs) (hn : 0 ≤ n ∧ n ≤ 9223372036854775807) {R : Value → Vw → Prop} (hR : R (.int .i64 (left n (xs.length + sumS xs))) σ) : AC Tryd.prog w0 n_laws_szStringS [v, .int .i64 n] σ R := by
  refine ac_laws_szStringS ?_
  unfold vc_laws_szStringS
  have hl : xs.length ≤ 9223372036854775807 := by obtain ⟨_, _, _, h2, _⟩ := h; exact Nat.le_trans h2.1 h2.2
  rw [h.len, pBin_sub (by omega), pBin_lt, pIf_d]
  refine ⟨fun hlt => ?_, fun hge => ?_⟩
  · have : left n (xs.length + sumS xs) = -1 := by unfold left; rw [if_pos (by omega)]
    rw [this] at hR; exact hR
  · refine loop_rule (m := xs.length) (fun m l s => ∃ j, s = σ ∧ m + j = xs.length ∧ 0 ≤ n - xs.length - sumS (xs.take j) ∧ l = [v, .int .i64 (n - xs.length - sumS (xs.take j)), .int .i64 0, .int .i64 (j : Nat)]) ?_ ⟨0, rfl, by omega, by simp [sumS]; omega, by simp [sumS]⟩
    rintro m l s L ⟨j, rfl, hm, h0, rfl⟩ hL
    simp only [vget, List.getD_cons_zero, List.getD_cons_succ]
    rw [h.len, pBin_lt, pIf_d]
    refine ⟨fun hj => ?_, fun hj => ?_⟩
    · have hj' : j < xs.length := by omega
      have hx := List.getElem?_eq_getElem hj'
      refine h.at hx fun g hg => ?_
      obtain ⟨hg, hs⟩ := hg
      simp only [expl, List.cons.injEq, and_true] at hg
      have ht := sumS_take hx
      have hle := sumS_le (xs := xs) (j + 1)
      rw [hg, pLenS_s, pBin_sub (by omega), pBin_lt, pIf_d]
      refine ⟨fun hlt => ?_, fun hge => ?_⟩
      · have : left n (xs.length + sumS xs) = -1 := by unfold left; rw [if_pos (by omega)]
        rw [this] at hR; exact hR
      · rw [pBin_add (by omega)]
        refine hL _ _ (m - 1) (by omega) ⟨j + 1, rfl, by omega, by omega, ?_⟩
        rw [ht]
        congr 2
        · congr 1; omega
    · have hj' : j = xs.length := by omega
      subst hj'
      rw [List.take_length] at h0 ⊢
      have : left n (xs.length + sumS xs) = n - xs.length - sumS xs := by unfold left; rw [if_neg (by omega)]; omega
      rw [this] at hR
      exact hR
end
end Go.Proofs.YtkndffhcncmbjaaDoor

/- The lists of texts: their copy, their comparison. -/
set_option linter.unusedVariables false
set_option linter.unusedSimpArgs false
namespace Go.Proofs.YtkndffhcncmbjaaDoor
open Go Go.Av

section
variable {w0 : World} {σ : Vw}


theorem toStringS {v : Value} {xs : List ByteArray} (h : RSl 1 RS (Av.get w0 σ) v xs) (hb : xs.length ≤ 1000000000000) {R : Value → Vw → Prop}
    (hR : ∀ b ety, w0.heap.size ≤ b → σ b = none → R (.slice (some ⟨b, 0, none⟩) xs.length xs.length) (σ.put b ⟨ety, xs.map .string, xs.length, (0, 0)⟩)) : AC Tryd.prog w0 n_laws_toStringS [v] σ R := by
  refine ac_laws_toStringS ?_
  unfold vc_laws_toStringS
  rw [h.len]
  refine pMake_s (by omega) (by omega) fun b ety h1 h2 => ?_
  refine loop_rule (m := xs.length) (fun m l s => ∃ j, m + j = xs.length ∧ s = σ.put b ⟨ety, (xs.take j).map .string ++ List.replicate m (.string ⟨#[]⟩), xs.length * 1, (0, 0)⟩ ∧ l = [v, .slice (some ⟨b, 0, none⟩) xs.length xs.length, .int .i64 (j : Nat)]) ?_ ⟨0, by omega, by simp, rfl⟩
  rintro m l s L ⟨j, hm, rfl, rfl⟩ hL
  simp only [vget, List.getD_cons_zero, List.getD_cons_succ]
  rw [h.len, pBin_lt, pIf_d]
  refine ⟨fun hj => ?_, fun hj => ?_⟩
  · have hj' : j < xs.length := by omega
    have hx := List.getElem?_eq_getElem hj'
    refine RSl.at (h.mono (Keeps.put h2).le fun _ _ h => h) hx fun g hg => ?_
    obtain ⟨hg, hs⟩ := hg
    simp only [expl, List.cons.injEq, and_true] at hg
    obtain ⟨m', rfl⟩ : ∃ m', m = m' + 1 := ⟨m - 1, by omega⟩
    rw [hg]
    have e1 : ∀ A : Prop, pVal false 1 (.string xs[j]) A = A := fun A => propext (pVal1 rfl)
    simp only [e1]
    refine own_store (r := ⟨ety, (xs.take j).map .string ++ List.replicate (m' + 1) (.string ⟨#[]⟩), xs.length * 1, (0, 0)⟩) (A := (xs.take j).map .string) (old := [.string ⟨#[]⟩]) (new := [.string xs[j]]) (C := List.replicate m' (.string ⟨#[]⟩)) put_at (by simp [List.replicate_succ]) (by simp; omega) rfl rfl hj' ?_
    rw [pBin_add (by omega)]
    refine hL _ _ m' rfl ⟨j + 1, by omega, ?_, rfl⟩
    rw [put_put, List.take_add_one, hx]
    simp only [Option.toList_some, List.map_append, List.map_cons, List.map_nil, List.append_assoc]
  · have hj' : j = xs.length := by omega
    subst hj'
    have : m = 0 := by omega
    subst this
    have := hR b ety h1 h2
    simpa using this

theorem eqStringS {v v' : Value} {xs ys : List ByteArray} (h : RSl 1 RS (Av.get w0 σ) v xs) (h' : RSl 1 RS (Av.get w0 σ) v' ys) {R : Value → Vw → Prop} (hR : R (.bool (decide (xs = ys))) σ) : AC Tryd.prog w0 n_laws_eqStringS [v, v'] σ R := by
  refine ac_laws_eqStringS ?_
  unfold vc_laws_eqStringS
  have hl : xs.length ≤ 9223372036854775807 := by obtain ⟨_, _, _, h2, _⟩ := h; exact Nat.le_trans h2.1 h2.2
  rw [h.len, h'.len, pBin_ne, pIf_d]
  refine ⟨fun hne => ?_, fun heq => ?_⟩
  · have : xs ≠ ys := fun e => hne (by rw [e])
    simpa [this] using hR
  · have hlen : xs.length = ys.length := by omega
    refine loop_rule (m := xs.length) (fun m l s => ∃ j, s = σ ∧ m + j = xs.length ∧ xs.take j = ys.take j ∧ l = [v, v', .bool false, .int .i64 (j : Nat)]) ?_ ⟨0, rfl, by omega, by simp, rfl⟩
    rintro m l s L ⟨j, rfl, hm, ht, rfl⟩ hL
    simp only [vget, List.getD_cons_zero, List.getD_cons_succ]
    rw [h.len, pBin_lt, pIf_d]
    refine ⟨fun hj => ?_, fun hj => ?_⟩
    · have hj' : j < xs.length := by omega
      have hx := List.getElem?_eq_getElem hj'
      have hy := List.getElem?_eq_getElem (show j < ys.length by omega)
      refine h.at hx fun g hg => ?_
      obtain ⟨hg, hs⟩ := hg
      simp only [expl, List.cons.injEq, and_true] at hg
      refine h'.at hy fun g' hg' => ?_
      obtain ⟨hg', hs'⟩ := hg'
      simp only [expl, List.cons.injEq, and_true] at hg'
      rw [hg, hg', pBin_sne, pIf_d]
      refine ⟨fun hne => ?_, fun heq => ?_⟩
      · have : xs ≠ ys := fun e => by subst e; exact hne rfl
        simpa [this] using hR
      · rw [pBin_add (by omega)]
        have heq' : xs[j] = ys[j] := Decidable.not_not.1 heq
        refine hL _ _ (m - 1) (by omega) ⟨j + 1, rfl, by omega, ?_, rfl⟩
        rw [List.take_add_one, List.take_add_one, hx, hy, ht, heq']
    · have hj' : j = xs.length := by omega
      subst hj'
      rw [List.take_length, hlen, List.take_length] at ht
      subst ht
      simpa using hR
end
end Go.Proofs.YtkndffhcncmbjaaDoor

/- A disk's rows: the law 'DiskOk', of the functions alone. -/
set_option linter.unusedVariables false
set_option linter.unusedSimpArgs false
namespace Go.Proofs.YtkndffhcncmbjaaDoor
open Go Go.Av

section
variable {w0 : World} {σ : Vw}

theorem left_neg {n : Int} {t : Nat} : left n t < 0 ↔ n < t := by unfold left; split <;> omega
theorem left_le {n : Int} {t : Nat} : -1 ≤ left n t ∧ (0 ≤ n → left n t ≤ n) := by unfold left; split <;> omega

/-- The list that a row of ours holds. -/
theorem own_strs0 {b cap : Nat} {r : Row} {xs : List ByteArray} (hb : w0.heap.size ≤ b) (hr : σ b = some r) (hc : r.cells = xs.map .string) (hm : xs.length ≤ cap ∧ cap ≤ 9223372036854775807) (hs : ∀ x, x ∈ xs → x.size ≤ 9223372036854775807) : RSl 1 RS (Av.get w0 σ) (.slice (some ⟨b, 0, none⟩) xs.length cap) xs := by
  refine RSl.own (cs := xs.map fun s => [.string s]) (tail := []) hb hr (by rw [hc, List.append_nil]; clear hc hm hs; induction xs with | nil => rfl | cons x r ih => simp [ih]) (by simp) (by simp) hm ?_
  intro j c x h1 h2
  rw [List.getElem?_map, h2] at h1
  cases h1
  exact ⟨rfl, hs x (List.mem_of_getElem? h2)⟩
theorem strs_le0 {v : Value} {xs : List ByteArray} (h : RSl 1 RS (Av.get w0 σ) v xs) : ∀ x, x ∈ xs → x.size ≤ 9223372036854775807 := by
  obtain ⟨A, cap, _, _, h3⟩ := h
  intro x hx
  obtain ⟨j, hj⟩ := List.getElem?_of_mem hx
  obtain ⟨a, es, _, _, _, h4⟩ := h3 j x hj
  exact h4.2

def okD : List ByteArray → Bool
  | [] => true
  | s :: r => decide (s.size ≤ 64) && okD r
theorem okD_iff {xs : List ByteArray} : okD xs = true ↔ ∀ (j : Nat) (x : ByteArray), xs[j]? = some x → x.size ≤ 64 := by
  induction xs with
  | nil => simp [okD]
  | cons a r ih =>
    simp only [okD, Bool.and_eq_true, decide_eq_true_eq, ih]
    constructor
    · rintro ⟨h1, h2⟩ j x hj
      cases j with
      | zero => simp at hj; subst hj; exact h1
      | succ j => exact h2 j x (by simpa using hj)
    · intro h
      exact ⟨h 0 a rfl, fun j x hj => h (j + 1) x (by simpa using hj)⟩
def diskOk (xs : List ByteArray) : Bool := okD xs && decide (xs.length = 194)

theorem spec_DiskOk {v : Value} {xs : List ByteArray} (h : RSl 1 RS (Av.get w0 σ) v xs) {R : Value → Vw → Prop} (hR : R (.bool (diskOk xs)) σ) : AC Tryd.prog w0 n_spec_DiskOk [.agg ⟨[v]⟩] σ R := by
  refine ac_spec_DiskOk ?_
  unfold vc_spec_DiskOk
  rw [pVal_1 h.one]
  have hl := h.le
  refine loop_rule (m := xs.length) (fun m l s => ∃ j, s = σ ∧ m + j = xs.length ∧ (∀ (i : Nat) (x : ByteArray), i < j → xs[i]? = some x → x.size ≤ 64) ∧ l = [.bool false, .int .i64 (j : Nat), v]) ?_ ⟨0, rfl, by omega, fun i x h => by omega, rfl⟩
  rintro m l s L ⟨j, rfl, hm, ht, rfl⟩ hL
  simp only [vget, List.getD_cons_zero, List.getD_cons_succ]
  rw [h.len, pBin_lt, pIf_d]
  refine ⟨fun hj => ?_, fun hj => ?_⟩
  · have hj' : j < xs.length := by omega
    have hx := List.getElem?_eq_getElem hj'
    refine h.at hx fun g hg => ?_
    obtain ⟨hg, hs⟩ := hg
    simp only [expl, List.cons.injEq, and_true] at hg
    rw [hg, pLenS_s, pBin_gt, pIf_d]
    refine ⟨fun hgt => ?_, fun hle => ?_⟩
    · have : diskOk xs = false := by
        cases hc : okD xs with
        | false => simp [diskOk, hc]
        | true => have := okD_iff.1 hc j _ hx; omega
      rw [this] at hR; exact hR
    · rw [pBin_add (by omega)]
      refine hL _ _ (m - 1) (by omega) ⟨j + 1, rfl, by omega, fun i x hi he => ?_, rfl⟩
      by_cases e : i = j
      · subst e; rw [hx] at he; cases he; omega
      · exact ht i x (by omega) he
  · have hj' : j = xs.length := by omega
    subst hj'
    show pLen v _
    rw [h.len, pBin_eq]
    have : diskOk xs = decide ((xs.length : Int) = 194) := by
      have h1 : okD xs = true := okD_iff.2 fun i x he => ht i x (List.getElem?_eq_some_iff.1 he).1 he
      simp only [diskOk, h1, Bool.true_and]
      congr 1
      apply propext
      omega
    rw [this] at hR
    exact hR

end
end Go.Proofs.YtkndffhcncmbjaaDoor

/- The lists of texts in rows of their own; marks (a path and a bool) and their lists: size, copy, comparison. -/
set_option linter.unusedVariables false
set_option linter.unusedSimpArgs false
namespace Go.Proofs.YtkndffhcncmbjaaDoor
open Go Go.Av

/-- A text needs no row. -/
def OStr (σ : Vw) (F : List Nat) (es : List Value) (s : ByteArray) : Prop := F = [] ∧ es = [.string s] ∧ s.size ≤ 9223372036854775807

section
variable {w0 : World} {σ : Vw}

theorem ok_str (w0 : World) : OOk w0 1 RS OStr := by
  refine ⟨?_, ?_, ?_, ?_, ?_, ?_⟩
  · rintro σ F es x ⟨_, h1, h2⟩; exact ⟨h1, h2⟩
  · rintro σ σ' F es x h _; exact h
  · rintro σ F es x ⟨rfl, _, _⟩ b hb; cases hb
  · rintro σ F es x ⟨rfl, _, _⟩; exact List.nodup_nil
  · rintro σ F es x ⟨_, rfl, _⟩; rfl
  · rintro σ F es x ⟨_, rfl, _⟩ c hc; rw [List.mem_singleton.1 hc]; rfl

abbrev OStrs (w0 : World) := OSl w0 1 OStr
theorem mono_rs {rd rd' : Addr → Option Value} {es : List Value} {x : ByteArray} (_ : Le rd rd') (h : RS rd es x) : RS rd' es x := h

theorem strs_le {rd : Addr → Option Value} {v : Value} {xs : List ByteArray} (h : RSl 1 RS rd v xs) : ∀ x, x ∈ xs → x.size ≤ 9223372036854775807 := by
  obtain ⟨A, cap, _, _, h3⟩ := h
  intro x hx
  obtain ⟨j, hj⟩ := List.getElem?_of_mem hx
  obtain ⟨a, es, _, _, _, h4⟩ := h3 j x hj
  exact h4.2

theorem flat_strs (xs : List ByteArray) : xs.map Value.string = (xs.map fun s => [Value.string s]).flatten := by
  induction xs with
  | nil => rfl
  | cons a r ih => simp [ih]

theorem own_strs {b cap : Nat} {r : Row} {xs : List ByteArray} (hb : w0.heap.size ≤ b) (hr : σ b = some r) (hc : r.cells = xs.map .string) (hm : xs.length ≤ cap ∧ cap ≤ 9223372036854775807) (hs : ∀ x, x ∈ xs → x.size ≤ 9223372036854775807) : OStrs w0 σ [b] (.slice (some ⟨b, 0, none⟩) xs.length cap) xs := by
  have hnil : (List.replicate xs.length ([] : List Nat)).flatten = [] := by simp
  refine ⟨Nat.le_trans hm.1 hm.2, by simp, .inr ⟨b, 0, cap, r, [], [], xs.map fun s => [.string s], List.replicate xs.length [], rfl, hm, hb, hr, by rw [hc, flat_strs]; simp, rfl, by simp, by simp, by rw [hnil], fun j c x f e1 e2 e3 => ?_⟩⟩
  rw [List.getElem?_map, e2] at e1
  cases e1
  refine ⟨?_, rfl, hs x (List.mem_of_getElem? e2)⟩
  rw [List.getElem?_replicate] at e3
  split at e3
  · cases e3; rfl
  · cases e3

theorem toStringS' {v : Value} {xs : List ByteArray} (h : RSl 1 RS (Av.get w0 σ) v xs) (hb : xs.length ≤ 1000000000000) {R : Value → Vw → Prop}
    (hR : ∀ v' F σ', Keeps σ σ' → OStrs w0 σ' F v' xs → (∀ b, b ∈ F → σ b = none) → R v' σ') : AC Tryd.prog w0 n_laws_toStringS [v] σ R :=
  toStringS h hb fun b ety h1 h2 => hR _ [b] _ (Keeps.put h2) (own_strs h1 put_at rfl ⟨Nat.le_refl _, h.le⟩ (strs_le h)) fun i hi => by rw [List.mem_singleton.1 hi]; exact h2

/-- A mark: a path, and a bool. -/
abbrev Mk := List ByteArray × Bool
def RMk (rd : Addr → Option Value) (es : List Value) (m : Mk) : Prop := ∃ v, es = [v, .bool m.2] ∧ RSl 1 RS rd v m.1
def OMk (w0 : World) (σ : Vw) (F : List Nat) (es : List Value) (m : Mk) : Prop := ∃ v, es = [v, .bool m.2] ∧ OStrs w0 σ F v m.1
def szMk (m : Mk) : Nat := m.1.length + sumS m.1

theorem OSl.one' {α : Type} {n : Nat} {O : Vw → List Nat → List Value → α → Prop} {F : List Nat} {v : Value} {xs : List α} (h : OSl w0 n O σ F v xs) : v.oneCell' = true := by
  obtain ⟨_, _, ⟨rfl, _⟩ | ⟨_, _, _, _, _, _, _, _, rfl, _⟩⟩ := h <;> rfl

theorem ok_mk (w0 : World) : OOk w0 2 RMk (OMk w0) := by
  refine ⟨?_, ?_, ?_, ?_, ?_, ?_⟩
  · rintro σ F es x ⟨v, h1, h2⟩; exact ⟨v, h1, h2.rel (ok_str w0)⟩
  · rintro σ σ' F es x ⟨v, h1, h2⟩ hF; exact ⟨v, h1, h2.frame (ok_str w0) hF⟩
  · rintro σ F es x ⟨v, h1, h2⟩; exact h2.dom (ok_str w0)
  · rintro σ F es x ⟨v, h1, h2⟩; exact h2.2.1
  · rintro σ F es x ⟨v, rfl, h2⟩; rfl
  · rintro σ F es x ⟨v, rfl, h2⟩ c hc
    simp at hc
    rcases hc with rfl | rfl
    · exact OSl.one' h2
    · rfl
theorem mono_mk {rd rd' : Addr → Option Value} {es : List Value} {x : Mk} (hl : Le rd rd') (h : RMk rd es x) : RMk rd' es x := by
  obtain ⟨v, h1, h2⟩ := h; exact ⟨v, h1, h2.mono hl fun _ _ h => h⟩

theorem sumS_eq (xs : List ByteArray) : sumS xs = sumBy ByteArray.size xs := by
  induction xs with
  | nil => rfl
  | cons a r ih => simp [sumS, sumBy, ih]

end
end Go.Proofs.YtkndffhcncmbjaaDoor

/- Names: their letters and their length. -/
set_option linter.unusedVariables false
set_option linter.unusedSimpArgs false
namespace Go.Proofs.YtkndffhcncmbjaaDoor
open Go Go.Av

theorem pIndexStr_s {s : ByteArray} {j : Nat} {K : Value → Prop} (h : j < s.size) (hK : K (.int .u8 ((s[j]'h).toNat : Int))) : pIndexStr (.string s) (.int .i64 j) K :=
  ⟨s, .i64, j, rfl, rfl, by omega, h, hK⟩

def okB (n : Nat) : Prop := (97 ≤ n ∧ n ≤ 122) ∨ (48 ≤ n ∧ n ≤ 57)
/-- Within two bounds. -/
def inB (n lo hi : Int) : Bool := decide (lo ≤ n ∧ n ≤ hi)
def lettersOk (s : ByteArray) : Prop := ∀ (i : Nat) (h : i < s.size), okB (s[i]'h).toNat
open Classical in
noncomputable def nameOk (s : ByteArray) : Bool := decide (lettersOk s) && inB s.size 1 5

section
variable {w0 : World} {σ : Vw}

theorem spec_In {n lo hi : Int} {R : Value → Vw → Prop} (hR : R (.bool (inB n lo hi)) σ) : AC Tryd.prog w0 n_spec_l1In [.int .i64 n, .int .i64 lo, .int .i64 hi] σ R := by
  refine ac_spec_l1In ?_
  unfold vc_spec_l1In
  rw [pBin_ge, pIf_d]
  refine ⟨fun h => ?_, fun h => ?_⟩
  · rw [pBin_le]
    have : inB n lo hi = decide (n ≤ hi) := by simp [inB, h]
    rw [this] at hR; exact hR
  · have : inB n lo hi = false := by simp [inB, h]
    rw [this] at hR; exact hR
theorem impl_within {n lo hi : Int} {R : Value → Vw → Prop} (hR : R (.bool (inB n lo hi)) σ) : AC Tryd.prog w0 n_impl_within [.int .i64 n, .int .i64 lo, .int .i64 hi] σ R := by
  refine ac_impl_within ?_
  unfold vc_impl_within
  rw [pBin_ge, pIf_d]
  refine ⟨fun h => ?_, fun h => ?_⟩
  · rw [pBin_le]
    have : inB n lo hi = decide (n ≤ hi) := by simp [inB, h]
    rw [this] at hR; exact hR
  · have : inB n lo hi = false := by simp [inB, h]
    rw [this] at hR; exact hR

theorem nameOk_bad {s : ByteArray} {j : Nat} (h : j < s.size) (hb : ¬ okB (s[j]'h).toNat) : nameOk s = false := by
  have : ¬ lettersOk s := fun h' => hb (h' j h)
  simp [nameOk, this]
theorem nameOk_good {s : ByteArray} (h : lettersOk s) : nameOk s = inB s.size 1 5 := by simp [nameOk, h]

theorem spec_nameOk {s : ByteArray} (hs : s.size ≤ 9223372036854775807) {R : Value → Vw → Prop} (hR : R (.bool (nameOk s)) σ) : AC Tryd.prog w0 n_spec_l1NameOk [.string s] σ R := by
  refine ac_spec_l1NameOk ?_
  unfold vc_spec_l1NameOk
  refine loop_rule (m := s.size) (fun m l t => ∃ j, t = σ ∧ m + j = s.size ∧ (∀ (i : Nat) (h : i < s.size), i < j → okB (s[i]'h).toNat) ∧ l = [.string s, .bool false, .int .i64 (j : Nat)]) ?_ ⟨0, rfl, by omega, fun i h h' => by omega, rfl⟩
  rintro m l t L ⟨j, rfl, hm, ht, rfl⟩ hL
  simp only [vget, List.getD_cons_zero, List.getD_cons_succ]
  rw [pLenS_s, pBin_lt, pIf_d]
  refine ⟨fun hj => ?_, fun hj => ?_⟩
  · have hj' : j < s.size := by omega
    have bad : ¬ okB (s[j]'hj').toNat → R (.bool false) t := fun h => by rw [nameOk_bad hj' h] at hR; exact hR
    have good : okB (s[j]'hj').toNat → L [.string s, .bool false, .int .i64 ((j + 1 : Nat) : Int)] t := fun h => hL _ _ (m - 1) (by omega) ⟨j + 1, rfl, by omega, fun i hi hij => by
      by_cases e : i = j
      · subst e; exact h
      · exact ht i hi (by omega), rfl⟩
    have add : ∀ K : Value → Prop, pBin Tryd.prog 3 .add (.int .i64 j) (.int .i64 1) K ↔ K (.int .i64 ((j + 1 : Nat) : Int)) := fun K => pBin_add (by omega)
    have idx : ∀ K : Value → Prop, K (.int .u8 ((s[j]'hj').toNat : Int)) → pIndexStr (.string s) (.int .i64 j) K := fun K hK => pIndexStr_s hj' hK
    simp only [add, pUn_not, pIf_b, Bool.not_true, Bool.not_false, forall_const, Bool.false_eq_true, false_imp_iff, true_imp_iff, true_and, and_true, reduceCtorEq]
    refine idx _ ?_
    rw [pBin_ge, pIf_d]
    refine ⟨fun h1 => idx _ ?_, fun h1 => idx _ ?_⟩
    · rw [pBin_le, pIf_d]
      refine ⟨fun h2 => good (.inl ⟨by omega, by omega⟩), fun h2 => idx _ ?_⟩
      rw [pBin_ge, pIf_d]
      refine ⟨fun h3 => idx _ ?_, fun h3 => bad fun h => by unfold okB at h; omega⟩
      rw [pBin_le, pUn_not, pIf_b]
      refine ⟨fun h4 => bad fun h => ?_, fun h4 => good ?_⟩
      · unfold okB at h; simp at h4; omega
      · simp at h4; exact .inr ⟨by omega, by omega⟩
    · rw [pBin_ge, pIf_d]
      refine ⟨fun h3 => idx _ ?_, fun h3 => bad fun h => by unfold okB at h; omega⟩
      rw [pBin_le, pUn_not, pIf_b]
      refine ⟨fun h4 => bad fun h => ?_, fun h4 => good ?_⟩
      · unfold okB at h; simp at h4; omega
      · simp at h4; exact .inr ⟨by omega, by omega⟩
  · have hj' : j = s.size := by omega
    subst hj'
    show pLenS (.string s) _
    rw [pLenS_s]
    refine spec_In ?_
    rw [nameOk_good fun i h => ht i h h] at hR
    exact hR

theorem impl_nameOk {s : ByteArray} (hs : s.size ≤ 9223372036854775807) {R : Value → Vw → Prop} (hR : R (.bool (nameOk s)) σ) : AC Tryd.prog w0 n_impl_nameOk [.string s] σ R := by
  refine ac_impl_nameOk ?_
  unfold vc_impl_nameOk
  rw [pLenS_s]
  refine loop_rule (m := s.size) (fun m l t => ∃ j, t = σ ∧ m + j = s.size ∧ (∀ (i : Nat) (h : i < s.size), i < j → okB (s[i]'h).toNat) ∧ l = [.string s, .bool false, .int .i64 s.size, .int .i64 (j : Nat)]) ?_ ⟨0, rfl, by omega, fun i h h' => by omega, rfl⟩
  rintro m l t L ⟨j, rfl, hm, ht, rfl⟩ hL
  simp only [vget, List.getD_cons_zero, List.getD_cons_succ]
  rw [pBin_lt, pIf_d]
  refine ⟨fun hj => ?_, fun hj => ?_⟩
  · have hj' : j < s.size := by omega
    have bad : ¬ okB (s[j]'hj').toNat → R (.bool false) t := fun h => by rw [nameOk_bad hj' h] at hR; exact hR
    have good : okB (s[j]'hj').toNat → L [.string s, .bool false, .int .i64 s.size, .int .i64 ((j + 1 : Nat) : Int)] t := fun h => hL _ _ (m - 1) (by omega) ⟨j + 1, rfl, by omega, fun i hi hij => by
      by_cases e : i = j
      · subst e; exact h
      · exact ht i hi (by omega), rfl⟩
    have add : ∀ K : Value → Prop, pBin Tryd.prog 3 .add (.int .i64 j) (.int .i64 1) K ↔ K (.int .i64 ((j + 1 : Nat) : Int)) := fun K => pBin_add (by omega)
    have idx : ∀ K : Value → Prop, K (.int .u8 ((s[j]'hj').toNat : Int)) → pIndexStr (.string s) (.int .i64 j) K := fun K hK => pIndexStr_s hj' hK
    simp only [add]
    refine idx _ ?_
    rw [pBin_lt, pIf_d]
    refine ⟨fun h1 => idx _ ?_, fun h1 => idx _ ?_⟩
    · rw [pBin_lt, pIf_d]
      refine ⟨fun h2 => bad fun h => by unfold okB at h; omega, fun h2 => idx _ ?_⟩
      rw [pBin_gt, pIf_d]
      exact ⟨fun h3 => bad fun h => by unfold okB at h; omega, fun h3 => good (.inr ⟨by omega, by omega⟩)⟩
    · rw [pBin_gt, pIf_d]
      refine ⟨fun h2 => idx _ ?_, fun h2 => good (.inl ⟨by omega, by omega⟩)⟩
      rw [pBin_lt, pIf_d]
      refine ⟨fun h2 => bad fun h => by unfold okB at h; omega, fun h2 => idx _ ?_⟩
      rw [pBin_gt, pIf_d]
      exact ⟨fun h3 => bad fun h => by unfold okB at h; omega, fun h3 => good (.inr ⟨by omega, by omega⟩)⟩
  · have hj' : j = s.size := by omega
    subst hj'
    show pLenS (.string s) _
    rw [pLenS_s]
    refine impl_within ?_
    rw [nameOk_good fun i h => ht i h h] at hR
    exact hR
end
end Go.Proofs.YtkndffhcncmbjaaDoor

/- Marks of texts. -/
set_option linter.unusedVariables false
set_option linter.unusedSimpArgs false
namespace Go.Proofs.YtkndffhcncmbjaaDoor
open Go Go.Av

/-- How many figures a number has. -/
def figs (k : Nat) : Nat := if h : k = 0 then 0 else figs (k / 10) + 1
termination_by k
theorem figs_le (k : Nat) : figs k ≤ k := by
  induction k using Nat.strongRecOn with
  | _ k ih =>
    rw [figs]
    by_cases h : k = 0
    · simp [h]
    · rw [dif_neg h]
      have := ih (k / 10) (by omega)
      omega
def digit (n : Nat) : ByteArray := strOfNums [((48 + n % 10 : Nat) : Int)]
theorem size_strOfNums (xs : List Int) : (strOfNums xs).size = xs.length := by
  simp [strOfNums, ByteArray.size]
/-- The figures of a number, ahead of a text. -/
def mtxt (k : Nat) (out : ByteArray) : ByteArray := if h : k = 0 then out else mtxt (k / 10) (digit k ++ out)
termination_by k
theorem mtxt_size (k : Nat) : ∀ out, (mtxt k out).size = out.size + figs k := by
  induction k using Nat.strongRecOn with
  | _ k ih =>
    intro out
    rw [mtxt, figs]
    by_cases h : k = 0
    · simp [h]
    · rw [dif_neg h, dif_neg h, ih (k / 10) (by omega), ByteArray.size_append, digit, size_strOfNums]
      simp; omega
/-- What marks the number k. -/
def mtext (k : Nat) : ByteArray := if k = 0 then ⟨#[109, 48]⟩ else ⟨#[109]⟩ ++ mtxt k ⟨#[]⟩
theorem mtext_size {k : Nat} (h : k ≤ 1000000000000) : (mtext k).size ≤ 9223372036854775807 := by
  unfold mtext
  split
  · show 2 ≤ _; omega
  · rw [ByteArray.size_append, mtxt_size]
    have := figs_le k
    show 1 + (0 + _) ≤ _
    omega

section
variable {w0 : World} {σ : Vw}

theorem markText {k : Nat} (hk : k ≤ 1000000000000) {R : Value → Vw → Prop} (hR : ∀ σ', Keeps σ σ' → R (.string (mtext k)) σ') : AC Tryd.prog w0 n_laws_markText [.int .i64 (k : Nat)] σ R := by
  refine ac_laws_markText ?_
  unfold vc_laws_markText
  rw [pBin_le, pIf_d]
  refine ⟨fun h => ?_, fun h => ?_⟩
  · have : k = 0 := by omega
    subst this
    exact hR σ (Keeps.refl σ)
  · have hk0 : k ≠ 0 := by omega
    have e : mtext k = ⟨#[109]⟩ ++ mtxt k ⟨#[]⟩ := by rw [mtext, if_neg hk0]
    rw [e] at hR
    have hf := figs_le k
    refine loop_rule (m := figs k) (fun m l s => ∃ (n : Nat) (out : ByteArray), m = figs n ∧ n ≤ k ∧ out.size + figs n ≤ 1000000000000 ∧ mtxt n out = mtxt k ⟨#[]⟩ ∧ Keeps σ s ∧ l = [.int .i64 (n : Nat), .string out]) ?_ ⟨k, ⟨#[]⟩, rfl, Nat.le_refl _, by show 0 + _ ≤ _; omega, rfl, Keeps.refl σ, rfl⟩
    rintro m l s L ⟨n, out, rfl, hn, hsz, hm, hkp, rfl⟩ hL
    simp only [vget, List.getD_cons_zero, List.getD_cons_succ]
    rw [pBin_gt, pIf_d]
    refine ⟨fun hpos => ?_, fun h0 => ?_⟩
    · have hn0 : n ≠ 0 := by omega
      have hfig : figs n = figs (n / 10) + 1 := by rw [figs, dif_neg hn0]
      rw [pBin_rem (by omega), pBin_add (by omega)]
      show pConvInt .u8 _ _
      rw [pConv_u8 (by omega), show (48 + ((n : Int) % 10)) = ((48 + n % 10 : Nat) : Int) by omega, pVal1 rfl]
      intro b h1 h2
      refine pStr1 (by rw [get_row h1 put_at]; rfl) ?_
      show pBin Tryd.prog 9 .add (.string (digit n)) _ _
      have hd : (digit n).size = 1 := by rw [digit, size_strOfNums]; rfl
      rw [pBin_cat (by omega)]
      rw [pBin_quo (by omega), show ((n : Int) / 10) = ((n / 10 : Nat) : Int) by omega]
      refine hL _ _ (figs (n / 10)) hfig.symm ⟨n / 10, digit n ++ out, rfl, by omega, by rw [ByteArray.size_append, hd]; omega, ?_, hkp.trans (Keeps.put h2), rfl⟩
      rw [← hm]; conv => rhs; rw [mtxt, dif_neg hn0]
    · have hn0 : n = 0 := by omega
      subst hn0
      rw [mtxt, dif_pos rfl] at hm
      subst hm
      have hs := mtxt_size k ⟨#[]⟩
      show pBin Tryd.prog 9 .add (.string ⟨#[109]⟩) _ _
      rw [pBin_cat (by rw [hs]; show 1 + (0 + _) ≤ _; omega)]
      exact hR s hkp

abbrev mkTexts (k : Nat) (xs : List ByteArray) : List ByteArray := mkS (fun k _ => mtext k) (fun _ => 1) k xs
theorem sum_one {α : Type} (xs : List α) : sumBy (fun _ => 1) xs = xs.length := by
  induction xs with
  | nil => rfl
  | cons a r ih => simp only [sumBy, ih, List.length_cons]; omega

theorem markStringS {F : List Nat} {v : Value} {xs : List ByteArray} {k : Nat} (h : OStrs w0 σ F v xs) (hk : k + xs.length ≤ 1000000000000) {R : Value → Vw → Prop}
    (hR : ∀ σ', KeepsBut F σ σ' → OStrs w0 σ' F v (mkTexts k xs) → R (.int .i64 ((k + xs.length : Nat) : Int)) σ') : AC Tryd.prog w0 n_laws_markStringS [v, .int .i64 (k : Nat)] σ R := by
  refine ac_laws_markStringS ?_
  unfold vc_laws_markStringS
  have e := sum_one xs
  rw [← e] at hk hR
  refine mark_loop (ok_str w0) (mk := fun k _ => mtext k) (cnt := fun _ => 1) h hk ?_ hR
  intro j x k' s ys K hj hlen hkb hx hk' hO hyj hK
  simp only [vget, List.getD_cons_zero, List.getD_cons_succ]
  refine markText (by omega) fun s1 k1 => ?_
  have hO1 := hO.frame (ok_str w0) (σ' := s1) (fun b hb => by
    cases hs : s b with
    | none => exact absurd hs (hO.dom (ok_str w0) b hb).2
    | some r => exact k1 b r hs)
  obtain ⟨b, o, f, c, A, C, r, hix, hb, hr, hc, hA, hOx, hbF, hf, hput⟩ := hO1.focus (ok_str w0) hyj
  obtain ⟨rfl, rfl, hsz⟩ := hOx
  refine hix _ ?_
  refine elem_store hr hc hA rfl ?_
  rw [pBin_add (by omega)]
  rw [pBin_add (by have := h.1; omega)]
  have hO2 := hput (s1.put b { r with cells := A ++ ([.string (mtext k')] ++ C) }) [.string (mtext k')] (mtext k') _ put_at rfl ⟨rfl, rfl, mtext_size (by omega)⟩ (fun i hi hne _ => by simp [Vw.put, hne])
  have := hK _ (k1.but.trans (KeepsBut.put hbF)) hO2
  simpa using this

theorem heldStringS {v : Value} {xs : List ByteArray} {k : Nat} (h : RSl 1 RS (Av.get w0 σ) v (mkTexts k xs)) (hk : k + xs.length ≤ 1000000000000) {R : Value → Vw → Prop}
    (hR : ∀ σ', Keeps σ σ' → R (.int .i64 ((k + xs.length : Nat) : Int)) σ') : AC Tryd.prog w0 n_laws_heldStringS [v, .int .i64 (k : Nat)] σ R := by
  refine ac_laws_heldStringS ?_
  unfold vc_laws_heldStringS
  have e := sum_one xs
  rw [← e] at hk hR
  refine held_loop (n := 1) (Rel := RS) (fun _ _ _ _ hl h => mono_rs hl h) (mk := fun k _ => mtext k) (cnt := fun _ => 1) h hk ?_ hR
  intro j x k' s K hj hkb hx hk' hrd hyj hK
  simp only [vget, List.getD_cons_zero, List.getD_cons_succ]
  have hl := h.le
  rw [mkS_len] at hl
  refine RSl.atp hrd hyj fun p g hg => ?_
  obtain ⟨hg, hs⟩ := hg
  simp only [expl, List.cons.injEq, and_true] at hg
  refine markText (by omega) fun s1 k1 => ⟨k1.stay, ?_⟩
  rw [hg, pBin_sne, pIf_d]
  refine ⟨fun h => absurd rfl h, fun _ => ?_⟩
  rw [pBin_add (by omega)]
  rw [pBin_add (by omega)]
  have := hK _ k1
  simpa using this
end
end Go.Proofs.YtkndffhcncmbjaaDoor

/- Writes of a disk: the law 'DiskWrite', of the functions alone. -/
set_option linter.unusedVariables false
set_option linter.unusedSimpArgs false
namespace Go.Proofs.YtkndffhcncmbjaaDoor
open Go Go.Av

abbrev Rw := Int × ByteArray
def encRaw (x : Rw) : List Value := [.int .i64 x.1, .string x.2]
def goodRaw (x : Rw) : Prop := (-9223372036854775808 ≤ x.1 ∧ x.1 ≤ 9223372036854775807) ∧ x.2.size ≤ 9223372036854775807
def szRw (x : Rw) : Nat := x.2.size
abbrev RRaw := RFl encRaw goodRaw
abbrev ORaw := OFl encRaw goodRaw
theorem rok_raw : ROk 2 RRaw := rok_fl (n := 2) (enc := encRaw) (good := goodRaw) (fun _ => rfl) (fun x c h => by simp [encRaw] at h; rcases h with rfl | rfl <;> rfl)
theorem ok_raw (w0 : World) : OOk w0 2 RRaw ORaw := ok_fl (n := 2) (enc := encRaw) (good := goodRaw) (fun _ => rfl) (fun x c h => by simp [encRaw] at h; rcases h with rfl | rfl <;> rfl) w0
theorem rok_str : ROk 1 RS := ⟨fun _ _ _ _ _ h => h, fun _ _ _ h => by rw [h.1]; rfl, fun _ _ _ h c hc => by rw [h.1] at hc; rw [List.mem_singleton.1 hc]; rfl⟩

section
variable {w0 : World} {σ : Vw}

theorem eqRaw {es es' : List Value} {x y : Rw} {R : Value → Vw → Prop} (h : RRaw (Av.get w0 σ) es x) (h' : RRaw (Av.get w0 σ) es' y) (hR : R (.bool (decide (x = y))) σ) : AC Tryd.prog w0 n_laws_eqRaw [.agg ⟨es⟩, .agg ⟨es'⟩] σ R := by
  obtain ⟨rfl, hg⟩ := h
  obtain ⟨rfl, hg'⟩ := h'
  refine ac_laws_eqRaw ?_
  unfold vc_laws_eqRaw
  rw [encRaw, encRaw, pVal_2 rfl rfl, pVal_2 rfl rfl]
  obtain ⟨a, p⟩ := x
  obtain ⟨b, q⟩ := y
  simp only [cellOf_agg, List.getD_cons_zero, List.getD_cons_succ]
  rw [pBin_ne, pIf_d]
  refine ⟨fun h => ?_, fun h => ?_⟩
  · have : ¬ ((a, p) = (b, q)) := fun e => h (by cases e; rfl)
    simpa [this] using hR
  · have h' := Decidable.not_not.1 h
    subst h'
    rw [pBin_sne, pIf_d]
    refine ⟨fun h => ?_, fun h => ?_⟩
    · have : ¬ ((a, p) = (a, q)) := fun e => h (by cases e; rfl)
      simpa [this] using hR
    · have h' := Decidable.not_not.1 h
      subst h'
      simpa using hR

theorem eqRawS {v v' : Value} {xs ys : List Rw} (h : RSl 2 RRaw (Av.get w0 σ) v xs) (h' : RSl 2 RRaw (Av.get w0 σ) v' ys) {R : Value → Vw → Prop} (hR : R (.bool (decide (xs = ys))) σ) : AC Tryd.prog w0 n_laws_eqRawS [v, v'] σ R := by
  refine ac_laws_eqRawS ?_
  have e : vc_laws_eqRawS w0 v v' σ R = VeqS Tryd.prog w0 3 2 n_laws_eqRaw v v' σ R := by kernel_rfl
  rw [e]
  exact eqS_gen (fun x _ y es es' R' h h' hR => eqRaw h h' hR) h h' hR

def mkRaw (k : Nat) (_ : Rw) : Rw := ((k : Int), mtext (k + 1))
theorem markRawS {F : List Nat} {v : Value} {xs : List Rw} {k : Nat} (h : OSl w0 2 ORaw σ F v xs) (hk : k + sumBy (fun _ => 2) xs ≤ 1000000000000) {R : Value → Vw → Prop}
    (hR : ∀ σ', KeepsBut F σ σ' → OSl w0 2 ORaw σ' F v (mkS mkRaw (fun _ => 2) k xs) → R (.int .i64 ((k + sumBy (fun _ => 2) xs : Nat) : Int)) σ') : AC Tryd.prog w0 n_laws_markRawS [v, .int .i64 (k : Nat)] σ R := by
  refine ac_laws_markRawS ?_
  unfold vc_laws_markRawS
  refine mark_loop (ok_raw w0) (mk := mkRaw) (cnt := fun _ => 2) h hk ?_ hR
  intro j x k' s ys K hj hlen hkb hx hk' hO hyj hK
  simp only [vget, List.getD_cons_zero, List.getD_cons_succ]
  obtain ⟨b, o, f, c, A, C, r, hix, hb, hr, hc, hA, hOx, hbF, hf, hput⟩ := hO.focus (ok_raw w0) hyj
  obtain ⟨rfl, rfl, hsz⟩ := hOx
  refine hix _ ?_
  refine field_store hr hc hA (by show 0 < 2; omega) rfl ?_
  rw [pBin_add (by omega)]
  refine markText (k := k' + 1) (by omega) fun s1 k1 => ?_
  refine hix _ ?_
  refine field_store (k1 _ _ put_at) rfl hA (by show 1 < 2; omega) rfl ?_
  rw [pBin_add (by omega), pBin_add (by have := h.1; omega)]
  rw [show ((k' : Nat) : Int) + 1 + 1 = ((k' + 2 : Nat) : Int) by omega]
  refine hK _ ((KeepsBut.put hbF).trans (k1.but.trans (KeepsBut.put hbF))) (hput _ [.int .i64 (k' : Nat), .string (mtext (k' + 1))] (mkRaw k' x) _ put_at rfl ⟨rfl, rfl, ⟨?_, ?_⟩⟩ fun i hi hne _ => ?_)
  · show -9223372036854775808 ≤ (k' : Int) ∧ (k' : Int) ≤ 9223372036854775807; omega
  · exact mtext_size (k := k' + 1) (by omega)
  · have hd := hO.dom (ok_raw w0) i hi
    simp only [Vw.put, hne, if_false]
    cases hs : s i with
    | none => exact absurd hs hd.2
    | some r' => exact k1 i r' (by simp [Vw.put, hne, hs])

end
end Go.Proofs.YtkndffhcncmbjaaDoor

/- The law 'DiskWrite', of the functions alone. -/
set_option linter.unusedVariables false
set_option linter.unusedSimpArgs false
namespace Go.Proofs.YtkndffhcncmbjaaDoor
open Go Go.Av

/-- One write. -/
def setD (bs : List ByteArray) (x : Rw) : List ByteArray := if inB x.1 0 193 = true ∧ x.2.size ≤ 64 then bs.set x.1.toNat x.2 else bs
def runD (bs : List ByteArray) (xs : List Rw) : List ByteArray := xs.foldl setD bs
theorem runD_len (bs : List ByteArray) (xs : List Rw) : (runD bs xs).length = bs.length := by
  induction xs generalizing bs with
  | nil => rfl
  | cons x r ih =>
    have : runD bs (x :: r) = runD (setD bs x) r := rfl
    rw [this, ih]
    unfold setD; split
    · rw [List.length_set]
    · rfl
def cutN (cut : Int) (n : Nat) : Nat := (min (max cut 0) n).toNat
def writeD (bs : List ByteArray) (xs : List Rw) (cut : Int) : List ByteArray := if diskOk bs = true then runD bs (xs.take (cutN cut xs.length)) else []

section
variable {w0 : World} {σ : Vw}

theorem take_all {xs : List Rw} {bs : List ByteArray} {j : Nat} {x : Rw} (hj : xs[j]? = some x) : runD bs (xs.take (j + 1)) = setD (runD bs (xs.take j)) x := foldl_take hj

theorem spec_Copy {v : Value} {xs : List ByteArray} (h : RSl 1 RS (Av.get w0 σ) v xs) (hl : xs.length ≤ 1000000000) {R : Value → Vw → Prop}
    (hR : ∀ v' F σ', Keeps σ σ' → OAcc w0 t_string 1 OStr σ' F v' xs → (∀ b, b ∈ F → σ b = none) → R (.agg ⟨[v']⟩) σ') : AC Tryd.prog w0 n_spec_l21Copy [.agg ⟨[v]⟩] σ R := by
  refine ac_spec_l21Copy ?_
  unfold vc_spec_l21Copy
  rw [pVal_1 h.one]
  intro b h1 h2
  have ha := OAcc.new (w0 := w0) (σ := σ) (ety := t_string) (n := 1) (O := OStr) h1
  refine ha.all (ok_str w0) h (Keeps.put h2).le (fun es y hy => ⟨rfl, hy⟩) (by simp; omega) (by omega) fun v' F' σ' k1 o1 f1 => ?_
  rw [pVal1 (OSl.one' o1.osl), pVal_1 (OSl.one' o1.osl)]
  have hf : ∀ i, i ∈ F' → σ i = none := fun i hi => by
    rcases f1 i hi with e | e
    · rw [List.mem_singleton.1 e]; exact h2
    · cases hs : σ i with
      | none => rfl
      | some r => rw [Keeps.put h2 i r hs] at e; cases e
  exact hR v' F' σ' (k1.old (Keeps.put h2) (fun i hi => by rw [List.mem_singleton.1 hi]; exact h2)) o1 hf

/-- A text of a list of our own is written. -/
theorem str_store {F : List Nat} {v : Value} {xs : List ByteArray} (h : OStrs w0 σ F v xs) {j : Nat} {x y : ByteArray} (hj : xs[j]? = some x) (hy : y.size ≤ 9223372036854775807) {K : Vw → Prop}
    (hK : ∀ σ', KeepsBut F σ σ' → OStrs w0 σ' F v (xs.set j y) → K σ') : pIndexAddr 1 v (.int .i64 j) fun p => pVal false 1 (.string y) (pStore p [.string y] σ K) := by
  obtain ⟨b, o, f, c, A, C, r, hix, hb, hr, hc, hA, hOx, hbF, hf, hput⟩ := h.focus (ok_str w0) hj
  obtain ⟨rfl, rfl, hsz⟩ := hOx
  refine hix _ ?_
  refine elem_store hr hc hA rfl ?_
  exact hK _ (KeepsBut.put hbF) (hput _ [.string y] y _ put_at rfl ⟨rfl, rfl, hy⟩ fun i hi hne _ => by simp [Vw.put, hne])

theorem spec_RawOk {es : List Value} {x : Rw} {R : Value → Vw → Prop} (h : RRaw (Av.get w0 σ) es x) (hR : R (.bool (inB x.1 0 193 && decide (x.2.size ≤ 64))) σ) : AC Tryd.prog w0 n_spec_l21RawOk [.agg ⟨es⟩] σ R := by
  obtain ⟨rfl, hg⟩ := h
  refine ac_spec_l21RawOk ?_
  unfold vc_spec_l21RawOk
  rw [encRaw, pVal_2 rfl rfl]
  simp only [cellOf_agg, List.getD_cons_zero, List.getD_cons_succ]
  refine ac_spec_l21In ?_
  unfold vc_spec_l21In
  rw [pBin_ge, pIf_d]
  have fin : ∀ b : Bool, b = inB x.1 0 193 → pIf (.bool b) (pLenS (.string x.2) (fun v2 => pBin Tryd.prog 3 .leq v2 (.int .i64 64) (fun v3 => R v3 σ))) (R (.bool false) σ) := by
    rintro b rfl
    rw [pIf_b, pLenS_s, pBin_le]
    refine ⟨fun h => ?_, fun h => ?_⟩
    · rw [h] at hR
      have e : decide ((x.2.size : Int) ≤ 64) = decide (x.2.size ≤ 64) := by congr 1; apply propext; omega
      rw [e]; simpa using hR
    · rw [h] at hR; simpa using hR
  refine ⟨fun h => ?_, fun h => ?_⟩
  · rw [pBin_le]; exact fin _ (by simp [inB, h])
  · exact fin _ (by simp [inB, h])

theorem spec_DiskWrite {v u : Value} {bs : List ByteArray} {xs : List Rw} {cut : Int} (h : RSl 1 RS (Av.get w0 σ) v bs) (hu : RSl 2 RRaw (Av.get w0 σ) u xs) {R : Value → Vw → Prop}
    (hR : ∀ v' F σ', Keeps σ σ' → OStrs w0 σ' F v' (writeD bs xs cut) → (∀ b, b ∈ F → σ b = none) → R (.agg ⟨[v']⟩) σ') : AC Tryd.prog w0 n_spec_DiskWrite [.agg ⟨[v]⟩, u, .int .i64 cut] σ R := by
  refine ac_spec_DiskWrite ?_
  unfold vc_spec_DiskWrite
  have hl := h.le
  have hul := hu.le
  rw [pVal_1 h.one]
  simp only [cellOf_agg, List.getD_cons_zero, List.getD_cons_succ]
  refine spec_DiskOk h ?_
  rw [pUn_not, pIf_b]
  refine ⟨fun hn => ?_, fun hok => ?_⟩
  · rw [pVal_1 rfl]
    have : diskOk bs = false := by simpa using hn
    have e : writeD bs xs cut = [] := by simp [writeD, this]
    rw [e] at hR
    exact hR _ [] σ (Keeps.refl σ) ⟨by simp, by simp, .inl ⟨rfl, rfl, rfl⟩⟩ (by simp)
  · have hok' : diskOk bs = true := by simpa using hok
    have hlen : bs.length = 194 := by simp [diskOk] at hok'; exact hok'.2
    have e : writeD bs xs cut = runD bs (xs.take (cutN cut xs.length)) := by simp [writeD, hok']
    rw [e] at hR
    refine spec_Copy h (by omega) fun v1 F1 s1 k1 o1 f1 => ?_
    rw [pVal_1 (OSl.one' o1.osl)]
    have fin : ∀ (s : Vw), Keeps σ s → OStrs w0 s F1 v1 (runD bs (xs.take (cutN cut xs.length))) → pVal true 1 (.agg ⟨[v1]⟩) (R (.agg ⟨[v1]⟩) s) := fun s ks os => by
      rw [pVal_1 (OSl.one' os)]; exact hR v1 F1 s ks os f1
    refine loop_rule (m := cutN cut xs.length) (fun c l s => ∃ j : Nat, c + j = cutN cut xs.length ∧ Keeps σ s ∧ OStrs w0 s F1 v1 (runD bs (xs.take j)) ∧ l = [u, .int .i64 cut, .int .i64 (j : Nat), .slice none 0 0, v1]) ?_ ⟨0, by omega, k1, by simpa [runD] using o1.osl, rfl⟩
    rintro c l s L ⟨j, hc, ks, os, rfl⟩ hL
    have hcut : cutN cut xs.length = (min (max cut 0) xs.length).toNat := rfl
    simp only [vget, List.getD_cons_zero, List.getD_cons_succ]
    have hu' := hu.mono ks.le fun _ _ h => h
    rw [hu'.len, pBin_lt, pIf_d]
    refine ⟨fun hj => ?_, fun hj => ?_⟩
    · rw [pBin_lt, pIf_d]
      refine ⟨fun hj2 => ?_, fun hj2 => ?_⟩
      · have hx := List.getElem?_eq_getElem (show j < xs.length by omega)
        generalize hxj : xs[j] = x at hx
        have ht := take_all (bs := bs) hx
        refine hu'.at hx fun g hg => ?_
        refine spec_RawOk hg ?_
        rw [pIf_b]
        have next : ∀ s', KeepsBut F1 s s' → OStrs w0 s' F1 v1 (setD (runD bs (xs.take j)) x) → pBin Tryd.prog 3 .add (.int .i64 (j : Nat)) (.int .i64 1) (fun v => L [u, .int .i64 cut, v, .slice none 0 0, v1] s') := fun s' k' o' => by
          rw [pBin_add (by omega)]
          rw [← ht] at o'
          exact hL _ _ (c - 1) (by omega) ⟨j + 1, by omega, k'.old ks f1, o', by simp⟩
        refine ⟨fun hg2 => ?_, fun hg2 => ?_⟩
        · simp only [Bool.and_eq_true, decide_eq_true_eq] at hg2
          refine hu'.atf hx 0 (by omega) fun es1 g1 hes1 hg1 => ?_
          refine hu'.atf hx 1 (by omega) fun es2 g2 hes2 hg2' => ?_
          obtain ⟨rfl, _⟩ := hes1
          obtain ⟨rfl, hgood⟩ := hes2
          simp only [encRaw, List.getElem?_cons_zero, List.getElem?_cons_succ, Option.some.injEq] at hg1 hg2'
          rw [← hg1, ← hg2']
          have hr : 0 ≤ x.1 ∧ x.1 ≤ 193 := by have := hg2.1; simpa [inB] using this
          obtain ⟨n, hn⟩ : ∃ n : Nat, x.1 = n := ⟨x.1.toNat, by omega⟩
          rw [hn]
          have hn' : n < (runD bs (xs.take j)).length := by rw [runD_len]; omega
          refine str_store os (List.getElem?_eq_getElem hn') hgood.2 fun s' k' o' => next s' k' ?_
          have : setD (runD bs (xs.take j)) x = (runD bs (xs.take j)).set n x.2 := by
            unfold setD; rw [if_pos hg2, hn]; rfl
          rw [this]; exact o'
        · refine next s (KeepsBut.refl _ _) ?_
          have : setD (runD bs (xs.take j)) x = runD bs (xs.take j) := by
            unfold setD; rw [if_neg]; simpa using hg2
          rw [this]; exact os
      · have : j = cutN cut xs.length := by omega
        subst this
        exact fin s ks os
    · have : j = cutN cut xs.length := by omega
      subst this
      exact fin s ks os

end
end Go.Proofs.YtkndffhcncmbjaaDoor
