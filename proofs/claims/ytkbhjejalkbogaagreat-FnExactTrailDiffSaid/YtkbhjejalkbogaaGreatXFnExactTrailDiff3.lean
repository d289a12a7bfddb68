/- The law FnExactTrailDiff holds: it returns true, and the input reads as it did. No condition. This is part 3 of 4 of its proof. -/
import Derived.Test.YtkbhjejalkbogaaGreatXFnExactTrailDiff2
import Derived.WideShapes
import Derived.ProofKit
import Derived.Below
import Derived.Shelf.Small.Bits
import Derived.Shelf.Strconv.Itoa0
import Derived.Shelf.Sort.Plain
import Derived.Shelf.Slices.CompactS
import Derived.Shelf.Slices.Cells
import Derived.Shelf.Slices.In.SortNone
import Derived.Test.YtkbhjejalkbogaaGreatProg
import Derived.Lib.AppendIntMem
import Derived.Lib.Join
import Derived.Lib.SlicesCompact
import Derived.Sort.Walk0

/- What each function owes, reckoned out, part 4. MADE BY PROGRAM (emit.py). -/
set_option linter.unusedVariables false
namespace Go.Proofs.YtkbhjejalkbogaaGreat
open Go Go.Av

/-- slices.Index[[]string,string] -/
def kp_slices_Index_string_string : Nat → Keep
  | 2 => ⟨[0, 1, 4, 7, 8], [], [], .done, []⟩
  | _ => ⟨[], [], [], .done, []⟩
def esc_slices_Index_string_string : Nat → Bool
  | _ => false
def vc_slices_Index_string_string (w0 : World) (a0 a1 : Value) (σ : Vw) (R : Value → Vw → Prop) : Prop :=
  pLen a0 (fun v0 => pLoop (fun l1 K2 s3 => pBin Tryz.prog 3 BinOp.lss (vget l1 4) (vget l1 3) (fun v4 => pIf v4 (pIndexAddr 1 (vget l1 0) (vget l1 4) (fun v5 => pLoad w0 1 v5 s3 (fun g6 => pBin Tryz.prog 9 BinOp.eql (vget l1 1) (g6 0) (fun v7 => pIf v7 (K2 AX.ret [vget l1 0, vget l1 1, vget l1 4, vget l1 3, vget l1 4] s3) (pBin Tryz.prog 3 BinOp.add (vget l1 4) (Value.int IntKind.i64 1) (fun v8 => K2 AX.normal [vget l1 0, vget l1 1, vget l1 2, vget l1 3, v8] s3)))))) (K2 (AX.exit 0) [vget l1 0, vget l1 1, vget l1 2, vget l1 3, vget l1 4] s3))) [a0, a1, Value.int IntKind.i64 0, v0, Value.int IntKind.i64 0] σ (fun x9 l10 s11 => match x9 with | .normal => R (Value.int IntKind.i64 (-1)) s11 | .ret => R (vget l10 2) s11 | .exit i12 => (match Nat.beq i12 0 with | true => R (Value.int IntKind.i64 (-1)) s11 | false => False)))
theorem vc_slices_Index_string_string_eq (w0 : World) (a0 a1 : Value) (σ : Vw) (R : Value → Vw → Prop) : vc_slices_Index_string_string w0 a0 a1 σ R = den Tryz.prog w0 kp_slices_Index_string_string esc_slices_Index_string_string (Tryz.f142.body.getD .skip) (entry Tryz.f142.ntmps [a0, a1]) σ (retK Tryz.prog Tryz.f142.results.toList R) := by kernel_rfl
theorem ac_slices_Index_string_string {w0 : World} {a0 a1 : Value} {σ : Vw} {R : Value → Vw → Prop} (h : vc_slices_Index_string_string w0 a0 a1 σ R) : AC Tryz.prog w0 n_slices_Index_string_string [a0, a1] σ R := by
  refine ac_rule (fn := Tryz.f142) (c := Tryz.f142.body.getD .skip) kp_slices_Index_string_string esc_slices_Index_string_string Tryz.func142 (by kernel_rfl) (by kernel_rfl) ?_
  rw [← vc_slices_Index_string_string_eq]
  exact h

/-- spec.l1Plain -/
def kp_spec_l1Plain : Nat → Keep
  | 6 => ⟨[2, 3], [(1, 5)], [1], .done, []⟩
  | 8 => ⟨[], [], [], .step 0 (.step 1 (.step 2 (.step 3 (.step 4 (.step 5 (.step 6 (.step 7 (.step 8 (.step 9 (.step 10 (.step 11 (.step 12 (.step 13 (.step 14 (.step 15 (.step 16 (.step 17 (.step 18 (.step 19 (.step 20 (.step 21 (.step 22 (.step 23 (.step 24 (.done))))))))))))))))))))))))), [(1, [0]), (3, [0, 1, 2]), (4, [0, 1, 2, 3]), (5, [0, 1, 2, 3, 4]), (6, [0, 1, 2, 3, 4, 5]), (7, [0, 1, 2, 3, 4, 5, 6]), (8, [0, 1, 2, 3, 4, 5, 6, 7]), (9, [0, 1, 2, 3, 4, 5, 6, 7, 8]), (10, [0, 1, 2, 3, 4, 5, 6, 7, 8, 9]), (11, [0, 1, 2, 3, 4, 5, 6, 7, 8, 9, 10]), (12, [0, 1, 2, 3, 4, 5, 6, 7, 8, 9, 10, 11]), (13, [0, 1, 2, 3, 4, 5, 6, 7, 8, 9, 10]), (14, [0, 1, 2, 3, 4, 5, 6, 7, 8, 9, 10, 13]), (15, [0, 1, 2, 3, 4, 5, 6, 7, 8, 9, 10, 11, 12, 13, 14]), (16, [0, 1, 2, 3, 4, 5, 6, 7, 8, 9, 10, 11, 12, 13, 14, 15]), (17, [0, 1, 2, 3, 4, 5, 6, 7, 8, 9, 10]), (18, [0, 1, 2, 3, 4, 5, 6, 7, 8, 9, 10, 17]), (19, [0, 1, 2, 3, 4, 5, 6, 7, 8, 9, 10]), (20, [0, 1, 2, 3, 4, 5, 6, 7, 8, 9, 10, 17, 18, 19]), (21, [0, 1, 2, 3, 4, 5, 6, 7, 8, 9, 10, 17, 18, 19, 20]), (22, [0, 1, 2, 3, 4, 5, 6, 7, 8, 9, 10, 11, 12, 13, 14, 15, 16, 17, 18, 19, 20, 21]), (23, [0, 1, 2, 3, 4, 5, 6, 7, 8, 9, 10, 11, 12, 13, 14, 15, 16, 17, 18, 19, 20, 21, 22]), (24, [0, 1, 2, 3, 4, 5, 6, 7, 8, 9, 10, 11, 12, 13, 14, 15, 16, 17, 18, 19, 20, 21, 22, 23])]⟩
  | _ => ⟨[], [], [], .done, []⟩
def esc_spec_l1Plain : Nat → Bool
  | _ => false
def vc_spec_l1Plain (w0 : World) (a0 : Value) (σ : Vw) (R : Value → Vw → Prop) : Prop :=
  pVal true 5 a0 (AC Tryz.prog w0 n_spec_l1In [cellOf a0 1, Value.int IntKind.i64 0, Value.int IntKind.i64 7] σ (fun v0 s1 => pUn UnOp.not v0 (fun v2 => pIf v2 (R (Value.bool false) s1) (pLen (cellOf a0 3) (fun v3 => pLen (cellOf a0 4) (fun v4 => pBin Tryz.prog 3 BinOp.neq v3 v4 (fun v5 => pIf v5 (R (Value.bool false) s1) (pUn UnOp.not (cellOf a0 0) (fun v6 => pIf v6 (pLenS (cellOf a0 2) (fun v7 => pBin Tryz.prog 3 BinOp.leq v7 (Value.int IntKind.i64 24) (fun v8 => pIf v8 (pLen (cellOf a0 3) (fun v9 => pBin Tryz.prog 3 BinOp.eql v9 (Value.int IntKind.i64 0) (fun v10 => R v10 s1))) (R (Value.bool false) s1)))) (pLoop (fun l11 K12 s13 => pLen (vget l11 5) (fun v14 => pBin Tryz.prog 3 BinOp.lss (vget l11 1) v14 (fun v15 => pIf v15 (pIndexAddr 1 (vget l11 5) (vget l11 1) (fun v16 => pLoad w0 1 v16 s13 (fun g17 => AC Tryz.prog w0 n_spec_l1NameOk [g17 0] s13 (fun v18 s19 => pUn UnOp.not v18 (fun v20 => pIf v20 (K12 AX.ret [Value.bool false, vget l11 1, vget l11 2, vget l11 3, vget l11 4, vget l11 5, vget l11 6] s19) (pBin Tryz.prog 3 BinOp.gtr (vget l11 1) (Value.int IntKind.i64 0) (fun v21 => pIf v21 (pBin Tryz.prog 3 BinOp.sub (vget l11 1) (Value.int IntKind.i64 1) (fun v22 => pIndexAddr 1 (vget l11 5) v22 (fun v23 => pLoad w0 1 v23 s19 (fun g24 => pIndexAddr 1 (vget l11 5) (vget l11 1) (fun v25 => pLoad w0 1 v25 s19 (fun g26 => pBin Tryz.prog 9 BinOp.geq (g24 0) (g26 0) (fun v27 => pIf v27 (K12 AX.ret [Value.bool false, vget l11 1, vget l11 2, vget l11 3, vget l11 4, vget l11 5, vget l11 6] s19) (pBin Tryz.prog 3 BinOp.add (vget l11 1) (Value.int IntKind.i64 1) (fun v28 => K12 AX.normal [vget l11 0, v28, vget l11 2, vget l11 3, vget l11 4, vget l11 5, vget l11 6] s19))))))))) (pBin Tryz.prog 3 BinOp.add (vget l11 1) (Value.int IntKind.i64 1) (fun v29 => K12 AX.normal [vget l11 0, v29, vget l11 2, vget l11 3, vget l11 4, vget l11 5, vget l11 6] s19))))))))) (K12 (AX.exit 0) [vget l11 0, vget l11 1, vget l11 2, vget l11 3, vget l11 4, vget l11 5, vget l11 6] s13)))) [Value.bool false, Value.int IntKind.i64 0, cellOf a0 0, cellOf a0 1, cellOf a0 2, cellOf a0 3, cellOf a0 4] s1 (fun x30 l31 s32 => match x30 with | .normal => pBin Tryz.prog 9 BinOp.eql (vget l31 4) (Value.string ({ data := #[] })) (fun v33 => R v33 s32) | .ret => R (vget l31 0) s32 | .exit i34 => (match Nat.beq i34 0 with | true => pBin Tryz.prog 9 BinOp.eql (vget l31 4) (Value.string ({ data := #[] })) (fun v35 => R v35 s32) | false => False))))))))))))
theorem vc_spec_l1Plain_eq (w0 : World) (a0 : Value) (σ : Vw) (R : Value → Vw → Prop) : vc_spec_l1Plain w0 a0 σ R = den Tryz.prog w0 kp_spec_l1Plain esc_spec_l1Plain (Tryz.f143.body.getD .skip) (entry Tryz.f143.ntmps [a0]) σ (retK Tryz.prog Tryz.f143.results.toList R) := by kernel_rfl
theorem ac_spec_l1Plain {w0 : World} {a0 : Value} {σ : Vw} {R : Value → Vw → Prop} (h : vc_spec_l1Plain w0 a0 σ R) : AC Tryz.prog w0 n_spec_l1Plain [a0] σ R := by
  refine ac_rule (fn := Tryz.f143) (c := Tryz.f143.body.getD .skip) kp_spec_l1Plain esc_spec_l1Plain Tryz.func143 (by kernel_rfl) (by kernel_rfl) ?_
  rw [← vc_spec_l1Plain_eq]
  exact h

/-- spec.l11Same -/
def kp_spec_l11Same : Nat → Keep
  | _ => ⟨[], [], [], .done, []⟩
def esc_spec_l11Same : Nat → Bool
  | _ => false
def vc_spec_l11Same (w0 : World) (a0 a1 : Value) (σ : Vw) (R : Value → Vw → Prop) : Prop :=
  pLen a0 (fun v0 => pLen a1 (fun v1 => pBin Tryz.prog 3 BinOp.eql v0 v1 (fun v2 => pIf v2 (AC Tryz.prog w0 n_spec_l2Within [a0, a1] σ (fun v3 s4 => R v3 s4)) (R (Value.bool false) σ))))
theorem vc_spec_l11Same_eq (w0 : World) (a0 a1 : Value) (σ : Vw) (R : Value → Vw → Prop) : vc_spec_l11Same w0 a0 a1 σ R = den Tryz.prog w0 kp_spec_l11Same esc_spec_l11Same (Tryz.f144.body.getD .skip) (entry Tryz.f144.ntmps [a0, a1]) σ (retK Tryz.prog Tryz.f144.results.toList R) := by kernel_rfl
theorem ac_spec_l11Same {w0 : World} {a0 a1 : Value} {σ : Vw} {R : Value → Vw → Prop} (h : vc_spec_l11Same w0 a0 a1 σ R) : AC Tryz.prog w0 n_spec_l11Same [a0, a1] σ R := by
  refine ac_rule (fn := Tryz.f144) (c := Tryz.f144.body.getD .skip) kp_spec_l11Same esc_spec_l11Same Tryz.func144 (by kernel_rfl) (by kernel_rfl) ?_
  rw [← vc_spec_l11Same_eq]
  exact h

/-- impl.within -/
def kp_impl_within : Nat → Keep
  | _ => ⟨[], [], [], .done, []⟩
def esc_impl_within : Nat → Bool
  | _ => false
def vc_impl_within (w0 : World) (a0 a1 a2 : Value) (σ : Vw) (R : Value → Vw → Prop) : Prop :=
  pBin Tryz.prog 3 BinOp.geq a0 a1 (fun v0 => pIf v0 (pBin Tryz.prog 3 BinOp.leq a0 a2 (fun v1 => R v1 σ)) (R (Value.bool false) σ))
theorem vc_impl_within_eq (w0 : World) (a0 a1 a2 : Value) (σ : Vw) (R : Value → Vw → Prop) : vc_impl_within w0 a0 a1 a2 σ R = den Tryz.prog w0 kp_impl_within esc_impl_within (Tryz.f145.body.getD .skip) (entry Tryz.f145.ntmps [a0, a1, a2]) σ (retK Tryz.prog Tryz.f145.results.toList R) := by kernel_rfl
theorem ac_impl_within {w0 : World} {a0 a1 a2 : Value} {σ : Vw} {R : Value → Vw → Prop} (h : vc_impl_within w0 a0 a1 a2 σ R) : AC Tryz.prog w0 n_impl_within [a0, a1, a2] σ R := by
  refine ac_rule (fn := Tryz.f145) (c := Tryz.f145.body.getD .skip) kp_impl_within esc_impl_within Tryz.func145 (by kernel_rfl) (by kernel_rfl) ?_
  rw [← vc_impl_within_eq]
  exact h

/-- spec.l1NameOk -/
def kp_spec_l1NameOk : Nat → Keep
  | 2 => ⟨[0, 2, 3], [], [], .done, []⟩
  | _ => ⟨[], [], [], .done, []⟩
def esc_spec_l1NameOk : Nat → Bool
  | _ => false
def vc_spec_l1NameOk (w0 : World) (a0 : Value) (σ : Vw) (R : Value → Vw → Prop) : Prop :=
  pLoop (fun l0 K1 s2 => pLenS (vget l0 0) (fun v3 => pBin Tryz.prog 3 BinOp.lss (vget l0 2) v3 (fun v4 => pIf v4 (pIndexStr (vget l0 0) (vget l0 2) (fun v5 => pBin Tryz.prog 5 BinOp.geq v5 (Value.int IntKind.u8 97) (fun v6 => pIf v6 (pIndexStr (vget l0 0) (vget l0 2) (fun v7 => pBin Tryz.prog 5 BinOp.leq v7 (Value.int IntKind.u8 122) (fun v8 => pIf v8 (pUn UnOp.not (Value.bool true) (fun v9 => pIf v9 (K1 AX.ret [vget l0 0, Value.bool false, vget l0 2] s2) (pBin Tryz.prog 3 BinOp.add (vget l0 2) (Value.int IntKind.i64 1) (fun v10 => K1 AX.normal [vget l0 0, vget l0 1, v10] s2)))) (pIndexStr (vget l0 0) (vget l0 2) (fun v11 => pBin Tryz.prog 5 BinOp.geq v11 (Value.int IntKind.u8 48) (fun v12 => pIf v12 (pIndexStr (vget l0 0) (vget l0 2) (fun v13 => pBin Tryz.prog 5 BinOp.leq v13 (Value.int IntKind.u8 57) (fun v14 => pUn UnOp.not v14 (fun v15 => pIf v15 (K1 AX.ret [vget l0 0, Value.bool false, vget l0 2] s2) (pBin Tryz.prog 3 BinOp.add (vget l0 2) (Value.int IntKind.i64 1) (fun v16 => K1 AX.normal [vget l0 0, vget l0 1, v16] s2)))))) (pUn UnOp.not (Value.bool false) (fun v17 => pIf v17 (K1 AX.ret [vget l0 0, Value.bool false, vget l0 2] s2) (pBin Tryz.prog 3 BinOp.add (vget l0 2) (Value.int IntKind.i64 1) (fun v18 => K1 AX.normal [vget l0 0, vget l0 1, v18] s2)))))))))) (pIndexStr (vget l0 0) (vget l0 2) (fun v19 => pBin Tryz.prog 5 BinOp.geq v19 (Value.int IntKind.u8 48) (fun v20 => pIf v20 (pIndexStr (vget l0 0) (vget l0 2) (fun v21 => pBin Tryz.prog 5 BinOp.leq v21 (Value.int IntKind.u8 57) (fun v22 => pUn UnOp.not v22 (fun v23 => pIf v23 (K1 AX.ret [vget l0 0, Value.bool false, vget l0 2] s2) (pBin Tryz.prog 3 BinOp.add (vget l0 2) (Value.int IntKind.i64 1) (fun v24 => K1 AX.normal [vget l0 0, vget l0 1, v24] s2)))))) (pUn UnOp.not (Value.bool false) (fun v25 => pIf v25 (K1 AX.ret [vget l0 0, Value.bool false, vget l0 2] s2) (pBin Tryz.prog 3 BinOp.add (vget l0 2) (Value.int IntKind.i64 1) (fun v26 => K1 AX.normal [vget l0 0, vget l0 1, v26] s2)))))))))) (K1 (AX.exit 0) [vget l0 0, vget l0 1, vget l0 2] s2)))) [a0, Value.bool false, Value.int IntKind.i64 0] σ (fun x27 l28 s29 => match x27 with | .normal => pLenS (vget l28 0) (fun v30 => AC Tryz.prog w0 n_spec_l1In [v30, Value.int IntKind.i64 1, Value.int IntKind.i64 5] s29 (fun v31 s32 => R v31 s32)) | .ret => R (vget l28 1) s29 | .exit i33 => (match Nat.beq i33 0 with | true => pLenS (vget l28 0) (fun v34 => AC Tryz.prog w0 n_spec_l1In [v34, Value.int IntKind.i64 1, Value.int IntKind.i64 5] s29 (fun v35 s36 => R v35 s36)) | false => False))
theorem vc_spec_l1NameOk_eq (w0 : World) (a0 : Value) (σ : Vw) (R : Value → Vw → Prop) : vc_spec_l1NameOk w0 a0 σ R = den Tryz.prog w0 kp_spec_l1NameOk esc_spec_l1NameOk (Tryz.f148.body.getD .skip) (entry Tryz.f148.ntmps [a0]) σ (retK Tryz.prog Tryz.f148.results.toList R) := by kernel_rfl
theorem ac_spec_l1NameOk {w0 : World} {a0 : Value} {σ : Vw} {R : Value → Vw → Prop} (h : vc_spec_l1NameOk w0 a0 σ R) : AC Tryz.prog w0 n_spec_l1NameOk [a0] σ R := by
  refine ac_rule (fn := Tryz.f148) (c := Tryz.f148.body.getD .skip) kp_spec_l1NameOk esc_spec_l1NameOk Tryz.func148 (by kernel_rfl) (by kernel_rfl) ?_
  rw [← vc_spec_l1NameOk_eq]
  exact h

/-- cmp.isNaN[string] -/
def kp_cmp_isNaN_string : Nat → Keep
  | _ => ⟨[], [], [], .done, []⟩
def esc_cmp_isNaN_string : Nat → Bool
  | _ => false
def vc_cmp_isNaN_string (w0 : World) (a0 : Value) (σ : Vw) (R : Value → Vw → Prop) : Prop :=
  pBin Tryz.prog 9 BinOp.neq a0 a0 (fun v0 => R v0 σ)
theorem vc_cmp_isNaN_string_eq (w0 : World) (a0 : Value) (σ : Vw) (R : Value → Vw → Prop) : vc_cmp_isNaN_string w0 a0 σ R = den Tryz.prog w0 kp_cmp_isNaN_string esc_cmp_isNaN_string (Tryz.f149.body.getD .skip) (entry Tryz.f149.ntmps [a0]) σ (retK Tryz.prog Tryz.f149.results.toList R) := by kernel_rfl
theorem ac_cmp_isNaN_string {w0 : World} {a0 : Value} {σ : Vw} {R : Value → Vw → Prop} (h : vc_cmp_isNaN_string w0 a0 σ R) : AC Tryz.prog w0 n_cmp_isNaN_string [a0] σ R := by
  refine ac_rule (fn := Tryz.f149) (c := Tryz.f149.body.getD .skip) kp_cmp_isNaN_string esc_cmp_isNaN_string Tryz.func149 (by kernel_rfl) (by kernel_rfl) ?_
  rw [← vc_cmp_isNaN_string_eq]
  exact h

/-- slices.IndexFunc[[]impl.Mark,impl.Mark] -/
def kp_slices_IndexFunc_impl_Mark_impl_Mark : Nat → Keep
  | 2 => ⟨[0, 1, 4, 7, 8], [], [], .done, []⟩
  | _ => ⟨[], [], [], .done, []⟩
def esc_slices_IndexFunc_impl_Mark_impl_Mark : Nat → Bool
  | _ => false
def vc_slices_IndexFunc_impl_Mark_impl_Mark (w0 : World) (a0 a1 : Value) (σ : Vw) (R : Value → Vw → Prop) : Prop :=
  pLen a0 (fun v0 => pLoop (fun l1 K2 s3 => pBin Tryz.prog 3 BinOp.lss (vget l1 4) (vget l1 3) (fun v4 => pIf v4 (pIndexAddr 2 (vget l1 0) (vget l1 4) (fun v5 => pLoad w0 2 v5 s3 (fun g6 => pCallV (fun n7 l8 s9 K10 => AC Tryz.prog w0 n7 l8 s9 K10) (vget l1 1) ([Value.agg (⟨[g6 0, g6 1]⟩)]) s3 (fun v11 s12 => pIf v11 (K2 AX.ret [vget l1 0, vget l1 1, vget l1 4, vget l1 3, vget l1 4] s12) (pBin Tryz.prog 3 BinOp.add (vget l1 4) (Value.int IntKind.i64 1) (fun v13 => K2 AX.normal [vget l1 0, vget l1 1, vget l1 2, vget l1 3, v13] s12)))))) (K2 (AX.exit 0) [vget l1 0, vget l1 1, vget l1 2, vget l1 3, vget l1 4] s3))) [a0, a1, Value.int IntKind.i64 0, v0, Value.int IntKind.i64 0] σ (fun x14 l15 s16 => match x14 with | .normal => R (Value.int IntKind.i64 (-1)) s16 | .ret => R (vget l15 2) s16 | .exit i17 => (match Nat.beq i17 0 with | true => R (Value.int IntKind.i64 (-1)) s16 | false => False)))
theorem vc_slices_IndexFunc_impl_Mark_impl_Mark_eq (w0 : World) (a0 a1 : Value) (σ : Vw) (R : Value → Vw → Prop) : vc_slices_IndexFunc_impl_Mark_impl_Mark w0 a0 a1 σ R = den Tryz.prog w0 kp_slices_IndexFunc_impl_Mark_impl_Mark esc_slices_IndexFunc_impl_Mark_impl_Mark (Tryz.f156.body.getD .skip) (entry Tryz.f156.ntmps [a0, a1]) σ (retK Tryz.prog Tryz.f156.results.toList R) := by kernel_rfl
theorem ac_slices_IndexFunc_impl_Mark_impl_Mark {w0 : World} {a0 a1 : Value} {σ : Vw} {R : Value → Vw → Prop} (h : vc_slices_IndexFunc_impl_Mark_impl_Mark w0 a0 a1 σ R) : AC Tryz.prog w0 n_slices_IndexFunc_impl_Mark_impl_Mark [a0, a1] σ R := by
  refine ac_rule (fn := Tryz.f156) (c := Tryz.f156.body.getD .skip) kp_slices_IndexFunc_impl_Mark_impl_Mark esc_slices_IndexFunc_impl_Mark_impl_Mark Tryz.func156 (by kernel_rfl) (by kernel_rfl) ?_
  rw [← vc_slices_IndexFunc_impl_Mark_impl_Mark_eq]
  exact h

end Go.Proofs.YtkbhjejalkbogaaGreat

/- What each function owes, reckoned out, part 5. MADE BY PROGRAM (emit.py). -/
set_option linter.unusedVariables false
namespace Go.Proofs.YtkbhjejalkbogaaGreat
open Go Go.Av

end Go.Proofs.YtkbhjejalkbogaaGreat

/- What each function owes, reckoned out, part 6. MADE BY PROGRAM (emit.py). -/
set_option linter.unusedVariables false
namespace Go.Proofs.YtkbhjejalkbogaaGreat
open Go Go.Av

end Go.Proofs.YtkbhjejalkbogaaGreat

/- What each function owes: all parts. MADE BY PROGRAM (emit.py). -/


/- The lists of texts: their size, their copy, their comparison. -/
set_option linter.unusedVariables false
set_option linter.unusedSimpArgs false
namespace Go.Proofs.YtkbhjejalkbogaaGreat
open Go Go.Av

section
variable {w0 : World} {σ : Vw}

def sumS : List ByteArray → Nat
  | [] => 0
  | s :: r => s.size + sumS r
theorem sumS_take {xs : List ByteArray} : ∀ {j : Nat} {x : ByteArray}, xs[j]? = some x → sumS (xs.take (j + 1)) = sumS (xs.take j) + x.size := by
  induction xs with
  | nil => intro j x h; simp at h
  | cons a r ih =>
    intro j x h
    cases j with
    | zero => simp at h; subst h; simp [sumS]
    | succ j =>
      simp at h
      have := ih h
      simp only [List.take_succ_cons, sumS, this]
      omega
theorem sumS_le {xs : List ByteArray} : ∀ (j : Nat), sumS (xs.take j) ≤ sumS xs := by
  induction xs with
  | nil => intro j; simp [sumS]
  | cons a r ih =>
    intro j
    cases j with
    | zero => simp [sumS]
    | succ j => have := ih j; simp only [List.take_succ_cons, sumS]; omega

/-- What is left of n. -/
def left (n : Int) (t : Nat) : Int := if n - t < 0 then -1 else n - t

theorem szStringS {v : Value} {xs : List ByteArray} {n : Int} (h : RSl 1 RS (Av.get w0 σ) v xs) (hn : 0 ≤ n ∧ n ≤ 9223372036854775807) {R : Value → Vw → Prop} (hR : R (.int .i64 (left n (xs.length + sumS xs))) σ) : AC Tryz.prog w0 n_laws_szStringS [v, .int .i64 n] σ R := by
  refine ac_laws_szStringS ?_
  unfold vc_laws_szStringS
  have hl : xs.length ≤ 9223372036854775807 := by obtain ⟨_, _, _, h2, _⟩ := h; exact Nat.le_trans h2.1 h2.2
  rw [h.len, pBin_sub (by omega), pBin_lt, pIf_d]
  refine ⟨fun hlt => ?_, fun hge => ?_⟩
  · have : left n (xs.length + sumS xs) = -1 := by unfold left; rw [if_pos (by omega)]
    rw [this] at hR; exact hR
  · refine loop_rule (m := xs.length) (fun m l s => ∃ j, s = σ ∧ m + j = xs.length ∧ 0 ≤ n - xs.length - sumS (xs.take j) ∧ l = [v, .int .i64 (n - xs.length - sumS (xs.take j)), .int .i64 0, .int .i64 (j : Nat)]) ?_ ⟨0, rfl, by omega, by simp [sumS]; omega, by simp [sumS]⟩
    rintro m l s L ⟨j, rfl, hm, h0, rfl⟩ hL
    simp only [vget, List.getD_cons_zero, List.getD_cons_succ]
    rw [h.len, pBin_lt, pIf_d]
    refine ⟨fun hj => ?_, fun hj => ?_⟩
    · have hj' : j < xs.length := by omega
      have hx := List.getElem?_eq_getElem hj'
      refine h.at hx fun g hg => ?_
      obtain ⟨hg, hs⟩ := hg
      simp only [expl, List.cons.injEq, and_true] at hg
      have ht := sumS_take hx
      have hle := sumS_le (xs := xs) (j + 1)
      rw [hg, pLenS_s, pBin_sub (by omega), pBin_lt, pIf_d]
      refine ⟨fun hlt => ?_, fun hge => ?_⟩
      · have : left n (xs.length + sumS xs) = -1 := by unfold left; rw [if_pos (by omega)]
        rw [this] at hR; exact hR
      · rw [pBin_add (by omega)]
        refine hL _ _ (m - 1) (by omega) ⟨j + 1, rfl, by omega, by omega, ?_⟩
        rw [ht]
        congr 2
        · congr 1; omega
    · have hj' : j = xs.length := by omega
      subst hj'
      rw [List.take_length] at h0 ⊢
      have : left n (xs.length + sumS xs) = n - xs.length - sumS xs := by unfold left; rw [if_neg (by omega)]; omega
      rw [this] at hR
      exact hR
end
end Go.Proofs.YtkbhjejalkbogaaGreat

/- The lists of texts: their copy, their comparison. -/
set_option linter.unusedVariables false
set_option linter.unusedSimpArgs false
namespace Go.Proofs.YtkbhjejalkbogaaGreat
open Go Go.Av

section
variable {w0 : World} {σ : Vw}


theorem toStringS {v : Value} {xs : List ByteArray} (h : RSl 1 RS (Av.get w0 σ) v xs) (hb : xs.length ≤ 1000000000000) {R : Value → Vw → Prop}
    (hR : ∀ b ety, w0.heap.size ≤ b → σ b = none → R (.slice (some ⟨b, 0, none⟩) xs.length xs.length) (σ.put b ⟨ety, xs.map .string, xs.length, (0, 0)⟩)) : AC Tryz.prog w0 n_laws_toStringS [v] σ R := by
  refine ac_laws_toStringS ?_
  unfold vc_laws_toStringS
  rw [h.len]
  refine pMake_s (by omega) (by omega) fun b ety h1 h2 => ?_
  refine loop_rule (m := xs.length) (fun m l s => ∃ j, m + j = xs.length ∧ s = σ.put b ⟨ety, (xs.take j).map .string ++ List.replicate m (.string ⟨#[]⟩), xs.length * 1, (0, 0)⟩ ∧ l = [v, .slice (some ⟨b, 0, none⟩) xs.length xs.length, .int .i64 (j : Nat)]) ?_ ⟨0, by omega, by simp, rfl⟩
  rintro m l s L ⟨j, hm, rfl, rfl⟩ hL
  simp only [vget, List.getD_cons_zero, List.getD_cons_succ]
  rw [h.len, pBin_lt, pIf_d]
  refine ⟨fun hj => ?_, fun hj => ?_⟩
  · have hj' : j < xs.length := by omega
    have hx := List.getElem?_eq_getElem hj'
    refine RSl.at (h.mono (Keeps.put h2).le fun _ _ h => h) hx fun g hg => ?_
    obtain ⟨hg, hs⟩ := hg
    simp only [expl, List.cons.injEq, and_true] at hg
    obtain ⟨m', rfl⟩ : ∃ m', m = m' + 1 := ⟨m - 1, by omega⟩
    rw [hg]
    have e1 : ∀ A : Prop, pVal false 1 (.string xs[j]) A = A := fun A => propext (pVal1 rfl)
    simp only [e1]
    refine own_store (r := ⟨ety, (xs.take j).map .string ++ List.replicate (m' + 1) (.string ⟨#[]⟩), xs.length * 1, (0, 0)⟩) (A := (xs.take j).map .string) (old := [.string ⟨#[]⟩]) (new := [.string xs[j]]) (C := List.replicate m' (.string ⟨#[]⟩)) put_at (by simp [List.replicate_succ]) (by simp; omega) rfl rfl hj' ?_
    rw [pBin_add (by omega)]
    refine hL _ _ m' rfl ⟨j + 1, by omega, ?_, rfl⟩
    rw [put_put, List.take_add_one, hx]
    simp only [Option.toList_some, List.map_append, List.map_cons, List.map_nil, List.append_assoc]
  · have hj' : j = xs.length := by omega
    subst hj'
    have : m = 0 := by omega
    subst this
    have := hR b ety h1 h2
    simpa using this

theorem eqStringS {v v' : Value} {xs ys : List ByteArray} (h : RSl 1 RS (Av.get w0 σ) v xs) (h' : RSl 1 RS (Av.get w0 σ) v' ys) {R : Value → Vw → Prop} (hR : R (.bool (decide (xs = ys))) σ) : AC Tryz.prog w0 n_laws_eqStringS [v, v'] σ R := by
  refine ac_laws_eqStringS ?_
  unfold vc_laws_eqStringS
  have hl : xs.length ≤ 9223372036854775807 := by obtain ⟨_, _, _, h2, _⟩ := h; exact Nat.le_trans h2.1 h2.2
  rw [h.len, h'.len, pBin_ne, pIf_d]
  refine ⟨fun hne => ?_, fun heq => ?_⟩
  · have : xs ≠ ys := fun e => hne (by rw [e])
    simpa [this] using hR
  · have hlen : xs.length = ys.length := by omega
    refine loop_rule (m := xs.length) (fun m l s => ∃ j, s = σ ∧ m + j = xs.length ∧ xs.take j = ys.take j ∧ l = [v, v', .bool false, .int .i64 (j : Nat)]) ?_ ⟨0, rfl, by omega, by simp, rfl⟩
    rintro m l s L ⟨j, rfl, hm, ht, rfl⟩ hL
    simp only [vget, List.getD_cons_zero, List.getD_cons_succ]
    rw [h.len, pBin_lt, pIf_d]
    refine ⟨fun hj => ?_, fun hj => ?_⟩
    · have hj' : j < xs.length := by omega
      have hx := List.getElem?_eq_getElem hj'
      have hy := List.getElem?_eq_getElem (show j < ys.length by omega)
      refine h.at hx fun g hg => ?_
      obtain ⟨hg, hs⟩ := hg
      simp only [expl, List.cons.injEq, and_true] at hg
      refine h'.at hy fun g' hg' => ?_
      obtain ⟨hg', hs'⟩ := hg'
      simp only [expl, List.cons.injEq, and_true] at hg'
      rw [hg, hg', pBin_sne, pIf_d]
      refine ⟨fun hne => ?_, fun heq => ?_⟩
      · have : xs ≠ ys := fun e => by subst e; exact hne rfl
        simpa [this] using hR
      · rw [pBin_add (by omega)]
        have heq' : xs[j] = ys[j] := Decidable.not_not.1 heq
        refine hL _ _ (m - 1) (by omega) ⟨j + 1, rfl, by omega, ?_, rfl⟩
        rw [List.take_add_one, List.take_add_one, hx, hy, ht, heq']
    · have hj' : j = xs.length := by omega
      subst hj'
      rw [List.take_length, hlen, List.take_length] at ht
      subst ht
      simpa using hR
end
end Go.Proofs.YtkbhjejalkbogaaGreat

/- The lists of texts in rows of their own; marks (a path and a bool) and their lists: size, copy, comparison. -/
set_option linter.unusedVariables false
set_option linter.unusedSimpArgs false
namespace Go.Proofs.YtkbhjejalkbogaaGreat
open Go Go.Av

/-- A text needs no row. -/
def OStr (σ : Vw) (F : List Nat) (es : List Value) (s : ByteArray) : Prop := F = [] ∧ es = [.string s] ∧ s.size ≤ 9223372036854775807

section
variable {w0 : World} {σ : Vw}

theorem ok_str (w0 : World) : OOk w0 1 RS OStr := by
  refine ⟨?_, ?_, ?_, ?_, ?_, ?_⟩
  · rintro σ F es x ⟨_, h1, h2⟩; exact ⟨h1, h2⟩
  · rintro σ σ' F es x h _; exact h
  · rintro σ F es x ⟨rfl, _, _⟩ b hb; cases hb
  · rintro σ F es x ⟨rfl, _, _⟩; exact List.nodup_nil
  · rintro σ F es x ⟨_, rfl, _⟩; rfl
  · rintro σ F es x ⟨_, rfl, _⟩ c hc; rw [List.mem_singleton.1 hc]; rfl

abbrev OStrs (w0 : World) := OSl w0 1 OStr
theorem mono_rs {rd rd' : Addr → Option Value} {es : List Value} {x : ByteArray} (_ : Le rd rd') (h : RS rd es x) : RS rd' es x := h

theorem strs_le {rd : Addr → Option Value} {v : Value} {xs : List ByteArray} (h : RSl 1 RS rd v xs) : ∀ x, x ∈ xs → x.size ≤ 9223372036854775807 := by
  obtain ⟨A, cap, _, _, h3⟩ := h
  intro x hx
  obtain ⟨j, hj⟩ := List.getElem?_of_mem hx
  obtain ⟨a, es, _, _, _, h4⟩ := h3 j x hj
  exact h4.2

theorem flat_strs (xs : List ByteArray) : xs.map Value.string = (xs.map fun s => [Value.string s]).flatten := by
  induction xs with
  | nil => rfl
  | cons a r ih => simp [ih]

theorem own_strs {b cap : Nat} {r : Row} {xs : List ByteArray} (hb : w0.heap.size ≤ b) (hr : σ b = some r) (hc : r.cells = xs.map .string) (hm : xs.length ≤ cap ∧ cap ≤ 9223372036854775807) (hs : ∀ x, x ∈ xs → x.size ≤ 9223372036854775807) : OStrs w0 σ [b] (.slice (some ⟨b, 0, none⟩) xs.length cap) xs := by
  have hnil : (List.replicate xs.length ([] : List Nat)).flatten = [] := by simp
  refine ⟨Nat.le_trans hm.1 hm.2, by simp, .inr ⟨b, 0, cap, r, [], [], xs.map fun s => [.string s], List.replicate xs.length [], rfl, hm, hb, hr, by rw [hc, flat_strs]; simp, rfl, by simp, by simp, by rw [hnil], fun j c x f e1 e2 e3 => ?_⟩⟩
  rw [List.getElem?_map, e2] at e1
  cases e1
  refine ⟨?_, rfl, hs x (List.mem_of_getElem? e2)⟩
  rw [List.getElem?_replicate] at e3
  split at e3
  · cases e3; rfl
  · cases e3

theorem toStringS' {v : Value} {xs : List ByteArray} (h : RSl 1 RS (Av.get w0 σ) v xs) (hb : xs.length ≤ 1000000000000) {R : Value → Vw → Prop}
    (hR : ∀ v' F σ', Keeps σ σ' → OStrs w0 σ' F v' xs → (∀ b, b ∈ F → σ b = none) → R v' σ') : AC Tryz.prog w0 n_laws_toStringS [v] σ R :=
  toStringS h hb fun b ety h1 h2 => hR _ [b] _ (Keeps.put h2) (own_strs h1 put_at rfl ⟨Nat.le_refl _, h.le⟩ (strs_le h)) fun i hi => by rw [List.mem_singleton.1 hi]; exact h2

/-- A mark: a path, and a bool. -/
abbrev Mk := List ByteArray × Bool
def RMk (rd : Addr → Option Value) (es : List Value) (m : Mk) : Prop := ∃ v, es = [v, .bool m.2] ∧ RSl 1 RS rd v m.1
def OMk (w0 : World) (σ : Vw) (F : List Nat) (es : List Value) (m : Mk) : Prop := ∃ v, es = [v, .bool m.2] ∧ OStrs w0 σ F v m.1
def szMk (m : Mk) : Nat := m.1.length + sumS m.1

theorem OSl.one' {α : Type} {n : Nat} {O : Vw → List Nat → List Value → α → Prop} {F : List Nat} {v : Value} {xs : List α} (h : OSl w0 n O σ F v xs) : v.oneCell' = true := by
  obtain ⟨_, _, ⟨rfl, _⟩ | ⟨_, _, _, _, _, _, _, _, rfl, _⟩⟩ := h <;> rfl

theorem ok_mk (w0 : World) : OOk w0 2 RMk (OMk w0) := by
  refine ⟨?_, ?_, ?_, ?_, ?_, ?_⟩
  · rintro σ F es x ⟨v, h1, h2⟩; exact ⟨v, h1, h2.rel (ok_str w0)⟩
  · rintro σ σ' F es x ⟨v, h1, h2⟩ hF; exact ⟨v, h1, h2.frame (ok_str w0) hF⟩
  · rintro σ F es x ⟨v, h1, h2⟩; exact h2.dom (ok_str w0)
  · rintro σ F es x ⟨v, h1, h2⟩; exact h2.2.1
  · rintro σ F es x ⟨v, rfl, h2⟩; rfl
  · rintro σ F es x ⟨v, rfl, h2⟩ c hc
    simp at hc
    rcases hc with rfl | rfl
    · exact OSl.one' h2
    · rfl
theorem mono_mk {rd rd' : Addr → Option Value} {es : List Value} {x : Mk} (hl : Le rd rd') (h : RMk rd es x) : RMk rd' es x := by
  obtain ⟨v, h1, h2⟩ := h; exact ⟨v, h1, h2.mono hl fun _ _ h => h⟩

theorem szMark {es : List Value} {x : Mk} {m : Int} {R : Value → Vw → Prop} (h : RMk (Av.get w0 σ) es x) (hm : 0 ≤ m ∧ m ≤ 9223372036854775807) (hR : R (.int .i64 (Av.left m (szMk x))) σ) : AC Tryz.prog w0 n_laws_szMark [.agg ⟨es⟩, .int .i64 m] σ R := by
  obtain ⟨v, rfl, h2⟩ := h
  refine ac_laws_szMark ?_
  unfold vc_laws_szMark
  rw [pVal_2 h2.one rfl]
  refine szStringS h2 hm ?_
  rw [pBin_lt, pIf_d]
  have e : left m (x.1.length + sumS x.1) = Av.left m (szMk x) := rfl
  rw [e]
  refine ⟨fun hlt => ?_, fun _ => hR⟩
  rw [Av.left_neg] at hlt
  rw [Av.left_low hlt] at hR; exact hR

theorem szMarkS {v : Value} {xs : List Mk} {m : Int} (h : RSl 2 RMk (Av.get w0 σ) v xs) (hm : 0 ≤ m ∧ m ≤ 9223372036854775807) {R : Value → Vw → Prop} (hR : R (.int .i64 (Av.left m (xs.length + sumBy szMk xs))) σ) : AC Tryz.prog w0 n_laws_szMarkS [v, .int .i64 m] σ R := by
  refine ac_laws_szMarkS ?_
  have e : vc_laws_szMarkS w0 v (.int .i64 m) σ R = VszS Tryz.prog w0 3 2 n_laws_szMark v (.int .i64 m) σ R := by kernel_rfl
  rw [e]
  exact szS_gen (fun x _ es m R' h hm hR => szMark h hm hR) h hm hR

theorem toMark {es : List Value} {x : Mk} {R : Value → Vw → Prop} (h : RMk (Av.get w0 σ) es x) (hb : x.1.length ≤ 1000000000000) (hR : ∀ es' F σ', Keeps σ σ' → OMk w0 σ' F es' x → (∀ b, b ∈ F → σ b = none) → R (.agg ⟨es'⟩) σ') : AC Tryz.prog w0 n_laws_toMark [.agg ⟨es⟩] σ R := by
  obtain ⟨v, rfl, h2⟩ := h
  refine ac_laws_toMark ?_
  unfold vc_laws_toMark
  rw [pVal_2 h2.one rfl]
  refine toStringS' h2 hb fun v' F σ' hk ho hF => ?_
  rw [pVal1 (OSl.one' ho), pVal1 rfl, cellOf_agg, pVal_2 (OSl.one' ho) rfl]
  exact hR _ F σ' hk ⟨v', rfl, ho⟩ hF

theorem toMarkS {v : Value} {xs : List Mk} (h : RSl 2 RMk (Av.get w0 σ) v xs) (hl : xs.length ≤ 1000000000000) (hb : ∀ x, x ∈ xs → x.1.length ≤ 1000000000000) {R : Value → Vw → Prop}
    (hR : ∀ v' F σ', Keeps σ σ' → OSl w0 2 (OMk w0) σ' F v' xs → (∀ b, b ∈ F → σ b = none) → R v' σ') : AC Tryz.prog w0 n_laws_toMarkS [v] σ R := by
  refine ac_laws_toMarkS ?_
  have e : vc_laws_toMarkS w0 v σ R = VtoS Tryz.prog w0 3 t_impl_Mark 2 32 n_laws_toMark [.slice none 0 0, .bool false] v σ R := by kernel_rfl
  rw [e]
  exact toS_gen (n := 2) (Rel := RMk) (bytes := 32) rfl (ok_mk w0) (fun _ _ _ _ hl h => mono_mk hl h) (fun x hx s es R' _ h hR => toMark h (hb x hx) hR) h (by omega) hR

theorem eqMark {es es' : List Value} {x y : Mk} {R : Value → Vw → Prop} (h : RMk (Av.get w0 σ) es x) (h' : RMk (Av.get w0 σ) es' y) (hR : R (.bool (decide (x = y))) σ) : AC Tryz.prog w0 n_laws_eqMark [.agg ⟨es⟩, .agg ⟨es'⟩] σ R := by
  obtain ⟨v, rfl, h2⟩ := h
  obtain ⟨v', rfl, h2'⟩ := h'
  refine ac_laws_eqMark ?_
  unfold vc_laws_eqMark
  rw [pVal_2 h2.one rfl, pVal_2 h2'.one rfl]
  refine eqStringS h2 h2' ?_
  obtain ⟨a, p⟩ := x
  obtain ⟨b, q⟩ := y
  have eb : ∀ K : Value → Prop, pBin Tryz.prog 4 .neq (.bool p) (.bool q) K ↔ K (.bool !(p == q)) := fun K => pBin_b (by kernel_rfl) rfl
  rw [pUn_not, pIf_b]
  simp only [cellOf_agg, List.getD_cons_zero, List.getD_cons_succ]
  rw [eb, pIf_b]
  by_cases e1 : a = b
  · subst e1
    by_cases e2 : p = q
    · subst e2; simpa using hR
    · simpa [e2] using hR
  · simpa [e1] using hR

theorem eqMarkS {v v' : Value} {xs ys : List Mk} (h : RSl 2 RMk (Av.get w0 σ) v xs) (h' : RSl 2 RMk (Av.get w0 σ) v' ys) {R : Value → Vw → Prop} (hR : R (.bool (decide (xs = ys))) σ) : AC Tryz.prog w0 n_laws_eqMarkS [v, v'] σ R := by
  refine ac_laws_eqMarkS ?_
  have e : vc_laws_eqMarkS w0 v v' σ R = VeqS Tryz.prog w0 3 2 n_laws_eqMark v v' σ R := by kernel_rfl
  rw [e]
  exact eqS_gen (fun x _ y es es' R' h h' hR => eqMark h h' hR) h h' hR
end
end Go.Proofs.YtkbhjejalkbogaaGreat

/- Names: their letters and their length. -/
set_option linter.unusedVariables false
set_option linter.unusedSimpArgs false
namespace Go.Proofs.YtkbhjejalkbogaaGreat
open Go Go.Av

theorem pIndexStr_s {s : ByteArray} {j : Nat} {K : Value → Prop} (h : j < s.size) (hK : K (.int .u8 ((s[j]'h).toNat : Int))) : pIndexStr (.string s) (.int .i64 j) K :=
  ⟨s, .i64, j, rfl, rfl, by omega, h, hK⟩

def okB (n : Nat) : Prop := (97 ≤ n ∧ n ≤ 122) ∨ (48 ≤ n ∧ n ≤ 57)
/-- Within two bounds. -/
def inB (n lo hi : Int) : Bool := decide (lo ≤ n ∧ n ≤ hi)
def lettersOk (s : ByteArray) : Prop := ∀ (i : Nat) (h : i < s.size), okB (s[i]'h).toNat
open Classical in
noncomputable def nameOk (s : ByteArray) : Bool := decide (lettersOk s) && inB s.size 1 5

section
variable {w0 : World} {σ : Vw}

theorem spec_In {n lo hi : Int} {R : Value → Vw → Prop} (hR : R (.bool (inB n lo hi)) σ) : AC Tryz.prog w0 n_spec_l1In [.int .i64 n, .int .i64 lo, .int .i64 hi] σ R := by
  refine ac_spec_l1In ?_
  unfold vc_spec_l1In
  rw [pBin_ge, pIf_d]
  refine ⟨fun h => ?_, fun h => ?_⟩
  · rw [pBin_le]
    have : inB n lo hi = decide (n ≤ hi) := by simp [inB, h]
    rw [this] at hR; exact hR
  · have : inB n lo hi = false := by simp [inB, h]
    rw [this] at hR; exact hR
theorem impl_within {n lo hi : Int} {R : Value → Vw → Prop} (hR : R (.bool (inB n lo hi)) σ) : AC Tryz.prog w0 n_impl_within [.int .i64 n, .int .i64 lo, .int .i64 hi] σ R := by
  refine ac_impl_within ?_
  unfold vc_impl_within
  rw [pBin_ge, pIf_d]
  refine ⟨fun h => ?_, fun h => ?_⟩
  · rw [pBin_le]
    have : inB n lo hi = decide (n ≤ hi) := by simp [inB, h]
    rw [this] at hR; exact hR
  · have : inB n lo hi = false := by simp [inB, h]
    rw [this] at hR; exact hR

theorem nameOk_bad {s : ByteArray} {j : Nat} (h : j < s.size) (hb : ¬ okB (s[j]'h).toNat) : nameOk s = false := by
  have : ¬ lettersOk s := fun h' => hb (h' j h)
  simp [nameOk, this]
theorem nameOk_good {s : ByteArray} (h : lettersOk s) : nameOk s = inB s.size 1 5 := by simp [nameOk, h]

theorem spec_nameOk {s : ByteArray} (hs : s.size ≤ 9223372036854775807) {R : Value → Vw → Prop} (hR : R (.bool (nameOk s)) σ) : AC Tryz.prog w0 n_spec_l1NameOk [.string s] σ R := by
  refine ac_spec_l1NameOk ?_
  unfold vc_spec_l1NameOk
  refine loop_rule (m := s.size) (fun m l t => ∃ j, t = σ ∧ m + j = s.size ∧ (∀ (i : Nat) (h : i < s.size), i < j → okB (s[i]'h).toNat) ∧ l = [.string s, .bool false, .int .i64 (j : Nat)]) ?_ ⟨0, rfl, by omega, fun i h h' => by omega, rfl⟩
  rintro m l t L ⟨j, rfl, hm, ht, rfl⟩ hL
  simp only [vget, List.getD_cons_zero, List.getD_cons_succ]
  rw [pLenS_s, pBin_lt, pIf_d]
  refine ⟨fun hj => ?_, fun hj => ?_⟩
  · have hj' : j < s.size := by omega
    have bad : ¬ okB (s[j]'hj').toNat → R (.bool false) t := fun h => by rw [nameOk_bad hj' h] at hR; exact hR
    have good : okB (s[j]'hj').toNat → L [.string s, .bool false, .int .i64 ((j + 1 : Nat) : Int)] t := fun h => hL _ _ (m - 1) (by omega) ⟨j + 1, rfl, by omega, fun i hi hij => by
      by_cases e : i = j
      · subst e; exact h
      · exact ht i hi (by omega), rfl⟩
    have add : ∀ K : Value → Prop, pBin Tryz.prog 3 .add (.int .i64 j) (.int .i64 1) K ↔ K (.int .i64 ((j + 1 : Nat) : Int)) := fun K => pBin_add (by omega)
    have idx : ∀ K : Value → Prop, K (.int .u8 ((s[j]'hj').toNat : Int)) → pIndexStr (.string s) (.int .i64 j) K := fun K hK => pIndexStr_s hj' hK
    simp only [add, pUn_not, pIf_b, Bool.not_true, Bool.not_false, forall_const, Bool.false_eq_true, false_imp_iff, true_imp_iff, true_and, and_true, reduceCtorEq]
    refine idx _ ?_
    rw [pBin_ge, pIf_d]
    refine ⟨fun h1 => idx _ ?_, fun h1 => idx _ ?_⟩
    · rw [pBin_le, pIf_d]
      refine ⟨fun h2 => good (.inl ⟨by omega, by omega⟩), fun h2 => idx _ ?_⟩
      rw [pBin_ge, pIf_d]
      refine ⟨fun h3 => idx _ ?_, fun h3 => bad fun h => by unfold okB at h; omega⟩
      rw [pBin_le, pUn_not, pIf_b]
      refine ⟨fun h4 => bad fun h => ?_, fun h4 => good ?_⟩
      · unfold okB at h; simp at h4; omega
      · simp at h4; exact .inr ⟨by omega, by omega⟩
    · rw [pBin_ge, pIf_d]
      refine ⟨fun h3 => idx _ ?_, fun h3 => bad fun h => by unfold okB at h; omega⟩
      rw [pBin_le, pUn_not, pIf_b]
      refine ⟨fun h4 => bad fun h => ?_, fun h4 => good ?_⟩
      · unfold okB at h; simp at h4; omega
      · simp at h4; exact .inr ⟨by omega, by omega⟩
  · have hj' : j = s.size := by omega
    subst hj'
    show pLenS (.string s) _
    rw [pLenS_s]
    refine spec_In ?_
    rw [nameOk_good fun i h => ht i h h] at hR
    exact hR

theorem impl_nameOk {s : ByteArray} (hs : s.size ≤ 9223372036854775807) {R : Value → Vw → Prop} (hR : R (.bool (nameOk s)) σ) : AC Tryz.prog w0 n_impl_nameOk [.string s] σ R := by
  refine ac_impl_nameOk ?_
  unfold vc_impl_nameOk
  rw [pLenS_s]
  refine loop_rule (m := s.size) (fun m l t => ∃ j, t = σ ∧ m + j = s.size ∧ (∀ (i : Nat) (h : i < s.size), i < j → okB (s[i]'h).toNat) ∧ l = [.string s, .bool false, .int .i64 s.size, .int .i64 (j : Nat)]) ?_ ⟨0, rfl, by omega, fun i h h' => by omega, rfl⟩
  rintro m l t L ⟨j, rfl, hm, ht, rfl⟩ hL
  simp only [vget, List.getD_cons_zero, List.getD_cons_succ]
  rw [pBin_lt, pIf_d]
  refine ⟨fun hj => ?_, fun hj => ?_⟩
  · have hj' : j < s.size := by omega
    have bad : ¬ okB (s[j]'hj').toNat → R (.bool false) t := fun h => by rw [nameOk_bad hj' h] at hR; exact hR
    have good : okB (s[j]'hj').toNat → L [.string s, .bool false, .int .i64 s.size, .int .i64 ((j + 1 : Nat) : Int)] t := fun h => hL _ _ (m - 1) (by omega) ⟨j + 1, rfl, by omega, fun i hi hij => by
      by_cases e : i = j
      · subst e; exact h
      · exact ht i hi (by omega), rfl⟩
    have add : ∀ K : Value → Prop, pBin Tryz.prog 3 .add (.int .i64 j) (.int .i64 1) K ↔ K (.int .i64 ((j + 1 : Nat) : Int)) := fun K => pBin_add (by omega)
    have idx : ∀ K : Value → Prop, K (.int .u8 ((s[j]'hj').toNat : Int)) → pIndexStr (.string s) (.int .i64 j) K := fun K hK => pIndexStr_s hj' hK
    simp only [add]
    refine idx _ ?_
    rw [pBin_lt, pIf_d]
    refine ⟨fun h1 => idx _ ?_, fun h1 => idx _ ?_⟩
    · rw [pBin_lt, pIf_d]
      refine ⟨fun h2 => bad fun h => by unfold okB at h; omega, fun h2 => idx _ ?_⟩
      rw [pBin_gt, pIf_d]
      exact ⟨fun h3 => bad fun h => by unfold okB at h; omega, fun h3 => good (.inr ⟨by omega, by omega⟩)⟩
    · rw [pBin_gt, pIf_d]
      refine ⟨fun h2 => idx _ ?_, fun h2 => good (.inl ⟨by omega, by omega⟩)⟩
      rw [pBin_lt, pIf_d]
      refine ⟨fun h2 => bad fun h => by unfold okB at h; omega, fun h2 => idx _ ?_⟩
      rw [pBin_gt, pIf_d]
      exact ⟨fun h3 => bad fun h => by unfold okB at h; omega, fun h3 => good (.inr ⟨by omega, by omega⟩)⟩
  · have hj' : j = s.size := by omega
    subst hj'
    show pLenS (.string s) _
    rw [pLenS_s]
    refine impl_within ?_
    rw [nameOk_good fun i h => ht i h h] at hR
    exact hR
end
end Go.Proofs.YtkbhjejalkbogaaGreat

/- Paths: their names, their order, what lies within what. -/
set_option linter.unusedVariables false
set_option linter.unusedSimpArgs false
namespace Go.Proofs.YtkbhjejalkbogaaGreat
open Go Go.Av

def strLt (a b : ByteArray) : Bool := Op.bytesLess a.toList b.toList
theorem bl_irrefl : ∀ (a : List UInt8), Op.bytesLess a a = false
  | [] => rfl
  | x :: r => by simp [Op.bytesLess, bl_irrefl r]
theorem bl_total : ∀ (a b : List UInt8), Op.bytesLess a b = false → Op.bytesLess b a = false → a = b
  | [], [], _, _ => rfl
  | [], _ :: _, h, _ => by simp [Op.bytesLess] at h
  | _ :: _, [], _, h => by simp [Op.bytesLess] at h
  | x :: r, y :: q, h, h' => by
    simp only [Op.bytesLess] at h h'
    by_cases e : x = y
    · subst e
      simp at h h'
      rw [bl_total r q h h']
    · exfalso
      rcases UInt8.lt_or_lt_of_ne e with h1 | h1
      · simp [h1] at h
      · simp [h1] at h'
theorem strLt_irrefl (a : ByteArray) : strLt a a = false := bl_irrefl _
theorem strLt_total {a b : ByteArray} (h : strLt a b = false) (h' : strLt b a = false) : a = b := bytes_inj (bl_total _ _ h h')

noncomputable def allNames : List ByteArray → Bool
  | [] => true
  | s :: r => nameOk s && allNames r
theorem allNames_iff {xs : List ByteArray} : allNames xs = true ↔ ∀ (j : Nat) (x : ByteArray), xs[j]? = some x → nameOk x = true := by
  induction xs with
  | nil => simp [allNames]
  | cons a r ih =>
    simp only [allNames, Bool.and_eq_true, ih]
    constructor
    · rintro ⟨h1, h2⟩ j x hj
      cases j with
      | zero => simp at hj; subst hj; exact h1
      | succ j => exact h2 j x (by simpa using hj)
    · intro h
      exact ⟨h 0 a rfl, fun j x hj => h (j + 1) x (by simpa using hj)⟩
theorem allNames_bad {xs : List ByteArray} {j : Nat} {x : ByteArray} (hj : xs[j]? = some x) (h : nameOk x = false) : allNames xs = false := by
  cases hc : allNames xs with
  | false => rfl
  | true => have := allNames_iff.1 hc j x hj; rw [h] at this; cases this

def lexLt : List ByteArray → List ByteArray → Bool
  | _, [] => false
  | [], _ :: _ => true
  | a :: r, b :: q => if a = b then lexLt r q else strLt a b

theorem lexLt_at : ∀ {j : Nat} {xs ys : List ByteArray} {a b : ByteArray}, xs.take j = ys.take j → xs[j]? = some a → ys[j]? = some b → a ≠ b → lexLt xs ys = strLt a b
  | 0, x :: xs, y :: ys, a, b, _, h1, h2, h3 => by simp at h1 h2; subst h1 h2; simp [lexLt, h3]
  | j + 1, x :: xs, y :: ys, a, b, h, h1, h2, h3 => by
    simp only [List.take_succ_cons, List.cons.injEq] at h
    obtain ⟨rfl, h⟩ := h
    simp only [lexLt, if_true]
    exact lexLt_at h (by simpa using h1) (by simpa using h2) h3
  | _, [], _, a, b, _, h1, _, _ => by simp at h1
  | _, _ :: _, [], a, b, _, _, h2, _ => by simp at h2
theorem lexLt_end : ∀ {j : Nat} {xs ys : List ByteArray}, xs.take j = ys.take j → (j = xs.length ∧ j ≤ ys.length ∨ j = ys.length ∧ j ≤ xs.length) → lexLt xs ys = decide (xs.length < ys.length)
  | 0, xs, ys, _, h => by
    rcases h with ⟨h, _⟩ | ⟨h, _⟩
    · have : xs = [] := List.length_eq_zero_iff.1 h.symm
      subst this
      cases ys <;> simp [lexLt]
    · have : ys = [] := List.length_eq_zero_iff.1 h.symm
      subst this
      simp [lexLt]
  | j + 1, x :: xs, y :: ys, h, hl => by
    simp only [List.take_succ_cons, List.cons.injEq] at h
    obtain ⟨rfl, h⟩ := h
    simp only [lexLt, if_true, List.length_cons]
    rw [lexLt_end h (by simp at hl; omega)]
    simp
  | j + 1, [], ys, _, hl => by simp at hl
  | j + 1, _ :: _, [], _, hl => by simp at hl

/-- The path b lies at or under a. -/
def within (b a : List ByteArray) : Bool := decide (a.length ≤ b.length ∧ b.take a.length = a)


section
variable {w0 : World} {σ : Vw}

theorem pBin_slt {P : Program} {T : Nat} {a b : ByteArray} {K : Value → Prop} : pBin P T .lss (.string a) (.string b) K ↔ K (.bool (strLt a b)) := pBin_s rfl
theorem pBin_sgt {P : Program} {T : Nat} {a b : ByteArray} {K : Value → Prop} : pBin P T .gtr (.string a) (.string b) K ↔ K (.bool (!(strLt a b || decide (a = b)))) := pBin_s (by simp only [astr, toList_eq]; rfl)

theorem RSl.at1 {v : Value} {xs : List ByteArray} (h : RSl 1 RS (Av.get w0 σ) v xs) {j : Nat} {x : ByteArray} (hj : xs[j]? = some x) {K : (Nat → Value) → Prop} (hK : ∀ g : Nat → Value, g 0 = .string x → x.size ≤ 9223372036854775807 → K g) :
    pIndexAddr 1 v (.int .i64 j) fun p => pLoad w0 1 p σ K := by
  refine h.at hj fun g hg => ?_
  obtain ⟨hg, hs⟩ := hg
  simp only [expl, List.cons.injEq, and_true] at hg
  exact hK g hg hs

theorem spec_PathOk {v : Value} {xs : List ByteArray} (h : RSl 1 RS (Av.get w0 σ) v xs) {R : Value → Vw → Prop} (hR : R (.bool (allNames xs && inB xs.length 1 4)) σ) : AC Tryz.prog w0 n_spec_l2PathOk [v] σ R := by
  refine ac_spec_l2PathOk ?_
  unfold vc_spec_l2PathOk
  have hl := h.le
  refine loop_rule (m := xs.length) (fun m l t => ∃ j, t = σ ∧ m + j = xs.length ∧ (∀ (i : Nat) (x : ByteArray), i < j → xs[i]? = some x → nameOk x = true) ∧ l = [v, .bool false, .int .i64 (j : Nat)]) ?_ ⟨0, rfl, by omega, fun i x h => by omega, rfl⟩
  rintro m l t L ⟨j, rfl, hm, ht, rfl⟩ hL
  simp only [vget, List.getD_cons_zero, List.getD_cons_succ]
  rw [h.len, pBin_lt, pIf_d]
  refine ⟨fun hj => ?_, fun hj => ?_⟩
  · have hj' : j < xs.length := by omega
    have hx := List.getElem?_eq_getElem hj'
    refine RSl.at1 h hx fun g hg hs => ?_
    rw [hg]
    refine spec_nameOk hs ?_
    rw [pUn_not, pIf_b]
    refine ⟨fun hb => ?_, fun hb => ?_⟩
    · rw [allNames_bad hx (by simpa using hb)] at hR; exact hR
    · rw [pBin_add (by omega)]
      refine hL _ _ (m - 1) (by omega) ⟨j + 1, rfl, by omega, fun i x hi he => ?_, rfl⟩
      by_cases e : i = j
      · subst e; rw [hx] at he; cases he; simpa using hb
      · exact ht i x (by omega) he
  · have hj' : j = xs.length := by omega
    subst hj'
    show pLen v _
    rw [h.len]
    refine spec_In ?_
    rw [allNames_iff.2 fun i x he => ht i x (List.getElem?_eq_some_iff.1 he).1 he] at hR
    exact hR

theorem impl_namesOk {v : Value} {xs : List ByteArray} {lo : Int} (h : RSl 1 RS (Av.get w0 σ) v xs) {R : Value → Vw → Prop} (hR : R (.bool (allNames xs && inB xs.length lo 4)) σ) : AC Tryz.prog w0 n_impl_namesOk [v, .int .i64 lo] σ R := by
  refine ac_impl_namesOk ?_
  unfold vc_impl_namesOk
  have hl := h.le
  rw [h.len]
  refine loop_rule (m := xs.length) (fun m l t => ∃ j, t = σ ∧ m + j = xs.length ∧ (∀ (i : Nat) (x : ByteArray), i < j → xs[i]? = some x → nameOk x = true) ∧ l = [v, .int .i64 lo, .bool false, v, .int .i64 xs.length, .int .i64 (j : Nat)]) ?_ ⟨0, rfl, by omega, fun i x h => by omega, rfl⟩
  rintro m l t L ⟨j, rfl, hm, ht, rfl⟩ hL
  simp only [vget, List.getD_cons_zero, List.getD_cons_succ]
  rw [pBin_lt, pIf_d]
  refine ⟨fun hj => ?_, fun hj => ?_⟩
  · have hj' : j < xs.length := by omega
    have hx := List.getElem?_eq_getElem hj'
    refine RSl.at1 h hx fun g hg hs => ?_
    rw [hg]
    refine impl_nameOk hs ?_
    rw [pUn_not, pIf_b]
    refine ⟨fun hb => ?_, fun hb => ?_⟩
    · rw [allNames_bad hx (by simpa using hb)] at hR; exact hR
    · rw [pBin_add (by omega)]
      refine hL _ _ (m - 1) (by omega) ⟨j + 1, rfl, by omega, fun i x hi he => ?_, rfl⟩
      by_cases e : i = j
      · subst e; rw [hx] at he; cases he; simpa using hb
      · exact ht i x (by omega) he
  · have hj' : j = xs.length := by omega
    subst hj'
    show pLen v _
    rw [h.len]
    refine impl_within ?_
    rw [allNames_iff.2 fun i x he => ht i x (List.getElem?_eq_some_iff.1 he).1 he] at hR
    exact hR
end
end Go.Proofs.YtkbhjejalkbogaaGreat

/- Paths: their order, what lies within what; marks. -/
set_option linter.unusedVariables false
set_option linter.unusedSimpArgs false
namespace Go.Proofs.YtkbhjejalkbogaaGreat
open Go Go.Av

section
variable {w0 : World} {σ : Vw}

theorem spec_Less {v v' : Value} {xs ys : List ByteArray} (h : RSl 1 RS (Av.get w0 σ) v xs) (h' : RSl 1 RS (Av.get w0 σ) v' ys) {R : Value → Vw → Prop} (hR : R (.bool (lexLt xs ys)) σ) : AC Tryz.prog w0 n_spec_l11Less [v, v'] σ R := by
  refine ac_spec_l11Less ?_
  unfold vc_spec_l11Less
  have hl := h.le
  refine loop_rule (m := xs.length) (fun m l t => ∃ j, t = σ ∧ m + j = xs.length ∧ j ≤ ys.length ∧ xs.take j = ys.take j ∧ l = [v, v', .bool false, .int .i64 (j : Nat)]) ?_ ⟨0, rfl, by omega, by omega, by simp, rfl⟩
  rintro m l t L ⟨j, rfl, hm, hy, ht, rfl⟩ hL
  simp only [vget, List.getD_cons_zero, List.getD_cons_succ]
  have fin : j = xs.length ∨ j = ys.length → pLen v (fun v21 => pLen v' (fun v22 => pBin Tryz.prog 3 .lss v21 v22 (fun v23 => R v23 t))) := by
    intro hj
    rw [h.len, h'.len, pBin_lt]
    rw [lexLt_end ht (by omega)] at hR
    have : (decide (xs.length < ys.length)) = decide ((xs.length : Int) < ys.length) := by congr 1; apply propext; omega
    rw [this] at hR; exact hR
  rw [h.len, pBin_lt, pIf_d]
  refine ⟨fun hj => ?_, fun hj => fin (.inl (by omega))⟩
  rw [h'.len, pBin_lt, pIf_d]
  refine ⟨fun hj2 => ?_, fun hj2 => fin (.inr (by omega))⟩
  have hx := List.getElem?_eq_getElem (show j < xs.length by omega)
  have hy' := List.getElem?_eq_getElem (show j < ys.length by omega)
  refine RSl.at1 h hx fun g hg hs => ?_
  refine RSl.at1 h' hy' fun g' hg' hs' => ?_
  rw [hg, hg', pBin_sne, pIf_d]
  refine ⟨fun hne => ?_, fun heq => ?_⟩
  · refine RSl.at1 h hx fun g hg hs => ?_
    refine RSl.at1 h' hy' fun g' hg' hs' => ?_
    rw [hg, hg', pBin_slt]
    rw [lexLt_at ht hx hy' hne] at hR; exact hR
  · have heq' := Decidable.not_not.1 heq
    rw [pBin_add (by omega)]
    exact hL _ _ (m - 1) (by omega) ⟨j + 1, rfl, by omega, by omega, by rw [List.take_add_one, List.take_add_one, hx, hy', ht, heq'], rfl⟩

/-- What Go's comparison of texts gives. -/
def cmpS (a b : ByteArray) : Int := if strLt a b then -1 else if a = b then 0 else 1
theorem cmp_Compare {a b : ByteArray} {R : Value → Vw → Prop} (hR : R (.int .i64 (cmpS a b)) σ) : AC Tryz.prog w0 n_cmp_Compare_string [.string a, .string b] σ R := by
  refine ac_cmp_Compare_string ?_
  unfold vc_cmp_Compare_string
  have nan : ∀ (a : ByteArray) (s : Vw) (K : Value → Vw → Prop), K (.bool false) s → AC Tryz.prog w0 n_cmp_isNaN_string [.string a] s K := fun a s K hK => by
    refine ac_cmp_isNaN_string ?_
    unfold vc_cmp_isNaN_string
    rw [pBin_sne]; simpa using hK
  refine nan _ _ _ (nan _ _ _ ?_)
  rw [pIf_b, pIf_b, pIf_b]
  refine ⟨nofun, fun _ => ⟨nofun, fun _ => ?_⟩⟩
  rw [pBin_slt, pIf_b]
  refine ⟨fun h => by simpa [cmpS, h] using hR, fun h => ?_⟩
  rw [pBin_sgt, pIf_b]
  by_cases e : a = b
  · subst e; simpa [cmpS, h] using hR
  · simpa [cmpS, h, e] using hR

theorem Compare {v v' : Value} {xs ys : List ByteArray} (h : RSl 1 RS (Av.get w0 σ) v xs) (h' : RSl 1 RS (Av.get w0 σ) v' ys) {R : Value → Vw → Prop} (hR : ∀ c : Int, (c < 0 ↔ lexLt xs ys = true) → R (.int .i64 c) σ) : AC Tryz.prog w0 n_slices_Compare_string_string [v, v'] σ R := by
  refine ac_slices_Compare_string_string ?_
  unfold vc_slices_Compare_string_string
  have hl := h.le
  rw [h.len]
  refine loop_rule (m := xs.length) (fun m l t => ∃ j, t = σ ∧ m + j = xs.length ∧ j ≤ ys.length ∧ xs.take j = ys.take j ∧ l = [v, v', .int .i64 0, v, .int .i64 xs.length, .int .i64 (j : Nat)]) ?_ ⟨0, rfl, by omega, by omega, by simp, rfl⟩
  rintro m l t L ⟨j, rfl, hm, hy, ht, rfl⟩ hL
  simp only [vget, List.getD_cons_zero, List.getD_cons_succ]
  rw [pBin_lt, pIf_d]
  refine ⟨fun hj => ?_, fun hj => ?_⟩
  · have hx := List.getElem?_eq_getElem (show j < xs.length by omega)
    refine RSl.at1 h hx fun g hg hs => ?_
    rw [h'.len, pBin_ge, pIf_d]
    refine ⟨fun hj2 => ?_, fun hj2 => ?_⟩
    · refine hR 1 ?_
      rw [lexLt_end ht (by omega)]
      simp; omega
    · have hy' := List.getElem?_eq_getElem (show j < ys.length by omega)
      refine RSl.at1 h' hy' fun g' hg' hs' => ?_
      rw [hg, hg']
      refine cmp_Compare ?_
      rw [pBin_ne, pIf_d]
      refine ⟨fun hne => ?_, fun heq => ?_⟩
      · refine hR _ ?_
        have hab : xs[j] ≠ ys[j] := fun e => by
          apply hne
          rw [e, cmpS, strLt_irrefl]; simp
        rw [lexLt_at ht hx hy' hab]
        unfold cmpS
        cases hlt : strLt xs[j] ys[j] <;> simp [hab]
      · have heq' : xs[j] = ys[j] := by
          unfold cmpS at heq
          split at heq
          · simp at heq
          · split at heq
            · assumption
            · simp at heq
        rw [pBin_add (by omega)]
        exact hL _ _ (m - 1) (by omega) ⟨j + 1, rfl, by omega, by omega, by rw [List.take_add_one, List.take_add_one, hx, hy', ht, heq'], rfl⟩
  · have hj' : j = xs.length := by omega
    show pLen v _
    rw [h.len, h'.len, pBin_lt, pIf_d]
    have e := lexLt_end ht (by omega)
    refine ⟨fun hlt => hR (-1) ?_, fun hlt => hR 0 ?_⟩
    · rw [e]; simp; omega
    · rw [e]; simp; omega

theorem within_false {xs ys : List ByteArray} {j : Nat} {a b : ByteArray} (hx : xs[j]? = some a) (hy : ys[j]? = some b) (h : a ≠ b) : within xs ys = false := by
  unfold within
  simp only [decide_eq_false_iff_not]
  rintro ⟨h1, h2⟩
  have hlt := (List.getElem?_eq_some_iff.1 hy).1
  rw [← h2, List.getElem?_take_of_lt hlt, hx] at hy
  cases hy; exact h rfl

theorem spec_Within {v v' : Value} {xs ys : List ByteArray} (h : RSl 1 RS (Av.get w0 σ) v xs) (h' : RSl 1 RS (Av.get w0 σ) v' ys) {R : Value → Vw → Prop} (hR : R (.bool (within xs ys)) σ) : AC Tryz.prog w0 n_spec_l2Within [v, v'] σ R := by
  refine ac_spec_l2Within ?_
  unfold vc_spec_l2Within
  have hl := h'.le
  rw [h.len, h'.len, pBin_lt, pIf_d]
  refine ⟨fun hlt => ?_, fun hge => ?_⟩
  · have : within xs ys = false := by unfold within; simp; omega
    rw [this] at hR; exact hR
  refine loop_rule (m := ys.length) (fun m l t => ∃ j, t = σ ∧ m + j = ys.length ∧ xs.take j = ys.take j ∧ l = [v, v', .bool false, .int .i64 (j : Nat)]) ?_ ⟨0, rfl, by omega, by simp, rfl⟩
  rintro m l t L ⟨j, rfl, hm, ht, rfl⟩ hL
  simp only [vget, List.getD_cons_zero, List.getD_cons_succ]
  rw [h'.len, pBin_lt, pIf_d]
  refine ⟨fun hj => ?_, fun hj => ?_⟩
  · have hx := List.getElem?_eq_getElem (show j < xs.length by omega)
    have hy' := List.getElem?_eq_getElem (show j < ys.length by omega)
    refine RSl.at1 h hx fun g hg hs => ?_
    refine RSl.at1 h' hy' fun g' hg' hs' => ?_
    rw [hg, hg', pBin_sne, pIf_d]
    refine ⟨fun hne => ?_, fun heq => ?_⟩
    · rw [within_false hx hy' hne] at hR; exact hR
    · have heq' := Decidable.not_not.1 heq
      rw [pBin_add (by omega)]
      exact hL _ _ (m - 1) (by omega) ⟨j + 1, rfl, by omega, by rw [List.take_add_one, List.take_add_one, hx, hy', ht, heq'], rfl⟩
  · have hj' : j = ys.length := by omega
    subst hj'
    rw [List.take_length] at ht
    have : within xs ys = true := by unfold within; simp [ht]; omega
    rw [this] at hR; exact hR

theorem impl_begins {v v' : Value} {xs ys : List ByteArray} (h : RSl 1 RS (Av.get w0 σ) v xs) (h' : RSl 1 RS (Av.get w0 σ) v' ys) {R : Value → Vw → Prop} (hR : R (.bool (within xs ys)) σ) : AC Tryz.prog w0 n_impl_begins [v, v'] σ R := by
  refine ac_impl_begins ?_
  unfold vc_impl_begins
  have hl := h'.le
  rw [h.len, h'.len, pBin_lt, pIf_d]
  refine ⟨fun hlt => ?_, fun hge => ?_⟩
  · have : within xs ys = false := by unfold within; simp; omega
    rw [this] at hR; exact hR
  rw [h'.len]
  refine loop_rule (m := ys.length) (fun m l t => ∃ j, t = σ ∧ m + j = ys.length ∧ xs.take j = ys.take j ∧ l = [v, v', .bool false, .int .i64 ys.length, .int .i64 (j : Nat)]) ?_ ⟨0, rfl, by omega, by simp, rfl⟩
  rintro m l t L ⟨j, rfl, hm, ht, rfl⟩ hL
  simp only [vget, List.getD_cons_zero, List.getD_cons_succ]
  rw [pBin_lt, pIf_d]
  refine ⟨fun hj => ?_, fun hj => ?_⟩
  · have hx := List.getElem?_eq_getElem (show j < xs.length by omega)
    have hy' := List.getElem?_eq_getElem (show j < ys.length by omega)
    refine RSl.at1 h hx fun g hg hs => ?_
    refine RSl.at1 h' hy' fun g' hg' hs' => ?_
    rw [hg, hg', pBin_sne, pIf_d]
    refine ⟨fun hne => ?_, fun heq => ?_⟩
    · rw [within_false hx hy' hne] at hR; exact hR
    · have heq' := Decidable.not_not.1 heq
      rw [pBin_add (by omega)]
      exact hL _ _ (m - 1) (by omega) ⟨j + 1, rfl, by omega, by rw [List.take_add_one, List.take_add_one, hx, hy', ht, heq'], rfl⟩
  · have hj' : j = ys.length := by omega
    subst hj'
    rw [List.take_length] at ht
    have : within xs ys = true := by unfold within; simp [ht]; omega
    rw [this] at hR; exact hR

noncomputable def markOkB (x : Mk) : Bool := if x.1 = [] then x.2 else allNames x.1 && inB x.1.length 1 4

theorem spec_MarkOk {es : List Value} {x : Mk} {R : Value → Vw → Prop} (h : RMk (Av.get w0 σ) es x) (hR : R (.bool (markOkB x)) σ) : AC Tryz.prog w0 n_spec_l11MarkOk [.agg ⟨es⟩] σ R := by
  obtain ⟨v, rfl, h2⟩ := h
  refine ac_spec_l11MarkOk ?_
  unfold vc_spec_l11MarkOk
  rw [pVal_2 h2.one rfl]
  show pLen v _
  rw [h2.len, pBin_eq, pIf_d]
  refine ⟨fun h0 => ?_, fun h0 => ?_⟩
  · have : x.1 = [] := List.length_eq_zero_iff.1 (by omega)
    rw [markOkB, if_pos this] at hR; exact hR
  · have : x.1 ≠ [] := fun e => h0 (by rw [e]; rfl)
    rw [markOkB, if_neg this] at hR
    exact spec_PathOk h2 hR

theorem impl_markOk {es : List Value} {x : Mk} {R : Value → Vw → Prop} (h : RMk (Av.get w0 σ) es x) (hR : R (.bool (markOkB x)) σ) : AC Tryz.prog w0 n_impl_markOk [.agg ⟨es⟩] σ R := by
  obtain ⟨v, rfl, h2⟩ := h
  refine ac_impl_markOk ?_
  unfold vc_impl_markOk
  rw [pVal_2 h2.one rfl]
  refine impl_namesOk h2 ?_
  rw [pIf_b]
  by_cases e : x.1 = []
  · rw [markOkB, if_pos e] at hR
    refine ⟨fun _ => ?_, fun h0 => ?_⟩
    · show pLen v _
      rw [h2.len, pBin_gt, pIf_d]
      refine ⟨fun h => by rw [e] at h; simp at h, fun _ => hR⟩
    · rw [e] at h0; simp [allNames, inB] at h0
  · rw [markOkB, if_neg e] at hR
    have hpos : 1 ≤ x.1.length := by
      rcases Nat.eq_zero_or_pos x.1.length with h0 | h0
      · exact absurd (List.length_eq_zero_iff.1 h0) e
      · exact h0
    have hin : inB x.1.length 0 4 = inB x.1.length 1 4 := by unfold inB; congr 1; apply propext; omega
    rw [hin]
    refine ⟨fun h0 => ?_, fun h0 => ?_⟩
    · show pLen v _
      rw [h2.len, pBin_gt, pIf_d]
      refine ⟨fun _ => ?_, fun h => by omega⟩
      rw [h0] at hR; exact hR
    · rw [h0] at hR; exact hR
end
end Go.Proofs.YtkbhjejalkbogaaGreat

/- Trails: when one is sound; the law 'TrailOk', of the functions alone. -/
set_option linter.unusedVariables false
set_option linter.unusedSimpArgs false
namespace Go.Proofs.YtkbhjejalkbogaaGreat
open Go Go.Av

def underB (ms : List Mk) (p : List ByteArray) : Bool := ms.any fun m => m.2 && within p m.1
def afterB (ms : List Mk) (j : Nat) (x : Mk) : Bool :=
  match j with
  | 0 => true
  | i + 1 => match ms[i]? with
    | some y => lexLt y.1 x.1
    | none => true
noncomputable def goodAt (ms : List Mk) (j : Nat) (x : Mk) : Bool := markOkB x && (afterB ms j x && !underB (ms.take j) x.1)
def allGood (ms : List Mk) : Prop := ∀ (j : Nat) (x : Mk), ms[j]? = some x → goodAt ms j x = true
open Classical in
noncomputable def trailOk (ms : List Mk) : Bool := decide (allGood ms) && decide ((ms.length : Int) ≤ 6)
theorem trail_bad {ms : List Mk} {j : Nat} {x : Mk} (h : ms[j]? = some x) (hb : goodAt ms j x = false) : trailOk ms = false := by
  have : ¬ allGood ms := fun h' => by rw [h' j x h] at hb; cases hb
  simp [trailOk, this]
theorem trail_good {ms : List Mk} (h : allGood ms) : trailOk ms = decide ((ms.length : Int) ≤ 6) := by simp [trailOk, h]

section
variable {w0 : World} {σ : Vw}

theorem RSl.fld {α : Type} {n : Nat} {Rl : (Addr → Option Value) → List Value → α → Prop} {v : Value} {xs : List α} (h : RSl n Rl (Av.get w0 σ) v xs) {j : Nat} {x : α} (hj : xs[j]? = some x) {off : Nat} (ho : off < n) {K : (Nat → Value) → Prop} (hK : ∀ (g : Nat → Value) (es : List Value), Rl (Av.get w0 σ) es x → es[off]? = some (g 0) → K g) :
    pIndexAddr n v (.int .i64 j) fun p => pField off p fun q => pLoad w0 1 q σ K := by
  obtain ⟨A, cap, rfl, _, h3⟩ := h
  obtain ⟨a, es, rfl, h5, h6, h7⟩ := h3 j x hj
  have hlt : j < xs.length := (List.getElem?_eq_some_iff.1 hj).1
  have he : es[off]? = some (es.getD off undef) := by
    rw [List.getD_eq_getElem?_getD, List.getElem?_eq_getElem (by omega)]; rfl
  refine ⟨a, xs.length, cap, .i64, j, rfl, rfl, by omega, by omega, _, rfl, (a.add (j * n)).add off, fun _ => es.getD off undef, rfl, fun i hi => ?_, hK _ es h7 he⟩
  have : i = 0 := by omega
  subst this
  rw [add_add, add_add, Nat.add_zero]
  rw [h6 off ho]; exact he

theorem RSl.take {α : Type} {n : Nat} {Rl : (Addr → Option Value) → List Value → α → Prop} {v : Value} {xs : List α} (h : RSl n Rl (Av.get w0 σ) v xs) {j : Nat} (hj : j ≤ xs.length) {K : Value → Prop} (hK : ∀ v', RSl n Rl (Av.get w0 σ) v' (xs.take j) → K v') : pSlice n v none (some (.int .i64 j)) K := by
  obtain ⟨A, cap, rfl, hc, h3⟩ := h
  refine ⟨A, xs.length, cap, 0, j, rfl, rfl, rfl, by omega, by omega, by omega, hK _ ?_⟩
  have hl : (xs.take j).length = j := by simp; omega
  refine ⟨if cap = (0 : Int).toNat then A else A.map (·.add ((0 : Int).toNat * n)), cap - (0 : Int).toNat, by rw [hl]; simp, ⟨by rw [hl]; simp; omega, by simp; omega⟩, fun i x hi => ?_⟩
  have hij : i < j := by have := (List.getElem?_eq_some_iff.1 hi).1; rw [hl] at this; exact this
  rw [List.getElem?_take_of_lt hij] at hi
  obtain ⟨a, es, rfl, h5, h6, h7⟩ := h3 i x hi
  refine ⟨a, es, ?_, h5, h6, h7⟩
  split
  · rfl
  · simp [Addr.add]

theorem underB_take {ms : List Mk} {p : List ByteArray} {j : Nat} {x : Mk} (h : ms[j]? = some x) : underB (ms.take (j + 1)) p = (underB (ms.take j) p || (x.2 && within p x.1)) := by
  rw [List.take_add_one, h]
  simp [underB, List.any_append]
theorem under_hit {ms : List Mk} {p : List ByteArray} {j : Nat} {x : Mk} (h : ms[j]? = some x) (h1 : x.2 = true) (h2 : within p x.1 = true) : underB ms p = true := by
  simp only [underB, List.any_eq_true]
  exact ⟨x, List.mem_of_getElem? h, by simp [h1, h2]⟩

theorem impl_under {v v' : Value} {ms : List Mk} {p : List ByteArray} (h : RSl 2 RMk (Av.get w0 σ) v ms) (h' : RSl 1 RS (Av.get w0 σ) v' p) {R : Value → Vw → Prop} (hR : R (.bool (underB ms p)) σ) : AC Tryz.prog w0 n_impl_under [v, v'] σ R := by
  refine ac_impl_under ?_
  unfold vc_impl_under
  have hl := h.le
  rw [h.len]
  refine loop_rule (m := ms.length) (fun m l t => ∃ j, t = σ ∧ m + j = ms.length ∧ underB (ms.take j) p = false ∧ l = [v', .bool false, v, .int .i64 ms.length, .int .i64 (j : Nat)]) ?_ ⟨0, rfl, by omega, rfl, rfl⟩
  rintro m l t L ⟨j, rfl, hm, ht, rfl⟩ hL
  simp only [vget, List.getD_cons_zero, List.getD_cons_succ]
  rw [pBin_lt, pIf_d]
  refine ⟨fun hj => ?_, fun hj => ?_⟩
  · have hx := List.getElem?_eq_getElem (show j < ms.length by omega)
    refine h.at hx fun g hg => ?_
    obtain ⟨u, hu, hur⟩ := hg
    simp only [expl, List.cons.injEq, and_true] at hu
    obtain ⟨hu0, hu1⟩ := hu
    rw [hu0, hu1, pVal_2 hur.one rfl, pIf_b]
    have next : underB (ms.take (j + 1)) p = false → L [v', .bool false, v, .int .i64 ms.length, .int .i64 ((j : Int) + 1)] t := fun hf => hL _ _ (m - 1) (by omega) ⟨j + 1, rfl, by omega, hf, rfl⟩
    have hstep := underB_take (p := p) hx
    refine ⟨fun hheld => ?_, fun hheld => ?_⟩
    · refine impl_begins h' hur ?_
      rw [pIf_b]
      refine ⟨fun hw => ?_, fun hw => ?_⟩
      · rw [under_hit hx hheld hw] at hR; exact hR
      · rw [pBin_add (by omega)]
        exact next (by rw [hstep, ht, hw]; simp)
    · rw [pBin_add (by omega)]
      exact next (by rw [hstep, ht, hheld]; simp)
  · have hj' : j = ms.length := by omega
    subst hj'
    rw [List.take_length] at ht
    rw [ht] at hR; exact hR

theorem impl_TrailOk {v : Value} {ms : List Mk} (h : RSl 2 RMk (Av.get w0 σ) v ms) {R : Value → Vw → Prop} (hR : R (.bool (trailOk ms)) σ) : AC Tryz.prog w0 n_impl_TrailOk [v] σ R := by
  refine ac_impl_TrailOk ?_
  unfold vc_impl_TrailOk
  have hl := h.le
  rw [h.len]
  refine loop_rule (m := ms.length) (fun m l t => ∃ j, t = σ ∧ m + j = ms.length ∧ (∀ (i : Nat) (x : Mk), i < j → ms[i]? = some x → goodAt ms i x = true) ∧ l = [v, .bool false, v, .int .i64 ms.length, .int .i64 (j : Nat)]) ?_ ⟨0, rfl, by omega, fun i x h => by omega, rfl⟩
  rintro m l t L ⟨j, rfl, hm, ht, rfl⟩ hL
  simp only [vget, List.getD_cons_zero, List.getD_cons_succ]
  rw [pBin_lt, pIf_d]
  refine ⟨fun hj => ?_, fun hj => ?_⟩
  · have hx := List.getElem?_eq_getElem (show j < ms.length by omega)
    generalize hxj : ms[j] = x at hx
    refine h.at hx fun g hg => ?_
    have hg0 := hg
    obtain ⟨u, hu, hur⟩ := hg
    simp only [expl, List.cons.injEq, and_true] at hu
    obtain ⟨hu0, hu1⟩ := hu
    rw [hu0, hu1, pVal_2 hur.one rfl]
    have bad : goodAt ms j x = false → R (.bool false) t := fun hb => by rw [trail_bad hx hb] at hR; exact hR
    refine impl_markOk (x := x) ⟨u, rfl, hur⟩ ?_
    rw [pUn_not, pIf_b]
    refine ⟨fun hmk => bad (by simp at hmk; simp [goodAt, hmk]), fun hmk => ?_⟩
    have hmk' : markOkB x = true := by simpa using hmk
    have last : afterB ms j x = true → pSlice 2 v none (some (.int .i64 j)) (fun v18 => AC Tryz.prog w0 n_impl_under [v18, u] t (fun v19 s20 => pIf v19 (R (.bool false) s20) (pBin Tryz.prog 3 .add (.int .i64 j) (.int .i64 1) (fun v21 => L [v, .bool false, v, .int .i64 ms.length, v21] s20)))) := by
      intro haf
      refine RSl.take h (by omega) fun v' hv' => ?_
      refine impl_under hv' hur ?_
      rw [pIf_b]
      refine ⟨fun hb => bad (by simp [goodAt, hb]), fun hb => ?_⟩
      rw [pBin_add (by omega)]
      refine hL _ _ (m - 1) (by omega) ⟨j + 1, rfl, by omega, fun i y hi he => ?_, rfl⟩
      by_cases e : i = j
      · subst e; rw [hx] at he; cases he; simp [goodAt, hmk', haf, hb]
      · exact ht i y (by omega) he
    rw [pBin_gt, pIf_d]
    refine ⟨fun hpos => ?_, fun h0 => ?_⟩
    · obtain ⟨i, rfl⟩ : ∃ i, j = i + 1 := ⟨j - 1, by omega⟩
      rw [pBin_sub (by omega)]
      have hy := List.getElem?_eq_getElem (show i < ms.length by omega)
      generalize hyi : ms[i] = y at hy
      rw [show ((i + 1 : Nat) : Int) - 1 = (i : Nat) by omega]
      refine RSl.fld h hy (by omega) fun g2 es hes he => ?_
      obtain ⟨u2, rfl, hu2⟩ := hes
      simp at he
      rw [← he]
      refine Compare hu2 hur fun c hc => ?_
      have haf : afterB ms (i + 1) x = lexLt y.1 x.1 := by simp [afterB, hy]
      rw [pBin_ge, pIf_d]
      refine ⟨fun hge => bad ?_, fun hlt => last ?_⟩
      · have : lexLt y.1 x.1 = false := by
          cases hc2 : lexLt y.1 x.1 with
          | false => rfl
          | true => have := hc.2 hc2; omega
        simp [goodAt, haf, this]
      · rw [haf]; exact hc.1 (by omega)
    · have : j = 0 := by omega
      subst this
      exact last rfl
  · have hj' : j = ms.length := by omega
    subst hj'
    show pLen v _
    rw [h.len, pBin_le]
    rw [trail_good fun i x he => ht i x (List.getElem?_eq_some_iff.1 he).1 he] at hR
    exact hR

theorem spec_TrailOk {v : Value} {ms : List Mk} (h : RSl 2 RMk (Av.get w0 σ) v ms) {R : Value → Vw → Prop} (hR : R (.bool (trailOk ms)) σ) : AC Tryz.prog w0 n_spec_TrailOk [v] σ R := by
  refine ac_spec_TrailOk ?_
  unfold vc_spec_TrailOk
  have hl := h.le
  refine loop_rule (m := ms.length) (fun m l t => ∃ j, t = σ ∧ m + j = ms.length ∧ (∀ (i : Nat) (x : Mk), i < j → ms[i]? = some x → goodAt ms i x = true) ∧ l = [v, .bool false, .int .i64 (j : Nat)]) ?_ ⟨0, rfl, by omega, fun i x h => by omega, rfl⟩
  rintro m l t L ⟨j, rfl, hm, ht, rfl⟩ hL
  simp only [vget, List.getD_cons_zero, List.getD_cons_succ]
  rw [h.len, pBin_lt, pIf_d]
  refine ⟨fun hj => ?_, fun hj => ?_⟩
  · have hx := List.getElem?_eq_getElem (show j < ms.length by omega)
    generalize hxj : ms[j] = x at hx
    refine h.at hx fun g hg => ?_
    obtain ⟨u, hu, hur⟩ := hg
    simp only [expl, List.cons.injEq, and_true] at hu
    obtain ⟨hu0, hu1⟩ := hu
    rw [hu0, hu1]
    have bad : goodAt ms j x = false → R (.bool false) t := fun hb => by rw [trail_bad hx hb] at hR; exact hR
    refine spec_MarkOk (x := x) ⟨u, rfl, hur⟩ ?_
    rw [pUn_not, pIf_b]
    refine ⟨fun hmk => bad (by simp at hmk; simp [goodAt, hmk]), fun hmk => ?_⟩
    have hmk' : markOkB x = true := by simpa using hmk
    have next : afterB ms j x = true → underB (ms.take j) x.1 = false → L [v, .bool false, .int .i64 ((j : Int) + 1)] t := fun haf hb => hL _ _ (m - 1) (by omega) ⟨j + 1, rfl, by omega, fun i y hi he => by
      by_cases e : i = j
      · subst e; rw [hx] at he; cases he; simp [goodAt, hmk', haf, hb]
      · exact ht i y (by omega) he, rfl⟩
    have split : (0 < (j : Int) → afterB ms j x = true → True) := fun _ _ => trivial
    rw [pBin_gt, pIf_d]
    have step : ∀ {K : AX → List Value → Vw → Prop} {B : List Value → (AX → List Value → Vw → Prop) → Vw → Prop}, B = (fun l21 K22 s23 => pBin Tryz.prog 3 .lss (vget l21 3) (vget l21 2) (fun v24 => pIf v24 (pIndexAddr 2 (vget l21 0) (vget l21 3) (fun v25 => pField 1 v25 (fun v26 => pLoad w0 1 v26 s23 (fun g27 => pIf (g27 0)
          (pIndexAddr 2 (vget l21 0) (vget l21 2) (fun v28 => pField 0 v28 (fun v29 => pLoad w0 1 v29 s23 (fun g30 => pIndexAddr 2 (vget l21 0) (vget l21 3) (fun v31 => pField 0 v31 (fun v32 => pLoad w0 1 v32 s23 (fun g33 => AC Tryz.prog w0 n_spec_l2Within [g30 0, g33 0] s23 (fun v34 s35 => pIf v34 (K22 .ret [vget l21 0, .bool false, vget l21 2, vget l21 3] s35)
            (pBin Tryz.prog 3 .add (vget l21 3) (.int .i64 1) (fun v36 => K22 .normal [vget l21 0, vget l21 1, vget l21 2, v36] s35))))))))))
          (pBin Tryz.prog 3 .add (vget l21 3) (.int .i64 1) (fun v37 => K22 .normal [vget l21 0, vget l21 1, vget l21 2, v37] s23)))))) (K22 (.exit 2) [vget l21 0, vget l21 1, vget l21 2, vget l21 3] s23))) →
        afterB ms j x = true → (∀ k : Value, R (.bool false) t → K .ret [v, .bool false, .int .i64 j, k] t) → (∀ k : Value, underB (ms.take j) x.1 = false → K (.exit 2) [v, .bool false, .int .i64 j, k] t) →
        pLoop B [v, .bool false, .int .i64 j, .int .i64 0] t K := by
      rintro K B rfl haf hret hex
      refine loop_rule (m := j) (fun m' l s => ∃ k, s = t ∧ m' + k = j ∧ underB (ms.take k) x.1 = false ∧ l = [v, .bool false, .int .i64 j, .int .i64 (k : Nat)]) ?_ ⟨0, rfl, by omega, rfl, rfl⟩
      rintro m' l s L' ⟨k, rfl, hm', hu', rfl⟩ hL'
      simp only [vget, List.getD_cons_zero, List.getD_cons_succ]
      rw [pBin_lt, pIf_d]
      refine ⟨fun hk => ?_, fun hk => ?_⟩
      · have hy := List.getElem?_eq_getElem (show k < ms.length by omega)
        generalize hyk : ms[k] = y at hy
        have hstep := underB_take (p := x.1) hy
        have nx : underB (ms.take (k + 1)) x.1 = false → L' [v, .bool false, .int .i64 j, .int .i64 ((k : Int) + 1)] s := fun hf => hL' _ _ (m' - 1) (by omega) ⟨k + 1, rfl, by omega, hf, rfl⟩
        refine RSl.fld h hy (by omega) fun g1 es hes he => ?_
        obtain ⟨u1, rfl, hu1'⟩ := hes
        simp at he
        rw [← he, pIf_b]
        refine ⟨fun hheld => ?_, fun hheld => ?_⟩
        · refine RSl.fld h hx (by omega) fun g2 es hes he => ?_
          obtain ⟨u2, rfl, hu2'⟩ := hes
          simp at he
          refine RSl.fld h hy (by omega) fun g3 es hes he' => ?_
          obtain ⟨u3, rfl, hu3'⟩ := hes
          simp at he'
          rw [← he, ← he']
          refine spec_Within hu2' hu3' ?_
          rw [pIf_b]
          refine ⟨fun hw => hret _ (bad ?_), fun hw => ?_⟩
          · have : underB (ms.take j) x.1 = true := under_hit (j := k) (x := y) (by rw [List.getElem?_take_of_lt (by omega)]; exact hy) hheld hw
            simp [goodAt, this]
          · rw [pBin_add (by omega)]
            exact nx (by rw [hstep, hu', hw]; simp)
        · rw [pBin_add (by omega)]
          exact nx (by rw [hstep, hu', hheld]; simp)
      · have : k = j := by omega
        subst this
        exact hex _ hu'
    refine ⟨fun hpos => ?_, fun h0 => ?_⟩
    · obtain ⟨i, rfl⟩ : ∃ i, j = i + 1 := ⟨j - 1, by omega⟩
      rw [pBin_sub (by omega)]
      have hy := List.getElem?_eq_getElem (show i < ms.length by omega)
      generalize hyi : ms[i] = y at hy
      rw [show ((i + 1 : Nat) : Int) - 1 = (i : Nat) by omega]
      refine RSl.fld h hy (by omega) fun g2 es hes he => ?_
      obtain ⟨u2, rfl, hu2⟩ := hes
      simp at he
      refine RSl.fld h hx (by omega) fun g3 es hes he3 => ?_
      obtain ⟨u3, rfl, hu3⟩ := hes
      simp at he3
      rw [← he, ← he3]
      have haf : afterB ms (i + 1) x = lexLt y.1 x.1 := by simp [afterB, hy]
      refine spec_Less hu2 hu3 ?_
      rw [pUn_not, pIf_b]
      refine ⟨fun hb => bad (by simp at hb; simp [goodAt, haf, hb]), fun hg => ?_⟩
      have hg' : afterB ms (i + 1) x = true := by rw [haf]; simpa using hg
      refine step rfl hg' (fun k hr => hr) (fun k hu => ?_)
      show pBin Tryz.prog 3 .add (.int .i64 ((i + 1 : Nat) : Int)) (.int .i64 1) _
      rw [pBin_add (by omega)]
      exact next hg' hu
    · have : j = 0 := by omega
      subst this
      refine step rfl rfl (fun k hr => hr) (fun k hu => ?_)
      show pBin Tryz.prog 3 .add (.int .i64 ((0 : Nat) : Int)) (.int .i64 1) _
      rw [pBin_add (by omega)]
      exact next rfl hu
  · have hj' : j = ms.length := by omega
    subst hj'
    show pLen v _
    rw [h.len, pBin_le]
    rw [trail_good fun i x he => ht i x (List.getElem?_eq_some_iff.1 he).1 he] at hR
    exact hR
end
end Go.Proofs.YtkbhjejalkbogaaGreat

/- The law 'TrailOk', of the functions alone. -/
set_option linter.unusedVariables false
set_option linter.unusedSimpArgs false
namespace Go.Proofs.YtkbhjejalkbogaaGreat
open Go Go.Av

section
variable {w0 : World} {σ : Vw}

theorem sumBy_mem {α : Type} {f : α → Nat} : ∀ {xs : List α} {x : α}, x ∈ xs → f x ≤ sumBy f xs
  | a :: r, x, h => by
    simp only [sumBy]
    rcases List.mem_cons.1 h with e | e
    · subst e; omega
    · have := sumBy_mem (f := f) e; omega

end
end Go.Proofs.YtkbhjejalkbogaaGreat

/- Trees: what is read of one; their size, their copy, their comparison. -/
set_option linter.unusedVariables false
set_option linter.unusedSimpArgs false
namespace Go.Proofs.YtkbhjejalkbogaaGreat
open Go Go.Av

inductive Tr where
  | mk (dir : Bool) (mode : Int) (text : ByteArray) (names : List ByteArray) (kids : List Tr)
noncomputable instance : DecidableEq Tr := fun _ _ => Classical.propDecidable _

/-- What is read: n bounds the depth. -/
def RT : Nat → (Addr → Option Value) → List Value → Tr → Prop
  | 0, _, _, _ => False
  | n + 1, rd, es, .mk d m t ns ks => ∃ u w, es = [.bool d, .int .i64 m, .string t, u, w] ∧ (-9223372036854775808 ≤ m ∧ m ≤ 9223372036854775807) ∧ t.size ≤ 9223372036854775807 ∧ RSl 1 RS rd u ns ∧ RSl 5 (RT n) rd w ks
def OT (w0 : World) : Nat → Vw → List Nat → List Value → Tr → Prop
  | 0, _, _, _, _ => False
  | n + 1, σ, F, es, .mk d m t ns ks => ∃ u w F1 F2, es = [.bool d, .int .i64 m, .string t, u, w] ∧ (-9223372036854775808 ≤ m ∧ m ≤ 9223372036854775807) ∧ t.size ≤ 9223372036854775807 ∧ OStrs w0 σ F1 u ns ∧ OSl w0 5 (OT w0 n) σ F2 w ks ∧ F = F1 ++ F2 ∧ F.Nodup
def szT : Nat → Tr → Nat
  | 0, _ => 0
  | n + 1, .mk d m t ns ks => t.size + (ns.length + sumS ns) + (ks.length + sumBy (szT n) ks)

theorem mono_rt : ∀ (n : Nat) (rd rd' : Addr → Option Value) (es : List Value) (x : Tr), Le rd rd' → RT n rd es x → RT n rd' es x
  | 0, _, _, _, _, _, h => h
  | n + 1, rd, rd', es, .mk d m t ns ks, hl, h => by
    obtain ⟨u, w, h1, h2, h3, h4, h5⟩ := h
    exact ⟨u, w, h1, h2, h3, h4.mono hl fun _ _ h => h, h5.mono hl fun es x => mono_rt n _ _ es x hl⟩

section
variable {w0 : World} {σ : Vw}

theorem ok_rt (w0 : World) : ∀ n, OOk w0 5 (RT n) (OT w0 n)
  | 0 => ⟨fun _ _ _ _ h => h.elim, fun _ _ _ _ _ h => h.elim, fun _ _ _ _ h => h.elim, fun _ _ _ _ h => h.elim, fun _ _ _ _ h => h.elim, fun _ _ _ _ h => h.elim⟩
  | n + 1 => by
    have ih := ok_rt w0 n
    refine ⟨?_, ?_, ?_, ?_, ?_, ?_⟩
    · rintro σ F es ⟨d, m, t, ns, ks⟩ ⟨u, w, F1, F2, h1, h2, h3, h4, h5, h6, h7⟩
      exact ⟨u, w, h1, h2, h3, h4.rel (ok_str w0), h5.rel ih⟩
    · rintro σ σ' F es ⟨d, m, t, ns, ks⟩ ⟨u, w, F1, F2, h1, h2, h3, h4, h5, h6, h7⟩ hF
      subst h6
      exact ⟨u, w, F1, F2, h1, h2, h3, h4.frame (ok_str w0) fun b hb => hF b (List.mem_append_left _ hb), h5.frame ih fun b hb => hF b (List.mem_append_right _ hb), rfl, h7⟩
    · rintro σ F es ⟨d, m, t, ns, ks⟩ ⟨u, w, F1, F2, h1, h2, h3, h4, h5, h6, h7⟩ b hb
      subst h6
      rcases List.mem_append.1 hb with h | h
      · exact h4.dom (ok_str w0) b h
      · exact h5.dom ih b h
    · rintro σ F es ⟨d, m, t, ns, ks⟩ ⟨u, w, F1, F2, h1, h2, h3, h4, h5, h6, h7⟩; exact h7
    · rintro σ F es ⟨d, m, t, ns, ks⟩ ⟨u, w, F1, F2, rfl, h2, h3, h4, h5, h6, h7⟩; rfl
    · rintro σ F es ⟨d, m, t, ns, ks⟩ ⟨u, w, F1, F2, rfl, h2, h3, h4, h5, h6, h7⟩ c hc
      simp at hc
      rcases hc with rfl | rfl | rfl | rfl | rfl
      · rfl
      · rfl
      · rfl
      · exact OSl.one' h4
      · exact OSl.one' h5

theorem pVal_5 {a b c d e : Value} {A : Prop} (h1 : a.oneCell' = true) (h2 : b.oneCell' = true) (h3 : c.oneCell' = true) (h4 : d.oneCell' = true) (h5 : e.oneCell' = true) : pVal true 5 (.agg ⟨[a, b, c, d, e]⟩) A ↔ A := pValN rfl (by simp [h1, h2, h3, h4, h5])

theorem szTree : ∀ (n : Nat) {es : List Value} {x : Tr} {m : Int} {R : Value → Vw → Prop}, RT n (Av.get w0 σ) es x → (0 ≤ m ∧ m ≤ 9223372036854775807) → R (.int .i64 (Av.left m (szT n x))) σ → AC Tryz.prog w0 n_laws_szTree [.agg ⟨es⟩, .int .i64 m] σ R
  | 0, _, _, _, _, h, _, _ => h.elim
  | n + 1, es, .mk d md t ns ks, m, R, h, hm, hR => by
    obtain ⟨u, w, rfl, h2, h3, h4, h5⟩ := h
    refine ac_laws_szTree ?_
    unfold vc_laws_szTree
    rw [pVal_5 rfl rfl rfl h4.one h5.one]
    show pLenS (.string t) _
    rw [pLenS_s, pBin_sub (by omega), pBin_lt, pIf_d]
    have low : m < (szT (n + 1) (.mk d md t ns ks) : Nat) → R (.int .i64 (-1)) σ := fun hlt => by rw [Av.left_low hlt] at hR; exact hR
    have hsz : szT (n + 1) (.mk d md t ns ks) = t.size + (ns.length + sumS ns) + (ks.length + sumBy (szT n) ks) := rfl
    refine ⟨fun hlt => low (by omega), fun hge => ?_⟩
    refine szStringS h4 (by omega) ?_
    rw [show left (m - (t.size : Int)) (ns.length + sumS ns) = Av.left (m - (t.size : Int)) (ns.length + sumS ns) from rfl, pBin_lt, pIf_d]
    refine ⟨fun hlt => low (by rw [Av.left_neg] at hlt; omega), fun hge2 => ?_⟩
    rw [Av.left_neg] at hge2
    rw [Av.left_in (by omega)]
    refine ac_laws_szTreeS ?_
    have e : ∀ (v : Value) (m : Int) (R : Value → Vw → Prop), vc_laws_szTreeS w0 v (.int .i64 m) σ R = VszS Tryz.prog w0 3 5 n_laws_szTree v (.int .i64 m) σ R := fun v m R => by kernel_rfl
    show vc_laws_szTreeS w0 w _ σ _
    rw [e]
    refine szS_gen (sz := szT n) (fun x _ es m R' h hm hR => szTree n h hm hR) h5 (by omega) ?_
    rw [pBin_lt, pIf_d]
    refine ⟨fun hlt => low (by rw [Av.left_neg] at hlt; omega), fun hge3 => ?_⟩
    rw [Av.left_neg] at hge3
    rw [Av.left_in (by omega)]
    rw [Av.left_in (by omega)] at hR
    rw [show m - (t.size : Int) - ((ns.length + sumS ns : Nat) : Int) - ((ks.length + sumBy (szT n) ks : Nat) : Int) = m - ((szT (n + 1) (.mk d md t ns ks) : Nat) : Int) by omega]
    exact hR
end
end Go.Proofs.YtkbhjejalkbogaaGreat

/- Lists in rows of our own, written element by element: the focus on one element, and the loops that mark and that look at marks. -/
set_option linter.unusedVariables false
set_option linter.unusedSimpArgs false
namespace Go.Av
open Go Go.RowKit

/-- Every row but those of F stays as it is. -/
def KeepsBut (F : List Nat) (σ σ' : Vw) : Prop := ∀ b r, σ b = some r → b ∉ F → σ' b = some r
theorem KeepsBut.refl (F : List Nat) (σ : Vw) : KeepsBut F σ σ := fun _ _ h _ => h
theorem Keeps.but {F : List Nat} {σ σ' : Vw} (h : Keeps σ σ') : KeepsBut F σ σ' := fun b r hb _ => h b r hb
theorem KeepsBut.trans {F : List Nat} {σ σ' σ'' : Vw} (h : KeepsBut F σ σ') (h' : KeepsBut F σ' σ'') : KeepsBut F σ σ'' := fun b r hb hF => h' b r (h b r hb hF) hF
theorem KeepsBut.mono {F F' : List Nat} {σ σ' : Vw} (h : KeepsBut F σ σ') (hF : ∀ b, b ∈ F → b ∈ F') : KeepsBut F' σ σ' := fun b r hb h' => h b r hb fun hb' => h' (hF b hb')
/-- What is older than F stays. -/
theorem KeepsBut.old {F : List Nat} {σ0 σ σ' : Vw} (h : KeepsBut F σ σ') (h0 : Keeps σ0 σ) (hF : ∀ b, b ∈ F → σ0 b = none) : Keeps σ0 σ' := fun b r hb => h b r (h0 b r hb) fun hb' => by rw [hF b hb'] at hb; cases hb
theorem KeepsBut.at {F G : List Nat} {σ σ' : Vw} (h : KeepsBut F σ σ') (hG : ∀ b, b ∈ G → σ b ≠ none) (hd : ∀ b, b ∈ G → b ∉ F) : ∀ b, b ∈ G → σ' b = σ b := fun b hb => by
  cases hs : σ b with
  | none => exact absurd hs (hG b hb)
  | some r => exact h b r hs (hd b hb)
theorem KeepsBut.put {F : List Nat} {σ : Vw} {b : Nat} {r : Row} (hb : b ∈ F) : KeepsBut F σ (σ.put b r) := fun i x hi hF => by
  have : i ≠ b := fun e => hF (e ▸ hb)
  simp [Vw.put, this, hi]

section
variable {P : Program} {w0 : World} {σ σ' : Vw} {α : Type}

theorem nodup_at {l : List (List Nat)} {i j : Nat} {f g : List Nat} (h : l.flatten.Nodup) (hi : l[i]? = some f) (hj : l[j]? = some g) (hij : i ≠ j) : ∀ b, b ∈ f → b ∉ g := by
  induction l generalizing i j with
  | nil => simp at hi
  | cons a r ih =>
    rw [List.flatten_cons, List.nodup_append] at h
    intro b hb hb'
    cases i with
    | zero =>
      cases j with
      | zero => exact hij rfl
      | succ j =>
        simp at hi hj
        subst hi
        exact h.2.2 b hb b (List.mem_flatten.2 ⟨g, List.mem_of_getElem? hj, hb'⟩) rfl
    | succ i =>
      cases j with
      | zero =>
        simp at hi hj
        subst hj
        exact h.2.2 b hb' b (List.mem_flatten.2 ⟨f, List.mem_of_getElem? hi, hb⟩) rfl
      | succ j =>
        simp at hi hj
        exact ih h.2.1 hi hj (fun e => hij (by rw [e])) b hb hb'

theorem split_at {l : List (List Value)} {j : Nat} {c : List Value} (hj : l[j]? = some c) : l.flatten = (l.take j).flatten ++ (c ++ (l.drop (j + 1)).flatten) := by
  have hlt := (List.getElem?_eq_some_iff.1 hj).1
  have e : l = l.take j ++ (c :: l.drop (j + 1)) := by
    have := List.take_append_drop j l
    rw [List.drop_eq_getElem_cons hlt] at this
    have hc : l[j] = c := (List.getElem?_eq_some_iff.1 hj).2
    rw [hc] at this
    exact this.symm
  calc l.flatten = (l.take j ++ (c :: l.drop (j + 1))).flatten := by rw [← e]
    _ = _ := by rw [List.flatten_append, List.flatten_cons]

/-- One element of a list of our own, and how the list is put together again behind a change of it. -/
theorem OSl.focus {n : Nat} {Rel : (Addr → Option Value) → List Value → α → Prop} {O : Vw → List Nat → List Value → α → Prop} (ok : OOk w0 n Rel O) {F : List Nat} {v : Value} {xs : List α} (h : OSl w0 n O σ F v xs) {j : Nat} {x : α} (hj : xs[j]? = some x) :
    ∃ (b o : Nat) (f : List Nat) (c A C : List Value) (r : Row), (∀ K : Value → Prop, K (.pointer (some ⟨b, o, none⟩)) → pIndexAddr n v (.int .i64 j) K) ∧ w0.heap.size ≤ b ∧ σ b = some r ∧ r.cells = A ++ (c ++ C) ∧ A.length = o ∧ O σ f c x ∧ b ∈ F ∧ (∀ i, i ∈ f → i ∈ F ∧ i ≠ b) ∧
      ∀ (σ' : Vw) (c' : List Value) (x' : α) (r' : Row), σ' b = some r' → r'.cells = A ++ (c' ++ C) → O σ' f c' x' → (∀ i, i ∈ F → i ≠ b → i ∉ f → σ' i = σ i) → OSl w0 n O σ' F v (xs.set j x') := by
  obtain ⟨h1, h2, ⟨rfl, rfl, _⟩ | ⟨b, off, cap, r, pre, post, css, Fs, rfl, gc, g2, g3, g4, g5, g6, g7, g8, g9⟩⟩ := h
  · simp at hj
  have hlt : j < xs.length := (List.getElem?_eq_some_iff.1 hj).1
  have hcj := List.getElem?_eq_getElem (show j < css.length by omega)
  have hfj := List.getElem?_eq_getElem (show j < Fs.length by omega)
  generalize hce : css[j]'(by omega) = c at hcj
  generalize hfe : Fs[j]'(by omega) = f at hfj
  have hO := g9 j c x f hcj hj hfj
  have hn : ∀ c, c ∈ css → c.length = n := fun c hc => by
    obtain ⟨i, hi⟩ := List.getElem?_of_mem hc
    have hil : i < css.length := (List.getElem?_eq_some_iff.1 hi).1
    exact ok.len _ _ _ _ (g9 i c _ _ hi (List.getElem?_eq_getElem (by omega)) (List.getElem?_eq_getElem (by omega)))
  have hA : (pre ++ (css.take j).flatten).length = off + j * n := by
    rw [List.length_append, g5, flat_len _ fun c hc => hn c (List.mem_of_mem_take hc), List.length_take]
    congr 2; omega
  rw [g8] at h2
  have hbf : b ∉ f := fun hb => (List.nodup_cons.1 h2).1 (List.mem_flatten.2 ⟨f, List.mem_of_getElem? hfj, hb⟩)
  refine ⟨b, off + j * n, f, c, pre ++ (css.take j).flatten, (css.drop (j + 1)).flatten ++ post, r, fun K hK => ?_, g2, g3, ?_, hA, hO, by rw [g8]; exact List.mem_cons_self, fun i hi => ⟨?_, fun e => hbf (e ▸ hi)⟩, ?_⟩
  · refine ⟨⟨b, off, none⟩, xs.length, cap, .i64, j, rfl, rfl, by omega, by omega, ?_⟩
    rw [addr_add]; exact hK
  · rw [g4, split_at hcj]; simp only [List.append_assoc]
  · rw [g8]; exact List.mem_cons_of_mem _ (List.mem_flatten.2 ⟨f, List.mem_of_getElem? hfj, hi⟩)
  · intro σ' c' x' r' hr' hcells hO' hrest
    have hlen' := ok.len _ _ _ _ hO'
    refine ⟨by rw [List.length_set]; exact h1, by rw [g8]; exact h2, .inr ⟨b, off, cap, r', pre, post, css.set j c', Fs, by rw [List.length_set], by rw [List.length_set]; exact gc, g2, hr', ?_, g5, by rw [List.length_set, List.length_set]; exact g6, by rw [List.length_set]; exact g7, g8, ?_⟩⟩
    · have hcj' : (css.set j c')[j]? = some c' := List.getElem?_set_self (by omega)
      rw [hcells, split_at hcj', List.take_set_of_le (Nat.le_refl j), List.drop_set_of_lt (by omega)]
      simp only [List.append_assoc]
    · intro i ci y fi e1 e2 e3
      by_cases hij : j = i
      · subst hij
        rw [List.getElem?_set_self (by omega)] at e1 e2
        cases e1; cases e2
        rw [hfj] at e3; cases e3
        exact hO'
      · rw [List.getElem?_set_ne hij] at e1 e2
        refine ok.frame _ _ _ _ _ (g9 i ci y fi e1 e2 e3) fun k hk => ?_
        have hkF : k ∈ Fs.flatten := List.mem_flatten.2 ⟨fi, List.mem_of_getElem? e3, hk⟩
        exact hrest k (by rw [g8]; exact List.mem_cons_of_mem _ hkF) (fun e => (List.nodup_cons.1 h2).1 (e ▸ hkF)) (nodup_at (List.nodup_cons.1 h2).2 e3 hfj (fun e => hij e.symm) k hk)

/-- A field of an element is written. -/
theorem field_store {b o off : Nat} {r : Row} {A c C : List Value} {y : Value} {K : Vw → Prop} (hr : σ b = some r) (hc : r.cells = A ++ (c ++ C)) (hA : A.length = o) (hoff : off < c.length) (hy : y.oneCell' = true)
    (hK : K (σ.put b { r with cells := A ++ (c.set off y ++ C) })) : pField off (.pointer (some ⟨b, o, none⟩)) fun q => pVal false 1 y (pStore q [y] σ K) := by
  rw [pField_s, pVal1 hy, addr_add]
  refine ⟨b, o + off, r, rfl, hr, ?_, ?_⟩
  · rw [hc]; simp only [List.length_append, List.length_singleton]; omega
  · have e : setAt r.cells (o + off) [y] = A ++ (c.set off y ++ C) := by
      simp only [setAt]
      rw [hc, List.set_append_right _ _ (by omega), List.set_append_left _ _ (by omega), hA]
      congr 3; omega
    rw [e]; exact hK
theorem elem_store {b o : Nat} {r : Row} {A C : List Value} {x y : Value} {K : Vw → Prop} (hr : σ b = some r) (hc : r.cells = A ++ ([x] ++ C)) (hA : A.length = o) (hy : y.oneCell' = true)
    (hK : K (σ.put b { r with cells := A ++ ([y] ++ C) })) : pVal false 1 y (pStore (.pointer (some ⟨b, o, none⟩)) [y] σ K) := by
  rw [pVal1 hy]
  refine ⟨b, o, r, rfl, hr, ?_, ?_⟩
  · rw [hc]; simp only [List.length_append, List.length_singleton]; omega
  · have e : setAt r.cells o [y] = A ++ ([y] ++ C) := by
      simp only [setAt]
      rw [hc, List.set_append_right _ _ (by omega), hA, Nat.sub_self]; rfl
    rw [e]; exact hK
/-- A field of an element is read. -/
theorem field_load {b o off : Nat} {r : Row} {A c C : List Value} {y : Value} {K : (Nat → Value) → Prop} (hb : w0.heap.size ≤ b) (hr : σ b = some r) (hc : r.cells = A ++ (c ++ C)) (hA : A.length = o) (hoff : c[off]? = some y)
    (hK : ∀ g : Nat → Value, g 0 = y → K g) : pField off (.pointer (some ⟨b, o, none⟩)) fun q => pLoad w0 1 q σ K := by
  rw [pField_s, addr_add]
  refine ⟨_, fun _ => y, rfl, fun j hj => ?_, hK _ rfl⟩
  have : j = 0 := by omega
  subst this
  have hlt : off < c.length := (List.getElem?_eq_some_iff.1 hoff).1
  rw [addr_add, get_row hb hr, hc, List.getElem?_append_right (by omega), List.getElem?_append_left (by omega)]
  rw [show o + off + 0 - A.length = off by omega]; exact hoff

/-! ### Marks -/
def mkS (mk : Nat → α → α) (cnt : α → Nat) : Nat → List α → List α
  | _, [] => []
  | k, x :: r => mk k x :: mkS mk cnt (k + cnt x) r
theorem mkS_len {mk : Nat → α → α} {cnt : α → Nat} : ∀ {xs : List α} {k : Nat}, (mkS mk cnt k xs).length = xs.length
  | [], _ => rfl
  | x :: r, k => by simp [mkS, mkS_len (xs := r)]
theorem mkS_snoc {mk : Nat → α → α} {cnt : α → Nat} {x : α} : ∀ {xs : List α} {k : Nat}, mkS mk cnt k (xs ++ [x]) = mkS mk cnt k xs ++ [mk (k + sumBy cnt xs) x]
  | [], k => by simp [mkS, sumBy]
  | y :: r, k => by simp [mkS, sumBy, mkS_snoc (xs := r), Nat.add_assoc]
theorem mkS_get {mk : Nat → α → α} {cnt : α → Nat} : ∀ {xs : List α} {k j : Nat} {x : α}, xs[j]? = some x → (mkS mk cnt k xs)[j]? = some (mk (k + sumBy cnt (xs.take j)) x)
  | [], k, j, x, h => by simp at h
  | y :: r, k, 0, x, h => by simp at h; subst h; simp [mkS, sumBy]
  | y :: r, k, j + 1, x, h => by
    have := mkS_get (mk := mk) (cnt := cnt) (k := k + cnt y) (xs := r) (j := j) (by simpa using h)
    simp only [mkS, List.getElem?_cons_succ, this, List.take_succ_cons, sumBy, Nat.add_assoc]

/-- A loop that marks. -/
theorem mark_loop {T n : Nat} {Rel : (Addr → Option Value) → List Value → α → Prop} {O : Vw → List Nat → List Value → α → Prop} (ok : OOk w0 n Rel O) {mk : Nat → α → α} {cnt : α → Nat} {F : List Nat} {v : Value} {xs : List α} {k : Nat} {R : Value → Vw → Prop}
    {BODY : List Value → (AX → List Value → Vw → Prop) → Vw → Prop}
    (h : OSl w0 n O σ F v xs) (hk : k + sumBy cnt xs ≤ 1000000000000)
    (hB : ∀ (j : Nat) (x : α) (k' : Nat) (s : Vw) (ys : List α) (K : AX → List Value → Vw → Prop), j < ys.length → ys.length = xs.length → KeepsBut F σ s → x ∈ xs → k' + cnt x ≤ 1000000000000 → OSl w0 n O s F v ys → ys[j]? = some x →
      (∀ s', KeepsBut F s s' → OSl w0 n O s' F v (ys.set j (mk k' x)) → K .normal [v, .int .i64 ((k' + cnt x : Nat) : Int), .int .i64 ((j : Int) + 1)] s') → BODY [v, .int .i64 (k' : Nat), .int .i64 (j : Nat)] K s)
    (hR : ∀ s', KeepsBut F σ s' → OSl w0 n O s' F v (mkS mk cnt k xs) → R (.int .i64 ((k + sumBy cnt xs : Nat) : Int)) s') :
    pLoop (fun l K s => pLen (vget l 0) (fun v3 => pBin P T .lss (vget l 2) v3 (fun v4 => pIf v4 (BODY l K s) (K (.exit 0) [vget l 0, vget l 1, vget l 2] s)))) [v, .int .i64 (k : Nat), .int .i64 0] σ
      (fun x l s => match x with | .normal => R (vget l 1) s | .ret => False | .exit i => (match Nat.beq i 0 with | true => R (vget l 1) s | false => False)) := by
  have hl : xs.length ≤ 9223372036854775807 := h.1
  refine loop_rule (m := xs.length) (fun c l s => ∃ j, c + j = xs.length ∧ KeepsBut F σ s ∧ OSl w0 n O s F v (mkS mk cnt k (xs.take j) ++ xs.drop j) ∧ l = [v, .int .i64 ((k + sumBy cnt (xs.take j) : Nat) : Int), .int .i64 (j : Nat)]) ?_ ⟨0, by omega, KeepsBut.refl _ _, by simpa [mkS] using h, by simp [sumBy]⟩
  rintro c l s L ⟨j, hc, hkb, hO, rfl⟩ hL
  simp only [vget, List.getD_cons_zero, List.getD_cons_succ]
  have hlen : (mkS mk cnt k (xs.take j) ++ xs.drop j).length = xs.length := by simp [mkS_len]; omega
  have hrel := hO.rel ok
  rw [hrel.len, hlen, pBin_lt, pIf_d]
  refine ⟨fun hj => ?_, fun hj => ?_⟩
  · have hj' : j < xs.length := by omega
    have hx := List.getElem?_eq_getElem hj'
    have ht := sumBy_take (f := cnt) hx
    have hle := sumBy_le (f := cnt) (xs := xs) (j + 1)
    have htl : (mkS mk cnt k (xs.take j)).length = j := by rw [mkS_len, List.length_take]; omega
    refine hB j xs[j] (k + sumBy cnt (xs.take j)) s _ _ (by rw [hlen]; exact hj') hlen hkb (List.getElem_mem hj') (by omega) hO ?_ fun s' hk' hO' => ?_
    · rw [List.getElem?_append_right (by omega), htl, Nat.sub_self, List.getElem?_drop, Nat.add_zero, hx]
    · refine hL _ _ (c - 1) (by omega) ⟨j + 1, by omega, hkb.trans hk', ?_, ?_⟩
      · have e : (mkS mk cnt k (xs.take j) ++ xs.drop j).set j (mk (k + sumBy cnt (xs.take j)) xs[j]) = mkS mk cnt k (xs.take (j + 1)) ++ xs.drop (j + 1) := by
          rw [List.set_append_right _ _ (by omega), htl, Nat.sub_self, List.drop_eq_getElem_cons hj', List.set_cons_zero, List.take_add_one, hx, Option.toList_some, mkS_snoc]
          simp
        rw [e] at hO'; exact hO'
      · rw [ht]
        congr 2
        · congr 1; omega
  · have hj' : j = xs.length := by omega
    subst hj'
    rw [List.take_length] at hO ⊢
    rw [List.drop_length, List.append_nil] at hO
    exact hR s hkb hO

/-- A loop that looks at marks. -/
theorem held_loop {T n : Nat} {Rel : (Addr → Option Value) → List Value → α → Prop} (hmono : ∀ rd rd' es x, Le rd rd' → Rel rd es x → Rel rd' es x) {mk : Nat → α → α} {cnt : α → Nat} {v : Value} {xs : List α} {k : Nat} {R : Value → Vw → Prop}
    {BODY : List Value → (AX → List Value → Vw → Prop) → Vw → Prop}
    (h : RSl n Rel (Av.get w0 σ) v (mkS mk cnt k xs)) (hk : k + sumBy cnt xs ≤ 1000000000000)
    (hB : ∀ (j : Nat) (x : α) (k' : Nat) (s : Vw) (K : AX → List Value → Vw → Prop), j < xs.length → Keeps σ s → x ∈ xs → k' + cnt x ≤ 1000000000000 → RSl n Rel (Av.get w0 s) v (mkS mk cnt k xs) → (mkS mk cnt k xs)[j]? = some (mk k' x) →
      (∀ s', Keeps s s' → K .normal [v, .int .i64 ((k' + cnt x : Nat) : Int), .int .i64 0, .int .i64 ((j : Int) + 1)] s') → BODY [v, .int .i64 (k' : Nat), .int .i64 0, .int .i64 (j : Nat)] K s)
    (hR : ∀ s', Keeps σ s' → R (.int .i64 ((k + sumBy cnt xs : Nat) : Int)) s') :
    pLoop (fun l K s => pLen (vget l 0) (fun v3 => pBin P T .lss (vget l 3) v3 (fun v4 => pIf v4 (BODY l K s) (K (.exit 0) [vget l 0, vget l 1, vget l 2, vget l 3] s)))) [v, .int .i64 (k : Nat), .int .i64 0, .int .i64 0] σ
      (fun x l s => match x with | .normal => R (vget l 1) s | .ret => R (vget l 2) s | .exit i => (match Nat.beq i 0 with | true => R (vget l 1) s | false => False)) := by
  have hl : xs.length ≤ 9223372036854775807 := by have := h.le; rwa [mkS_len] at this
  refine loop_rule (m := xs.length) (fun c l s => ∃ j, c + j = xs.length ∧ Keeps σ s ∧ l = [v, .int .i64 ((k + sumBy cnt (xs.take j) : Nat) : Int), .int .i64 0, .int .i64 (j : Nat)]) ?_ ⟨0, by omega, Keeps.refl _, by simp [sumBy]⟩
  rintro c l s L ⟨j, hc, hkb, rfl⟩ hL
  simp only [vget, List.getD_cons_zero, List.getD_cons_succ]
  have h' := h.mono hkb.le fun es x => hmono _ _ es x hkb.le
  rw [h'.len, mkS_len, pBin_lt, pIf_d]
  refine ⟨fun hj => ?_, fun hj => ?_⟩
  · have hj' : j < xs.length := by omega
    have hx := List.getElem?_eq_getElem hj'
    have ht := sumBy_take (f := cnt) hx
    have hle := sumBy_le (f := cnt) (xs := xs) (j + 1)
    refine hB j xs[j] (k + sumBy cnt (xs.take j)) s _ hj' hkb (List.getElem_mem hj') (by omega) h' (mkS_get hx) fun s' hk' => ?_
    refine hL _ _ (c - 1) (by omega) ⟨j + 1, by omega, hkb.trans hk', ?_⟩
    rw [ht]
    congr 2
    · congr 1; omega
  · have hj' : j = xs.length := by omega
    subst hj'
    rw [List.take_length]
    exact hR s hkb
end
end Go.Av

/- The plain side, part 3: what the statement's reading of an argument says of the cells. -/
set_option linter.unusedVariables false
set_option linter.unusedSimpArgs false
namespace Go.Av
open Go Go.RowKit

def σ0 : Vw := fun _ => none

section
variable {H : Type} {enc : TypeId × Value → H} {P : Program} {W : World} {fuel : Nat} {cs : List Value} {x : DataW H × List MemPlace}

theorem sat0 (W : World) : Sat W σ0 W := ⟨Below.refl _ _, fun b r h => by cases h⟩

theorem get0 {a : Addr} {v : Value} (h : W.cell? a = some v) {σ : Vw} : Av.get W σ a = some v := by
  have hlt : a.block < W.heap.size := by
    rcases Nat.lt_or_ge a.block W.heap.size with h1 | h1
    · exact h1
    · have : W.heap[a.block]? = none := Array.getElem?_eq_none h1
      unfold World.cell? at h
      simp [this] at h
  unfold Av.get
  rw [if_pos hlt]; exact h

theorem listOf {α : Type} (p : Nat → α → Prop) : ∀ (n : Nat), (∀ i, i < n → ∃ x, p i x) → ∃ xs : List α, xs.length = n ∧ ∀ (j : Nat) (x : α), xs[j]? = some x → p j x
  | 0, _ => ⟨[], rfl, fun j x h => by simp at h⟩
  | n + 1, h => by
    obtain ⟨xs, hl, hx⟩ := listOf p n (fun i hi => h i (by omega))
    obtain ⟨y, hy⟩ := h n (by omega)
    refine ⟨xs ++ [y], by simp [hl], fun j x hj => ?_⟩
    by_cases e : j < xs.length
    · rw [List.getElem?_append_left e] at hj; exact hx j x hj
    · rw [List.getElem?_append_right (by omega)] at hj
      have : j - xs.length = 0 := by
        rcases Nat.eq_zero_or_pos (j - xs.length) with h0 | h0
        · exact h0
        · rw [List.getElem?_eq_none (by simp; omega)] at hj; cases hj
      rw [this] at hj
      simp at hj
      subst hj
      have : j = n := by omega
      subst this; exact hy

/-- A slice is opened, its elements by a rule of their own. -/
theorem open_rsl {α : Type} {t e n : Nat} {R : (Addr → Option Value) → List Value → α → Prop} {spare : Nat → Bool} (ht : P.underlying t = some (.slice e)) (hc : P.cellsOf e = n)
    (hR : ∀ (fuel : Nat) (es : List Value) (y : DataW H × List MemPlace), DataW.trod enc P W 0 spare true fuel e es = some y → es.length = n → ∃ x, R (Av.get W σ0) es x) (h : DataW.trod enc P W 0 spare true fuel t cs = some x) : ∃ v xs, cs = [v] ∧ RSl n R (Av.get W σ0) v xs := by
  rcases DataW.trod_slice ht h with ⟨rfl, _⟩ | ⟨a, len, cap, elems, rest, m, _, rfl, _, hb, hl, hm, hlen, hel, _, _⟩
  · exact ⟨_, [], rfl, none, 0, rfl, by simp, fun j x hj => by simp at hj⟩
  · have each : ∀ i, i < len → ∃ x : α, ∃ es : List Value, es.length = n ∧ (∀ k, k < n → Av.get W σ0 (a.add (i * n + k)) = es[k]?) ∧ R (Av.get W σ0) es x := by
      intro i hi
      have h1 := hel i hi
      rw [hc, List.getElem?_eq_getElem (by omega), Option.bind_eq_some_iff] at h1
      obtain ⟨es, h2, h3⟩ := h1
      obtain ⟨_, hes, hcell⟩ := World.cells?_some h2
      obtain ⟨x, hx⟩ := hR m es _ h3 hes
      refine ⟨x, es, hes, fun k hk => ?_, hx⟩
      have := hcell k hk
      rw [add_add] at this
      have hlt : k < es.length := by omega
      rw [List.getElem?_eq_getElem hlt] at this ⊢
      exact get0 this
    obtain ⟨xs, hxl, hxs⟩ := listOf _ len each
    have hmax : cap ≤ 9223372036854775807 := by have : maxLen = 9223372036854775807 := by decide
                                                omega
    refine ⟨_, xs, rfl, some a, cap, by rw [hxl], ⟨by omega, hmax⟩, fun j x hj => ?_⟩
    obtain ⟨es, g1, g2, g3⟩ := hxs j x hj
    exact ⟨a, es, rfl, g1, g2, g3⟩

theorem open_rs {e : Nat} {spare : Nat → Bool} (he : P.underlying e = some .string) : ∀ (fuel : Nat) (es : List Value) (y : DataW H × List MemPlace), DataW.trod enc P W 0 spare true fuel e es = some y → es.length = 1 → ∃ s, RS (Av.get W σ0) es s := by
  intro fuel es y h _
  obtain ⟨s, rfl, _, hm⟩ := DataW.trod_string he h
  exact ⟨s, rfl, by have : maxLen = 9223372036854775807 := by decide
                    omega⟩

def fsOf (P : Program) (t : Nat) : Array Field := match P.underlying t with | some (.struct fs) => fs | _ => #[]

/-- From the functions to the statement. -/
theorem AC.calls {f : FuncId} {args : List Value} {R : Value → Vw → Prop} (h : AC P W f args σ0 R) : Calls P f args.toArray W fun e W' => ∃ v σ', e = .returned v ∧ R v σ' ∧ Below W.heap.size W W' :=
  (h.2 W (sat0 W)).mono fun e W' ⟨v, σ', h1, h2, h3⟩ => ⟨v, σ', h1, h2, h3.sat.bel⟩
end
end Go.Av

/- The plain side, part 4: what the statement's reading of an argument says, with the fuel told; numbers, bools, texts. -/
set_option linter.unusedVariables false
set_option linter.unusedSimpArgs false
namespace Go.Av
open Go Go.RowKit

theorem RSl.imp {α : Type} {n : Nat} {R R' : (Addr → Option Value) → List Value → α → Prop} {rd : Addr → Option Value} {v : Value} {xs : List α} (h : RSl n R rd v xs) (hR : ∀ es x, R rd es x → R' rd es x) : RSl n R' rd v xs := by
  obtain ⟨A, cap, h1, h2, h3⟩ := h
  refine ⟨A, cap, h1, h2, fun j x hj => ?_⟩
  obtain ⟨a, es, h4, h5, h6, h7⟩ := h3 j x hj
  exact ⟨a, es, h4, h5, h6, hR _ _ h7⟩

section
variable {H : Type} {enc : TypeId × Value → H} {P : Program} {W : World} {fuel : Nat} {cs : List Value} {x : DataW H × List MemPlace}

/-- A slice is opened, its elements by a rule of their own, at less fuel. -/
theorem open_rsl' {α : Type} {t e n : Nat} {R : (Addr → Option Value) → List Value → α → Prop} {spare : Nat → Bool} (ht : P.underlying t = some (.slice e)) (hc : P.cellsOf e = n)
    (hR : ∀ (m : Nat) (es : List Value) (y : DataW H × List MemPlace), m < fuel → DataW.trod enc P W 0 spare true m e es = some y → es.length = n → ∃ x, R (Av.get W σ0) es x) (h : DataW.trod enc P W 0 spare true fuel t cs = some x) : ∃ v xs, cs = [v] ∧ RSl n R (Av.get W σ0) v xs := by
  rcases DataW.trod_slice ht h with ⟨rfl, _⟩ | ⟨a, len, cap, elems, rest, m, hm1, rfl, _, hb, hl, hm, hlen, hel, _, _⟩
  · exact ⟨_, [], rfl, none, 0, rfl, by simp, fun j x hj => by simp at hj⟩
  · have each : ∀ i, i < len → ∃ x : α, ∃ es : List Value, es.length = n ∧ (∀ k, k < n → Av.get W σ0 (a.add (i * n + k)) = es[k]?) ∧ R (Av.get W σ0) es x := by
      intro i hi
      have h1 := hel i hi
      rw [hc, List.getElem?_eq_getElem (by omega), Option.bind_eq_some_iff] at h1
      obtain ⟨es, h2, h3⟩ := h1
      obtain ⟨_, hes, hcell⟩ := World.cells?_some h2
      obtain ⟨x, hx⟩ := hR m es _ (by omega) h3 hes
      refine ⟨x, es, hes, fun k hk => ?_, hx⟩
      have := hcell k hk
      rw [add_add] at this
      have hlt : k < es.length := by omega
      rw [List.getElem?_eq_getElem hlt] at this ⊢
      exact get0 this
    obtain ⟨xs, hxl, hxs⟩ := listOf _ len each
    have hmax : cap ≤ 9223372036854775807 := by have : maxLen = 9223372036854775807 := by decide
                                                omega
    refine ⟨_, xs, rfl, some a, cap, by rw [hxl], ⟨by omega, hmax⟩, fun j x hj => ?_⟩
    obtain ⟨es, g1, g2, g3⟩ := hxs j x hj
    exact ⟨a, es, rfl, g1, g2, g3⟩

theorem open_field' {t : Nat} {spare : Nat → Bool} (ht : P.underlying t = some (.struct (fsOf P t))) (i ft off n : Nat) (hf : (fsOf P t)[i]?.map (fun f => (f.type, f.offset)) = some (ft, off)) (hn : P.cellsOf ft = n) (h : DataW.trod enc P W 0 spare true fuel t cs = some x) :
    ∃ (fuel' : Nat) (y : DataW H × List MemPlace), fuel' < fuel ∧ DataW.trod enc P W 0 spare true fuel' ft ((cs.drop off).take n) = some y := by
  obtain ⟨xs, m, hm, _, _, hl, hall⟩ := DataW.trod_struct ht h
  cases hc : (fsOf P t)[i]? with
  | none => rw [hc] at hf; cases hf
  | some f =>
    rw [hc] at hf
    simp only [Option.map_some, Option.some.injEq, Prod.mk.injEq] at hf
    obtain ⟨rfl, rfl⟩ := hf
    have h1 := hall i f hc
    have hlt : i < xs.length := by rw [hl]; exact (Array.getElem?_eq_some_iff.1 hc).1
    rw [List.getElem?_eq_getElem hlt, hn] at h1
    exact ⟨m, _, by omega, h1⟩

theorem open_int {t : Nat} {spare : Nat → Bool} (ht : P.underlying t = some (.int .i64)) (h : DataW.trod enc P W 0 spare true fuel t cs = some x) : ∃ n : Int, cs = [.int .i64 n] ∧ -9223372036854775808 ≤ n ∧ n ≤ 9223372036854775807 := by
  obtain ⟨n, rfl, _, hw⟩ := DataW.trod_int ht h
  refine ⟨n, rfl, ?_⟩
  have e1 : IntKind.i64.min = -9223372036854775808 := by decide
  have e2 : IntKind.i64.max = 9223372036854775807 := by decide
  simp only [Lit.wf, Bool.and_eq_true, decide_eq_true_eq, e1, e2] at hw
  exact ⟨hw.1, hw.2⟩
theorem open_str {t : Nat} {spare : Nat → Bool} (ht : P.underlying t = some .string) (h : DataW.trod enc P W 0 spare true fuel t cs = some x) : ∃ s : ByteArray, cs = [.string s] ∧ s.size ≤ 9223372036854775807 := by
  obtain ⟨s, rfl, _, hm⟩ := DataW.trod_string ht h
  exact ⟨s, rfl, by have : maxLen = 9223372036854775807 := by decide
                    omega⟩
theorem open_bool {t : Nat} {spare : Nat → Bool} (ht : P.underlying t = some .bool) (h : DataW.trod enc P W 0 spare true fuel t cs = some x) : ∃ b : Bool, cs = [.bool b] := by
  obtain ⟨b, rfl, _⟩ := DataW.trod_bool ht h
  exact ⟨b, rfl⟩
end
end Go.Av

/- The plain side, part 5: more operations at known values. -/
set_option linter.unusedVariables false
set_option linter.unusedSimpArgs false
namespace Go.Av
open Go Go.RowKit IntWalk

section
variable {P : Program} {w0 : World} {σ σ' : Vw}
theorem pConv_s {k k' : IntKind} {n : Int} {K : Value → Prop} : pConvInt k (.int k' n) K ↔ K (.int k (k.wrap n)) :=
  ⟨fun ⟨_, _, h, hK⟩ => by cases h; exact hK, fun h => ⟨_, _, rfl, h⟩⟩
theorem pConv_u8 {k' : IntKind} {n : Int} {K : Value → Prop} (h : 0 ≤ n ∧ n ≤ 255) : pConvInt .u8 (.int k' n) K ↔ K (.int .u8 n) := by rw [pConv_s, u8_in n h]
theorem pBin_rem {T : Nat} {k : IntKind} {a b : Int} {K : Value → Prop} (h : 0 ≤ a ∧ 0 < b) : pBin P T .rem (.int k a) (.int k b) K ↔ K (.int k (a % b)) :=
  pBin_i (by simp only [aint]; rw [if_neg (by omega), Int.tmod_eq_emod_of_nonneg h.1])
theorem pBin_quo {T : Nat} {a b : Int} {K : Value → Prop} (h : 0 ≤ a ∧ a ≤ 9223372036854775807 ∧ 0 < b) : pBin P T .quo (.int .i64 a) (.int .i64 b) K ↔ K (.int .i64 (a / b)) :=
  pBin_i (by simp only [aint]; rw [if_neg (by omega), i64_quo a b (by omega)])
theorem pBin_cat {T : Nat} {a b : ByteArray} {K : Value → Prop} (h : a.size + b.size ≤ 9223372036854775807) : pBin P T .add (.string a) (.string b) K ↔ K (.string (a ++ b)) :=
  pBin_s (by
    have e : IntKind.i64.max = 9223372036854775807 := by decide
    simp only [astr, e]
    rw [if_neg (by omega)])
theorem pExtract_s {vs : List Value} {i : Nat} {v : Value} {K : Value → Prop} (h : vs[i]? = some v) : pExtract (.tuple ⟨vs⟩) i K ↔ K v := by
  obtain ⟨hl, he⟩ := List.getElem?_eq_some_iff.1 h
  exact ⟨fun ⟨_, e, hl', hK⟩ => by cases e; rw [he] at hK; exact hK, fun hK => ⟨_, rfl, hl, by rw [he]; exact hK⟩⟩
theorem pIndexStr_s {s : ByteArray} {j : Nat} {K : Value → Prop} (h : j < s.size) (hK : K (.int .u8 ((s[j]'h).toNat : Int))) : pIndexStr (.string s) (.int .i64 j) K :=
  ⟨s, .i64, j, rfl, rfl, by omega, h, hK⟩
end
end Go.Av

/- Lists that grow by append, in a row of our own; elements that need no row; elements that are read in what is older. -/
set_option linter.unusedVariables false
set_option linter.unusedSimpArgs false
namespace Go.Av
open Go Go.RowKit

section
variable {P : Program} {w0 : World} {σ σ' : Vw} {α : Type}

/-! ### Elements that are read by a reader that is fixed -/
def RB (Rel : (Addr → Option Value) → List Value → α → Prop) (rd0 : Addr → Option Value) (rd : Addr → Option Value) (es : List Value) (x : α) : Prop := Rel rd0 es x
/-- What a rule of reading must keep. -/
structure ROk (n : Nat) (Rel : (Addr → Option Value) → List Value → α → Prop) : Prop where
  mono : ∀ rd rd' es x, Le rd rd' → Rel rd es x → Rel rd' es x
  len : ∀ rd es x, Rel rd es x → es.length = n
  one : ∀ rd es x, Rel rd es x → ∀ c, c ∈ es → c.oneCell' = true
/-! ### Elements that need no row -/
/-! ### Growing lists -/
def OAcc (w0 : World) (ety n : Nat) (O : Vw → List Nat → List Value → α → Prop) (σ : Vw) (F : List Nat) (v : Value) (xs : List α) : Prop :=
  xs.length ≤ 9223372036854775807 ∧ F.Nodup ∧ ((v = .slice none 0 0 ∧ xs = [] ∧ F = []) ∨
  ∃ (b cap : Nat) (css : List (List Value)) (Fs : List (List Nat)), v = .slice (some ⟨b, 0, none⟩) xs.length cap ∧ (xs.length ≤ cap ∧ cap ≤ 9223372036854775807) ∧ w0.heap.size ≤ b ∧ σ b = some ⟨ety, css.flatten, cap * n, (0, 0)⟩ ∧
    css.length = xs.length ∧ Fs.length = xs.length ∧ F = b :: Fs.flatten ∧ ∀ (j : Nat) (c : List Value) (x : α) (f : List Nat), css[j]? = some c → xs[j]? = some x → Fs[j]? = some f → O σ f c x)

theorem OAcc.osl {ety n : Nat} {O : Vw → List Nat → List Value → α → Prop} {F : List Nat} {v : Value} {xs : List α} (h : OAcc w0 ety n O σ F v xs) : OSl w0 n O σ F v xs := by
  obtain ⟨h1, h2, h3 | ⟨b, cap, css, Fs, g1, g2, g3, g4, g5, g6, g7, g8⟩⟩ := h
  · exact ⟨h1, h2, .inl h3⟩
  · exact ⟨h1, h2, .inr ⟨b, 0, cap, _, [], [], css, Fs, g1, g2, g3, g4, by simp, rfl, g5, g6, g7, g8⟩⟩
theorem OAcc.frame {ety n : Nat} {Rel : (Addr → Option Value) → List Value → α → Prop} {O : Vw → List Nat → List Value → α → Prop} (ok : OOk w0 n Rel O) {F : List Nat} {v : Value} {xs : List α} (h : OAcc w0 ety n O σ F v xs) (hF : ∀ b, b ∈ F → σ' b = σ b) : OAcc w0 ety n O σ' F v xs := by
  obtain ⟨h1, h2, h3 | ⟨b, cap, css, Fs, g1, g2, g3, g4, g5, g6, g7, g8⟩⟩ := h
  · exact ⟨h1, h2, .inl h3⟩
  · refine ⟨h1, h2, .inr ⟨b, cap, css, Fs, g1, g2, g3, by rw [hF b (by rw [g7]; exact List.mem_cons_self)]; exact g4, g5, g6, g7, fun j c x f e1 e2 e3 => ?_⟩⟩
    refine ok.frame _ _ _ _ _ (g8 j c x f e1 e2 e3) fun i hi => hF i ?_
    rw [g7]
    exact List.mem_cons_of_mem _ (List.mem_flatten.2 ⟨f, List.mem_of_getElem? e3, hi⟩)
theorem OAcc.dom {ety n : Nat} {Rel : (Addr → Option Value) → List Value → α → Prop} {O : Vw → List Nat → List Value → α → Prop} (ok : OOk w0 n Rel O) {F : List Nat} {v : Value} {xs : List α} (h : OAcc w0 ety n O σ F v xs) : ∀ b, b ∈ F → w0.heap.size ≤ b ∧ σ b ≠ none := h.osl.dom ok
theorem OAcc.nil {ety n : Nat} {O : Vw → List Nat → List Value → α → Prop} : OAcc w0 ety n O σ [] (.slice none 0 0) [] := ⟨by simp, by simp, .inl ⟨rfl, rfl, rfl⟩⟩
theorem OAcc.new {ety n b : Nat} {O : Vw → List Nat → List Value → α → Prop} (hb : w0.heap.size ≤ b) : OAcc w0 ety n O (σ.put b ⟨ety, [], 0, (0, 0)⟩) [b] (.slice (some ⟨b, 0, none⟩) 0 0) [] :=
  ⟨by simp, by simp, .inr ⟨b, 0, [], [], rfl, by simp, hb, by rw [put_at]; simp, rfl, rfl, rfl, fun j c x f h => by simp at h⟩⟩

theorem Keeps.but_at {F : List Nat} (h : Keeps σ σ') (hF : ∀ b, b ∈ F → σ b ≠ none) : ∀ b, b ∈ F → σ' b = σ b := fun b hb => by
  cases hs : σ b with
  | none => exact absurd hs (hF b hb)
  | some r => exact h b r hs

/-- Elements are appended, each with rows of its own. -/
theorem OAcc.pushX {ety n bytes m : Nat} {Rel : (Addr → Option Value) → List Value → α → Prop} {O : Vw → List Nat → List Value → α → Prop} (ok : OOk w0 n Rel O) {F : List Nat} {v : Value} {xs ys : List α} {nss : List (List Value)} {Gs : List (List Nat)} {new : List Value}
    (h : OAcc w0 ety n O σ F v xs) (hm : ys.length = m) (hnl : nss.length = m) (hGl : Gs.length = m) (hnew : new = nss.flatten) (hO : ∀ (j : Nat) (c : List Value) (y : α) (g : List Nat), nss[j]? = some c → ys[j]? = some y → Gs[j]? = some g → O σ g c y)
    (hG : Gs.flatten.Nodup) (hGF : ∀ i, i ∈ Gs.flatten → i ∉ F) (hlen : xs.length + m ≤ 1000000000000) (hbytes : bytes ≤ 140) {K : Value → Vw → Prop}
    (hK : ∀ v' F' σ', Ext σ σ' → KeepsBut F σ σ' → OAcc w0 ety n O σ' F' v' (xs ++ ys) → (∀ i, i ∈ F' → i ∈ F ∨ i ∈ Gs.flatten ∨ σ i = none) → K v' σ') : pAppend w0 ety n bytes v m new σ K := by
  have hb47 : (xs.length + m) * bytes ≤ 2 ^ 47 := by
    have h1 : (xs.length + m) * bytes ≤ 1000000000000 * 140 := Nat.mul_le_mul hlen hbytes
    have h2 : (2 : Nat) ^ 47 = 140737488355328 := by decide
    omega
  have hn2 : ∀ c, c ∈ nss → c.length = n := fun c hc => by
    obtain ⟨i, hi⟩ := List.getElem?_of_mem hc
    have hil : i < nss.length := (List.getElem?_eq_some_iff.1 hi).1
    exact ok.len _ _ _ _ (hO i c _ _ hi (List.getElem?_eq_getElem (by omega)) (List.getElem?_eq_getElem (by omega)))
  have hnewl : new.length = m * n := by rw [hnew, flat_len _ hn2, hnl]
  have hGdom : ∀ i, i ∈ Gs.flatten → σ i ≠ none := fun i hi => by
    obtain ⟨j, f, e1, e2⟩ := mem_flat hi
    have hj : j < Gs.length := (List.getElem?_eq_some_iff.1 e1).1
    exact (ok.dom _ _ _ _ (hO j _ _ f (List.getElem?_eq_getElem (by omega)) (List.getElem?_eq_getElem (by omega)) e1) i e2).2
  obtain ⟨h1, h2, ⟨rfl, rfl, rfl⟩ | ⟨b, cap, css, Fs, rfl, g2, g3, g4, g5, g6, g7, g8⟩⟩ := h
  · refine .inr (.inl ⟨0, [], ⟨by simp, .inl ⟨rfl, rfl⟩⟩, hnewl, by simpa using (by omega : m ≤ 9223372036854775807), by simpa using hb47, fun v' σ' hg => ?_⟩)
    rcases hg with ⟨rfl, rfl, _, h0, _⟩ | ⟨b', c', rfl, g1, g2, rfl, g3, g4⟩
    · have : m = 0 := by omega
      subst this
      have hy : ys = [] := List.length_eq_zero_iff.1 hm
      subst hy
      exact hK _ [] _ (Ext.refl _) (KeepsBut.refl _ _) (by simpa using OAcc.nil) (fun i hi => by cases hi)
    · have hb' : σ b' = none := by
        rcases g4 with h | ⟨n0, c0, h⟩
        · exact h
        · cases h
      have hbG : b' ∉ Gs.flatten := fun hi => hGdom b' hi hb'
      refine hK _ (b' :: Gs.flatten) _ (Keeps.put hb').ext (Keeps.put hb').but ?_ fun i hi => ?_
      · refine ⟨by simp; omega, List.nodup_cons.2 ⟨hbG, hG⟩, .inr ⟨b', c', nss, Gs, by simp [hm], by simp [hm]; omega, g3, by rw [put_at]; simp [hnew], by simp [hm, hnl], by simp [hm, hGl], rfl, fun j c x f e1 e2 e3 => ?_⟩⟩
        simp only [List.nil_append] at e2
        refine ok.frame _ _ _ _ _ (hO j c x f e1 e2 e3) fun i hi => ?_
        have : i ≠ b' := fun e => hbG (e ▸ List.mem_flatten.2 ⟨f, List.mem_of_getElem? e3, hi⟩)
        simp [Vw.put, this]
      · rcases List.mem_cons.1 hi with e | e
        · rw [e]; exact .inr (.inr hb')
        · exact .inr (.inl e)
  · have hn1 : ∀ c, c ∈ css → c.length = n := fun c hc => by
      obtain ⟨i, hi⟩ := List.getElem?_of_mem hc
      have hil : i < css.length := (List.getElem?_eq_some_iff.1 hi).1
      exact ok.len _ _ _ _ (g8 i c _ _ hi (List.getElem?_eq_getElem (by omega)) (List.getElem?_eq_getElem (by omega)))
    have g4' := g4
    rw [g7] at h2
    have hbFs : b ∉ Fs.flatten := (List.nodup_cons.1 h2).1
    have hbG : b ∉ Gs.flatten := fun hi => hGF b hi (by rw [g7]; exact List.mem_cons_self)
    have hFsdom : ∀ i, i ∈ Fs.flatten → σ i ≠ none := fun i hi => by
      obtain ⟨j, f, e1, e2⟩ := mem_flat hi
      have hj : j < Fs.length := (List.getElem?_eq_some_iff.1 e1).1
      exact (ok.dom _ _ _ _ (g8 j _ _ f (List.getElem?_eq_getElem (by omega)) (List.getElem?_eq_getElem (by omega)) e1) i e2).2
    refine .inr (.inl ⟨xs.length, css.flatten, ⟨by rw [flat_len _ hn1, g5], .inr ⟨b, cap, rfl, g4, g2.1, g2.2⟩⟩, hnewl, by omega, hb47, fun v' σ' hg => ?_⟩)
    rcases hg with ⟨rfl, rfl, h, _⟩ | ⟨b', c', rfl, k1, k2, rfl, k3, k4⟩
    · cases h
    · have hb' : b' ∉ Fs.flatten ∧ b' ∉ Gs.flatten ∧ (b' = b ∨ σ b' = none) := by
        rcases k4 with h | ⟨n0, c0, h⟩
        · exact ⟨fun hi => hFsdom b' hi h, fun hi => hGdom b' hi h, .inr h⟩
        · cases h; exact ⟨hbFs, hbG, .inl rfl⟩
      refine hK _ (b' :: (Fs ++ Gs).flatten) _ ?_ ?_ ?_ fun i hi => ?_
      · rcases hb'.2.2 with rfl | h
        · intro i r hi
          by_cases e : i = b'
          · subst e
            rw [g4'] at hi; cases hi
            exact ⟨_, put_at, List.prefix_append _ _⟩
          · exact ⟨r, by simp [Vw.put, e, hi], List.prefix_refl _⟩
        · exact (Keeps.put h).ext
      · rcases hb'.2.2 with rfl | h
        · exact KeepsBut.put (by rw [g7]; exact List.mem_cons_self)
        · exact (Keeps.put h).but
      · refine ⟨by simp; omega, ?_, .inr ⟨b', c', css ++ nss, Fs ++ Gs, by simp [hm], by simp [hm]; omega, k3, by rw [put_at, hnew]; simp, by simp [hm, hnl, g5], by simp [hm, hGl, g6], rfl, fun j c x f e1 e2 e3 => ?_⟩⟩
        · rw [List.flatten_append, List.nodup_cons]
          refine ⟨fun hi => ?_, List.nodup_append.2 ⟨(List.nodup_cons.1 h2).2, hG, fun a ha d hd e => hGF d hd (by rw [g7, ← e]; exact List.mem_cons_of_mem _ ha)⟩⟩
          rcases List.mem_append.1 hi with h | h
          · exact hb'.1 h
          · exact hb'.2.1 h
        · have hput : ∀ i, i ≠ b' → (σ.put b' ⟨ety, css.flatten ++ new, c' * n, (0, 0)⟩) i = σ i := fun i hi => by simp [Vw.put, hi]
          by_cases hj : j < xs.length
          · rw [List.getElem?_append_left (by omega)] at e1 e2 e3
            exact ok.frame _ _ _ _ _ (g8 j c x f e1 e2 e3) fun i hi => hput i fun e => hb'.1 (e ▸ List.mem_flatten.2 ⟨f, List.mem_of_getElem? e3, hi⟩)
          · rw [List.getElem?_append_right (by omega)] at e1 e2 e3
            rw [g5] at e1; rw [g6] at e3
            exact ok.frame _ _ _ _ _ (hO _ c x f e1 e2 e3) fun i hi => hput i fun e => hb'.2.1 (e ▸ List.mem_flatten.2 ⟨f, List.mem_of_getElem? e3, hi⟩)
      · rw [g7]
        rcases List.mem_cons.1 hi with e | e
        · rw [e]
          rcases hb'.2.2 with rfl | h
          · exact .inl List.mem_cons_self
          · exact .inr (.inr h)
        · rw [List.flatten_append] at e
          rcases List.mem_append.1 e with h | h
          · exact .inl (List.mem_cons_of_mem _ h)
          · exact .inr (.inl h)

/-- One element is appended. -/
theorem OAcc.oneX {ety n bytes : Nat} {Rel : (Addr → Option Value) → List Value → α → Prop} {O : Vw → List Nat → List Value → α → Prop} (ok : OOk w0 n Rel O) {F f : List Nat} {v : Value} {xs : List α} {y : α} {es : List Value}
    (h : OAcc w0 ety n O σ F v xs) (hy : O σ f es y) (hf : ∀ i, i ∈ f → i ∉ F) (hlen : xs.length + 1 ≤ 1000000000000) (hbytes : bytes ≤ 140) {K : Value → Vw → Prop}
    (hK : ∀ v' F' σ', Ext σ σ' → KeepsBut F σ σ' → OAcc w0 ety n O σ' F' v' (xs ++ [y]) → (∀ i, i ∈ F' → i ∈ F ∨ i ∈ f ∨ σ i = none) → K v' σ') : allOne es ∧ pAppend w0 ety n bytes v 1 es σ K := by
  refine ⟨ok.one _ _ _ _ hy, ?_⟩
  refine h.pushX ok (ys := [y]) (nss := [es]) (Gs := [f]) rfl rfl rfl (by simp) (fun j c z g e1 e2 e3 => ?_) (by simpa using ok.nodup _ _ _ _ hy) (by simpa using hf) hlen hbytes (by simpa using hK)
  cases j with
  | zero => simp at e1 e2 e3; subst e1 e2 e3; exact hy
  | succ j => simp at e1

/-- All elements of a list that is read are appended; they need no rows of their own. -/
theorem OAcc.allX {ety n bytes : Nat} {Rel Rel0 : (Addr → Option Value) → List Value → α → Prop} {O : Vw → List Nat → List Value → α → Prop} (ok : OOk w0 n Rel O) {rd0 : Addr → Option Value} {F : List Nat} {v s : Value} {xs ys : List α}
    (h : OAcc w0 ety n O σ F v xs) (hs : RSl n Rel0 rd0 s ys) (hle : Le rd0 (Av.get w0 σ)) (hO : ∀ es y, Rel0 rd0 es y → O σ [] es y) (hlen : xs.length + ys.length ≤ 1000000000000) (hbytes : bytes ≤ 140) {K : Value → Vw → Prop}
    (hK : ∀ v' F' σ', Ext σ σ' → KeepsBut F σ σ' → OAcc w0 ety n O σ' F' v' (xs ++ ys) → (∀ i, i ∈ F' → i ∈ F ∨ σ i = none) → K v' σ') : pAppendS w0 ety n bytes v s σ K := by
  obtain ⟨A, cap, rfl, hc, hel⟩ := hs
  obtain ⟨css, hcl, hcs⟩ := listOf (fun i (c : List Value) => ∃ a y, A = some a ∧ ys[i]? = some y ∧ c.length = n ∧ (∀ k, k < n → rd0 (a.add (i * n + k)) = c[k]?) ∧ Rel0 rd0 c y) ys.length (fun i hi => by
    obtain ⟨a, es, h1, h2, h3, h4⟩ := hel i _ (List.getElem?_eq_getElem hi)
    exact ⟨es, a, _, h1, List.getElem?_eq_getElem hi, h2, h3, h4⟩)
  have hn : ∀ c, c ∈ css → c.length = n := fun c hc => by
    obtain ⟨i, hi⟩ := List.getElem?_of_mem hc
    obtain ⟨_, _, _, _, h, _⟩ := hcs i c hi
    exact h
  refine ⟨A, ys.length, cap, css.flatten, rfl, by rw [flat_len _ hn, hcl], ?_, ?_, ?_⟩
  · intro c hc
    obtain ⟨es, he, hce⟩ := List.mem_flatten.1 hc
    obtain ⟨i, hi⟩ := List.getElem?_of_mem he
    obtain ⟨a, y, _, _, _, _, hR⟩ := hcs i es hi
    exact ok.one _ _ _ _ (hO _ _ hR) c hce
  · intro j hj
    rw [flat_len _ hn, hcl] at hj
    have hn0 : 0 < n := by
      rcases Nat.eq_zero_or_pos n with e | e
      · subst e; omega
      · exact e
    have hq : j / n < css.length := by rw [hcl]; exact (Nat.div_lt_iff_lt_mul hn0).2 hj
    obtain ⟨a, y, hA, hy, hl, hk, hR⟩ := hcs (j / n) _ (List.getElem?_eq_getElem hq)
    have hr : j % n < n := Nat.mod_lt _ hn0
    have hdm : j / n * n + j % n = j := by rw [Nat.mul_comm]; exact Nat.div_add_mod j n
    refine ⟨a, hA, ?_⟩
    have e1 := flat_get css hn (j / n) _ (List.getElem?_eq_getElem hq) (j % n) hr
    rw [hdm] at e1
    have e2 := hk (j % n) hr
    rw [hdm, ← e1] at e2
    have hj' : j < css.flatten.length := by rw [flat_len _ hn, hcl]; exact hj
    rw [List.getElem?_eq_getElem hj'] at e2
    exact hle _ _ e2
  · refine h.pushX ok (ys := ys) (nss := css) (Gs := List.replicate ys.length []) rfl hcl (by simp) rfl (fun j c y g e1 e2 e3 => ?_) (by simp) (by simp) hlen hbytes (by simpa using hK)
    obtain ⟨a, y', _, hy, _, _, hR⟩ := hcs j c e1
    rw [e2] at hy; cases hy
    rw [List.getElem?_replicate] at e3
    split at e3
    · cases e3; exact hO _ _ hR
    · cases e3

/-- All elements of a list of our own are appended, with their rows. -/
theorem OAcc.allOwnX {ety n bytes : Nat} {Rel : (Addr → Option Value) → List Value → α → Prop} {O : Vw → List Nat → List Value → α → Prop} (ok : OOk w0 n Rel O) {F G : List Nat} {v s : Value} {xs ys : List α}
    (h : OAcc w0 ety n O σ F v xs) (hs : OSl w0 n O σ G s ys) (hGF : ∀ i, i ∈ G → i ∉ F) (hlen : xs.length + ys.length ≤ 1000000000000) (hbytes : bytes ≤ 140) {K : Value → Vw → Prop}
    (hK : ∀ v' F' σ', Ext σ σ' → KeepsBut F σ σ' → OAcc w0 ety n O σ' F' v' (xs ++ ys) → (∀ i, i ∈ F' → i ∈ F ∨ i ∈ G ∨ σ i = none) → K v' σ') : pAppendS w0 ety n bytes v s σ K := by
  obtain ⟨s1, s2, ⟨rfl, rfl, rfl⟩ | ⟨b, off, cap, r, pre, post, css, Gs, rfl, gc, g2, g3, g4, g5, g6, g7, g8, g9⟩⟩ := hs
  · refine ⟨none, 0, 0, [], rfl, by simp, by simp, fun j hj => by simp at hj, ?_⟩
    exact h.pushX ok (ys := []) (nss := []) (Gs := []) rfl rfl rfl rfl (fun j c y g e1 => by simp at e1) (by simp) (by simp) (by simpa using hlen) hbytes (by simpa using hK)
  · have hn : ∀ c, c ∈ css → c.length = n := fun c hc => by
      obtain ⟨i, hi⟩ := List.getElem?_of_mem hc
      have hil : i < css.length := (List.getElem?_eq_some_iff.1 hi).1
      exact ok.len _ _ _ _ (g9 i c _ _ hi (List.getElem?_eq_getElem (by omega)) (List.getElem?_eq_getElem (by omega)))
    rw [g8] at s2
    refine ⟨_, ys.length, cap, css.flatten, rfl, by rw [flat_len _ hn, g6], ?_, ?_, ?_⟩
    · intro c hc
      obtain ⟨es, he, hce⟩ := List.mem_flatten.1 hc
      obtain ⟨i, hi⟩ := List.getElem?_of_mem he
      have hil : i < css.length := (List.getElem?_eq_some_iff.1 hi).1
      exact ok.one _ _ _ _ (g9 i es _ _ hi (List.getElem?_eq_getElem (by omega)) (List.getElem?_eq_getElem (by omega))) c hce
    · intro j hj
      refine ⟨_, rfl, ?_⟩
      rw [addr_add, get_row g2 g3, g4, List.getElem?_append_right (by omega), List.getElem?_append_left (by omega), ← List.getElem?_eq_getElem hj]
      congr 1; omega
    · refine h.pushX ok (ys := ys) (nss := css) (Gs := Gs) rfl g6 g7 rfl g9 (List.nodup_cons.1 s2).2 (fun i hi => hGF i (by rw [g8]; exact List.mem_cons_of_mem _ hi)) hlen hbytes fun v' F' σ' k0 k1 k2 k3 => hK v' F' σ' k0 k1 k2 fun i hi => ?_
      rcases k3 i hi with h | h | h
      · exact .inl h
      · exact .inr (.inl (by rw [g8]; exact List.mem_cons_of_mem _ h))
      · exact .inr (.inr h)
theorem OAcc.push {ety n bytes m : Nat} {Rel : (Addr → Option Value) → List Value → α → Prop} {O : Vw → List Nat → List Value → α → Prop} (ok : OOk w0 n Rel O) {F : List Nat} {v : Value} {xs ys : List α} {nss : List (List Value)} {Gs : List (List Nat)} {new : List Value}
    (h : OAcc w0 ety n O σ F v xs) (hm : ys.length = m) (hnl : nss.length = m) (hGl : Gs.length = m) (hnew : new = nss.flatten) (hO : ∀ (j : Nat) (c : List Value) (y : α) (g : List Nat), nss[j]? = some c → ys[j]? = some y → Gs[j]? = some g → O σ g c y)
    (hG : Gs.flatten.Nodup) (hGF : ∀ i, i ∈ Gs.flatten → i ∉ F) (hlen : xs.length + m ≤ 1000000000000) (hbytes : bytes ≤ 140) {K : Value → Vw → Prop}
    (hK : ∀ v' F' σ', KeepsBut F σ σ' → OAcc w0 ety n O σ' F' v' (xs ++ ys) → (∀ i, i ∈ F' → i ∈ F ∨ i ∈ Gs.flatten ∨ σ i = none) → K v' σ') : pAppend w0 ety n bytes v m new σ K :=
  OAcc.pushX ok h hm hnl hGl hnew hO hG hGF hlen hbytes fun v' F' σ' _ => hK v' F' σ'
theorem OAcc.one {ety n bytes : Nat} {Rel : (Addr → Option Value) → List Value → α → Prop} {O : Vw → List Nat → List Value → α → Prop} (ok : OOk w0 n Rel O) {F f : List Nat} {v : Value} {xs : List α} {y : α} {es : List Value}
    (h : OAcc w0 ety n O σ F v xs) (hy : O σ f es y) (hf : ∀ i, i ∈ f → i ∉ F) (hlen : xs.length + 1 ≤ 1000000000000) (hbytes : bytes ≤ 140) {K : Value → Vw → Prop}
    (hK : ∀ v' F' σ', KeepsBut F σ σ' → OAcc w0 ety n O σ' F' v' (xs ++ [y]) → (∀ i, i ∈ F' → i ∈ F ∨ i ∈ f ∨ σ i = none) → K v' σ') : allOne es ∧ pAppend w0 ety n bytes v 1 es σ K :=
  OAcc.oneX ok h hy hf hlen hbytes fun v' F' σ' _ => hK v' F' σ'
theorem OAcc.all {ety n bytes : Nat} {Rel Rel0 : (Addr → Option Value) → List Value → α → Prop} {O : Vw → List Nat → List Value → α → Prop} (ok : OOk w0 n Rel O) {rd0 : Addr → Option Value} {F : List Nat} {v s : Value} {xs ys : List α}
    (h : OAcc w0 ety n O σ F v xs) (hs : RSl n Rel0 rd0 s ys) (hle : Le rd0 (Av.get w0 σ)) (hO : ∀ es y, Rel0 rd0 es y → O σ [] es y) (hlen : xs.length + ys.length ≤ 1000000000000) (hbytes : bytes ≤ 140) {K : Value → Vw → Prop}
    (hK : ∀ v' F' σ', KeepsBut F σ σ' → OAcc w0 ety n O σ' F' v' (xs ++ ys) → (∀ i, i ∈ F' → i ∈ F ∨ σ i = none) → K v' σ') : pAppendS w0 ety n bytes v s σ K :=
  OAcc.allX ok h hs hle hO hlen hbytes fun v' F' σ' _ => hK v' F' σ'
theorem OAcc.allOwn {ety n bytes : Nat} {Rel : (Addr → Option Value) → List Value → α → Prop} {O : Vw → List Nat → List Value → α → Prop} (ok : OOk w0 n Rel O) {F G : List Nat} {v s : Value} {xs ys : List α}
    (h : OAcc w0 ety n O σ F v xs) (hs : OSl w0 n O σ G s ys) (hGF : ∀ i, i ∈ G → i ∉ F) (hlen : xs.length + ys.length ≤ 1000000000000) (hbytes : bytes ≤ 140) {K : Value → Vw → Prop}
    (hK : ∀ v' F' σ', KeepsBut F σ σ' → OAcc w0 ety n O σ' F' v' (xs ++ ys) → (∀ i, i ∈ F' → i ∈ F ∨ i ∈ G ∨ σ i = none) → K v' σ') : pAppendS w0 ety n bytes v s σ K :=
  OAcc.allOwnX ok h hs hGF hlen hbytes fun v' F' σ' _ => hK v' F' σ'
end
end Go.Av

/- A part of a list that is read; slices of texts. -/
set_option linter.unusedVariables false
set_option linter.unusedSimpArgs false
namespace Go.Av
open Go Go.RowKit

section
variable {P : Program} {w0 : World} {σ σ' : Vw} {α : Type}

theorem RSl.slice {n : Nat} {R : (Addr → Option Value) → List Value → α → Prop} {rd : Addr → Option Value} {v : Value} {xs : List α} (h : RSl n R rd v xs) {lo hi : Option Value} {l u : Nat} (hl : boundOf 0 lo = some (l : Int)) (hu : boundOf xs.length hi = some (u : Int)) (hlu : l ≤ u) (hux : u ≤ xs.length) {K : Value → Prop}
    (hK : ∀ v', RSl n R rd v' ((xs.take u).drop l) → K v') : pSlice n v lo hi K := by
  obtain ⟨A, cap, rfl, h2, h3⟩ := h
  refine ⟨A, xs.length, cap, l, u, rfl, hl, hu, by omega, by omega, by omega, hK _ ?_⟩
  have hlen : ((xs.take u).drop l).length = u - l := by rw [List.length_drop, List.length_take]; omega
  simp only [Int.toNat_natCast]
  refine ⟨if cap = l then A else Option.map (fun x => x.add (l * n)) A, cap - l, by rw [hlen], by rw [hlen]; omega, fun j x hj => ?_⟩
  rw [List.getElem?_drop] at hj
  have hlt : l + j < u := by
    rcases Nat.lt_or_ge (l + j) u with h | h
    · exact h
    · rw [List.getElem?_eq_none (by rw [List.length_take]; omega)] at hj; cases hj
  rw [List.getElem?_take_of_lt hlt] at hj
  obtain ⟨a, es, rfl, g1, g2, g3⟩ := h3 _ x hj
  refine ⟨a.add (l * n), es, ?_, g1, fun i hi => ?_, g3⟩
  · rw [if_neg (by omega)]; rfl
  · rw [add_add, ← g2 i hi]
    congr 2
    rw [Nat.add_mul]; omega

/-- A field of an element is read. -/
theorem RSl.atp {n : Nat} {R : (Addr → Option Value) → List Value → α → Prop} {v : Value} {xs : List α} (h : RSl n R (Av.get w0 σ) v xs) {j : Nat} {x : α} (hj : xs[j]? = some x) {K : Value → (Nat → Value) → Prop} (hK : ∀ (p : Value) (g : Nat → Value), R (Av.get w0 σ) (expl g 0 n) x → K p g) :
    pIndexAddr n v (.int .i64 j) fun p => pLoad w0 n p σ (K p) := by
  have h' := h
  obtain ⟨A, cap, rfl, _, h3⟩ := h
  obtain ⟨a, es, rfl, h5, h6, h7⟩ := h3 j x hj
  have hlt : j < xs.length := (List.getElem?_eq_some_iff.1 hj).1
  refine ⟨a, xs.length, cap, .i64, j, rfl, rfl, by omega, by omega, a.add (j * n), fun i => es.getD i undef, rfl, fun i hi => ?_, hK _ _ ?_⟩
  · have := h6 i hi
    have hlt : i < es.length := by omega
    rw [add_add]
    show Av.get w0 σ (a.add (j * n + i)) = _
    rw [this, List.getElem?_eq_getElem hlt]
    simp only [List.getD_eq_getElem?_getD, List.getElem?_eq_getElem hlt, Option.getD_some]
  · have : expl (fun i => es.getD i undef) 0 n = es := by
      apply List.ext_getElem?
      intro i
      by_cases hi : i < n
      · rw [expl_get _ _ _ _ hi, Nat.zero_add, List.getD_eq_getElem?_getD]
        have hlt : i < es.length := by omega
        rw [List.getElem?_eq_getElem hlt]; rfl
      · rw [List.getElem?_eq_none (by rw [length_expl]; omega), List.getElem?_eq_none (by omega)]
    rw [this]; exact h7
theorem RSl.atfp {n : Nat} {R : (Addr → Option Value) → List Value → α → Prop} {v : Value} {xs : List α} (h : RSl n R (Av.get w0 σ) v xs) {j : Nat} {x : α} (hj : xs[j]? = some x) (o : Nat) (ho : o < n) {K : Value → (Nat → Value) → Prop} (hK : ∀ (q : Value) (es : List Value) (g : Nat → Value), R (Av.get w0 σ) es x → es[o]? = some (g 0) → K q g) :
    pIndexAddr n v (.int .i64 j) fun p => pField o p fun q => pLoad w0 1 q σ (K q) := by
  obtain ⟨A, cap, rfl, _, h3⟩ := h
  obtain ⟨a, es, rfl, h5, h6, h7⟩ := h3 j x hj
  have hlt : j < xs.length := (List.getElem?_eq_some_iff.1 hj).1
  refine ⟨a, xs.length, cap, .i64, j, rfl, rfl, by omega, by omega, a.add (j * n), rfl, (a.add (j * n)).add o, fun _ => es.getD o undef, rfl, fun i hi => ?_, hK _ es _ h7 ?_⟩
  · have e : i = 0 := by omega
    subst e
    have := h6 o ho
    rw [add_add, add_add, Nat.add_zero, this, List.getElem?_eq_getElem (by omega)]
    simp only [List.getD_eq_getElem?_getD, List.getElem?_eq_getElem (show o < es.length by omega), Option.getD_some]
  · simp only [List.getD_eq_getElem?_getD, List.getElem?_eq_getElem (show o < es.length by omega), Option.getD_some]

theorem RSl.atf {n : Nat} {R : (Addr → Option Value) → List Value → α → Prop} {v : Value} {xs : List α} (h : RSl n R (Av.get w0 σ) v xs) {j : Nat} {x : α} (hj : xs[j]? = some x) (o : Nat) (ho : o < n) {K : (Nat → Value) → Prop} (hK : ∀ (es : List Value) (g : Nat → Value), R (Av.get w0 σ) es x → es[o]? = some (g 0) → K g) :
    pIndexAddr n v (.int .i64 j) fun p => pField o p fun q => pLoad w0 1 q σ K :=
  h.atfp hj o ho fun q => hK

end
end Go.Av

/- Marks of texts. -/
set_option linter.unusedVariables false
set_option linter.unusedSimpArgs false
namespace Go.Proofs.YtkbhjejalkbogaaGreat
open Go Go.Av

/-- How many figures a number has. -/
def figs (k : Nat) : Nat := if h : k = 0 then 0 else figs (k / 10) + 1
termination_by k
theorem figs_le (k : Nat) : figs k ≤ k := by
  induction k using Nat.strongRecOn with
  | _ k ih =>
    rw [figs]
    by_cases h : k = 0
    · simp [h]
    · rw [dif_neg h]
      have := ih (k / 10) (by omega)
      omega
def digit (n : Nat) : ByteArray := strOfNums [((48 + n % 10 : Nat) : Int)]
theorem size_strOfNums (xs : List Int) : (strOfNums xs).size = xs.length := by
  simp [strOfNums, ByteArray.size]
/-- The figures of a number, ahead of a text. -/
def mtxt (k : Nat) (out : ByteArray) : ByteArray := if h : k = 0 then out else mtxt (k / 10) (digit k ++ out)
termination_by k
theorem mtxt_size (k : Nat) : ∀ out, (mtxt k out).size = out.size + figs k := by
  induction k using Nat.strongRecOn with
  | _ k ih =>
    intro out
    rw [mtxt, figs]
    by_cases h : k = 0
    · simp [h]
    · rw [dif_neg h, dif_neg h, ih (k / 10) (by omega), ByteArray.size_append, digit, size_strOfNums]
      simp; omega
/-- What marks the number k. -/
def mtext (k : Nat) : ByteArray := if k = 0 then ⟨#[109, 48]⟩ else ⟨#[109]⟩ ++ mtxt k ⟨#[]⟩
theorem mtext_size {k : Nat} (h : k ≤ 1000000000000) : (mtext k).size ≤ 9223372036854775807 := by
  unfold mtext
  split
  · show 2 ≤ _; omega
  · rw [ByteArray.size_append, mtxt_size]
    have := figs_le k
    show 1 + (0 + _) ≤ _
    omega

section
variable {w0 : World} {σ : Vw}

theorem markText {k : Nat} (hk : k ≤ 1000000000000) {R : Value → Vw → Prop} (hR : ∀ σ', Keeps σ σ' → R (.string (mtext k)) σ') : AC Tryz.prog w0 n_laws_markText [.int .i64 (k : Nat)] σ R := by
  refine ac_laws_markText ?_
  unfold vc_laws_markText
  rw [pBin_le, pIf_d]
  refine ⟨fun h => ?_, fun h => ?_⟩
  · have : k = 0 := by omega
    subst this
    exact hR σ (Keeps.refl σ)
  · have hk0 : k ≠ 0 := by omega
    have e : mtext k = ⟨#[109]⟩ ++ mtxt k ⟨#[]⟩ := by rw [mtext, if_neg hk0]
    rw [e] at hR
    have hf := figs_le k
    refine loop_rule (m := figs k) (fun m l s => ∃ (n : Nat) (out : ByteArray), m = figs n ∧ n ≤ k ∧ out.size + figs n ≤ 1000000000000 ∧ mtxt n out = mtxt k ⟨#[]⟩ ∧ Keeps σ s ∧ l = [.int .i64 (n : Nat), .string out]) ?_ ⟨k, ⟨#[]⟩, rfl, Nat.le_refl _, by show 0 + _ ≤ _; omega, rfl, Keeps.refl σ, rfl⟩
    rintro m l s L ⟨n, out, rfl, hn, hsz, hm, hkp, rfl⟩ hL
    simp only [vget, List.getD_cons_zero, List.getD_cons_succ]
    rw [pBin_gt, pIf_d]
    refine ⟨fun hpos => ?_, fun h0 => ?_⟩
    · have hn0 : n ≠ 0 := by omega
      have hfig : figs n = figs (n / 10) + 1 := by rw [figs, dif_neg hn0]
      rw [pBin_rem (by omega), pBin_add (by omega)]
      show pConvInt .u8 _ _
      rw [pConv_u8 (by omega), show (48 + ((n : Int) % 10)) = ((48 + n % 10 : Nat) : Int) by omega, pVal1 rfl]
      intro b h1 h2
      refine pStr1 (by rw [get_row h1 put_at]; rfl) ?_
      show pBin Tryz.prog 9 .add (.string (digit n)) _ _
      have hd : (digit n).size = 1 := by rw [digit, size_strOfNums]; rfl
      rw [pBin_cat (by omega)]
      rw [pBin_quo (by omega), show ((n : Int) / 10) = ((n / 10 : Nat) : Int) by omega]
      refine hL _ _ (figs (n / 10)) hfig.symm ⟨n / 10, digit n ++ out, rfl, by omega, by rw [ByteArray.size_append, hd]; omega, ?_, hkp.trans (Keeps.put h2), rfl⟩
      rw [← hm]; conv => rhs; rw [mtxt, dif_neg hn0]
    · have hn0 : n = 0 := by omega
      subst hn0
      rw [mtxt, dif_pos rfl] at hm
      subst hm
      have hs := mtxt_size k ⟨#[]⟩
      show pBin Tryz.prog 9 .add (.string ⟨#[109]⟩) _ _
      rw [pBin_cat (by rw [hs]; show 1 + (0 + _) ≤ _; omega)]
      exact hR s hkp

abbrev mkTexts (k : Nat) (xs : List ByteArray) : List ByteArray := mkS (fun k _ => mtext k) (fun _ => 1) k xs
theorem sum_one {α : Type} (xs : List α) : sumBy (fun _ => 1) xs = xs.length := by
  induction xs with
  | nil => rfl
  | cons a r ih => simp only [sumBy, ih, List.length_cons]; omega

theorem markStringS {F : List Nat} {v : Value} {xs : List ByteArray} {k : Nat} (h : OStrs w0 σ F v xs) (hk : k + xs.length ≤ 1000000000000) {R : Value → Vw → Prop}
    (hR : ∀ σ', KeepsBut F σ σ' → OStrs w0 σ' F v (mkTexts k xs) → R (.int .i64 ((k + xs.length : Nat) : Int)) σ') : AC Tryz.prog w0 n_laws_markStringS [v, .int .i64 (k : Nat)] σ R := by
  refine ac_laws_markStringS ?_
  unfold vc_laws_markStringS
  have e := sum_one xs
  rw [← e] at hk hR
  refine mark_loop (ok_str w0) (mk := fun k _ => mtext k) (cnt := fun _ => 1) h hk ?_ hR
  intro j x k' s ys K hj hlen hkb hx hk' hO hyj hK
  simp only [vget, List.getD_cons_zero, List.getD_cons_succ]
  refine markText (by omega) fun s1 k1 => ?_
  have hO1 := hO.frame (ok_str w0) (σ' := s1) (fun b hb => by
    cases hs : s b with
    | none => exact absurd hs (hO.dom (ok_str w0) b hb).2
    | some r => exact k1 b r hs)
  obtain ⟨b, o, f, c, A, C, r, hix, hb, hr, hc, hA, hOx, hbF, hf, hput⟩ := hO1.focus (ok_str w0) hyj
  obtain ⟨rfl, rfl, hsz⟩ := hOx
  refine hix _ ?_
  refine elem_store hr hc hA rfl ?_
  rw [pBin_add (by omega)]
  rw [pBin_add (by have := h.1; omega)]
  have hO2 := hput (s1.put b { r with cells := A ++ ([.string (mtext k')] ++ C) }) [.string (mtext k')] (mtext k') _ put_at rfl ⟨rfl, rfl, mtext_size (by omega)⟩ (fun i hi hne _ => by simp [Vw.put, hne])
  have := hK _ (k1.but.trans (KeepsBut.put hbF)) hO2
  simpa using this

theorem heldStringS {v : Value} {xs : List ByteArray} {k : Nat} (h : RSl 1 RS (Av.get w0 σ) v (mkTexts k xs)) (hk : k + xs.length ≤ 1000000000000) {R : Value → Vw → Prop}
    (hR : ∀ σ', Keeps σ σ' → R (.int .i64 ((k + xs.length : Nat) : Int)) σ') : AC Tryz.prog w0 n_laws_heldStringS [v, .int .i64 (k : Nat)] σ R := by
  refine ac_laws_heldStringS ?_
  unfold vc_laws_heldStringS
  have e := sum_one xs
  rw [← e] at hk hR
  refine held_loop (n := 1) (Rel := RS) (fun _ _ _ _ hl h => mono_rs hl h) (mk := fun k _ => mtext k) (cnt := fun _ => 1) h hk ?_ hR
  intro j x k' s K hj hkb hx hk' hrd hyj hK
  simp only [vget, List.getD_cons_zero, List.getD_cons_succ]
  have hl := h.le
  rw [mkS_len] at hl
  refine RSl.atp hrd hyj fun p g hg => ?_
  obtain ⟨hg, hs⟩ := hg
  simp only [expl, List.cons.injEq, and_true] at hg
  refine markText (by omega) fun s1 k1 => ⟨k1.stay, ?_⟩
  rw [hg, pBin_sne, pIf_d]
  refine ⟨fun h => absurd rfl h, fun _ => ?_⟩
  rw [pBin_add (by omega)]
  rw [pBin_add (by omega)]
  have := hK _ k1
  simpa using this
end
end Go.Proofs.YtkbhjejalkbogaaGreat

/- Rows of our own: cells stored, an element taken out in place, the copy of two lists in any order. -/
set_option linter.unusedVariables false
set_option linter.unusedSimpArgs false
namespace Go.Av
open Go Go.RowKit

section
variable {P : Program} {w0 : World} {σ σ' : Vw} {α γ : Type}

theorem cell_store {b o : Nat} {r : Row} {A c C new : List Value} {K : Vw → Prop} (hr : σ b = some r) (hc : r.cells = A ++ (c ++ C)) (hA : A.length = o) (hl : c.length = new.length)
    (hK : K (σ.put b { r with cells := A ++ (new ++ C) })) : pStore (.pointer (some ⟨b, o, none⟩)) new σ K := by
  refine ⟨b, o, r, rfl, hr, by rw [hc]; simp only [List.length_append]; omega, ?_⟩
  rw [hc, ← hA, setAt_mid A c new C hl]
  exact hK

/-- An element of a list of our own is written, all its cells. -/
theorem OSl.store {n : Nat} {Rel : (Addr → Option Value) → List Value → α → Prop} {O : Vw → List Nat → List Value → α → Prop} (ok : OOk w0 n Rel O) {F : List Nat} {v : Value} {xs : List α} (h : OSl w0 n O σ F v xs) {j : Nat} {x y : α} {new : List Value} (hj : xs[j]? = some x)
    (hO : ∀ f c σ', O σ f c x → O σ' f new y) (hn : new.length = n) {K : Vw → Prop}
    (hK : ∀ σ', KeepsBut F σ σ' → OSl w0 n O σ' F v (xs.set j y) → K σ') : pIndexAddr n v (.int .i64 j) fun p => pStore p new σ K := by
  obtain ⟨b, o, f, c, A, C, r, hix, hb, hr, hc, hA, hOx, hbF, hf, hput⟩ := h.focus ok hj
  refine hix _ ?_
  have hcl := ok.len _ _ _ _ hOx
  refine cell_store hr hc hA (by rw [hcl, hn]) ?_
  exact hK _ (KeepsBut.put hbF) (hput _ new y _ put_at rfl (hO _ _ _ hOx) fun i hi hne _ => by simp [Vw.put, hne])

theorem fresh_in {F F' : List Nat} {σ s : Vw} (k : Keeps σ s) (hF : ∀ i, i ∈ F → σ i = none) (h : ∀ i, i ∈ F' → i ∈ F ∨ s i = none) : ∀ i, i ∈ F' → σ i = none := fun i hi => by
  rcases h i hi with e | e
  · exact hF i e
  · cases hs : σ i with
    | none => rfl
    | some r => rw [k i r hs] at e; cases e
theorem KeepsBut.dom {F : List Nat} {σ σ' : Vw} (k : KeepsBut F σ σ') {i : Nat} (h : σ i ≠ none) (hF : i ∉ F) : σ' i ≠ none := by
  cases hs : σ i with
  | none => exact absurd hs h
  | some r => rw [k i r hs hF]; simp

/-! ### An element is taken out, in place -/
end
end Go.Av

/- Trees: their copy, their comparison. -/
set_option linter.unusedVariables false
set_option linter.unusedSimpArgs false
namespace Go.Proofs.YtkbhjejalkbogaaGreat
open Go Go.Av

section
variable {w0 : World}

/-- No list in it is too long. -/
def fitT : Nat → Tr → Prop
  | 0, _ => True
  | n + 1, .mk d m t ns ks => ns.length ≤ 1000000000000 ∧ ks.length ≤ 1000000000000 ∧ ∀ k, k ∈ ks → fitT n k
theorem fit_of : ∀ (n : Nat) (x : Tr), szT n x ≤ 1000000000000 → fitT n x
  | 0, _, _ => trivial
  | n + 1, .mk d m t ns ks, h => by
    simp only [szT] at h
    refine ⟨by omega, by omega, fun k hk => fit_of n k ?_⟩
    have := sumBy_mem (f := szT n) hk
    omega

theorem toTree : ∀ (n : Nat) {σ : Vw} {es : List Value} {x : Tr} {R : Value → Vw → Prop}, RT n (Av.get w0 σ) es x → fitT n x → (∀ es' F σ', Keeps σ σ' → OT w0 n σ' F es' x → (∀ b, b ∈ F → σ b = none) → R (.agg ⟨es'⟩) σ') → AC Tryz.prog w0 n_laws_toTree [.agg ⟨es⟩] σ R
  | 0, _, _, _, _, h, _, _ => h.elim
  | n + 1, σ, es, .mk d md t ns ks, R, h, hf, hR => by
    obtain ⟨u, w, rfl, h2, h3, h4, h5⟩ := h
    obtain ⟨f1, f2, f3⟩ := hf
    refine ac_laws_toTree ?_
    unfold vc_laws_toTree
    rw [pVal_5 rfl rfl rfl h4.one h5.one]
    simp only [cellOf_agg, List.getD_cons_zero, List.getD_cons_succ]
    rw [pVal1 rfl, pVal1 rfl, pVal1 rfl]
    refine toStringS' h4 f1 fun u' F1 s1 k1 o1 n1 => ?_
    rw [pVal1 (OSl.one' o1)]
    refine ac_laws_toTreeS ?_
    have e : ∀ (v : Value) (s : Vw) (R : Value → Vw → Prop), vc_laws_toTreeS w0 v s R = VtoS Tryz.prog w0 3 t_impl_Tree 5 80 n_laws_toTree [.bool false, .int .i64 0, .string ⟨#[]⟩, .slice none 0 0, .slice none 0 0] v s R := fun v s R => by kernel_rfl
    rw [e]
    refine toS_gen (n := 5) (Rel := RT n) (bytes := 80) rfl (ok_rt w0 n) (fun _ _ _ _ hl h => mono_rt n _ _ _ _ hl h) (fun x hx s es R' _ h hR => toTree n h (f3 x hx) hR) (h5.mono k1.le fun es x => mono_rt n _ _ es x k1.le) (by omega) fun w' F2 s2 k2 o2 n2 => ?_
    rw [pVal1 (OSl.one' o2), pVal_5 rfl rfl rfl (OSl.one' o1) (OSl.one' o2)]
    have o1' := o1.frame (ok_str w0) (σ' := s2) fun b hb => by
      cases hs : s1 b with
      | none => exact absurd hs (o1.dom (ok_str w0) b hb).2
      | some r => exact k2 b r hs
    refine hR _ (F1 ++ F2) s2 (k1.trans k2) ⟨u', w', F1, F2, rfl, h2, h3, o1', o2, rfl, ?_⟩ fun b hb => ?_
    · refine List.nodup_append.2 ⟨o1.2.1, o2.2.1, fun a ha b hb hab => ?_⟩
      subst hab
      exact (o1.dom (ok_str w0) a ha).2 (n2 a hb)
    · rcases List.mem_append.1 hb with h | h
      · exact n1 b h
      · have := n2 b h
        cases hs : σ b with
        | none => rfl
        | some r => rw [k1 b r hs] at this; cases this

theorem eqTree : ∀ (n : Nat) {σ : Vw} {es es' : List Value} {x y : Tr} {R : Value → Vw → Prop}, RT n (Av.get w0 σ) es x → RT n (Av.get w0 σ) es' y → R (.bool (decide (x = y))) σ → AC Tryz.prog w0 n_laws_eqTree [.agg ⟨es⟩, .agg ⟨es'⟩] σ R
  | 0, _, _, _, _, _, _, h, _, _ => h.elim
  | n + 1, σ, es, es', .mk d md t ns ks, .mk d' md' t' ns' ks', R, h, h', hR => by
    obtain ⟨u, w, rfl, h2, h3, h4, h5⟩ := h
    obtain ⟨u', w', rfl, h2', h3', h4', h5'⟩ := h'
    refine ac_laws_eqTree ?_
    unfold vc_laws_eqTree
    rw [pVal_5 rfl rfl rfl h4.one h5.one, pVal_5 rfl rfl rfl h4'.one h5'.one]
    simp only [cellOf_agg, List.getD_cons_zero, List.getD_cons_succ]
    have no : ¬ (d = d' ∧ md = md' ∧ t = t' ∧ ns = ns' ∧ ks = ks') → R (.bool false) σ := fun hn => by
      have : ¬ (Tr.mk d md t ns ks = Tr.mk d' md' t' ns' ks') := fun e => hn (by cases e; exact ⟨rfl, rfl, rfl, rfl, rfl⟩)
      simpa [this] using hR
    have eb : ∀ K : Value → Prop, pBin Tryz.prog 4 .neq (.bool d) (.bool d') K ↔ K (.bool !(d == d')) := fun K => pBin_b (by kernel_rfl) rfl
    rw [eb, pIf_b]
    refine ⟨fun h => no fun hh => by simp [hh.1] at h, fun e1 => ?_⟩
    rw [pBin_ne, pIf_d]
    refine ⟨fun h => no fun hh => h hh.2.1, fun e2 => ?_⟩
    rw [pBin_sne, pIf_d]
    refine ⟨fun h => no fun hh => h hh.2.2.1, fun e3 => ?_⟩
    refine eqStringS h4 h4' ?_
    rw [pUn_not, pIf_b]
    refine ⟨fun h => no fun hh => by simp [hh.2.2.2.1] at h, fun e4 => ?_⟩
    refine ac_laws_eqTreeS ?_
    have e : ∀ (v v' : Value) (R : Value → Vw → Prop), vc_laws_eqTreeS w0 v v' σ R = VeqS Tryz.prog w0 3 5 n_laws_eqTree v v' σ R := fun v v' R => by kernel_rfl
    rw [e]
    refine eqS_gen (fun x _ y es es' R' h h' hR => eqTree n h h' hR) h5 h5' ?_
    rw [pUn_not, pIf_b]
    refine ⟨fun h => no fun hh => by simp [hh.2.2.2.2] at h, fun e5 => ?_⟩
    have : Tr.mk d md t ns ks = Tr.mk d' md' t' ns' ks' := by
      simp at e1 e2 e3 e4 e5
      rw [e1, e2, e3, e4, e5]
    simpa [this] using hR
end
end Go.Proofs.YtkbhjejalkbogaaGreat

/- Trees: when one is sound. -/
set_option linter.unusedVariables false
set_option linter.unusedSimpArgs false
namespace Go.Proofs.YtkbhjejalkbogaaGreat
open Go Go.Av

def prevLt (ns : List ByteArray) (j : Nat) (x : ByteArray) : Bool :=
  match j with
  | 0 => true
  | i + 1 => match ns[i]? with
    | some y => strLt y x
    | none => true
noncomputable def nameAt (ns : List ByteArray) (j : Nat) (x : ByteArray) : Bool := nameOk x && prevLt ns j x
def namesP (ns : List ByteArray) : Prop := ∀ (j : Nat) (x : ByteArray), ns[j]? = some x → nameAt ns j x = true
open Classical in
noncomputable def plainB : Tr → Bool
  | .mk d m t ns ks => inB m 0 7 && (decide (ns.length = ks.length) && (if d = true then decide (namesP ns) && decide (t = ⟨#[]⟩) else decide (t.size ≤ 24) && decide (ns.length = 0)))
def allB {α : Type} (p : α → Bool) : List α → Bool
  | [] => true
  | a :: r => p a && allB p r
theorem allB_iff {α : Type} {p : α → Bool} {xs : List α} : allB p xs = true ↔ ∀ (j : Nat) (x : α), xs[j]? = some x → p x = true := by
  induction xs with
  | nil => simp [allB]
  | cons a r ih =>
    simp only [allB, Bool.and_eq_true, ih]
    constructor
    · rintro ⟨h1, h2⟩ j x hj
      cases j with
      | zero => simp at hj; subst hj; exact h1
      | succ j => exact h2 j x (by simpa using hj)
    · intro h
      exact ⟨h 0 a rfl, fun j x hj => h (j + 1) x (by simpa using hj)⟩
theorem allB_bad {α : Type} {p : α → Bool} {xs : List α} {j : Nat} {x : α} (hj : xs[j]? = some x) (h : p x = false) : allB p xs = false := by
  cases hc : allB p xs with
  | false => rfl
  | true => have := allB_iff.1 hc j x hj; rw [h] at this; cases this
noncomputable def soundB : Nat → Tr → Int → Bool
  | 0, _, _ => false
  | n + 1, .mk d m t ns ks, k => plainB (.mk d m t ns ks) && (decide (k ≤ 4) && allB (fun x => soundB n x (k + 1)) ks)

section
variable {w0 : World} {σ : Vw}

theorem pBin_sge {P : Program} {T : Nat} {a b : ByteArray} {K : Value → Prop} : pBin P T .geq (.string a) (.string b) K ↔ K (.bool (!strLt a b)) := pBin_s rfl

theorem spec_Plain {n : Nat} {es : List Value} {x : Tr} {R : Value → Vw → Prop} (h : RT n (Av.get w0 σ) es x) (hR : R (.bool (plainB x)) σ) : AC Tryz.prog w0 n_spec_l1Plain [.agg ⟨es⟩] σ R := by
  obtain _ | n := n
  · exact h.elim
  obtain ⟨d, m, t, ns, ks⟩ := x
  obtain ⟨u, w, rfl, h2, h3, h4, h5⟩ := h
  refine ac_spec_l1Plain ?_
  unfold vc_spec_l1Plain
  have hl := h4.le
  rw [pVal_5 rfl rfl rfl h4.one h5.one]
  simp only [cellOf_agg, List.getD_cons_zero, List.getD_cons_succ]
  refine spec_In ?_
  rw [pUn_not, pIf_b]
  refine ⟨fun hb => ?_, fun hm => ?_⟩
  · have : plainB (.mk d m t ns ks) = false := by simp at hb; simp [plainB, hb]
    rw [this] at hR; exact hR
  have hm' : inB m 0 7 = true := by simpa using hm
  rw [h4.len, h5.len, pBin_ne, pIf_d]
  refine ⟨fun hne => ?_, fun heq => ?_⟩
  · have : plainB (.mk d m t ns ks) = false := by
      have : ¬ ns.length = ks.length := by omega
      simp [plainB, this]
    rw [this] at hR; exact hR
  have heq' : ns.length = ks.length := by omega
  rw [pUn_not, pIf_b]
  refine ⟨fun hd => ?_, fun hd => ?_⟩
  · have hd' : d = false := by simpa using hd
    subst hd'
    have hp : plainB (.mk false m t ns ks) = (decide (t.size ≤ 24) && decide (ns.length = 0)) := by simp [plainB, hm', heq']
    rw [hp] at hR
    rw [pLenS_s, pBin_le, pIf_d]
    refine ⟨fun ht => ?_, fun ht => ?_⟩
    · rw [h4.len, pBin_eq]
      have e1 : decide (t.size ≤ 24) = true := by simp; omega
      have e2 : decide (ns.length = 0) = decide ((ns.length : Int) = 0) := by congr 1; apply propext; omega
      rw [e1, e2] at hR; exact hR
    · have e1 : decide (t.size ≤ 24) = false := by simp; omega
      rw [e1] at hR; exact hR
  · have hd' : d = true := by simpa using hd
    subst hd'
    have hp : ∀ b, b = plainB (.mk true m t ns ks) → R (.bool b) σ := fun b e => e ▸ hR
    refine loop_rule (m := ns.length) (fun k l s => ∃ j, s = σ ∧ k + j = ns.length ∧ (∀ (i : Nat) (x : ByteArray), i < j → ns[i]? = some x → nameAt ns i x = true) ∧ l = [.bool false, .int .i64 (j : Nat), .bool true, .int .i64 m, .string t, u, w]) ?_ ⟨0, rfl, by omega, fun i x h => by omega, rfl⟩
    rintro k l s L ⟨j, rfl, hk, ht, rfl⟩ hL
    simp only [vget, List.getD_cons_zero, List.getD_cons_succ]
    rw [h4.len, pBin_lt, pIf_d]
    refine ⟨fun hj => ?_, fun hj => ?_⟩
    · have hx := List.getElem?_eq_getElem (show j < ns.length by omega)
      generalize hxj : ns[j] = x at hx
      have bad : nameAt ns j x = false → R (.bool false) s := fun hb => hp false (by
        have : ¬ namesP ns := fun hh => by rw [hh j x hx] at hb; cases hb
        simp [plainB, this])
      have next : nameAt ns j x = true → L [.bool false, .int .i64 ((j : Int) + 1), .bool true, .int .i64 m, .string t, u, w] s := fun hg => hL _ _ (k - 1) (by omega) ⟨j + 1, rfl, by omega, fun i y hi he => by
        by_cases e : i = j
        · subst e; rw [hx] at he; cases he; exact hg
        · exact ht i y (by omega) he, rfl⟩
      refine RSl.at1 h4 hx fun g hg hs => ?_
      rw [hg]
      refine spec_nameOk hs ?_
      rw [pUn_not, pIf_b]
      refine ⟨fun hb => bad (by simp at hb; simp [nameAt, hb]), fun hg => ?_⟩
      have hg' : nameOk x = true := by simpa using hg
      rw [pBin_gt, pIf_d]
      refine ⟨fun hpos => ?_, fun h0 => ?_⟩
      · obtain ⟨i, rfl⟩ : ∃ i, j = i + 1 := ⟨j - 1, by omega⟩
        rw [pBin_sub (by omega)]
        have hy := List.getElem?_eq_getElem (show i < ns.length by omega)
        generalize hyi : ns[i] = y at hy
        rw [show ((i + 1 : Nat) : Int) - 1 = (i : Nat) by omega]
        refine RSl.at1 h4 hy fun g2 hg2 hs2 => ?_
        refine RSl.at1 h4 hx fun g3 hg3 hs3 => ?_
        have hpl : prevLt ns (i + 1) x = strLt y x := by simp [prevLt, hy]
        rw [hg2, hg3, pBin_sge, pIf_b]
        refine ⟨fun hb => bad (by simp at hb; simp [nameAt, hpl, hb]), fun hb => ?_⟩
        rw [pBin_add (by omega)]
        exact next (by simp at hb; simp [nameAt, hg', hpl, hb])
      · have : j = 0 := by omega
        subst this
        rw [pBin_add (by omega)]
        exact next (by simp [nameAt, hg', prevLt])
    · have hj' : j = ns.length := by omega
      subst hj'
      show pBin Tryz.prog 9 .eql (.string t) (.string ⟨#[]⟩) _
      rw [pBin_seq]
      refine hp _ ?_
      have : namesP ns := fun i x he => ht i x (List.getElem?_eq_some_iff.1 he).1 he
      simp [plainB, hm', heq', this]
end
end Go.Proofs.YtkbhjejalkbogaaGreat

/- Trees: sound by either reading. -/
set_option linter.unusedVariables false
set_option linter.unusedSimpArgs false
namespace Go.Proofs.YtkbhjejalkbogaaGreat
open Go Go.Av

section
variable {w0 : World}

theorem spec_Parts : ∀ (n : Nat) {σ : Vw} {es : List Value} {x : Tr} {k : Int} {R : Value → Vw → Prop}, RT n (Av.get w0 σ) es x → (0 ≤ k ∧ k ≤ 5) → R (.bool (soundB n x k)) σ → AC Tryz.prog w0 n_spec_l1Parts [.agg ⟨es⟩, .int .i64 k] σ R
  | 0, _, _, _, _, _, h, _, _ => h.elim
  | n + 1, σ, es, .mk d m t ns ks, k, R, h, hk, hR => by
    have h0 := h
    obtain ⟨u, w, rfl, h2, h3, h4, h5⟩ := h
    refine ac_spec_l1Parts ?_
    unfold vc_spec_l1Parts
    have hl := h5.le
    rw [pVal_5 rfl rfl rfl h4.one h5.one]
    simp only [cellOf_agg, List.getD_cons_zero, List.getD_cons_succ]
    refine spec_Plain h0 ?_
    rw [pUn_not, pIf_b]
    refine ⟨fun hb => ?_, fun hg => ?_⟩
    · have : soundB (n + 1) (.mk d m t ns ks) k = false := by simp at hb; simp [soundB, hb]
      rw [this] at hR; exact hR
    have hg' : plainB (.mk d m t ns ks) = true := by simpa using hg
    rw [pBin_gt, pIf_d]
    refine ⟨fun hb => ?_, fun hle => ?_⟩
    · have : soundB (n + 1) (.mk d m t ns ks) k = false := by
        have : ¬ k ≤ 4 := by omega
        simp [soundB, this]
      rw [this] at hR; exact hR
    have hle' : k ≤ 4 := by omega
    have hs : soundB (n + 1) (.mk d m t ns ks) k = allB (fun x => soundB n x (k + 1)) ks := by simp [soundB, hg', hle']
    rw [hs] at hR
    refine loop_rule (m := ks.length) (fun c l s => ∃ j, s = σ ∧ c + j = ks.length ∧ (∀ (i : Nat) (x : Tr), i < j → ks[i]? = some x → soundB n x (k + 1) = true) ∧ l = [.int .i64 k, .bool false, .int .i64 (j : Nat), .bool d, .int .i64 m, .string t, u, w]) ?_ ⟨0, rfl, by omega, fun i x h => by omega, rfl⟩
    rintro c l s L ⟨j, rfl, hc, ht, rfl⟩ hL
    simp only [vget, List.getD_cons_zero, List.getD_cons_succ]
    rw [h5.len, pBin_lt, pIf_d]
    refine ⟨fun hj => ?_, fun hj => ?_⟩
    · have hx := List.getElem?_eq_getElem (show j < ks.length by omega)
      generalize hxj : ks[j] = x at hx
      refine h5.at hx fun g hg => ?_
      rw [pBin_add (by omega)]
      refine spec_Parts n (x := x) hg (by omega) ?_
      rw [pUn_not, pIf_b]
      refine ⟨fun hb => ?_, fun hb => ?_⟩
      · rw [allB_bad hx (by simpa using hb)] at hR; exact hR
      · rw [pBin_add (by omega)]
        refine hL _ _ (c - 1) (by omega) ⟨j + 1, rfl, by omega, fun i y hi he => ?_, rfl⟩
        by_cases e : i = j
        · subst e; rw [hx] at he; cases he; simpa using hb
        · exact ht i y (by omega) he
    · have hj' : j = ks.length := by omega
      subst hj'
      rw [allB_iff.2 fun i x he => ht i x (List.getElem?_eq_some_iff.1 he).1 he] at hR
      exact hR
end
end Go.Proofs.YtkbhjejalkbogaaGreat

/- Trees: sound by the program's own reading. -/
set_option linter.unusedVariables false
set_option linter.unusedSimpArgs false
namespace Go.Proofs.YtkbhjejalkbogaaGreat
open Go Go.Av

section
variable {w0 : World}

theorem impl_sound : ∀ (n : Nat) {σ : Vw} {es : List Value} {x : Tr} {k : Int} {R : Value → Vw → Prop}, RT n (Av.get w0 σ) es x → (0 ≤ k ∧ k ≤ 5) → R (.bool (soundB n x k)) σ → AC Tryz.prog w0 n_impl_Tree_sound [.agg ⟨es⟩, .int .i64 k] σ R
  | 0, _, _, _, _, _, h, _, _ => h.elim
  | n + 1, σ, es, .mk d m t ns ks, k, R, h, hk, hR => by
    have h0 := h
    obtain ⟨u, w, rfl, h2, h3, h4, h5⟩ := h
    refine ac_impl_Tree_sound ?_
    unfold vc_impl_Tree_sound
    have hl := h4.le
    rw [pVal_5 rfl rfl rfl h4.one h5.one]
    simp only [cellOf_agg, List.getD_cons_zero, List.getD_cons_succ]
    have no : soundB (n + 1) (.mk d m t ns ks) k = false → R (.bool false) σ := fun e => by rw [e] at hR; exact hR
    refine ac_impl_modeOk ?_
    unfold vc_impl_modeOk
    refine impl_within ?_
    show pUn .not (.bool _) _
    rw [pUn_not, pIf_b]
    refine ⟨fun hb => no (by simp at hb; simp [soundB, plainB, hb]), fun hm => ?_⟩
    have hm' : inB m 0 7 = true := by simpa using hm
    rw [pBin_gt, pIf_d]
    refine ⟨fun hb => no (by have : ¬ k ≤ 4 := by omega
                             simp [soundB, this]), fun hle => ?_⟩
    have hle' : k ≤ 4 := by omega
    rw [h4.len, h5.len, pBin_ne, pIf_d]
    refine ⟨fun hne => no (by have : ¬ ns.length = ks.length := by omega
                              simp [soundB, plainB, this]), fun heq => ?_⟩
    have heq' : ns.length = ks.length := by omega
    rw [pUn_not, pIf_b]
    refine ⟨fun hd => ?_, fun hd => ?_⟩
    · have hd' : d = false := by simpa using hd
      subst hd'
      rw [pLenS_s, pBin_le, pIf_d]
      refine ⟨fun htx => ?_, fun htx => no (by have : ¬ t.size ≤ 24 := by omega
                                               simp [soundB, plainB, this])⟩
      rw [h4.len, pBin_eq]
      have e : soundB (n + 1) (.mk false m t ns ks) k = decide ((ns.length : Int) = 0) := by
        have e1 : t.size ≤ 24 := by omega
        by_cases hz : ns.length = 0
        · have hkz : ks = [] := List.length_eq_zero_iff.1 (by omega)
          have hnz : ns = [] := List.length_eq_zero_iff.1 hz
          subst hkz hnz
          simp [soundB, plainB, hm', hle', e1, allB]
        · have hz' : ¬ ((ns.length : Int) = 0) := by omega
          have hz2 : ¬ (ks.length = 0) := by omega
          simp [soundB, plainB, heq', hz', hz2]
      rw [e] at hR; exact hR
    · have hd' : d = true := by simpa using hd
      subst hd'
      rw [pBin_sne, pIf_d]
      refine ⟨fun htx => no (by simp [soundB, plainB, htx]), fun htx => ?_⟩
      have htx' := Decidable.not_not.1 htx
      rw [h4.len]
      refine loop_rule (m := ns.length) (fun c l s => ∃ j, s = σ ∧ c + j = ns.length ∧ (∀ (i : Nat) (x : ByteArray), i < j → ns[i]? = some x → nameAt ns i x = true) ∧ (∀ (i : Nat) (x : Tr), i < j → ks[i]? = some x → soundB n x (k + 1) = true) ∧ l = [.int .i64 k, .bool false, u, .int .i64 ns.length, .int .i64 (j : Nat), .bool true, .int .i64 m, .string t, u, w]) ?_ ⟨0, rfl, by omega, fun i x h => by omega, fun i x h => by omega, rfl⟩
      rintro c l s L ⟨j, rfl, hc, ht, hkd, rfl⟩ hL
      simp only [vget, List.getD_cons_zero, List.getD_cons_succ]
      rw [pBin_lt, pIf_d]
      refine ⟨fun hj => ?_, fun hj => ?_⟩
      · have hx := List.getElem?_eq_getElem (show j < ns.length by omega)
        generalize hxj : ns[j] = x at hx
        have hkk := List.getElem?_eq_getElem (show j < ks.length by omega)
        generalize hkj : ks[j] = kid at hkk
        have bad : nameAt ns j x = false → R (.bool false) s := fun hb => no (by
          have : ¬ namesP ns := fun hh => by rw [hh j x hx] at hb; cases hb
          simp [soundB, plainB, this])
        have last : nameAt ns j x = true → pIndexAddr 5 w (.int .i64 j) (fun v35 => pLoad w0 5 v35 s (fun g36 => pBin Tryz.prog 3 .add (.int .i64 k) (.int .i64 1) (fun v37 => AC Tryz.prog w0 n_impl_Tree_sound [.agg ⟨[g36 0, g36 1, g36 2, g36 3, g36 4]⟩, v37] s (fun v38 s39 => pUn .not v38 (fun v40 => pIf v40 (R (.bool false) s39) (pBin Tryz.prog 3 .add (.int .i64 j) (.int .i64 1) (fun v41 => L [.int .i64 k, .bool false, u, .int .i64 ns.length, v41, .bool true, .int .i64 m, .string t, u, w] s39))))))) := by
          intro hgood
          refine h5.at hkk fun g hg => ?_
          rw [pBin_add (by omega)]
          refine impl_sound n (x := kid) hg (by omega) ?_
          rw [pUn_not, pIf_b]
          refine ⟨fun hb => no ?_, fun hb => ?_⟩
          · have := allB_bad (p := fun x => soundB n x (k + 1)) hkk (by simpa using hb)
            simp [soundB, this]
          · rw [pBin_add (by omega)]
            refine hL _ _ (c - 1) (by omega) ⟨j + 1, rfl, by omega, fun i y hi he => ?_, fun i y hi he => ?_, rfl⟩
            · by_cases e : i = j
              · subst e; rw [hx] at he; cases he; exact hgood
              · exact ht i y (by omega) he
            · by_cases e : i = j
              · subst e; rw [hkk] at he; cases he; simpa using hb
              · exact hkd i y (by omega) he
        refine RSl.at1 h4 hx fun g hg hs => ?_
        rw [hg]
        refine impl_nameOk hs ?_
        rw [pUn_not, pIf_b]
        refine ⟨fun hb => bad (by simp at hb; simp [nameAt, hb]), fun hg => ?_⟩
        have hg' : nameOk x = true := by simpa using hg
        rw [pBin_gt, pIf_d]
        refine ⟨fun hpos => ?_, fun h0 => ?_⟩
        · obtain ⟨i, rfl⟩ : ∃ i, j = i + 1 := ⟨j - 1, by omega⟩
          rw [pBin_sub (by omega)]
          have hy := List.getElem?_eq_getElem (show i < ns.length by omega)
          generalize hyi : ns[i] = y at hy
          rw [show ((i + 1 : Nat) : Int) - 1 = (i : Nat) by omega]
          refine RSl.at1 h4 hy fun g2 hg2 hs2 => ?_
          have hpl : prevLt ns (i + 1) x = strLt y x := by simp [prevLt, hy]
          rw [hg2, pBin_sge, pIf_b]
          refine ⟨fun hb => bad (by simp at hb; simp [nameAt, hpl, hb]), fun hb => ?_⟩
          exact last (by simp at hb; simp [nameAt, hg', hpl, hb])
        · have : j = 0 := by omega
          subst this
          exact last (by simp [nameAt, hg', prevLt])
      · have hj' : j = ns.length := by omega
        subst hj'
        have e1 : namesP ns := fun i x he => ht i x (List.getElem?_eq_some_iff.1 he).1 he
        have e2 : allB (fun x => soundB n x (k + 1)) ks = true := allB_iff.2 fun i x he => hkd i x (by have := (List.getElem?_eq_some_iff.1 he).1; omega) he
        have e : soundB (n + 1) (.mk true m t ns ks) k = true := by simp [soundB, plainB, hm', heq', e1, htx', hle', e2]
        rw [e] at hR; exact hR
end
end Go.Proofs.YtkbhjejalkbogaaGreat

/- Trees: how many paths; the laws 'TreeOk' and 'TreeCount', of the functions alone. -/
set_option linter.unusedVariables false
set_option linter.unusedSimpArgs false
namespace Go.Proofs.YtkbhjejalkbogaaGreat
open Go Go.Av

def cntT : Nat → Tr → Nat
  | 0, _ => 0
  | n + 1, .mk d m t ns ks => ks.length + sumBy (cntT n) ks
theorem sumBy_mono {α : Type} {f g : α → Nat} : ∀ {xs : List α}, (∀ x, x ∈ xs → f x ≤ g x) → sumBy f xs ≤ sumBy g xs
  | [], _ => by simp [sumBy]
  | a :: r, h => by
    have := sumBy_mono (xs := r) fun x hx => h x (List.mem_cons_of_mem _ hx)
    have := h a List.mem_cons_self
    simp only [sumBy]; omega
theorem sumBy_one {α : Type} {f : α → Nat} : ∀ {xs : List α}, sumBy (fun x => f x + 1) xs = sumBy f xs + xs.length
  | [] => by simp [sumBy]
  | a :: r => by have := sumBy_one (f := f) (xs := r); simp only [sumBy, List.length_cons, this]; omega
theorem cnt_le : ∀ (n : Nat) (x : Tr), cntT n x ≤ szT n x
  | 0, _ => by simp [cntT, szT]
  | n + 1, .mk d m t ns ks => by
    have := sumBy_mono (xs := ks) fun x _ => cnt_le n x
    simp only [cntT, szT]; omega

section
variable {w0 : World}

theorem spec_Count : ∀ (n : Nat) {σ : Vw} {es : List Value} {x : Tr} {R : Value → Vw → Prop}, RT n (Av.get w0 σ) es x → cntT n x ≤ 1000000000000 → R (.int .i64 (cntT n x)) σ → AC Tryz.prog w0 n_spec_l1Count [.agg ⟨es⟩] σ R
  | 0, _, _, _, _, h, _, _ => h.elim
  | n + 1, σ, es, .mk d m t ns ks, R, h, hb, hR => by
    obtain ⟨u, w, rfl, h2, h3, h4, h5⟩ := h
    refine ac_spec_l1Count ?_
    unfold vc_spec_l1Count
    rw [pVal_5 rfl rfl rfl h4.one h5.one]
    simp only [cellOf_agg, List.getD_cons_zero, List.getD_cons_succ]
    simp only [cntT] at hb hR
    rw [h5.len]
    refine loop_rule (m := ks.length) (fun c l s => ∃ j, s = σ ∧ c + j = ks.length ∧ l = [.int .i64 ((ks.length + sumBy (cntT n) (ks.take j) : Nat) : Int), .int .i64 (j : Nat), .bool d, .int .i64 m, .string t, u, w]) ?_ ⟨0, rfl, by omega, by simp [sumBy]⟩
    rintro c l s L ⟨j, rfl, hc, rfl⟩ hL
    simp only [vget, List.getD_cons_zero, List.getD_cons_succ]
    rw [h5.len, pBin_lt, pIf_d]
    refine ⟨fun hj => ?_, fun hj => ?_⟩
    · have hx := List.getElem?_eq_getElem (show j < ks.length by omega)
      generalize hxj : ks[j] = x at hx
      refine h5.at hx fun g hg => ?_
      have ht := sumBy_take (f := cntT n) hx
      have hle := sumBy_le (f := cntT n) (xs := ks) (j + 1)
      refine spec_Count n (x := x) hg (by omega) ?_
      rw [pBin_add (by omega), pBin_add (by omega)]
      refine hL _ _ (c - 1) (by omega) ⟨j + 1, rfl, by omega, ?_⟩
      rw [ht]
      congr 2
      omega
    · have hj' : j = ks.length := by omega
      subst hj'
      rw [List.take_length]
      exact hR

theorem impl_paths : ∀ (n : Nat) {σ : Vw} {es : List Value} {x : Tr} {R : Value → Vw → Prop}, RT n (Av.get w0 σ) es x → cntT n x ≤ 1000000000000 → R (.int .i64 ((cntT n x + 1 : Nat) : Int)) σ → AC Tryz.prog w0 n_impl_Tree_paths [.agg ⟨es⟩] σ R
  | 0, _, _, _, _, h, _, _ => h.elim
  | n + 1, σ, es, .mk d m t ns ks, R, h, hb, hR => by
    obtain ⟨u, w, rfl, h2, h3, h4, h5⟩ := h
    refine ac_impl_Tree_paths ?_
    unfold vc_impl_Tree_paths
    rw [pVal_5 rfl rfl rfl h4.one h5.one]
    simp only [cellOf_agg, List.getD_cons_zero, List.getD_cons_succ]
    simp only [cntT] at hb hR
    rw [h5.len]
    refine loop_rule (m := ks.length) (fun c l s => ∃ j, s = σ ∧ c + j = ks.length ∧ l = [.int .i64 ((1 + sumBy (fun x => cntT n x + 1) (ks.take j) : Nat) : Int), w, .int .i64 ks.length, .int .i64 (j : Nat)]) ?_ ⟨0, rfl, by omega, by simp [sumBy]⟩
    have hsum := sumBy_one (f := cntT n) (xs := ks)
    rintro c l s L ⟨j, rfl, hc, rfl⟩ hL
    simp only [vget, List.getD_cons_zero, List.getD_cons_succ]
    rw [pBin_lt, pIf_d]
    refine ⟨fun hj => ?_, fun hj => ?_⟩
    · have hx := List.getElem?_eq_getElem (show j < ks.length by omega)
      generalize hxj : ks[j] = x at hx
      refine h5.at hx fun g hg => ?_
      have ht := sumBy_take (f := fun x => cntT n x + 1) hx
      have hle := sumBy_le (f := fun x => cntT n x + 1) (xs := ks) (j + 1)
      have hin : ∀ (A : Prop), A → pVal true 5 (.agg ⟨[g 0, g 1, g 2, g 3, g 4]⟩) A := fun A hA => ⟨⟨_, rfl, rfl, (by
        obtain _ | n := n
        · exact hg.elim
        · obtain ⟨d', m', t', ns', ks'⟩ := x
          obtain ⟨u', w', e, _, _, q4, q5⟩ := hg
          have e' : [g 0, g 1, g 2, g 3, g 4] = [.bool d', .int .i64 m', .string t', u', w'] := e
          rw [e']
          intro c hc
          simp at hc
          rcases hc with rfl | rfl | rfl | rfl | rfl
          · rfl
          · rfl
          · rfl
          · exact q4.one
          · exact q5.one)⟩, hA⟩
      refine hin _ ?_
      refine impl_paths n (x := x) hg (by omega) ?_
      rw [pBin_add (by omega), pBin_add (by omega)]
      refine hL _ _ (c - 1) (by omega) ⟨j + 1, rfl, by omega, ?_⟩
      rw [ht]
      congr 2
      omega
    · have hj' : j = ks.length := by omega
      subst hj'
      rw [List.take_length, hsum]
      show R (.int .i64 _) s
      rw [show ((1 + (sumBy (cntT n) ks + ks.length) : Nat) : Int) = ((ks.length + sumBy (cntT n) ks + 1 : Nat) : Int) by omega]
      exact hR
end
end Go.Proofs.YtkbhjejalkbogaaGreat

/- Trees: the laws 'TreeOk' and 'TreeCount', of the functions alone. -/
set_option linter.unusedVariables false
set_option linter.unusedSimpArgs false
namespace Go.Proofs.YtkbhjejalkbogaaGreat
open Go Go.Av

def isDir : Tr → Bool
  | .mk d _ _ _ _ => d
noncomputable def treeOk (n : Nat) (x : Tr) : Bool := isDir x && (soundB n x 0 && decide (cntT n x ≤ 30))
section
variable {w0 : World} {σ : Vw}

theorem RT.five {n : Nat} {rd : Addr → Option Value} {es : List Value} {x : Tr} (h : RT n rd es x) : ∃ a b c d e, es = [a, b, c, d, e] ∧ a = .bool (isDir x) ∧ ∀ A : Prop, pVal true 5 (.agg ⟨es⟩) A ↔ A := by
  obtain _ | n := n
  · exact h.elim
  · obtain ⟨d', m', t', ns', ks'⟩ := x
    obtain ⟨u', w', rfl, _, _, q4, q5⟩ := h
    exact ⟨_, _, _, _, _, rfl, rfl, fun A => pVal_5 rfl rfl rfl q4.one q5.one⟩

theorem spec_TreeOk {n : Nat} {es : List Value} {x : Tr} {R : Value → Vw → Prop} (h : RT n (Av.get w0 σ) es x) (hb : cntT n x ≤ 1000000000000) (hR : R (.bool (treeOk n x)) σ) : AC Tryz.prog w0 n_spec_TreeOk [.agg ⟨es⟩] σ R := by
  have h0 := h
  obtain ⟨a, b, c, d, e, rfl, rfl, hp⟩ := RT.five h
  refine ac_spec_TreeOk ?_
  unfold vc_spec_TreeOk
  rw [hp]
  simp only [cellOf_agg, List.getD_cons_zero, List.getD_cons_succ]
  rw [pIf_b]
  refine ⟨fun hd => ?_, fun hd => by simpa [treeOk, hd] using hR⟩
  refine spec_Parts n h0 (by omega) ?_
  rw [pIf_b]
  refine ⟨fun hs => ?_, fun hs => by simpa [treeOk, hs] using hR⟩
  refine spec_Count n h0 hb ?_
  rw [pBin_le]
  have : treeOk n x = decide ((cntT n x : Int) ≤ 30) := by
    simp only [treeOk, hd, hs, Bool.true_and]
    congr 1; apply propext; omega
  rw [this] at hR; exact hR

theorem impl_TreeOk {n : Nat} {es : List Value} {x : Tr} {R : Value → Vw → Prop} (h : RT n (Av.get w0 σ) es x) (hb : cntT n x ≤ 1000000000000) (hR : R (.bool (treeOk n x)) σ) : AC Tryz.prog w0 n_impl_TreeOk [.agg ⟨es⟩] σ R := by
  have h0 := h
  obtain ⟨a, b, c, d, e, rfl, rfl, hp⟩ := RT.five h
  refine ac_impl_TreeOk ?_
  unfold vc_impl_TreeOk
  rw [hp]
  simp only [cellOf_agg, List.getD_cons_zero, List.getD_cons_succ]
  rw [pIf_b]
  refine ⟨fun hd => ?_, fun hd => by simpa [treeOk, hd] using hR⟩
  refine impl_sound n h0 (by omega) ?_
  rw [pIf_b]
  refine ⟨fun hs => ?_, fun hs => by simpa [treeOk, hs] using hR⟩
  refine impl_paths n h0 hb ?_
  rw [pBin_le]
  have : treeOk n x = decide (((cntT n x + 1 : Nat) : Int) ≤ 31) := by
    simp only [treeOk, hd, hs, Bool.true_and]
    congr 1; apply propext; omega
  rw [this] at hR; exact hR

end
end Go.Proofs.YtkbhjejalkbogaaGreat

/- How a tree is opened that came with the call. -/
set_option linter.unusedVariables false
set_option linter.unusedSimpArgs false
namespace Go.Proofs.YtkbhjejalkbogaaGreat
open Go Go.Av Go.RowKit

theorem RT_up : ∀ (n : Nat) (rd : Addr → Option Value) (es : List Value) (x : Tr), RT n rd es x → RT (n + 1) rd es x
  | 0, _, _, _, h => h.elim
  | n + 1, rd, es, .mk d m t ns ks, h => by
    obtain ⟨u, w, h1, h2, h3, h4, h5⟩ := h
    exact ⟨u, w, h1, h2, h3, h4, h5.imp fun es x h => RT_up n rd es x h⟩
theorem RT_le {n m : Nat} (h : n ≤ m) {rd : Addr → Option Value} {es : List Value} {x : Tr} (hr : RT n rd es x) : RT m rd es x := by
  obtain ⟨k, rfl⟩ := Nat.exists_eq_add_of_le h
  clear h
  induction k with
  | zero => exact hr
  | succ k ih => exact RT_up _ _ _ _ ih

theorem cut5 {es : List Value} {a b c d e : Value} (hl : es.length = 5) (h0 : (es.drop 0).take 1 = [a]) (h1 : (es.drop 1).take 1 = [b]) (h2 : (es.drop 2).take 1 = [c]) (h3 : (es.drop 3).take 1 = [d]) (h4 : (es.drop 4).take 1 = [e]) : es = [a, b, c, d, e] := by
  match es, hl with
  | [p, q, r, s, t], _ =>
    simp at h0 h1 h2 h3 h4
    subst h0 h1 h2 h3 h4
    rfl

theorem open_tree {H : Type} {enc : TypeId × Value → H} {W : World} {spare : Nat → Bool} : ∀ (fuel : Nat) (es : List Value) (y : DataW H × List MemPlace), DataW.trod enc Tryz.prog W 0 spare true fuel t_laws_Tree es = some y → es.length = 5 → ∃ x, RT fuel (Av.get W σ0) es x := by
  intro fuel
  induction fuel using Nat.strongRecOn with
  | _ fuel ih =>
    intro es y h hl
    have hT : Tryz.prog.underlying t_laws_Tree = some (.struct (fsOf Tryz.prog t_laws_Tree)) := by kernel_rfl
    obtain ⟨f0, y0, l0, h0⟩ := open_field' hT 0 t_bool 0 1 (by kernel_rfl) (by kernel_rfl) h
    obtain ⟨f1, y1, l1, h1⟩ := open_field' hT 1 t_int 1 1 (by kernel_rfl) (by kernel_rfl) h
    obtain ⟨f2, y2, l2, h2⟩ := open_field' hT 2 t_string 2 1 (by kernel_rfl) (by kernel_rfl) h
    obtain ⟨f3, y3, l3, h3⟩ := open_field' hT 3 t_s_string 3 1 (by kernel_rfl) (by kernel_rfl) h
    obtain ⟨f4, y4, l4, h4⟩ := open_field' hT 4 t_s_laws_Tree 4 1 (by kernel_rfl) (by kernel_rfl) h
    obtain ⟨b, hb⟩ := open_bool (by kernel_rfl) h0
    obtain ⟨m, hm, hm2⟩ := open_int (by kernel_rfl) h1
    obtain ⟨t, ht, ht2⟩ := open_str (by kernel_rfl) h2
    obtain ⟨u, ns, hu, hus⟩ := open_rsl (t := t_s_string) (e := t_string) (by kernel_rfl) (by kernel_rfl) (open_rs (by kernel_rfl)) h3
    obtain ⟨w, ks, hw, hws⟩ := open_rsl' (R := RT (fuel - 1)) (t := t_s_laws_Tree) (e := t_laws_Tree) (n := 5) (by kernel_rfl) (by kernel_rfl) (fun m' es' y' hm' ht' hl' => by
      obtain ⟨x, hx⟩ := ih m' (by omega) es' y' ht' hl'
      exact ⟨x, RT_le (by omega) hx⟩) h4
    have e := cut5 hl hb hm ht hu hw
    refine ⟨.mk b m t ns ks, ?_⟩
    obtain ⟨n, rfl⟩ : ∃ n, fuel = n + 1 := ⟨fuel - 1, by omega⟩
    exact ⟨u, w, e, hm2, ht2, hus, hws⟩
end Go.Proofs.YtkbhjejalkbogaaGreat

/- Entries of a layer: size, copy, comparison, marks. -/
set_option linter.unusedVariables false
set_option linter.unusedSimpArgs false
namespace Go.Proofs.YtkbhjejalkbogaaGreat
open Go Go.Av

theorem pNotIf {b : Bool} {A B : Prop} : pUn .not (.bool b) (fun v => pIf v A B) ↔ (b = false → A) ∧ (b = true → B) := by
  rw [pUn_not, pIf_b]
  cases b <;> simp

/-- An entry: a path, what it is, a bool, a number, bytes. -/
abbrev En := List ByteArray × Int × Bool × Int × ByteArray
def enOk (x : En) : Prop := (-9223372036854775808 ≤ x.2.1 ∧ x.2.1 ≤ 9223372036854775807) ∧ (-9223372036854775808 ≤ x.2.2.2.1 ∧ x.2.2.2.1 ≤ 9223372036854775807) ∧ x.2.2.2.2.size ≤ 9223372036854775807
def REn (rd : Addr → Option Value) (es : List Value) (x : En) : Prop := ∃ v, es = [v, .int .i64 x.2.1, .bool x.2.2.1, .int .i64 x.2.2.2.1, .string x.2.2.2.2] ∧ RSl 1 RS rd v x.1 ∧ enOk x
def OEn (w0 : World) (σ : Vw) (F : List Nat) (es : List Value) (x : En) : Prop := ∃ v, es = [v, .int .i64 x.2.1, .bool x.2.2.1, .int .i64 x.2.2.2.1, .string x.2.2.2.2] ∧ OStrs w0 σ F v x.1 ∧ enOk x
def cEn (x : En) : Nat := x.1.length + 4
noncomputable def mkEn (k : Nat) (x : En) : En := (mkTexts k x.1, ((k + x.1.length : Nat) : Int), decide (((k + x.1.length + 1 : Nat) : Int) % 3 = 0), ((k + x.1.length + 2 : Nat) : Int), mtext (k + x.1.length + 3))

section
variable {w0 : World} {σ : Vw}

theorem ok_en (w0 : World) : OOk w0 5 REn (OEn w0) := by
  refine ⟨?_, ?_, ?_, ?_, ?_, ?_⟩
  · rintro σ F es x ⟨v, h1, h2, h3⟩; exact ⟨v, h1, h2.rel (ok_str w0), h3⟩
  · rintro σ σ' F es x ⟨v, h1, h2, h3⟩ hF; exact ⟨v, h1, h2.frame (ok_str w0) hF, h3⟩
  · rintro σ F es x ⟨v, h1, h2, h3⟩; exact h2.dom (ok_str w0)
  · rintro σ F es x ⟨v, h1, h2, h3⟩; exact h2.2.1
  · rintro σ F es x ⟨v, rfl, h2, h3⟩; rfl
  · rintro σ F es x ⟨v, rfl, h2, h3⟩ c hc
    simp at hc
    rcases hc with rfl | rfl | rfl | rfl | rfl
    · exact OSl.one' h2
    · rfl
    · rfl
    · rfl
    · rfl
theorem mono_en {rd rd' : Addr → Option Value} {es : List Value} {x : En} (hl : Le rd rd') (h : REn rd es x) : REn rd' es x := by
  obtain ⟨v, h1, h2, h3⟩ := h; exact ⟨v, h1, h2.mono hl fun _ _ h => h, h3⟩

theorem eqEntry {es es' : List Value} {x y : En} {R : Value → Vw → Prop} (h : REn (Av.get w0 σ) es x) (h' : REn (Av.get w0 σ) es' y) (hR : R (.bool (decide (x = y))) σ) : AC Tryz.prog w0 n_laws_eqEntry [.agg ⟨es⟩, .agg ⟨es'⟩] σ R := by
  obtain ⟨p, k, d, a, t⟩ := x
  obtain ⟨p', k', d', a', t'⟩ := y
  obtain ⟨v, rfl, hv, _⟩ := h
  obtain ⟨v', rfl, hv', _⟩ := h'
  refine ac_laws_eqEntry ?_
  unfold vc_laws_eqEntry
  rw [pVal_5 hv.one rfl rfl rfl rfl, pVal_5 hv'.one rfl rfl rfl rfl]
  simp only [cellOf_agg, List.getD_cons_zero, List.getD_cons_succ]
  have no : ¬ ((p, k, d, a, t) : En) = (p', k', d', a', t') → R (.bool false) σ := fun h => by rw [decide_eq_false h] at hR; exact hR
  have eb : ∀ K : Value → Prop, pBin Tryz.prog 4 .neq (.bool d) (.bool d') K ↔ K (.bool !(d == d')) := fun K => pBin_b (by kernel_rfl) rfl
  refine eqStringS hv hv' ?_
  rw [pUn_not, pIf_b]
  refine ⟨fun e => no (fun h => by simp at h e; exact e h.1), fun e1 => ?_⟩
  rw [pBin_ne, pIf_d]
  refine ⟨fun e => no (fun h => e (by simp at h; exact h.2.1)), fun e2 => ?_⟩
  rw [eb, pIf_b]
  refine ⟨fun e => no (fun h => by simp at h e; exact e h.2.2.1), fun e3 => ?_⟩
  rw [pBin_ne, pIf_d]
  refine ⟨fun e => no (fun h => e (by simp at h; exact h.2.2.2.1)), fun e4 => ?_⟩
  rw [pBin_sne, pIf_d]
  refine ⟨fun e => no (fun h => e (by simp at h; exact h.2.2.2.2)), fun e5 => ?_⟩
  have : ((p, k, d, a, t) : En) = (p', k', d', a', t') := by
    simp at e1 e3
    rw [e1, Decidable.not_not.1 e2, e3, Decidable.not_not.1 e4, Decidable.not_not.1 e5]
  rw [decide_eq_true this] at hR; exact hR

theorem eqEntryS {v v' : Value} {xs ys : List En} (h : RSl 5 REn (Av.get w0 σ) v xs) (h' : RSl 5 REn (Av.get w0 σ) v' ys) {R : Value → Vw → Prop} (hR : R (.bool (decide (xs = ys))) σ) : AC Tryz.prog w0 n_laws_eqEntryS [v, v'] σ R := by
  refine ac_laws_eqEntryS ?_
  have e : vc_laws_eqEntryS w0 v v' σ R = VeqS Tryz.prog w0 3 5 n_laws_eqEntry v v' σ R := by kernel_rfl
  rw [e]
  exact eqS_gen (fun x _ y es es' R' h h' hR => eqEntry h h' hR) h h' hR

theorem markEntryS {F : List Nat} {v : Value} {xs : List En} {k : Nat} (h : OSl w0 5 (OEn w0) σ F v xs) (hk : k + sumBy cEn xs ≤ 1000000000000) {R : Value → Vw → Prop}
    (hR : ∀ σ', KeepsBut F σ σ' → OSl w0 5 (OEn w0) σ' F v (mkS mkEn cEn k xs) → R (.int .i64 ((k + sumBy cEn xs : Nat) : Int)) σ') : AC Tryz.prog w0 n_laws_markEntryS [v, .int .i64 (k : Nat)] σ R := by
  refine ac_laws_markEntryS ?_
  unfold vc_laws_markEntryS
  refine mark_loop (ok_en w0) (mk := mkEn) (cnt := cEn) h hk ?_ hR
  intro j x k' s ys K hj hlen hkb hx hk' hO hyj hK
  simp only [vget, List.getD_cons_zero, List.getD_cons_succ]
  obtain ⟨b, o, f, c, A, C, r, hix, hb, hr, hc, hA, hOx, hbF, hf, hput⟩ := hO.focus (ok_en w0) hyj
  obtain ⟨p, q, d, a, t⟩ := x
  obtain ⟨u, rfl, h4, _⟩ := hOx
  simp only [cEn] at hk' hK h4
  have hb1 : b ∉ f := fun e => (hf b e).2 rfl
  refine hix _ ?_
  refine field_load hb hr hc hA (y := u) rfl fun g hg => ?_
  rw [hg]
  refine markStringS h4 (by omega) fun s3 k3 o4' => ?_
  have hr3 := k3 b r hr hb1
  refine hix _ ?_
  refine field_store hr3 hc hA (by show 1 < 5; omega) rfl ?_
  simp only [List.set_cons_zero, List.set_cons_succ]
  rw [pBin_add (by omega), pBin_rem (by omega), pBin_eq]
  refine hix _ ?_
  refine field_store put_at rfl hA (by show 2 < 5; omega) rfl ?_
  simp only [List.set_cons_zero, List.set_cons_succ]
  rw [put_put, pBin_add (by omega)]
  refine hix _ ?_
  refine field_store put_at rfl hA (by show 3 < 5; omega) rfl ?_
  simp only [List.set_cons_zero, List.set_cons_succ]
  rw [put_put, pBin_add (by omega)]
  rw [show ((k' + p.length : Nat) : Int) + 1 + 1 + 1 = ((k' + p.length + 3 : Nat) : Int) by omega]
  refine markText (k := k' + p.length + 3) (by omega) fun s5 k5 => ?_
  refine hix _ ?_
  refine field_store (k5 _ _ put_at) rfl hA (by show 4 < 5; omega) rfl ?_
  simp only [List.set_cons_zero, List.set_cons_succ]
  rw [pBin_add (by omega), pBin_add (by have := h.1; omega)]
  have kf : ∀ i, i ∈ f → i ∈ F := fun i hi => (hf i hi).1
  rw [show ((k' + p.length : Nat) : Int) + 1 + 1 = ((k' + p.length + 2 : Nat) : Int) by omega, show ((k' + p.length : Nat) : Int) + 1 = ((k' + p.length + 1 : Nat) : Int) by omega]
  generalize hs4 : s5.put b _ = s4
  have hs4b : ∃ r2, s4 b = some r2 ∧ r2.cells = A ++ ([u, Value.int .i64 ((k' + p.length : Nat) : Int), Value.bool (decide (((k' + p.length + 1 : Nat) : Int) % 3 = 0)), Value.int .i64 ((k' + p.length + 2 : Nat) : Int), Value.string (mtext (k' + p.length + 3))] ++ C) := by rw [← hs4]; exact ⟨_, put_at, rfl⟩
  have hs4o : ∀ i, i ≠ b → ∀ ri, s3 i = some ri → s4 i = some ri := fun i hi ri hri => by
    rw [← hs4]
    simp only [Vw.put, hi, if_false]
    exact k5 i ri (by simp [Vw.put, hi, hri])
  clear hs4
  obtain ⟨r2, hr2, hc2⟩ := hs4b
  have o5 := o4'.frame (ok_str w0) (σ' := s4) fun i hi => by
    cases hs : s3 i with
    | none => exact absurd hs (o4'.dom (ok_str w0) i hi).2
    | some ri => exact hs4o i (fun e => hb1 (e ▸ hi)) ri hs
  have kb : KeepsBut F s s4 := fun i ri hri hiF => hs4o i (fun e => hiF (e ▸ hbF)) ri (k3 i ri hri fun e => hiF (kf i e))
  have := hK s4 kb (hput s4 _ (mkEn k' (p, q, d, a, t)) r2 hr2 hc2 ⟨u, rfl, o5, ?_⟩ fun i hi hne hif => ?_)
  · rw [show (k' + (p.length + 4) : Nat) = k' + p.length + 3 + 1 by omega] at this
    exact this
  · refine ⟨?_, ?_, ?_⟩
    · show -9223372036854775808 ≤ ((k' + p.length : Nat) : Int) ∧ ((k' + p.length : Nat) : Int) ≤ 9223372036854775807; omega
    · show -9223372036854775808 ≤ ((k' + p.length + 2 : Nat) : Int) ∧ ((k' + p.length + 2 : Nat) : Int) ≤ 9223372036854775807; omega
    · exact mtext_size (k := k' + p.length + 3) (by omega)
  · have dd := hO.dom (ok_en w0) i hi
    cases hs : s i with
    | none => exact absurd hs dd.2
    | some ri => exact hs4o i hne ri (k3 i ri hs hif)

theorem heldEntryS {v : Value} {xs : List En} {k : Nat} (h : RSl 5 REn (Av.get w0 σ) v (mkS mkEn cEn k xs)) (hk : k + sumBy cEn xs ≤ 1000000000000) {R : Value → Vw → Prop}
    (hR : ∀ σ', Keeps σ σ' → R (.int .i64 ((k + sumBy cEn xs : Nat) : Int)) σ') : AC Tryz.prog w0 n_laws_heldEntryS [v, .int .i64 (k : Nat)] σ R := by
  refine ac_laws_heldEntryS ?_
  unfold vc_laws_heldEntryS
  refine held_loop (n := 5) (Rel := REn) (fun _ _ _ _ hl h => mono_en hl h) (mk := mkEn) (cnt := cEn) h hk ?_ hR
  intro j x k' s K hj hkb hx hk' hrd hyj hK
  have hl := h.le
  rw [mkS_len] at hl
  obtain ⟨p, q, d, a, t⟩ := x
  simp only [cEn] at hk' hK
  simp only [vget, List.getD_cons_zero, List.getD_cons_succ]
  refine hrd.atf hyj 0 (by omega) fun es g h1 hg => ?_
  obtain ⟨u, rfl, h2, _⟩ := h1
  simp only [List.getElem?_cons_zero, List.getElem?_cons_succ, Option.some.injEq] at hg
  rw [← hg]
  have h2 : RSl 1 RS (Av.get w0 s) u (mkTexts k' p) := h2
  refine heldStringS h2 (by omega) fun s1 k1 => ?_
  rw [pBin_lt, pIf_d]
  refine ⟨fun h => by omega, fun _ => ?_⟩
  have hrd1 := hrd.mono k1.le fun es x => mono_en k1.le
  refine hrd1.atf hyj 1 (by omega) fun es g h1 hg => ?_
  obtain ⟨u', rfl, _⟩ := h1
  simp only [List.getElem?_cons_zero, List.getElem?_cons_succ, Option.some.injEq] at hg
  rw [← hg, pBin_ne, pIf_d]
  refine ⟨fun h => absurd rfl h, fun _ => ?_⟩
  rw [pBin_add (by omega), show ((k' + p.length : Nat) : Int) + 1 = ((k' + p.length + 1 : Nat) : Int) by omega]
  refine hrd1.atf hyj 2 (by omega) fun es g h1 hg => ?_
  obtain ⟨u', rfl, _⟩ := h1
  simp only [List.getElem?_cons_zero, List.getElem?_cons_succ, Option.some.injEq] at hg
  rw [← hg, pBin_rem (by omega), pBin_eq, pBin_b (v := .bool false) (by kernel_rfl) (by simp [mkEn]), pIf_b]
  refine ⟨nofun, fun _ => ?_⟩
  rw [pBin_add (by omega), show ((k' + p.length + 1 : Nat) : Int) + 1 = ((k' + p.length + 2 : Nat) : Int) by omega]
  refine hrd1.atf hyj 3 (by omega) fun es g h1 hg => ?_
  obtain ⟨u', rfl, _⟩ := h1
  simp only [List.getElem?_cons_zero, List.getElem?_cons_succ, Option.some.injEq] at hg
  rw [← hg, pBin_ne, pIf_d]
  refine ⟨fun h => absurd rfl h, fun _ => ?_⟩
  rw [pBin_add (by omega), show ((k' + p.length + 2 : Nat) : Int) + 1 = ((k' + p.length + 3 : Nat) : Int) by omega]
  refine hrd1.atfp hyj 4 (by omega) fun qq es g h1 hg => ?_
  obtain ⟨u', rfl, _⟩ := h1
  simp only [List.getElem?_cons_zero, List.getElem?_cons_succ, Option.some.injEq] at hg
  refine markText (k := k' + p.length + 3) (by omega) fun s2 k2 => ⟨k2.stay, ?_⟩
  rw [← hg, pBin_sne, pIf_d]
  refine ⟨fun h => absurd rfl h, fun _ => ?_⟩
  rw [pBin_add (by omega), pBin_add (by omega)]
  have := hK s2 (k1.trans k2)
  rw [show (k' + (p.length + 4) : Nat) = k' + p.length + 3 + 1 by omega] at this
  exact this
end

end Go.Proofs.YtkbhjejalkbogaaGreat

/- Texts as lists of bytes; what is cut at a byte; decimals. Plain. -/
set_option linter.unusedVariables false
set_option linter.unusedSimpArgs false
namespace Go.Av
open Go Go.RowKit

abbrev bl (s : ByteArray) : List UInt8 := s.data.toList
def ofL (l : List UInt8) : ByteArray := ⟨l.toArray⟩
theorem bl_ofL (l : List UInt8) : bl (ofL l) = l := rfl
theorem bl_inj {a b : ByteArray} (h : bl a = bl b) : a = b := by
  cases a; cases b
  simp only [ByteArray.mk.injEq]
  exact Array.toList_inj.1 h
theorem ofL_bl (s : ByteArray) : ofL (bl s) = s := bl_inj (bl_ofL _)
/-! ### Decimals -/
end Go.Av

/- A contract of the kit's, as one of ours. -/
set_option linter.unusedVariables false
set_option linter.unusedSimpArgs false
namespace Go.Av
open Go Go.RowKit

theorem Aft.below {w0 w w' : World} {σ : Vw} (h : Sat w0 σ w) (k : Below w.heap.size w w') : Aft w0 σ w σ w' := by
  refine ⟨⟨h.bel.trans (k.mono h.bel.size), fun b r hb => ?_⟩, k.size, fun b hb _ => k.block b hb, fun b r hb => .inl (by rw [hb]; simp)⟩
  obtain ⟨h1, cur, hc, h2⟩ := h.row b r hb
  exact ⟨h1, cur, (k.block b (h.lt hb)).trans hc, h2⟩

end Go.Av

/- A disk's rows: the law 'DiskOk', of the functions alone. -/
set_option linter.unusedVariables false
set_option linter.unusedSimpArgs false
namespace Go.Proofs.YtkbhjejalkbogaaGreat
open Go Go.Av

section
variable {w0 : World} {σ : Vw}

theorem left_neg {n : Int} {t : Nat} : left n t < 0 ↔ n < t := by unfold left; split <;> omega
end
end Go.Proofs.YtkbhjejalkbogaaGreat

/- Writes of a disk: the law 'DiskWrite', of the functions alone. -/
set_option linter.unusedVariables false
set_option linter.unusedSimpArgs false
namespace Go.Proofs.YtkbhjejalkbogaaGreat
open Go Go.Av

section
variable {w0 : World} {σ : Vw}

end
end Go.Proofs.YtkbhjejalkbogaaGreat

/- The law 'DiskWrite', of the functions alone. -/
set_option linter.unusedVariables false
set_option linter.unusedSimpArgs false
namespace Go.Proofs.YtkbhjejalkbogaaGreat
open Go Go.Av

section
variable {w0 : World} {σ : Vw}

end
end Go.Proofs.YtkbhjejalkbogaaGreat

/-
  DERIVED: THE SHELF's CONTRACTS AT THIS DUMP, IN PLAIN WORDS (tools/lay-plain.mjs out of 'TryzShelf.lean', which tools/lay-shelf.mjs wrote): THE SAME DECLARATIONS UNDER THE SAME NAMES: 'import', 'namespace', 'open', 'def', 'theorem' AND NOTHING ELSE: no command of the shelf's: FOR A HAND-IN. Each laying: the table of numbers ('.._ren') and one theorem, a field a fact of the dump's own or the kernel's comparison; each contract: ONE APPLICATION.
-/
namespace Go.Proofs
open Go.Shelf
def Tryz.lays190_ren : Go.Shelf.Ren := ⟨fun | 190 => 140 | 125 => 147 | 258 => 157 | 128 => 166 | 129 => 167 | 302 => 169 | 303 => 170 | 304 => 171 | 305 => 172 | 306 => 173 | 307 => 174 | 308 => 175 | 309 => 176 | 310 => 177 | 333 => 183 | 329 => 179 | 330 => 180 | 334 => 184 | 335 => 185 | 336 => 149 | 344 => 187 | n => n, fun | 31 => 23 | 9 => 9 | 3 => 3 | 46 => 155 | 0 => 0 | 51 => 170 | 53 => 172 | 4 => 4 | 183 => 163 | 182 => 162 | 131 => 167 | 5 => 5 | 218 => 180 | 222 => 184 | 228 => 188 | 229 => 189 | n => n, fun | n => n⟩
theorem Tryz.lays190 : Go.Proofs.Lays.n190 Tryz.prog Tryz.lays190_ren := {
  mixed := by kernel_rfl
  f125 := Tryz.func147.trans (congrArg some (by kernel_rfl))
  f128 := Tryz.func166.trans (congrArg some (by kernel_rfl))
  f129 := Tryz.func167.trans (congrArg some (by kernel_rfl))
  f190 := Tryz.func140.trans (congrArg some (by kernel_rfl))
  f258 := Tryz.func157.trans (congrArg some (by kernel_rfl))
  f302 := Tryz.func169.trans (congrArg some (by kernel_rfl))
  f303 := Tryz.func170.trans (congrArg some (by kernel_rfl))
  f304 := Tryz.func171.trans (congrArg some (by kernel_rfl))
  f305 := Tryz.func172.trans (congrArg some (by kernel_rfl))
  f306 := Tryz.func173.trans (congrArg some (by kernel_rfl))
  f307 := Tryz.func174.trans (congrArg some (by kernel_rfl))
  f308 := Tryz.func175.trans (congrArg some (by kernel_rfl))
  f309 := Tryz.func176.trans (congrArg some (by kernel_rfl))
  f310 := Tryz.func177.trans (congrArg some (by kernel_rfl))
  f329 := Tryz.func179.trans (congrArg some (by kernel_rfl))
  f330 := Tryz.func180.trans (congrArg some (by kernel_rfl))
  f333 := Tryz.func183.trans (congrArg some (by kernel_rfl))
  f334 := Tryz.func184.trans (congrArg some (by kernel_rfl))
  f335 := Tryz.func185.trans (congrArg some (by kernel_rfl))
  f336 := Tryz.func149.trans (congrArg some (by kernel_rfl))
  f344 := Tryz.func187.trans (congrArg some (by kernel_rfl))
  t0 := Tryz.underlying0
  a0 := Tryz.isAgg0
  z0 := Tryz.sizeOf0
  v0 := Tryz.zeroValue0
  t3 := Tryz.underlying3
  a3 := Tryz.isAgg3
  z3 := Tryz.sizeOf3
  v3 := Tryz.zeroValue3
  t4 := Tryz.underlying4
  a4 := Tryz.isAgg4
  z4 := Tryz.sizeOf4
  v4 := Tryz.zeroValue4
  t5 := Tryz.underlying5
  a5 := Tryz.isAgg5
  z5 := Tryz.sizeOf5
  v5 := Tryz.zeroValue5
  t9 := Tryz.underlying9
  a9 := Tryz.isAgg9
  z9 := Tryz.sizeOf9
  v9 := Tryz.zeroValue9
  t31 := Tryz.underlying23
  a31 := Tryz.isAgg23
  z31 := Tryz.sizeOf23
  v31 := Tryz.zeroValue23
  t46 := Tryz.underlying155
  a46 := Tryz.isAgg155
  z46 := Tryz.sizeOf155
  v46 := Tryz.zeroValue155
  t51 := Tryz.underlying170
  a51 := Tryz.isAgg170
  z51 := Tryz.sizeOf170
  v51 := Tryz.zeroValue170
  t53 := Tryz.underlying172
  a53 := Tryz.isAgg172
  z53 := Tryz.sizeOf172
  v53 := Tryz.zeroValue172
  t131 := Tryz.underlying167
  a131 := Tryz.isAgg167
  z131 := Tryz.sizeOf167
  v131 := Tryz.zeroValue167
  t182 := Tryz.underlying162
  a182 := Tryz.isAgg162
  z182 := Tryz.sizeOf162
  v182 := Tryz.zeroValue162
  t183 := Tryz.underlying163
  a183 := Tryz.isAgg163
  z183 := Tryz.sizeOf163
  v183 := Tryz.zeroValue163
  t218 := Tryz.underlying180
  a218 := Tryz.isAgg180
  z218 := Tryz.sizeOf180
  v218 := Tryz.zeroValue180
  t222 := Tryz.underlying184
  a222 := Tryz.isAgg184
  z222 := Tryz.sizeOf184
  v222 := Tryz.zeroValue184
  t228 := Tryz.underlying188
  a228 := Tryz.isAgg188
  z228 := Tryz.sizeOf188
  v228 := Tryz.zeroValue188
  t229 := Tryz.underlying189
  a229 := Tryz.isAgg189
  z229 := Tryz.sizeOf189
  v229 := Tryz.zeroValue189 }
open Go.Sort Go.RowKit in
theorem Tryz.slices_Sort_string (blk off cap : Nat) (ss : List (List UInt8)) (w : World) (hH : Holds encStr w blk off ss.toArray) (hblk : blk < w.heap.size) (hsz : ss.length < 4611686018427387904) :
    Calls Tryz.prog 140 #[.slice (some ⟨blk, off, none⟩) ss.length cap] w fun e w' =>
      e = .returned (.tuple #[]) ∧ ∃ n os, w' = grow (putRow encStr (Sort.ahead w n) blk off (ss.mergeSort fun x y => decide (x ≤ y)).toArray) os := Any.slices_Sort_string Tryz.lays190 blk off cap ss w hH hblk hsz
def Tryz.lays194_ren : Go.Shelf.Ren := ⟨fun | 194 => 141 | n => n, fun | 31 => 23 | 9 => 9 | 3 => 3 | 4 => 4 | 0 => 0 | n => n, fun | n => n⟩
theorem Tryz.lays194 : Go.Proofs.Lays.n194 Tryz.prog Tryz.lays194_ren := {
  mixed := by kernel_rfl
  f194 := Tryz.func141.trans (congrArg some (by kernel_rfl))
  t0 := Tryz.underlying0
  a0 := Tryz.isAgg0
  z0 := Tryz.sizeOf0
  v0 := Tryz.zeroValue0
  t3 := Tryz.underlying3
  a3 := Tryz.isAgg3
  z3 := Tryz.sizeOf3
  v3 := Tryz.zeroValue3
  t4 := Tryz.underlying4
  a4 := Tryz.isAgg4
  z4 := Tryz.sizeOf4
  v4 := Tryz.zeroValue4
  t9 := Tryz.underlying9
  a9 := Tryz.isAgg9
  z9 := Tryz.sizeOf9
  v9 := Tryz.zeroValue9
  t31 := Tryz.underlying23
  a31 := Tryz.isAgg23
  z31 := Tryz.sizeOf23
  v31 := Tryz.zeroValue23 }
open Go.RowKit Go.Lib Go.Sort in
/-- slices.Compact at []string: "Compact replaces consecutive runs of equal elements with a single copy. This is like the uniq command found on Unix. Compact modifies the contents of the slice s and returns the modified slice, which may have a smaller length. Compact zeroes the elements between the new length and the original length. The result preserves the nilness of s.": IT RETURNS THE SLICE CUT TO 'Lib.compact zs'; ITS CELLS HOLD 'Lib.compact zs', THEN ZERO VALUES up to the old length; all else is as it was, but for the count of draws. IN THE WORDS OF slices.Sort's CONTRACT ('Holds', 'putRow'): so the everyday 'slices.Sort(xs); xs = slices.Compact(xs)' goes from the one contract to the other. It asks 'zs.length ≤ cap' (every slice's: the reslicing 's[:k]' looks at it). Length 0, nil: '.._empty'. (LAID: no walk: one application.) -/
theorem Tryz.slices_Compact_string (blk off cap : Nat) (zs : List (List UInt8)) (w : World) (hH : Holds encStr w blk off zs.toArray) (hsz : zs.length ≤ 9223372036854775807) (hcap : zs.length ≤ cap) :
    Calls Tryz.prog 141 #[.slice (some ⟨blk, off, none⟩) zs.length cap] w fun e w' => e = .returned (.slice (some ⟨blk, off, none⟩) (Lib.compact zs).length cap) ∧ ∃ q, w' = putRow encStr (Sort.ahead w q) blk off (Lib.compact zs ++ List.replicate (zs.length - (Lib.compact zs).length) []).toArray := Any.slices_Compact_string Tryz.lays194 blk off cap zs w hH hsz hcap
open Go.RowKit Go.Lib Go.Sort in
/-- The same at a slice of length 0, a nil one too: it comes back as it is. (LAID: no walk: one application.) -/
theorem Tryz.slices_Compact_string_empty (a : Option Addr) (cap : Nat) (w : World) :
    Calls Tryz.prog 141 #[.slice a 0 cap] w fun e w' => e = .returned (.slice a 0 cap) ∧ w' = w := Any.slices_Compact_string_empty Tryz.lays194 a cap w
open Go.RowKit Go.Sort in
/-- .. and plain. (LAID: no walk: one application.) -/
theorem Tryz.slices_Sort_string_none (p : Option Addr) (cap : Nat) (w : World) :
    Calls Tryz.prog 140 #[.slice p 0 cap] w fun e w' => e = .returned (.tuple #[]) ∧ w' = w := Any.slices_Sort_string_none Tryz.lays190 p cap w
end Go.Proofs

/- Decimals by either hand; how a text is cut into blocks. -/
set_option linter.unusedVariables false
set_option linter.unusedSimpArgs false
namespace Go.Proofs.YtkbhjejalkbogaaGreat
open Go Go.Av Go.RowKit

section
variable {w0 : World} {σ : Vw}

end
end Go.Proofs.YtkbhjejalkbogaaGreat

/- Decimals of the tree's own hand; hex. -/
set_option linter.unusedVariables false
set_option linter.unusedSimpArgs false
namespace Go.Proofs.YtkbhjejalkbogaaGreat
open Go Go.Av Go.RowKit

section
variable {w0 : World} {σ : Vw}

end
end Go.Proofs.YtkbhjejalkbogaaGreat

/- Paths and trails as texts; the law 'TrailShow'. -/
set_option linter.unusedVariables false
set_option linter.unusedSimpArgs false
namespace Go.Proofs.YtkbhjejalkbogaaGreat
open Go Go.Av Go.RowKit

section
variable {w0 : World} {σ : Vw}

end
theorem open_mk {H : Type} {enc : TypeId × Value → H} {W : World} {spare : Nat → Bool} (fuel : Nat) (es : List Value) (y : DataW H × List MemPlace) (h : DataW.trod enc Tryz.prog W 0 spare true fuel t_laws_Mark es = some y) (hl : es.length = 2) : ∃ x, RMk (Av.get W σ0) es x := by
  have hT : Tryz.prog.underlying t_laws_Mark = some (.struct (fsOf Tryz.prog t_laws_Mark)) := by kernel_rfl
  obtain ⟨f0, y0, l0, h0⟩ := open_field' hT 0 t_s_string 0 1 (by kernel_rfl) (by kernel_rfl) h
  obtain ⟨f1, y1, l1, h1⟩ := open_field' hT 1 t_bool 1 1 (by kernel_rfl) (by kernel_rfl) h
  obtain ⟨u, ns, hu, hus⟩ := open_rsl (t := t_s_string) (e := t_string) (by kernel_rfl) (by kernel_rfl) (open_rs (by kernel_rfl)) h0
  obtain ⟨b, hb⟩ := open_bool (by kernel_rfl) h1
  match es, hl with
  | [x, z], _ =>
    simp at hu hb
    exact ⟨(ns, b), u, by rw [hu, hb], hus⟩
end Go.Proofs.YtkbhjejalkbogaaGreat

/- Bytes in rows of our own; hex by the program's hand; a line of a tree. -/
set_option linter.unusedVariables false
set_option linter.unusedSimpArgs false
namespace Go.Proofs.YtkbhjejalkbogaaGreat
open Go Go.Av Go.RowKit

section
variable {w0 : World} {σ : Vw}

end
end Go.Proofs.YtkbhjejalkbogaaGreat

/- What is at a path of a tree, by either reading. -/
set_option linter.unusedVariables false
set_option linter.unusedSimpArgs false
namespace Go.Proofs.YtkbhjejalkbogaaGreat
open Go Go.Av

/-- The first place of a text. -/
def nidx : List ByteArray → ByteArray → Option Nat
  | [], _ => none
  | s :: r, x => if s = x then some 0 else (nidx r x).map (· + 1)
theorem nidx_some {ns : List ByteArray} {x : ByteArray} : ∀ {j : Nat}, nidx ns x = some j → ns[j]? = some x := by
  induction ns with
  | nil => intro j h; simp [nidx] at h
  | cons s r ih =>
    intro j h
    unfold nidx at h
    split at h
    · rename_i e; cases h; simp [e]
    · cases hr : nidx r x with
      | none => rw [hr] at h; cases h
      | some i => rw [hr] at h; cases h; simpa using ih hr
theorem nidx_at {ns : List ByteArray} {x : ByteArray} : ∀ {j : Nat}, ns[j]? = some x → (∀ (i : Nat) (y : ByteArray), i < j → ns[i]? = some y → y ≠ x) → nidx ns x = some j := by
  induction ns with
  | nil => intro j h; simp at h
  | cons s r ih =>
    intro j h hn
    unfold nidx
    cases j with
    | zero => simp at h; rw [if_pos h]
    | succ j =>
      rw [if_neg (hn 0 s (by omega) rfl), ih (by simpa using h) fun i y hi hy => hn (i + 1) y (by omega) (by simpa using hy)]
      rfl
theorem nidx_none {ns : List ByteArray} {x : ByteArray} (h : ∀ (i : Nat) (y : ByteArray), ns[i]? = some y → y ≠ x) : nidx ns x = none := by
  induction ns with
  | nil => rfl
  | cons s r ih =>
    unfold nidx
    rw [if_neg (h 0 s rfl), ih fun i y hy => h (i + 1) y (by simpa using hy)]
    rfl
/-- A place as a number, -1 for none. -/
def placeI : Option Nat → Int
  | some j => j
  | none => -1

/-- Names and parts are as many, all the way down. -/
def wfT : Nat → Tr → Prop
  | 0, _ => True
  | n + 1, .mk d m t ns ks => ns.length = ks.length ∧ ∀ k, k ∈ ks → wfT n k
def kidT : Tr → ByteArray → Option Tr
  | .mk _ _ _ ns ks, x => (nidx ns x).bind fun j => ks[j]?
def atT : Tr → List ByteArray → Option Tr
  | t, [] => some t
  | t, x :: r => (kidT t x).bind fun k => atT k r
def zeroT : Tr := .mk false 0 ⟨#[]⟩ [] []
theorem RT_zero (n : Nat) (rd : Addr → Option Value) : RT (n + 1) rd [.bool false, .int .i64 0, .string ⟨#[]⟩, .slice none 0 0, .slice none 0 0] zeroT :=
  ⟨_, _, rfl, by omega, by show 0 ≤ _; omega, ⟨none, 0, rfl, by simp, fun j x h => by simp at h⟩, ⟨none, 0, rfl, by simp, fun j x h => by simp at h⟩⟩
section
variable {w0 : World} {σ : Vw}

theorem find_names {v : Value} {ns : List ByteArray} {x : ByteArray} (h : RSl 1 RS (Av.get w0 σ) v ns) {R : Value → Vw → Prop} (hR : R (.int .i64 (placeI (nidx ns x))) σ) : AC Tryz.prog w0 n_slices_Index_string_string [v, .string x] σ R := by
  refine ac_slices_Index_string_string ?_
  unfold vc_slices_Index_string_string
  have hl := h.le
  rw [h.len]
  refine loop_rule (m := ns.length) (fun c l s => ∃ j, s = σ ∧ c + j = ns.length ∧ (∀ (i : Nat) (y : ByteArray), i < j → ns[i]? = some y → y ≠ x) ∧ l = [v, .string x, .int .i64 0, .int .i64 ns.length, .int .i64 (j : Nat)]) ?_ ⟨0, rfl, by omega, fun i y h => by omega, rfl⟩
  rintro c l s L ⟨j, rfl, hc, ht, rfl⟩ hL
  simp only [vget, List.getD_cons_zero, List.getD_cons_succ]
  rw [pBin_lt, pIf_d]
  refine ⟨fun hj => ?_, fun hj => ?_⟩
  · have hx := List.getElem?_eq_getElem (show j < ns.length by omega)
    generalize hxj : ns[j] = y at hx
    refine RSl.at1 h hx fun g hg hs => ?_
    rw [hg, pBin_seq, pIf_d]
    refine ⟨fun he => ?_, fun hne => ?_⟩
    · subst he
      rw [nidx_at hx ht] at hR
      exact hR
    · rw [pBin_add (by omega)]
      refine hL _ _ (c - 1) (by omega) ⟨j + 1, rfl, by omega, fun i z hi hz => ?_, rfl⟩
      by_cases e : i = j
      · subst e; rw [hx] at hz; cases hz; exact fun e => hne e.symm
      · exact ht i z (by omega) hz
  · rw [nidx_none fun i y hy => ht i y (by have := (List.getElem?_eq_some_iff.1 hy).1; omega) hy] at hR
    exact hR

theorem spec_Find {n : Nat} {es : List Value} {d : Bool} {m : Int} {t : ByteArray} {ns : List ByteArray} {ks : List Tr} {x : ByteArray} (h : RT n (Av.get w0 σ) es (.mk d m t ns ks)) {R : Value → Vw → Prop} (hR : R (.int .i64 (placeI (nidx ns x))) σ) : AC Tryz.prog w0 n_spec_l1Find [.agg ⟨es⟩, .string x] σ R := by
  obtain _ | n := n
  · exact h.elim
  obtain ⟨u, w, rfl, h2, h3, h4, h5⟩ := h
  refine ac_spec_l1Find ?_
  unfold vc_spec_l1Find
  have hl := h4.le
  rw [pVal_5 rfl rfl rfl h4.one h5.one]
  simp only [cellOf_agg, List.getD_cons_zero, List.getD_cons_succ]
  refine loop_rule (m := ns.length) (fun c l s => ∃ j, s = σ ∧ c + j = ns.length ∧ (∀ (i : Nat) (y : ByteArray), i < j → ns[i]? = some y → y ≠ x) ∧ l = [.string x, .int .i64 0, .int .i64 (j : Nat), .bool d, .int .i64 m, .string t, u, w]) ?_ ⟨0, rfl, by omega, fun i y h => by omega, rfl⟩
  rintro c l s L ⟨j, rfl, hc, ht, rfl⟩ hL
  simp only [vget, List.getD_cons_zero, List.getD_cons_succ]
  rw [h4.len, pBin_lt, pIf_d]
  refine ⟨fun hj => ?_, fun hj => ?_⟩
  · have hx := List.getElem?_eq_getElem (show j < ns.length by omega)
    generalize hxj : ns[j] = y at hx
    refine RSl.at1 h4 hx fun g hg hs => ?_
    rw [hg, pBin_seq, pIf_d]
    refine ⟨fun he => ?_, fun hne => ?_⟩
    · subst he
      rw [nidx_at hx ht] at hR
      exact hR
    · rw [pBin_add (by omega)]
      refine hL _ _ (c - 1) (by omega) ⟨j + 1, rfl, by omega, fun i z hi hz => ?_, rfl⟩
      by_cases e : i = j
      · subst e; rw [hx] at hz; cases hz; exact hne
      · exact ht i z (by omega) hz
  · rw [nidx_none fun i y hy => ht i y (by have := (List.getElem?_eq_some_iff.1 hy).1; omega) hy] at hR
    exact hR

/-- What a kid is read as. -/
theorem kid_some {n : Nat} {d : Bool} {m : Int} {t : ByteArray} {ns : List ByteArray} {ks : List Tr} {x : ByteArray} (hw : wfT (n + 1) (.mk d m t ns ks)) {j : Nat} (hj : nidx ns x = some j) : ∃ k, ks[j]? = some k ∧ kidT (.mk d m t ns ks) x = some k ∧ wfT n k := by
  have h1 := nidx_some hj
  have hlt := (List.getElem?_eq_some_iff.1 h1).1
  have hw1 := hw.1
  have hk := List.getElem?_eq_getElem (show j < ks.length by omega)
  refine ⟨_, hk, ?_, hw.2 _ (List.getElem_mem _)⟩
  simp only [kidT, hj, Option.bind_some, hk]

theorem spec_At : ∀ (ps : List ByteArray) {n : Nat} {σ : Vw} {es : List Value} {v : Value} {x : Tr} {R : Value → Vw → Prop}, RT n (Av.get w0 σ) es x → wfT n x → RSl 1 RS (Av.get w0 σ) v ps →
    (∀ es', RT n (Av.get w0 σ) es' ((atT x ps).getD zeroT) → R (.tuple ⟨[.agg ⟨es'⟩, .bool (atT x ps).isSome]⟩) σ) → AC Tryz.prog w0 n_spec_l1At [.agg ⟨es⟩, v] σ R
  | ps, 0, _, _, _, _, _, h, _, _, _ => h.elim
  | ps, n + 1, σ, es, v, .mk d m t ns ks, R, h, hw, hp, hR => by
    have h0 := h
    obtain ⟨u, w, rfl, h2, h3, h4, h5⟩ := h
    refine ac_spec_l1At ?_
    unfold vc_spec_l1At
    have e5 : ∀ A : Prop, pVal true 5 (.agg ⟨[.bool d, .int .i64 m, .string t, u, w]⟩) A ↔ A := fun A => pVal_5 rfl rfl rfl h4.one h5.one
    rw [e5]
    simp only [cellOf_agg, List.getD_cons_zero, List.getD_cons_succ]
    rw [hp.len, pBin_eq, pIf_d]
    cases ps with
    | nil =>
      refine ⟨fun _ => ?_, fun h => absurd rfl h⟩
      rw [e5]
      exact hR _ h0
    | cons p r =>
      refine ⟨fun h => by simp at h; omega, fun _ => ?_⟩
      refine RSl.at1 (w0 := w0) (σ := σ) hp (j := 0) (x := p) rfl fun g hg hs => ?_
      rw [hg]
      refine spec_Find h0 ?_
      rw [pBin_lt, pIf_d]
      cases hj : nidx ns p with
      | none =>
        refine ⟨fun _ => ?_, fun h => absurd (show (-1 : Int) < 0 by omega) h⟩
        rw [pVal_5 rfl rfl rfl rfl rfl]
        have : atT (.mk d m t ns ks) (p :: r) = none := by simp [atT, kidT, hj]
        rw [this] at hR
        exact hR _ (RT_zero n _)
      | some j =>
        refine ⟨fun h => by simp only [placeI] at h; omega, fun _ => ?_⟩
        obtain ⟨k, hk1, hk2, hk3⟩ := kid_some hw hj
        have hat : atT (.mk d m t ns ks) (p :: r) = atT k r := by simp only [atT, hk2, Option.bind_some]
        rw [hat] at hR
        refine h5.at hk1 fun g8 hg8 => ?_
        refine hp.slice (l := 1) (u := (p :: r).length) rfl rfl (by simp) (Nat.le_refl _) fun v9 hv9 => ?_
        rw [List.take_length, List.drop_one, List.tail_cons] at hv9
        refine spec_At r hg8 hk3 hv9 fun es' he' => ?_
        rw [pExtract_s rfl, pExtract_s rfl]
        have hn : RT (n + 1) (Av.get w0 σ) es' ((atT k r).getD zeroT) := RT_up _ _ _ _ he'
        obtain ⟨a, b, c, d', e, rfl, _, hpv⟩ := RT.five hn
        rw [hpv]
        exact hR _ hn

/-- A pointer to a tree. -/
def PT (n : Nat) (rd : Addr → Option Value) (p : Value) (x : Tr) : Prop := ∃ a es, p = .pointer (some a) ∧ es.length = 5 ∧ (∀ i, i < 5 → rd (a.add i) = es[i]?) ∧ RT n rd es x
theorem PT.mono {n : Nat} {rd rd' : Addr → Option Value} {p : Value} {x : Tr} (h : PT n rd p x) (hl : Le rd rd') : PT n rd' p x := by
  obtain ⟨a, es, h1, h2, h3, h4⟩ := h
  refine ⟨a, es, h1, h2, fun i hi => ?_, mono_rt n _ _ _ _ hl h4⟩
  have := h3 i hi
  rw [List.getElem?_eq_getElem (by omega)] at this ⊢
  exact hl _ _ this
theorem PT.up {n : Nat} {rd : Addr → Option Value} {p : Value} {x : Tr} (h : PT n rd p x) : PT (n + 1) rd p x := by
  obtain ⟨a, es, h1, h2, h3, h4⟩ := h
  exact ⟨a, es, h1, h2, h3, RT_up _ _ _ _ h4⟩
/-- A field behind a pointer is read. -/
theorem PT.ld {n : Nat} {p : Value} {x : Tr} (h : PT n (Av.get w0 σ) p x) (o : Nat) (ho : o < 5) {K : (Nat → Value) → Prop} (hK : ∀ (es : List Value) (g : Nat → Value), RT n (Av.get w0 σ) es x → es[o]? = some (g 0) → K g) : pNil p (pField o p fun q => pLoad w0 1 q σ K) := by
  obtain ⟨a, es, rfl, h5, h6, h7⟩ := h
  rw [pNil_s, pField_s]
  refine ⟨_, fun _ => es.getD o undef, rfl, fun i hi => ?_, hK es _ h7 ?_⟩
  · have e : i = 0 := by omega
    subst e
    have := h6 o ho
    rw [add_add, Nat.add_zero, this, List.getElem?_eq_getElem (by omega)]
    simp only [List.getD_eq_getElem?_getD, List.getElem?_eq_getElem (show o < es.length by omega), Option.getD_some]
  · simp only [List.getD_eq_getElem?_getD, List.getElem?_eq_getElem (show o < es.length by omega), Option.getD_some]
/-- The address of an element. -/
theorem RSl.ptr {n k : Nat} {v : Value} {xs : List Tr} (h : RSl 5 (RT n) (Av.get w0 σ) v xs) {j : Nat} {x : Tr} (hj : xs[j]? = some x) {K : Value → Prop} (hK : ∀ p, PT n (Av.get w0 σ) p x → K p) : pIndexAddr 5 v (.int .i64 j) K := by
  obtain ⟨A, cap, rfl, _, h3⟩ := h
  obtain ⟨a, es, rfl, h5, h6, h7⟩ := h3 j x hj
  have hlt : j < xs.length := (List.getElem?_eq_some_iff.1 hj).1
  refine ⟨a, xs.length, cap, .i64, j, rfl, rfl, by omega, by omega, hK _ ⟨_, es, rfl, h5, fun i hi => ?_, h7⟩⟩
  have := h6 i hi
  rw [Int.toNat_natCast, add_add]; exact this

/-- What is at a name, by pointers: a pointer, or nil. -/
def PO (n : Nat) (rd : Addr → Option Value) (p : Value) : Option Tr → Prop
  | some x => PT n rd p x
  | none => p = .pointer none
theorem PO.mono {n : Nat} {rd rd' : Addr → Option Value} {p : Value} {o : Option Tr} (h : PO n rd p o) (hl : Le rd rd') : PO n rd' p o := by
  cases o with
  | none => exact h
  | some x => exact PT.mono h hl

theorem impl_kid {n : Nat} {p : Value} {x : Tr} {name : ByteArray} {R : Value → Vw → Prop} (h : PT (n + 1) (Av.get w0 σ) p x) (hw : wfT (n + 1) x) (hR : ∀ q, PO n (Av.get w0 σ) q (kidT x name) → R q σ) : AC Tryz.prog w0 n_p_impl_Tree_kid [p, .string name] σ R := by
  obtain ⟨d, m, t, ns, ks⟩ := x
  refine ac_p_impl_Tree_kid ?_
  unfold vc_p_impl_Tree_kid
  refine h.ld 3 (by omega) fun es g he hg => ?_
  obtain ⟨u, w, rfl, h2, h3, h4, h5⟩ := he
  simp only [List.getElem?_cons_zero, List.getElem?_cons_succ, Option.some.injEq] at hg
  rw [← hg]
  refine find_names h4 ?_
  rw [pBin_lt, pIf_d]
  cases hj : nidx ns name with
  | none =>
    refine ⟨fun _ => hR _ (by simp only [kidT, hj, Option.bind_none]; rfl), fun h => absurd (show (-1 : Int) < 0 by omega) h⟩
  | some j =>
    refine ⟨fun h => by simp only [placeI] at h; omega, fun _ => ?_⟩
    obtain ⟨k, hk1, hk2, hk3⟩ := kid_some hw hj
    have hlt := (List.getElem?_eq_some_iff.1 hk1).1
    refine h.ld 4 (by omega) fun es g he hg => ?_
    obtain ⟨u', w', rfl, h2', h3', h4', h5'⟩ := he
    simp only [List.getElem?_cons_zero, List.getElem?_cons_succ, Option.some.injEq] at hg
    rw [← hg, h5'.len]
    simp only [placeI]
    rw [pBin_ge, pIf_d]
    refine ⟨fun h => by omega, fun _ => ?_⟩
    refine h.ld 4 (by omega) fun es g he hg => ?_
    obtain ⟨u2, w2, rfl, h22, h32, h42, h52⟩ := he
    simp only [List.getElem?_cons_zero, List.getElem?_cons_succ, Option.some.injEq] at hg
    rw [← hg]
    refine RSl.ptr (k := 0) h52 hk1 fun q hq => hR q ?_
    rw [hk2]; exact hq

theorem pBin_nil {T : Nat} {p : Option Addr} {K : Value → Prop} (hT : ∃ e, Tryz.prog.underlying T = some (.pointer e)) : pBin Tryz.prog T .eql (.pointer p) (.pointer none) K ↔ K (.bool p.isNone) := by
  obtain ⟨e, he⟩ := hT
  have h : abinT Tryz.prog T .eql (.pointer p) (.pointer none) = some (.bool p.isNone) := by simp only [abinT, he]
  exact ⟨fun ⟨_, h', hK⟩ => by rw [h] at h'; cases h'; exact hK, fun hK => ⟨_, h, hK⟩⟩
theorem ptr_tree : ∃ e, Tryz.prog.underlying t_p_impl_Tree = some (.pointer e) := ⟨t_impl_Tree, by kernel_rfl⟩

end
end Go.Proofs.YtkbhjejalkbogaaGreat

/- Reading and listing: the functions 'TreeRead' and 'TreeList' by either text. -/
set_option linter.unusedVariables false
set_option linter.unusedSimpArgs false
namespace Go.Proofs.YtkbhjejalkbogaaGreat
open Go Go.Av

def kidsOf : Tr → List Tr
  | .mk _ _ _ _ ks => ks
def namesOf : Tr → List ByteArray
  | .mk _ _ _ ns _ => ns
def dataOf : Tr → ByteArray
  | .mk _ _ t _ _ => t
def modeOf : Tr → Int
  | .mk _ m _ _ _ => m
theorem kid_mem {x : Tr} {nm : ByteArray} {k : Tr} (h : kidT x nm = some k) : k ∈ kidsOf x := by
  obtain ⟨d, m, t, ns, ks⟩ := x
  simp only [kidT, Option.bind_eq_some_iff] at h
  obtain ⟨j, _, hj⟩ := h
  exact List.mem_of_getElem? hj
section
variable {w0 : World} {σ : Vw}

theorem RT.cells {n : Nat} {rd : Addr → Option Value} {es : List Value} {x : Tr} (h : RT n rd es x) : ∃ u w, es = [.bool (isDir x), .int .i64 (modeOf x), .string (dataOf x), u, w] ∧ (-9223372036854775808 ≤ modeOf x ∧ modeOf x ≤ 9223372036854775807) ∧ (dataOf x).size ≤ 9223372036854775807 ∧ RSl 1 RS rd u (namesOf x) ∧ RSl 5 (RT n) rd w (kidsOf x) ∧ ∀ A : Prop, pVal true 5 (.agg ⟨es⟩) A ↔ A := by
  obtain _ | n := n
  · exact h.elim
  · obtain ⟨d, m, t, ns, ks⟩ := x
    obtain ⟨u, w, rfl, h2, h3, h4, h5⟩ := h
    exact ⟨u, w, rfl, h2, h3, h4, h5.imp fun es x h => RT_up n rd es x h, fun A => pVal_5 rfl rfl rfl h4.one h5.one⟩

/-- A tree that is put into a row of our own. -/
theorem PT.new {n b : Nat} {es : List Value} {x : Tr} (h : RT n (Av.get w0 σ) es x) (hb : w0.heap.size ≤ b) (hn : σ b = none) {ety c : Nat} : PT n (Av.get w0 (σ.put b ⟨ety, es, c, (0, 0)⟩)) (.pointer (some ⟨b, 0, none⟩)) x := by
  have hl : es.length = 5 := by obtain ⟨_, _, _, _, _, rfl, _⟩ := RT.five h; rfl
  refine ⟨_, es, rfl, hl, fun i hi => ?_, mono_rt n _ _ _ _ (Keeps.put hn).le h⟩
  rw [addr_add, get_row hb put_at, Nat.zero_add]
theorem PT.load {n : Nat} {p : Value} {x : Tr} (h : PT n (Av.get w0 σ) p x) {K : (Nat → Value) → Prop} (hK : ∀ g : Nat → Value, RT n (Av.get w0 σ) (expl g 0 5) x → K g) : pLoad w0 5 p σ K := by
  obtain ⟨a, es, rfl, h5, h6, h7⟩ := h
  refine ⟨a, fun i => es.getD i undef, rfl, fun i hi => ?_, hK _ ?_⟩
  · rw [h6 i hi, List.getElem?_eq_getElem (by omega)]
    simp only [List.getD_eq_getElem?_getD, List.getElem?_eq_getElem (show i < es.length by omega), Option.getD_some]
  · have : expl (fun i => es.getD i undef) 0 5 = es := by
      match es, h5 with
      | [a, b, c, d, e], _ => rfl
    rw [this]; exact h7

end
end Go.Proofs.YtkbhjejalkbogaaGreat

/- A tree as a text: what it is, and by the reference's hand; a line by the program's. -/
set_option linter.unusedVariables false
set_option linter.unusedSimpArgs false
namespace Go.Proofs.YtkbhjejalkbogaaGreat
open Go Go.Av Go.RowKit

/-- What is sound is short. -/
def shortT : Nat → Tr → Prop
  | 0, _ => False
  | n + 1, .mk d m t ns ks => (0 ≤ m ∧ m ≤ 7) ∧ t.size ≤ 24 ∧ ns.length = ks.length ∧ (∀ x, x ∈ ns → x.size ≤ 5) ∧ ∀ k, k ∈ ks → shortT n k
theorem sound_short : ∀ (n : Nat) (x : Tr) (k : Int), soundB n x k = true → shortT n x
  | 0, _, _, h => by simp [soundB] at h
  | n + 1, .mk d m t ns ks, k, h => by
    simp only [soundB, plainB, Bool.and_eq_true, decide_eq_true_eq, inB] at h
    obtain ⟨⟨h1, h2, h3⟩, _, h4⟩ := h
    refine ⟨h1, ?_, h2, fun x hx => ?_, fun c hc => ?_⟩
    · cases d
      · simp at h3; exact h3.1
      · simp at h3; rw [h3.2]; show 0 ≤ 24; omega
    · cases d
      · simp at h3; rw [h3.2] at hx; cases hx
      · simp at h3
        obtain ⟨j, hj⟩ := List.getElem?_of_mem hx
        have := h3.1 j x hj
        simp only [nameAt, nameOk, Bool.and_eq_true, decide_eq_true_eq, inB] at this
        omega
    · obtain ⟨j, hj⟩ := List.getElem?_of_mem hc
      exact sound_short n c _ (allB_iff.1 h4 j c hj)
section
variable {w0 : World} {σ : Vw}

end
end Go.Proofs.YtkbhjejalkbogaaGreat

/- What is said of a tree part by part, in order: a list. -/
set_option linter.unusedVariables false
set_option linter.unusedSimpArgs false
namespace Go.Proofs.YtkbhjejalkbogaaGreat
open Go Go.Av

def linT {α : Type} (f : Nat → List ByteArray → Tr → α) : Nat → List ByteArray → Tr → List α
  | 0, _, _ => []
  | n + 1, ps, .mk d m t ns ks => f (n + 1) ps (.mk d m t ns ks) :: ((ns.zip ks).map fun y => linT f n (ps ++ [y.1]) y.2).flatten
theorem linT_step {α : Type} (f : Nat → List ByteArray → Tr → α) (n : Nat) (ps : List ByteArray) (d : Bool) (m : Int) (t : ByteArray) (ns : List ByteArray) (ks : List Tr) :
    linT f (n + 1) ps (.mk d m t ns ks) = f (n + 1) ps (.mk d m t ns ks) :: ((ns.zip ks).map fun y => linT f n (ps ++ [y.1]) y.2).flatten := rfl
theorem zip_sum {f : Tr → Nat} : ∀ {ns : List ByteArray} {ks : List Tr}, sumBy (fun y : ByteArray × Tr => f y.2 + 1) (ns.zip ks) ≤ ks.length + sumBy f ks
  | [], ks => by simp [sumBy]
  | _ :: _, [] => by simp [sumBy]
  | x :: ns, k :: ks => by
    have := zip_sum (f := f) (ns := ns) (ks := ks)
    simp only [List.zip_cons_cons, sumBy, List.length_cons]; omega
theorem flat_sum {α β : Type} {f : β → List α} {g : β → Nat} : ∀ {l : List β}, (∀ x, x ∈ l → (f x).length ≤ g x) → ((l.map f).flatten).length ≤ sumBy g l
  | [], _ => by simp [sumBy]
  | a :: r, h => by
    have h1 := h a (by simp)
    have h2 := flat_sum (l := r) fun x hx => h x (by simp [hx])
    simp only [List.map_cons, List.flatten_cons, List.length_append, sumBy]; omega
theorem linT_len {α : Type} (f : Nat → List ByteArray → Tr → α) : ∀ (n : Nat) (ps : List ByteArray) (x : Tr), (linT f n ps x).length ≤ cntT n x + 1
  | 0, _, _ => by simp [linT]
  | n + 1, ps, .mk d m t ns ks => by
    have h1 : (((ns.zip ks).map fun y => linT f n (ps ++ [y.1]) y.2).flatten).length ≤ sumBy (fun y : ByteArray × Tr => cntT n y.2 + 1) (ns.zip ks) := flat_sum fun y _ => linT_len f n _ _
    have h2 := zip_sum (f := cntT n) (ns := ns) (ks := ks)
    rw [linT_step, List.length_cons]
    show _ ≤ ks.length + sumBy (cntT n) ks + 1
    omega
theorem flat_take {α β : Type} {f : β → List α} {l : List β} {j : Nat} {y : β} (h : l[j]? = some y) : ((l.take (j + 1)).map f).flatten = ((l.take j).map f).flatten ++ f y := by
  rw [List.take_add_one, h, Option.toList_some, List.map_append, List.flatten_append]; simp
theorem sumS_snoc (y : ByteArray) : ∀ l : List ByteArray, sumS (l ++ [y]) = sumS l + y.size
  | [] => by simp [sumS]
  | a :: r => by simp only [List.cons_append, sumS, sumS_snoc y r]; omega

section
variable {w0 : World} {σ : Vw} {α : Type}

theorem none_old {σ s : Vw} (k : Keeps σ s) {i : Nat} (h : s i = none) : σ i = none := by
  cases hs : σ i with
  | none => rfl
  | some r => rw [k i r hs] at h; cases h

/-- One element, in a row of its own. -/
theorem OAcc.single {ety n b : Nat} {Rel : (Addr → Option Value) → List Value → α → Prop} {O : Vw → List Nat → List Value → α → Prop} (ok : OOk w0 n Rel O) {es : List Value} {f : List Nat} {y : α} (hb : w0.heap.size ≤ b) (hn : σ b = none) (hy : O σ f es y) :
    OAcc w0 ety n O (σ.put b ⟨ety, es, es.length, (0, 0)⟩) (b :: f) (.slice (some ⟨b, 0, none⟩) 1 1) [y] := by
  have hf : ∀ i, i ∈ f → i ≠ b := fun i hi e => (ok.dom _ _ _ _ hy i hi).2 (e ▸ hn)
  refine ⟨by simp, List.nodup_cons.2 ⟨fun h => hf b h rfl, ok.nodup _ _ _ _ hy⟩, .inr ⟨b, 1, [es], [f], rfl, by simp, hb, ?_, rfl, rfl, by simp, fun j c x g e1 e2 e3 => ?_⟩⟩
  · rw [put_at, ok.len _ _ _ _ hy]; simp
  · cases j with
    | zero =>
      simp at e1 e2 e3
      subst e1 e2 e3
      exact ok.frame _ _ _ _ _ hy fun i hi => put_ne (hf i hi)
    | succ j => simp at e1

/-- A path, and a name more. -/
theorem push_path {v : Value} {ps : List ByteArray} {y : ByteArray} (h : RSl 1 RS (Av.get w0 σ) v ps) (hl : ps.length ≤ 1000000) (hy : y.size ≤ 1000000) {R : Value → Vw → Prop}
    (hR : ∀ v' F σ', Keeps σ σ' → OStrs w0 σ' F v' (ps ++ [y]) → (∀ b, b ∈ F → σ b = none) → R v' σ') :
    pNew w0 t_string [] σ (fun n0 s1 => pAppendS w0 t_string 1 16 (.slice (some (Addr.mk n0 0 none)) 0 0) v s1 (fun v2 s3 => pVal false 1 (.string y) ((allOne [.string y]) ∧ (pAppend w0 t_string 1 16 v2 1 [.string y] s3 (fun v4 s5 => R v4 s5))))) := by
  intro b h1 h2
  have kb : Keeps σ (σ.put b ⟨t_string, [], 0, (0, 0)⟩) := Keeps.put h2
  have hb0 : ∀ i, i ∈ [b] → σ i = none := fun i hi => by rw [List.mem_singleton.1 hi]; exact h2
  refine (OAcc.new (w0 := w0) (σ := σ) (ety := t_string) (n := 1) (O := OStr) h1).all (ok_str w0) h kb.le (fun es y hy => ⟨rfl, hy⟩) (by simp; omega) (by omega) fun v1 F1 s1 k1 o1 f1 => ?_
  rw [List.nil_append] at o1
  have K1 := k1.old kb hb0
  have hF1 := fresh_in kb hb0 f1
  rw [pVal1 rfl]
  refine o1.one (ok_str w0) (f := []) (y := y) ⟨rfl, rfl, by omega⟩ (by simp) (by omega) (by omega) fun v2 F2 s2 k2 o2 f2 => ?_
  refine hR v2 F2 s2 (k2.old K1 hF1) o2.osl (fresh_in K1 hF1 fun j hj => ?_)
  rcases f2 j hj with h | h | h
  · exact .inl h
  · cases h
  · exact .inr h
theorem spec_path {v : Value} {ps : List ByteArray} {y : ByteArray} (h : RSl 1 RS (Av.get w0 σ) v ps) (hl : ps.length ≤ 1000000) (hy : y.size ≤ 1000000) {R : Value → Vw → Prop}
    (hR : ∀ v' F σ', Keeps σ σ' → OStrs w0 σ' F v' (ps ++ [y]) → (∀ b, b ∈ F → σ b = none) → R v' σ') : AC Tryz.prog w0 n_spec_l3Path [v, .string y] σ R := by
  refine ac_spec_l3Path ?_
  unfold vc_spec_l3Path
  exact push_path h hl hy hR
theorem below_path {v : Value} {ps : List ByteArray} {y : ByteArray} (h : RSl 1 RS (Av.get w0 σ) v ps) (hl : ps.length ≤ 1000000) (hy : y.size ≤ 1000000) {R : Value → Vw → Prop}
    (hR : ∀ v' F σ', Keeps σ σ' → OStrs w0 σ' F v' (ps ++ [y]) → (∀ b, b ∈ F → σ b = none) → R v' σ') : AC Tryz.prog w0 n_impl_below [v, .string y] σ R := by
  refine ac_impl_below ?_
  unfold vc_impl_below
  exact push_path h hl hy hR
theorem copy_strs {v : Value} {xs : List ByteArray} (h : RSl 1 RS (Av.get w0 σ) v xs) (hl : xs.length ≤ 1000000000) {K : Value → Vw → Prop}
    (hK : ∀ v' F σ', Keeps σ σ' → OStrs w0 σ' F v' xs → (∀ b, b ∈ F → σ b = none) → K v' σ') : pNew w0 t_string [] σ (fun n0 s1 => pAppendS w0 t_string 1 16 (.slice (some (Addr.mk n0 0 none)) 0 0) v s1 (fun v2 s3 => K v2 s3)) := by
  intro b h1 h2
  have kb : Keeps σ (σ.put b ⟨t_string, [], 0, (0, 0)⟩) := Keeps.put h2
  have hb0 : ∀ i, i ∈ [b] → σ i = none := fun i hi => by rw [List.mem_singleton.1 hi]; exact h2
  refine (OAcc.new (w0 := w0) (σ := σ) (ety := t_string) (n := 1) (O := OStr) h1).all (ok_str w0) h kb.le (fun es y hy => ⟨rfl, hy⟩) (by simp; omega) (by omega) fun v' F' σ' k1 o1 f1 => ?_
  exact hK v' F' σ' (k1.old kb hb0) (by simpa using o1.osl) (fresh_in kb hb0 f1)

/-! ### By the reference's hand: a loop over the kids -/
def BLin (w0 : World) (F ety : Nat) : List Value → (AX → List Value → Vw → Prop) → Vw → Prop := fun l6 K7 s8 =>
  pLen (vget l6 6) (fun v9 => pBin Tryz.prog 3 .lss (vget l6 2) v9 (fun v10 => pIf v10 (pIndexAddr 1 (vget l6 6) (vget l6 2) (fun v11 => pLoad w0 1 v11 s8 (fun g12 => pIndexAddr 5 (vget l6 7) (vget l6 2) (fun v13 => pLoad w0 5 v13 s8 (fun g14 =>
    AC Tryz.prog w0 n_spec_l3Path [vget l6 0, g12 0] s8 (fun v15 s16 => (Stay w0 s8 s16 v13 5) ∧ (AC Tryz.prog w0 F ([v15, .agg (⟨[g14 0, g14 1, g14 2, g14 3, g14 4]⟩)]) s16 (fun v17 s18 => pAppendS w0 ety 5 64 (vget l6 1) v17 s18 (fun v19 s20 => pBin Tryz.prog 3 .add (vget l6 2) (.int .i64 1) (fun v21 =>
    K7 AX.normal [vget l6 0, v19, v21, vget l6 3, vget l6 4, vget l6 5, vget l6 6, vget l6 7] s20)))))))))) (K7 (AX.exit 0) [vget l6 0, vget l6 1, vget l6 2, vget l6 3, vget l6 4, vget l6 5, vget l6 6, vget l6 7] s8)))

/-- What a function that lists a part and all below does. -/
def Lists (w0 : World) (F ety : Nat) (O : Vw → List Nat → List Value → α → Prop) (f : Nat → List ByteArray → Tr → α) (n : Nat) : Prop :=
  ∀ {s : Vw} {v : Value} {es : List Value} {qs : List ByteArray} {x : Tr} {R : Value → Vw → Prop}, RSl 1 RS (Av.get w0 s) v qs → RT n (Av.get w0 s) es x → shortT n x → cntT n x ≤ 100000 → qs.length + sumS qs + 6 * n ≤ 1000000 →
    (∀ v' G s', Keeps s s' → OAcc w0 ety 5 O s' G v' (linT f n qs x) → (∀ i, i ∈ G → s i = none) → R v' s') → AC Tryz.prog w0 F [v, .agg ⟨es⟩] s R

theorem lin_loop {F ety n : Nat} {Rel : (Addr → Option Value) → List Value → α → Prop} {O : Vw → List Nat → List Value → α → Prop} (ok : OOk w0 5 Rel O) {f : Nat → List ByteArray → Tr → α} (call : Lists w0 F ety O f n)
    {s0 : Vw} {v u w acc d m t : Value} {ps ns : List ByteArray} {ks : List Tr} {y : α} {G : List Nat}
    (hv : RSl 1 RS (Av.get w0 σ) v ps) (hu : RSl 1 RS (Av.get w0 σ) u ns) (hw : RSl 5 (RT n) (Av.get w0 σ) w ks) (hl : ns.length = ks.length) (hns : ∀ x, x ∈ ns → x.size ≤ 5) (hks : ∀ k, k ∈ ks → shortT n k)
    (hc : ks.length + sumBy (cntT n) ks ≤ 100000) (hps : ps.length + sumS ps + 6 * (n + 1) ≤ 1000000) (hacc : OAcc w0 ety 5 O s0 G acc [y]) (k0 : Keeps σ s0) (hG : ∀ i, i ∈ G → σ i = none) {K : AX → List Value → Vw → Prop}
    (hK : ∀ v' G' s', Keeps σ s' → OAcc w0 ety 5 O s' G' v' (y :: ((ns.zip ks).map fun z => linT f n (ps ++ [z.1]) z.2).flatten) → (∀ i, i ∈ G' → σ i = none) → K (.exit 0) [v, v', .int .i64 (ns.length : Nat), d, m, t, u, w] s') :
    pLoop (BLin w0 F ety) [v, acc, .int .i64 0, d, m, t, u, w] s0 K := by
  have hl4 := hu.le
  refine loop_rule (m := ns.length) (fun c l s => ∃ (j : Nat) (G' : List Nat) (a' : Value), c + j = ns.length ∧ Keeps σ s ∧ (∀ i, i ∈ G' → σ i = none) ∧ OAcc w0 ety 5 O s G' a' (y :: (((ns.zip ks).take j).map fun z => linT f n (ps ++ [z.1]) z.2).flatten) ∧
    l = [v, a', .int .i64 (j : Nat), d, m, t, u, w]) ?_ ⟨0, G, acc, by omega, k0, hG, by simpa using hacc, rfl⟩
  rintro c l s L ⟨j, G', a', hcj, ks1, hG', ho, rfl⟩ hL
  unfold BLin
  simp only [vget, List.getD_cons_zero, List.getD_cons_succ]
  have hu' := hu.mono ks1.le fun _ _ h => h
  have hv' := hv.mono ks1.le fun _ _ h => h
  have hw' := hw.mono ks1.le fun es x => mono_rt n _ _ es x ks1.le
  rw [hu'.len, pBin_lt, pIf_d]
  refine ⟨fun hi => ?_, fun hi => ?_⟩
  · have hx1 := List.getElem?_eq_getElem (show j < ns.length by omega)
    have hx2 := List.getElem?_eq_getElem (show j < ks.length by omega)
    generalize hxi : ns[j]'(by omega) = y1 at hx1
    generalize hxk : ks[j]'(by omega) = y2 at hx2
    have h5y := hns _ (List.mem_of_getElem? hx1)
    have hky := hks _ (List.mem_of_getElem? hx2)
    have hz : (ns.zip ks)[j]? = some (y1, y2) := by rw [List.getElem?_zip_eq_some]; exact ⟨hx1, hx2⟩
    have hcy : cntT n y2 ≤ 100000 := by
      have := sumBy_mem (f := cntT n) (List.mem_of_getElem? hx2); omega
    refine RSl.at1 hu' hx1 fun g hg hgs => ?_
    rw [hg]
    refine RSl.atp hw' hx2 fun p2 g2 hg2 => ?_
    refine spec_path hv' (by omega) (by omega) fun pv PF s2 k2 op fp => ⟨k2.stay, ?_⟩
    have o2 := ho.frame ok (k2.but_at fun b hb => (ho.dom ok b hb).2)
    refine call (op.rel (ok_str w0)) (mono_rt n _ _ _ _ k2.le hg2) hky hcy (by rw [List.length_append, sumS_snoc]; simp only [List.length_cons, List.length_nil]; omega) fun v3 G3 s3 k3 o3 f3 => ?_
    have o4 := o2.frame ok (k3.but_at fun b hb => (o2.dom ok b hb).2)
    have hlen1 : (((ns.zip ks).take j).map fun z => linT f n (ps ++ [z.1]) z.2).flatten.length ≤ 100000 := by
      have q1 : (((ns.zip ks).take j).map fun z => linT f n (ps ++ [z.1]) z.2).flatten.length ≤ sumBy (fun z : ByteArray × Tr => cntT n z.2 + 1) ((ns.zip ks).take j) := flat_sum fun z _ => linT_len f n _ _
      have q2 := sumBy_le (f := fun z : ByteArray × Tr => cntT n z.2 + 1) (xs := ns.zip ks) j
      have q3 := zip_sum (f := cntT n) (ns := ns) (ks := ks)
      omega
    have hlen2 := linT_len f n (ps ++ [y1]) y2
    refine o4.allOwn ok o3.osl (fun i hi hi' => (o2.dom ok i hi').2 (f3 i hi)) (by rw [List.length_cons]; omega) (by omega) fun v5 G5 s5 k5 o5 f5 => ?_
    rw [pBin_add (by omega)]
    have K3 := (ks1.trans k2).trans k3
    refine hL _ _ (c - 1) (by omega) ⟨j + 1, G5, v5, by omega, k5.old K3 hG', fun i hi => ?_, ?_, rfl⟩
    · rcases f5 i hi with h | h | h
      · exact hG' i h
      · exact none_old (ks1.trans k2) (f3 i h)
      · exact none_old K3 h
    · rw [flat_take hz]; exact o5
  · have e : j = ns.length := by omega
    subst e
    rw [List.take_of_length_le (by rw [List.length_zip]; omega)] at ho
    exact hK a' G' s ks1 ho hG'

/-! ### By the program's hand: a function value that is called part by part -/
/-- A path that is read whatever becomes of the rows of G. -/
def PathIn (w0 : World) (s : Vw) (G : List Nat) (v : Value) (ps : List ByteArray) : Prop := ∀ s', KeepsBut G s s' → RSl 1 RS (Av.get w0 s') v ps
theorem PathIn.of_keeps {s : Vw} {G : List Nat} {v : Value} {ps : List ByteArray} (h : RSl 1 RS (Av.get w0 σ) v ps) (k : Keeps σ s) (hG : ∀ i, i ∈ G → σ i = none) : PathIn w0 s G v ps :=
  fun s' k' => h.mono (k'.old k hG).le fun _ _ h => h
theorem PathIn.of_own {s : Vw} {G P : List Nat} {v : Value} {ps : List ByteArray} (h : OStrs w0 s P v ps) (hG : ∀ i, i ∈ P → i ∉ G) : PathIn w0 s G v ps :=
  fun s' k' => (h.frame (ok_str w0) (k'.at (fun b hb => (h.dom (ok_str w0) b hb).2) hG)).rel (ok_str w0)
theorem PathIn.next {s s1 : Vw} {G G' : List Nat} {v : Value} {ps : List ByteArray} (h : PathIn w0 s G v ps) (k : KeepsBut G s s1) (hG : ∀ i, i ∈ G' → i ∈ G ∨ s i = none) : PathIn w0 s1 G' v ps :=
  fun s' k' => h s' fun i r hi hn => k' i r (k i r hi hn) fun h => by
    rcases hG i h with h | h
    · exact hn h
    · rw [hi] at h; cases h
theorem PathIn.now {s : Vw} {G : List Nat} {v : Value} {ps : List ByteArray} (h : PathIn w0 s G v ps) : RSl 1 RS (Av.get w0 s) v ps := h s (KeepsBut.refl _ _)

/-- A box that holds a list. -/
def CB (w0 : World) (ety : Nat) (O : Vw → List Nat → List Value → α → Prop) (s : Vw) (b : Nat) (G : List Nat) (xs : List α) : Prop :=
  w0.heap.size ≤ b ∧ b ∉ G ∧ ∃ v e2, s b = some ⟨e2, [v], 1, (0, 0)⟩ ∧ OAcc w0 ety 5 O s G v xs
/-- What the function value does: one more is in the box. -/
def Puts (w0 : World) (c ety : Nat) (O : Vw → List Nat → List Value → α → Prop) (f : Nat → List ByteArray → Tr → α) : Prop :=
  ∀ {n b : Nat} {s : Vw} {G : List Nat} {ps : List ByteArray} {v : Value} {es : List Value} {x : Tr} {xs : List α} {R : Value → Vw → Prop}, n ≤ 5 → RT n (Av.get w0 s) es x → shortT n x → cntT n x ≤ 100000 → RSl 1 RS (Av.get w0 s) v ps → ps.length + sumS ps ≤ 1000000 →
    CB w0 ety O s b G xs → xs.length ≤ 1000000 → (∀ G' s', KeepsBut (b :: G) s s' → CB w0 ety O s' b G' (xs ++ [f n ps x]) → (∀ i, i ∈ G' → i ∈ G ∨ s i = none) → R (.tuple ⟨[]⟩) s') →
    AC Tryz.prog w0 c [v, .agg ⟨es⟩, .pointer (some ⟨b, 0, none⟩)] s R

theorem CB.frame {ety b : Nat} {Rel : (Addr → Option Value) → List Value → α → Prop} {O : Vw → List Nat → List Value → α → Prop} (ok : OOk w0 5 Rel O) {s s' : Vw} {G : List Nat} {xs : List α} (h : CB w0 ety O s b G xs) (k : Keeps s s') : CB w0 ety O s' b G xs := by
  obtain ⟨h1, h2, v, e2, h3, h4⟩ := h
  exact ⟨h1, h2, v, e2, k _ _ h3, h4.frame ok (k.but_at fun i hi => (h4.dom ok i hi).2)⟩
theorem CB.dom {ety b : Nat} {Rel : (Addr → Option Value) → List Value → α → Prop} {O : Vw → List Nat → List Value → α → Prop} (ok : OOk w0 5 Rel O) {s : Vw} {G : List Nat} {xs : List α} (h : CB w0 ety O s b G xs) : ∀ i, i ∈ b :: G → s i ≠ none := by
  obtain ⟨h1, h2, v, e2, h3, h4⟩ := h
  intro i hi
  rcases List.mem_cons.1 hi with rfl | hi
  · rw [h3]; simp
  · exact (h4.dom ok i hi).2

set_option maxRecDepth 20000 in
theorem each_list {c ety : Nat} {Rel : (Addr → Option Value) → List Value → α → Prop} {O : Vw → List Nat → List Value → α → Prop} (ok : OOk w0 5 Rel O) {f : Nat → List ByteArray → Tr → α} (clo : Puts w0 c ety O f) :
    ∀ (n : Nat) {σ0 s : Vw} {b : Nat} {G : List Nat} {xs : List α} {ps : List ByteArray} {v : Value} {es : List Value} {x : Tr} {R : Value → Vw → Prop}, n ≤ 5 →
    RT n (Av.get w0 σ0) es x → shortT n x → cntT n x ≤ 100000 → Keeps σ0 s → (∀ i, i ∈ b :: G → σ0 i = none) → CB w0 ety O s b G xs → PathIn w0 s (b :: G) v ps → ps.length + sumS ps + 6 * n ≤ 1000000 → xs.length + cntT n x ≤ 900000 →
    (∀ G' s', KeepsBut (b :: G) s s' → CB w0 ety O s' b G' (xs ++ linT f n ps x) → (∀ i, i ∈ G' → i ∈ G ∨ s i = none) → R (.tuple ⟨[]⟩) s') →
    AC Tryz.prog w0 n_impl_Tree_each [.agg ⟨es⟩, v, .func (.func c) ⟨[]⟩ ⟨[.pointer (some ⟨b, 0, none⟩)]⟩] s R := by
  intro n
  induction n with
  | zero => intro σ0 s b G xs ps v es x R _ h; exact h.elim
  | succ n ih =>
    intro σ0 s b G xs ps v es x R hn5 h hx hc k0 hG0 hB hP hps hlen hR
    obtain ⟨d, m, t, ns, ks⟩ := x
    have h0 := h
    have hx0 := hx
    obtain ⟨u, w, rfl, h2, h3, h4, h5⟩ := h
    obtain ⟨hm, ht, hl, hns, hks⟩ := hx
    have hcnt : cntT (n + 1) (.mk d m t ns ks) = ks.length + sumBy (cntT n) ks := rfl
    refine ac_impl_Tree_each ?_
    unfold vc_impl_Tree_each
    rw [pVal_5 rfl rfl rfl h4.one h5.one]
    simp only [cellOf_agg, List.getD_cons_zero, List.getD_cons_succ]
    refine ⟨c, [], [.pointer (some ⟨b, 0, none⟩)], rfl, ?_⟩
    refine clo hn5 (mono_rt _ _ _ _ _ k0.le h0) hx0 hc hP.now (by omega) hB (by omega) fun G1 s1 k1 hB1 hG1 => ?_
    rw [h4.len]
    have hl4 := h4.le
    have hG1σ : ∀ i, i ∈ b :: G1 → σ0 i = none := fun i hi => by
      rcases List.mem_cons.1 hi with rfl | hi
      · exact hG0 _ List.mem_cons_self
      · rcases hG1 i hi with h | h
        · exact hG0 i (List.mem_cons_of_mem _ h)
        · exact none_old k0 h
    have hG1' : ∀ i, i ∈ b :: G1 → i ∈ b :: G ∨ s i = none := fun i hi => by
      rcases List.mem_cons.1 hi with rfl | hi
      · exact .inl List.mem_cons_self
      · rcases hG1 i hi with h | h
        · exact .inl (List.mem_cons_of_mem _ h)
        · exact .inr h
    have hP1 := hP.next k1 hG1'
    rw [linT_step] at hR
    refine loop_rule (m := ns.length) (fun q l st => ∃ (j : Nat) (G' : List Nat), q + j = ns.length ∧ KeepsBut (b :: G) s st ∧ Keeps σ0 st ∧ (∀ i, i ∈ b :: G' → i ∈ b :: G ∨ s i = none) ∧
        CB w0 ety O st b G' (xs ++ f (n + 1) ps (.mk d m t ns ks) :: (((ns.zip ks).take j).map fun y => linT f n (ps ++ [y.1]) y.2).flatten) ∧ PathIn w0 st (b :: G') v ps ∧
        l = [v, .func (.func c) ⟨[]⟩ ⟨[.pointer (some ⟨b, 0, none⟩)]⟩, u, .int .i64 (ns.length : Nat), .int .i64 (j : Nat), .bool d, .int .i64 m, .string t, u, w]) ?_
      ⟨0, G1, by omega, k1, k1.old k0 hG0, hG1', by simpa using hB1, hP1, rfl⟩
    rintro q l st L ⟨j, G', hcj, kst, k0st, hG', hB', hP', rfl⟩ hL
    simp only [vget, List.getD_cons_zero, List.getD_cons_succ]
    rw [pBin_lt, pIf_d]
    refine ⟨fun hi => ?_, fun hi => ?_⟩
    · have hx1 := List.getElem?_eq_getElem (show j < ns.length by omega)
      have hx2 := List.getElem?_eq_getElem (show j < ks.length by omega)
      generalize hxi : ns[j]'(by omega) = y1 at hx1
      generalize hxk : ks[j]'(by omega) = y2 at hx2
      have h5y := hns _ (List.mem_of_getElem? hx1)
      have hky := hks _ (List.mem_of_getElem? hx2)
      have hz : (ns.zip ks)[j]? = some (y1, y2) := by rw [List.getElem?_zip_eq_some]; exact ⟨hx1, hx2⟩
      have hcy := sumBy_mem (f := cntT n) (List.mem_of_getElem? hx2)
      refine RSl.at1 (h4.mono k0st.le fun _ _ h => h) hx1 fun g hg hgs => ?_
      have h5b : RSl 5 (RB (RT n) (Av.get w0 σ0)) (Av.get w0 st) w ks := by
        obtain ⟨A, cap, e1, e2, e3⟩ := h5
        refine ⟨A, cap, e1, e2, fun j x hj => ?_⟩
        obtain ⟨a, es, q1, q2, q3, q4⟩ := e3 j x hj
        refine ⟨a, es, q1, q2, fun i hi => ?_, q4⟩
        have := q3 i hi
        rw [List.getElem?_eq_getElem (by omega)] at this ⊢
        exact k0st.le _ _ this
      refine RSl.atp h5b hx2 fun p2 g2 hg2 => ?_
      rw [hg]
      refine below_path hP'.now (by omega) (by omega) fun pv PF s2 k2 op fp => ⟨k2.stay, ?_⟩
      have hB2 := hB'.frame ok k2
      have hG'σ : ∀ i, i ∈ b :: G' → σ0 i = none := fun i hi => by
        rcases hG' i hi with h | h
        · exact hG0 i h
        · exact none_old k0 h
      have hq1 : (((ns.zip ks).take j).map fun y => linT f n (ps ++ [y.1]) y.2).flatten.length + (cntT n y2 + 1) ≤ ks.length + sumBy (cntT n) ks := by
        have q1 : (((ns.zip ks).take j).map fun z => linT f n (ps ++ [z.1]) z.2).flatten.length ≤ sumBy (fun z : ByteArray × Tr => cntT n z.2 + 1) ((ns.zip ks).take j) := flat_sum fun z _ => linT_len f n _ _
        have q2 := sumBy_le (f := fun z : ByteArray × Tr => cntT n z.2 + 1) (xs := ns.zip ks) (j + 1)
        have q4 := sumBy_take (f := fun z : ByteArray × Tr => cntT n z.2 + 1) hz
        have q3 := zip_sum (f := cntT n) (ns := ns) (ks := ks)
        simp only at q4
        omega
      refine ih (by omega) hg2 hky (by omega) (k0st.trans k2) hG'σ hB2 (PathIn.of_own op fun i hi hi' => hB'.dom ok i hi' (fp i hi)) (by rw [List.length_append, sumS_snoc]; simp only [List.length_cons, List.length_nil]; omega)
        (by rw [List.length_append, List.length_cons]; omega) fun G3 s3 k3 hB3 hG3 => ?_
      rw [pBin_add (by omega)]
      have hst : ∀ i, i ∈ G3 → i ∈ G' ∨ st i = none := fun i hi => by
        rcases hG3 i hi with h | h
        · exact .inl h
        · exact .inr (none_old k2 h)
      have k23 : KeepsBut (b :: G') st s3 := fun i r hi hn => k3 i r (k2 i r hi) hn
      have kall : KeepsBut (b :: G) s s3 := fun i r hi hiG => k23 i r (kst i r hi hiG) fun h => by
        rcases hG' i h with h | h
        · exact hiG h
        · rw [hi] at h; cases h
      have hsn : ∀ i, i ∈ b :: G3 → i ∈ b :: G' ∨ st i = none := fun i hi => by
        rcases List.mem_cons.1 hi with rfl | hi
        · exact .inl List.mem_cons_self
        · rcases hst i hi with h | h
          · exact .inl (List.mem_cons_of_mem _ h)
          · exact .inr h
      refine hL _ _ (q - 1) (by omega) ⟨j + 1, G3, by omega, kall, k23.old k0st hG'σ, fun i hi => ?_, ?_, hP'.next k23 hsn, by simp⟩
      · rcases hsn i hi with h | h
        · exact hG' i h
        · by_cases hiG : i ∈ b :: G
          · exact .inl hiG
          · refine .inr ?_
            cases hs : s i with
            | none => rfl
            | some r => rw [kst i r hs hiG] at h; cases h
      · rw [flat_take hz]
        have e : xs ++ f (n + 1) ps (.mk d m t ns ks) :: ((((ns.zip ks).take j).map fun y => linT f n (ps ++ [y.1]) y.2).flatten ++ linT f n (ps ++ [y1]) y2) = (xs ++ f (n + 1) ps (.mk d m t ns ks) :: (((ns.zip ks).take j).map fun y => linT f n (ps ++ [y.1]) y.2).flatten) ++ linT f n (ps ++ [y1]) y2 := by simp
        rw [e]; exact hB3
    · have e : j = ns.length := by omega
      subst e
      rw [List.take_of_length_le (by rw [List.length_zip]; omega)] at hB'
      refine hR G' st kst hB' fun i hi => ?_
      rcases hG' i (List.mem_cons_of_mem _ hi) with h | h
      · rcases List.mem_cons.1 h with h | h
        · exact absurd (h ▸ hi) hB'.2.1
        · exact .inl h
      · exact .inr h
end
end Go.Proofs.YtkbhjejalkbogaaGreat

/- A box into which one more is put; a row that stays. -/
set_option linter.unusedVariables false
set_option linter.unusedSimpArgs false
namespace Go.Proofs.YtkbhjejalkbogaaGreat
open Go Go.Av

section
variable {w0 : World} {σ : Vw} {α : Type}

theorem stay_row {s s' : Vw} {b n : Nat} {r : Row} (hb : w0.heap.size ≤ b) (h : s b = some r) (h' : s' b = some r) : Stay w0 s s' (.pointer (some ⟨b, 0, none⟩)) n := fun a g e hc j hj => by
  cases e
  have := hc j hj
  rw [addr_add, get_row hb h] at this
  rw [addr_add, get_row hb h']
  exact this
theorem load_row {s : Vw} {b : Nat} {r : Row} {v : Value} (hb : w0.heap.size ≤ b) (hr : s b = some r) (hc : r.cells = [v]) {K : (Nat → Value) → Prop} (hK : ∀ g : Nat → Value, g 0 = v → K g) : pLoad w0 1 (.pointer (some ⟨b, 0, none⟩)) s K := by
  refine ⟨⟨b, 0, none⟩, fun _ => v, rfl, fun i hi => ?_, hK _ rfl⟩
  have e : i = 0 := by omega
  subst e
  rw [addr_add, get_row hb hr, hc]; rfl

theorem box_push {ety b e2 : Nat} {Rel : (Addr → Option Value) → List Value → α → Prop} {O : Vw → List Nat → List Value → α → Prop} (ok : OOk w0 5 Rel O) {s : Vw} {G P : List Nat} {v : Value} {es : List Value} {xs : List α} {y : α}
    (hb : w0.heap.size ≤ b) (hbG : b ∉ G) (hr : s b = some ⟨e2, [v], 1, (0, 0)⟩) (ho : OAcc w0 ety 5 O s G v xs) (hy : O s P es y) (hP : ∀ i, i ∈ P → i ∉ b :: G) (hl : xs.length ≤ 1000000) {R : Value → Vw → Prop}
    (hR : ∀ G' s', KeepsBut (b :: G) s s' → CB w0 ety O s' b G' (xs ++ [y]) → (∀ i, i ∈ G' → i ∈ G ∨ i ∈ P ∨ s i = none) → R (.tuple ⟨[]⟩) s') :
    allOne es ∧ pAppend w0 ety 5 64 v 1 es s (fun v7 s8 => pVal false 1 v7 (pStore (.pointer (some ⟨b, 0, none⟩)) [v7] s8 (fun s9 => R (.tuple ⟨[]⟩) s9))) := by
  refine ho.one ok hy (fun i hi hi' => hP i hi (List.mem_cons_of_mem _ hi')) (by omega) (by omega) fun v' F' s8 k8 o8 f8 => ?_
  have hr8 := k8 b _ hr hbG
  have hbF : b ∉ F' := fun h => by
    rcases f8 b h with h | h | h
    · exact hbG h
    · exact hP b h List.mem_cons_self
    · rw [hr] at h; cases h
  refine elem_store (A := []) (C := []) (x := v) hr8 rfl rfl (OSl.one' o8.osl) ?_
  simp only [List.nil_append, List.append_nil]
  have kk : KeepsBut (b :: G) s (s8.put b ⟨e2, [v'], 1, (0, 0)⟩) := fun i r hi hn => by
    have h1 : i ≠ b := fun e => hn (e ▸ List.mem_cons_self)
    rw [put_ne h1]
    exact k8 i r hi fun h => hn (List.mem_cons_of_mem _ h)
  refine hR F' _ kk ⟨hb, hbF, v', e2, put_at, o8.frame ok fun i hi => put_ne fun e => hbF (e ▸ hi)⟩ f8

/-- A new box that holds no elements. -/
theorem box_new {ety e2 : Nat} {O : Vw → List Nat → List Value → α → Prop} {R : Nat → Vw → Prop} (hR : ∀ b b0 s', Keeps σ s' → CB w0 ety O s' b [b0] [] → σ b = none → σ b0 = none → R b s') :
    pNew w0 ety [] σ (fun n0 s1 => pNew w0 e2 [.slice none 0 0] s1 (fun n2 s3 => pVal false 1 (.slice (some (Addr.mk n0 0 none)) 0 0) (pStore (.pointer (some (Addr.mk n2 0 none))) [.slice (some (Addr.mk n0 0 none)) 0 0] s3 (fun s4 => R n2 s4)))) := by
  intro b0 h1 h2 b h3 h4
  refine elem_store (A := []) (C := []) (x := .slice none 0 0) put_at rfl rfl rfl ?_
  simp only [List.nil_append, List.append_nil]
  rw [put_put]
  have k0 : Keeps σ (σ.put b0 ⟨ety, [], 0, (0, 0)⟩) := Keeps.put h2
  have k1 : Keeps (σ.put b0 ⟨ety, [], 0, (0, 0)⟩) ((σ.put b0 ⟨ety, [], 0, (0, 0)⟩).put b ⟨e2, [.slice (some ⟨b0, 0, none⟩) 0 0], 1, (0, 0)⟩) := Keeps.put h4
  have hne : b ≠ b0 := fun e => by rw [e] at h4; simp [Vw.put] at h4
  have o0 : OAcc w0 ety 5 O (σ.put b0 ⟨ety, [], 0, (0, 0)⟩) [b0] (.slice (some ⟨b0, 0, none⟩) 0 0) [] := OAcc.new h1
  refine hR b b0 _ (k0.trans k1) ⟨h3, fun h => hne (List.mem_singleton.1 h), _, e2, put_at, ?_⟩ (none_old k0 h4) h2
  refine ⟨by simp, by simp, .inr ⟨b0, 0, [], [], rfl, by simp, h1, ?_, rfl, rfl, rfl, fun j c x f h => by simp at h⟩⟩
  rw [put_ne (Ne.symm hne), put_at]; simp
theorem box_read {ety b : Nat} {O : Vw → List Nat → List Value → α → Prop} {s : Vw} {G : List Nat} {xs : List α} (h : CB w0 ety O s b G xs) {K : Value → Prop} (hK : ∀ v, OAcc w0 ety 5 O s G v xs → K v) : pLoad w0 1 (.pointer (some (Addr.mk b 0 none))) s (fun g => K (g 0)) := by
  obtain ⟨h1, h2, v, e2, h3, h4⟩ := h
  refine load_row h1 h3 rfl fun g hg => ?_
  rw [hg]; exact hK v h4
theorem nil_in {s : Vw} {G : List Nat} : PathIn w0 s G (.slice none 0 0) [] := fun s' _ => ⟨none, 0, rfl, by simp, fun j x h => by simp at h⟩
end
theorem sumBy_bound {α : Type} {f : α → Nat} {c : Nat} : ∀ {xs : List α}, (∀ x, x ∈ xs → f x ≤ c) → sumBy f xs ≤ c * xs.length
  | [], _ => by simp [sumBy]
  | a :: r, h => by
    have h1 := h a (by simp)
    have h2 := sumBy_bound (xs := r) fun x hx => h x (by simp [hx])
    simp only [sumBy, List.length_cons, Nat.mul_add, Nat.mul_one]; omega
theorem lin_mem {α : Type} {f : Nat → List ByteArray → Tr → α} {y : α} : ∀ (n : Nat) (ps : List ByteArray) (x : Tr), y ∈ linT f n ps x → ∃ m qs z, y = f m qs z ∧ qs.length ≤ ps.length + n ∧ m ≤ n
  | 0, _, _, h => by simp [linT] at h
  | n + 1, ps, .mk d m t ns ks, h => by
    rw [linT_step] at h
    rcases List.mem_cons.1 h with h | h
    · exact ⟨_, _, _, h, by omega, Nat.le_refl _⟩
    · obtain ⟨l, hl, hy⟩ := List.mem_flatten.1 h
      obtain ⟨z, hz, rfl⟩ := List.mem_map.1 hl
      obtain ⟨k, qs, w, e, hq, hk⟩ := lin_mem n _ _ hy
      exact ⟨k, qs, w, e, by rw [List.length_append] at hq; simp at hq; omega, by omega⟩
end Go.Proofs.YtkbhjejalkbogaaGreat

/- Texts in order; two lists of named parts in step. -/
set_option linter.unusedVariables false
set_option linter.unusedSimpArgs false
namespace Go.Proofs.YtkbhjejalkbogaaGreat
open Go Go.Av

theorem bl_trans : ∀ (a b c : List UInt8), Op.bytesLess a b = true → Op.bytesLess b c = true → Op.bytesLess a c = true
  | _, [], _, h, _ => by simp [Op.bytesLess] at h
  | _, _ :: _, [], _, h => by simp [Op.bytesLess] at h
  | [], _ :: _, _ :: _, _, _ => by simp [Op.bytesLess]
  | x :: r, y :: q, z :: s, h, h' => by
    simp only [Op.bytesLess, Bool.or_eq_true, Bool.and_eq_true, decide_eq_true_eq, beq_iff_eq, UInt8.lt_iff_toNat_lt] at h h' ⊢
    rcases h with h | ⟨rfl, h⟩ <;> rcases h' with h' | ⟨rfl, h'⟩
    · left; omega
    · left; exact h
    · left; exact h'
    · right; exact ⟨rfl, bl_trans r q s h h'⟩
theorem strLt_trans {a b c : ByteArray} (h : strLt a b = true) (h' : strLt b c = true) : strLt a c = true := bl_trans _ _ _ h h'
theorem strLt_asymm {a b : ByteArray} (h : strLt a b = true) : strLt b a = false := by
  cases h' : strLt b a with
  | false => rfl
  | true => have := strLt_trans h h'; rw [strLt_irrefl] at this; cases this
theorem strLt_ne {a b : ByteArray} (h : strLt a b = true) : a ≠ b := fun e => by rw [e, strLt_irrefl] at h; cases h

def AscS (l : List ByteArray) : Prop := l.Pairwise fun a b => strLt a b = true
theorem asc_unique : ∀ {l l' : List ByteArray}, AscS l → AscS l' → (∀ x, x ∈ l ↔ x ∈ l') → l = l'
  | [], [], _, _, _ => rfl
  | [], y :: q, _, _, h => absurd ((h y).2 List.mem_cons_self) (by simp)
  | x :: r, [], _, _, h => absurd ((h x).1 List.mem_cons_self) (by simp)
  | x :: r, y :: q, h1, h2, h => by
    obtain ⟨a1, a2⟩ := List.pairwise_cons.1 h1
    obtain ⟨b1, b2⟩ := List.pairwise_cons.1 h2
    have e : x = y := by
      rcases List.mem_cons.1 ((h x).1 List.mem_cons_self) with e | hx
      · exact e
      · rcases List.mem_cons.1 ((h y).2 List.mem_cons_self) with e | hy
        · exact e.symm
        · have := strLt_trans (a1 y hy) (b1 x hx)
          rw [strLt_irrefl] at this; cases this
    subst e
    rw [asc_unique a2 b2 fun z => ?_]
    constructor
    · intro hz
      rcases List.mem_cons.1 ((h z).1 (List.mem_cons_of_mem _ hz)) with e | h'
      · exact absurd e.symm (strLt_ne (a1 z hz))
      · exact h'
    · intro hz
      rcases List.mem_cons.1 ((h z).2 (List.mem_cons_of_mem _ hz)) with e | h'
      · exact absurd e.symm (strLt_ne (b1 z hz))
      · exact h'
theorem asc_of : ∀ {l : List ByteArray}, (∀ (j : Nat) (x y : ByteArray), l[j]? = some x → l[j + 1]? = some y → strLt x y = true) → AscS l
  | [], _ => List.Pairwise.nil
  | [a], _ => List.pairwise_singleton _ _
  | a :: b :: r, h => by
    have ih : AscS (b :: r) := asc_of fun j x y hx hy => h (j + 1) x y (by simpa using hx) (by simpa using hy)
    have hab := h 0 a b rfl rfl
    refine List.pairwise_cons.2 ⟨fun z hz => ?_, ih⟩
    rcases List.mem_cons.1 hz with rfl | hz
    · exact hab
    · exact strLt_trans hab ((List.pairwise_cons.1 ih).1 z hz)
theorem asc_names {ns : List ByteArray} (h : namesP ns) : AscS ns := asc_of fun j x y hx hy => by
  have := h (j + 1) y hy
  simp only [nameAt, Bool.and_eq_true] at this
  have h2 := this.2
  simp only [prevLt, hx] at h2
  exact h2

/-! ### Sorted and compacted -/
section
variable {α : Type} [DecidableEq α] [Inhabited α]
theorem compactUpTo_mem (d : Array α) : ∀ (m : Nat), ∀ x, x ∈ Lib.compactUpTo d m ↔ ∃ j, j < m ∧ d[j]! = x
  | 0, x => by simp [Lib.compactUpTo]
  | m + 1, x => by
    rw [Lib.compactUpTo_succ, List.mem_append, compactUpTo_mem d m x]
    constructor
    · rintro (⟨j, hj, e⟩ | h)
      · exact ⟨j, by omega, e⟩
      · split at h
        · simp at h; exact ⟨m, by omega, h.symm⟩
        · cases h
    · rintro ⟨j, hj, e⟩
      by_cases hjm : j = m
      · subst hjm
        by_cases hk : Lib.keeps d j = true
        · rw [if_pos hk]; simp [e]
        · left
          have hk' : ¬ (j = 0 ∨ d[j]! ≠ d[j - 1]!) := by simpa [Lib.keeps] using hk
          have h0 : ¬ j = 0 := fun h => hk' (.inl h)
          have h1 : d[j]! = d[j - 1]! := Decidable.not_not.1 fun h => hk' (.inr h)
          exact ⟨j - 1, by omega, by rw [← h1]; exact e⟩
      · exact .inl ⟨j, by omega, e⟩
theorem compactUpTo_asc {lt : α → α → Prop} (d : Array α) (trans : ∀ a b c, lt a b → lt b c → lt a c) (hle : ∀ i j, i < j → j < d.size → d[i]! = d[j]! ∨ lt d[i]! d[j]!) : ∀ (m : Nat), m ≤ d.size → (Lib.compactUpTo d m).Pairwise lt
  | 0, _ => by simp [Lib.compactUpTo]
  | m + 1, hm => by
    rw [Lib.compactUpTo_succ]
    have ih := compactUpTo_asc d trans hle m (by omega)
    refine List.pairwise_append.2 ⟨ih, by split <;> simp, fun a ha b hb => ?_⟩
    split at hb
    · rename_i hk
      simp at hb
      subst hb
      obtain ⟨j, hj, rfl⟩ := (compactUpTo_mem d m a).1 ha
      have hk' : m = 0 ∨ d[m]! ≠ d[m - 1]! := by simpa [Lib.keeps] using hk
      rcases hk' with h | h
      · omega
      · have h1 : lt d[m - 1]! d[m]! := (hle (m - 1) m (by omega) (by omega)).resolve_left fun e => h e.symm
        by_cases hjm : j = m - 1
        · subst hjm; exact h1
        · rcases hle j (m - 1) (by omega) (by omega) with e | e
          · rw [e]; exact h1
          · exact trans _ _ _ e h1
    · cases hb
end
theorem leL_iff {x y : List UInt8} : decide (x ≤ y) = true ↔ Op.bytesLess y x = false := by
  rw [bytesLess_eq, decide_eq_true_eq, decide_eq_false_iff_not]
  exact Iff.rfl
theorem sorted_str (zs : List (List UInt8)) : (zs.mergeSort fun x y => decide (x ≤ y)).Pairwise (fun a b => a = b ∨ Op.bytesLess a b = true) := by
  have h := List.pairwise_mergeSort (le := fun x y : List UInt8 => decide (x ≤ y)) (fun a b c h1 h2 => by
      rw [leL_iff] at h1 h2 ⊢
      cases h : Op.bytesLess c a with
      | false => rfl
      | true =>
        by_cases e : a = b
        · subst e; rw [h] at h2; cases h2
        · have : Op.bytesLess a b = true := by
            cases h3 : Op.bytesLess a b with
            | true => rfl
            | false => exact absurd (bl_total _ _ h3 h1) e
          rw [bl_trans _ _ _ h this] at h2; cases h2) (fun a b => by
      simp only [Bool.or_eq_true]
      rw [leL_iff, leL_iff]
      cases h : Op.bytesLess b a with
      | false => exact .inl rfl
      | true =>
        refine .inr ?_
        cases h' : Op.bytesLess a b with
        | false => rfl
        | true => have := bl_trans _ _ _ h h'; rw [bl_irrefl] at this; cases this) zs
  refine h.imp fun {a b} hab => ?_
  rw [leL_iff] at hab
  by_cases e : a = b
  · exact .inl e
  · refine .inr ?_
    cases h3 : Op.bytesLess a b with
    | true => rfl
    | false => exact absurd (bl_total _ _ h3 hab) e
def sortU (zs : List (List UInt8)) : List (List UInt8) := Lib.compact (zs.mergeSort fun x y => decide (x ≤ y))
theorem get_bang {l : List (List UInt8)} {j : Nat} (h : j < l.length) : l.toArray[j]! = l[j] := by rw [getElem!_pos _ j (by simpa using h)]; simp
theorem sortU_mem (zs : List (List UInt8)) (x : List UInt8) : x ∈ sortU zs ↔ x ∈ zs := by
  unfold sortU Lib.compact
  rw [compactUpTo_mem]
  have hp := List.mergeSort_perm zs (fun x y => decide (x ≤ y))
  generalize hl : (zs.mergeSort fun x y => decide (x ≤ y)) = l at hp
  rw [← hp.mem_iff]
  constructor
  · rintro ⟨j, hj, rfl⟩; rw [get_bang hj]; exact List.getElem_mem hj
  · intro hx
    obtain ⟨j, hj, rfl⟩ := List.getElem_of_mem hx
    exact ⟨j, hj, get_bang hj⟩
theorem sortU_asc (zs : List (List UInt8)) : (sortU zs).Pairwise (fun a b => Op.bytesLess a b = true) := by
  unfold sortU Lib.compact
  have hs := sorted_str zs
  generalize hl : (zs.mergeSort fun x y => decide (x ≤ y)) = l at hs
  refine compactUpTo_asc l.toArray bl_trans (fun i j hij hj => ?_) l.length (by simp)
  have hj' : j < l.length := by simpa using hj
  rw [get_bang hj', get_bang (show i < l.length by omega)]
  exact List.pairwise_iff_getElem.1 hs i j (by omega) hj' hij

/-! ### In step -/
def lk : List (ByteArray × Tr) → ByteArray → Option Tr
  | [], _ => none
  | (y, s) :: r, x => if y = x then some s else lk r x
theorem lk_none {l : List (ByteArray × Tr)} {x : ByteArray} (h : ∀ y, y ∈ l.map (·.1) → y ≠ x) : lk l x = none := by
  induction l with
  | nil => rfl
  | cons a r ih =>
    obtain ⟨y, s⟩ := a
    rw [lk, if_neg (h y (by simp)), ih fun z hz => h z (by simp at hz ⊢; exact .inr hz)]
theorem lk_zip : ∀ {ns : List ByteArray} {ks : List Tr}, ns.length = ks.length → ∀ x, lk (ns.zip ks) x = (nidx ns x).bind fun j => ks[j]?
  | [], [], _, x => rfl
  | [], _ :: _, h, _ => by simp at h
  | _ :: _, [], h, _ => by simp at h
  | n :: ns, k :: ks, h, x => by
    rw [List.zip_cons_cons, lk, nidx]
    split
    · rfl
    · rw [lk_zip (by simpa using h)]
      cases nidx ns x with
      | none => rfl
      | some j => simp
theorem zip_fst : ∀ {ns : List ByteArray} {ks : List Tr}, ns.length = ks.length → (ns.zip ks).map (·.1) = ns
  | [], [], _ => rfl
  | [], _ :: _, h => by simp at h
  | _ :: _, [], h => by simp at h
  | n :: ns, k :: ks, h => by rw [List.zip_cons_cons, List.map_cons, zip_fst (by simpa using h)]

abbrev Pr := ByteArray × Option Tr × Option Tr
def mrgK : List (ByteArray × Tr) → List (ByteArray × Tr) → List Pr
  | [], xb => xb.map fun y => (y.1, none, some y.2)
  | a :: xa, [] => (a :: xa).map fun y => (y.1, some y.2, none)
  | a :: xa, b :: xb =>
    if strLt a.1 b.1 = true then (a.1, some a.2, none) :: mrgK xa (b :: xb)
    else if strLt b.1 a.1 = true then (b.1, none, some b.2) :: mrgK (a :: xa) xb
    else (a.1, some a.2, some b.2) :: mrgK xa xb
termination_by xa xb => xa.length + xb.length

theorem lk_self : ∀ {l : List (ByteArray × Tr)}, AscS (l.map (·.1)) → ∀ y, y ∈ l → lk l y.1 = some y.2
  | (n, k) :: r, h, y, hy => by
    rw [List.map_cons] at h
    obtain ⟨h1, h2⟩ := List.pairwise_cons.1 h
    rw [lk]
    rcases List.mem_cons.1 hy with rfl | hy
    · rw [if_pos rfl]
    · rw [if_neg (strLt_ne (h1 y.1 (List.mem_map.2 ⟨y, hy, rfl⟩))), lk_self h2 y hy]
theorem mrgK_spec : ∀ (xa xb : List (ByteArray × Tr)), AscS (xa.map (·.1)) → AscS (xb.map (·.1)) →
    AscS ((mrgK xa xb).map (·.1)) ∧ (∀ x, x ∈ (mrgK xa xb).map (·.1) ↔ x ∈ xa.map (·.1) ∨ x ∈ xb.map (·.1)) ∧ ∀ z, z ∈ mrgK xa xb → z.2 = (lk xa z.1, lk xb z.1)
  | [], xb, ha, hb => by
    rw [mrgK]
    have e : ((xb.map fun y => ((y.1, none, some y.2) : Pr)).map (·.1)) = xb.map (·.1) := by simp [Function.comp_def]
    rw [e]
    refine ⟨hb, fun x => by simp, fun z hz => ?_⟩
    obtain ⟨y, hy, rfl⟩ := List.mem_map.1 hz
    simp only [lk, lk_self hb y hy]
  | a :: xa, [], ha, hb => by
    rw [mrgK]
    have e : (((a :: xa).map fun y => ((y.1, some y.2, none) : Pr)).map (·.1)) = (a :: xa).map (·.1) := by simp [Function.comp_def]
    rw [e]
    refine ⟨ha, fun x => by simp, fun z hz => ?_⟩
    obtain ⟨y, hy, rfl⟩ := List.mem_map.1 hz
    simp only [lk_self ha y hy]
    rfl
  | a :: xa, b :: xb, ha, hb => by
    obtain ⟨a1, a2⟩ := List.pairwise_cons.1 ha
    obtain ⟨b1, b2⟩ := List.pairwise_cons.1 hb
    rw [mrgK]
    split
    · rename_i h
      obtain ⟨i1, i2, i3⟩ := mrgK_spec xa (b :: xb) a2 hb
      have hlt : ∀ x, x ∈ (mrgK xa (b :: xb)).map (·.1) → strLt a.1 x = true := fun x hx => by
        rcases (i2 x).1 hx with h' | h'
        · exact a1 x h'
        · rcases List.mem_cons.1 h' with e | h'
          · rw [e]; exact h
          · exact strLt_trans h (b1 x h')
      refine ⟨List.pairwise_cons.2 ⟨hlt, i1⟩, fun x => ?_, fun z hz => ?_⟩
      · simp only [List.map_cons, List.mem_cons] at i2 ⊢
        rw [i2 x]
        constructor
        · rintro (h | h | h | h)
          · exact .inl (.inl h)
          · exact .inl (.inr h)
          · exact .inr (.inl h)
          · exact .inr (.inr h)
        · rintro ((h | h) | (h | h))
          · exact .inl h
          · exact .inr (.inl h)
          · exact .inr (.inr (.inl h))
          · exact .inr (.inr (.inr h))
      · rcases List.mem_cons.1 hz with rfl | hz
        · have e1 : lk (a :: xa) a.1 = some a.2 := lk_self ha a List.mem_cons_self
          have e2 : lk (b :: xb) a.1 = none := lk_none fun y hy => by
            rcases List.mem_cons.1 hy with e | hy
            · rw [e]; exact (strLt_ne h).symm
            · exact (strLt_ne (strLt_trans h (b1 y hy))).symm
          simp only [e1, e2]
        · have hz1 := hlt z.1 (List.mem_map.2 ⟨z, hz, rfl⟩)
          rw [i3 z hz]
          congr 1
          obtain ⟨an, ak⟩ := a
          rw [lk, if_neg (strLt_ne hz1)]
    · rename_i h
      split
      · rename_i h2
        obtain ⟨i1, i2, i3⟩ := mrgK_spec (a :: xa) xb ha b2
        have hlt : ∀ x, x ∈ (mrgK (a :: xa) xb).map (·.1) → strLt b.1 x = true := fun x hx => by
          rcases (i2 x).1 hx with h' | h'
          · rcases List.mem_cons.1 h' with e | h'
            · rw [e]; exact h2
            · exact strLt_trans h2 (a1 x h')
          · exact b1 x h'
        refine ⟨List.pairwise_cons.2 ⟨hlt, i1⟩, fun x => ?_, fun z hz => ?_⟩
        · simp only [List.map_cons, List.mem_cons] at i2 ⊢
          rw [i2 x]
          constructor
          · rintro (h | (h | h) | h)
            · exact .inr (.inl h)
            · exact .inl (.inl h)
            · exact .inl (.inr h)
            · exact .inr (.inr h)
          · rintro ((h | h) | (h | h))
            · exact .inr (.inl (.inl h))
            · exact .inr (.inl (.inr h))
            · exact .inl h
            · exact .inr (.inr h)
        · rcases List.mem_cons.1 hz with rfl | hz
          · have e1 : lk (b :: xb) b.1 = some b.2 := lk_self hb b List.mem_cons_self
            have e2 : lk (a :: xa) b.1 = none := lk_none fun y hy => by
              rcases List.mem_cons.1 hy with e | hy
              · rw [e]; exact (strLt_ne h2).symm
              · exact (strLt_ne (strLt_trans h2 (a1 y hy))).symm
            simp only [e1, e2]
          · have hz1 := hlt z.1 (List.mem_map.2 ⟨z, hz, rfl⟩)
            rw [i3 z hz]
            congr 1
            obtain ⟨bn, bk⟩ := b
            rw [lk, if_neg (strLt_ne hz1)]
      · rename_i h2
        have eab : a.1 = b.1 := strLt_total (by simpa using h) (by simpa using h2)
        obtain ⟨i1, i2, i3⟩ := mrgK_spec xa xb a2 b2
        have hlt : ∀ x, x ∈ (mrgK xa xb).map (·.1) → strLt a.1 x = true := fun x hx => by
          rcases (i2 x).1 hx with h' | h'
          · exact a1 x h'
          · rw [eab]; exact b1 x h'
        refine ⟨List.pairwise_cons.2 ⟨hlt, i1⟩, fun x => ?_, fun z hz => ?_⟩
        · simp only [List.map_cons, List.mem_cons] at i2 ⊢
          rw [i2 x]
          constructor
          · rintro (h | h | h)
            · exact .inl (.inl h)
            · exact .inl (.inr h)
            · exact .inr (.inr h)
          · rintro ((h | h) | (h | h))
            · exact .inl h
            · exact .inr (.inl h)
            · exact .inl (h.trans eab.symm)
            · exact .inr (.inr h)
        · rcases List.mem_cons.1 hz with rfl | hz
          · have e1 : lk (a :: xa) a.1 = some a.2 := lk_self ha a List.mem_cons_self
            have e2 : lk (b :: xb) a.1 = some b.2 := by rw [eab]; exact lk_self hb b List.mem_cons_self
            simp only [e1, e2]
          · have hz1 := hlt z.1 (List.mem_map.2 ⟨z, hz, rfl⟩)
            rw [i3 z hz]
            obtain ⟨an, ak⟩ := a
            obtain ⟨bn, bk⟩ := b
            simp only at eab hz1
            rw [lk, if_neg (strLt_ne hz1), lk, if_neg (by rw [← eab]; exact strLt_ne hz1)]
termination_by xa xb => xa.length + xb.length

/-- By the names of both, ascending. -/
theorem mrgK_names {xa xb : List (ByteArray × Tr)} (ha : AscS (xa.map (·.1))) (hb : AscS (xb.map (·.1))) {L : List ByteArray} (hL : AscS L) (hm : ∀ x, x ∈ L ↔ x ∈ xa.map (·.1) ∨ x ∈ xb.map (·.1)) :
    L.map (fun n => ((n, lk xa n, lk xb n) : Pr)) = mrgK xa xb := by
  obtain ⟨h1, h2, h3⟩ := mrgK_spec xa xb ha hb
  have e : L = (mrgK xa xb).map (·.1) := asc_unique hL h1 fun x => by rw [hm x, h2 x]
  rw [e, List.map_map]
  conv => rhs; rw [← List.map_id (mrgK xa xb)]
  apply List.map_congr_left
  intro z hz
  have := h3 z hz
  obtain ⟨n, p⟩ := z
  simp only [Function.comp_apply, id_eq]
  simp only at this
  rw [this]
theorem sum_left {A B : Option Tr → Nat} (hB : B none = 0) : ∀ l : List (ByteArray × Tr), sumBy (fun z : Pr => A z.2.1 + B z.2.2) (l.map fun y => (y.1, some y.2, none)) = sumBy (fun y => A (some y.2)) l
  | [] => rfl
  | b :: r => by simp only [List.map_cons, sumBy, sum_left hB r, hB]; omega
theorem sum_right {A B : Option Tr → Nat} (hA : A none = 0) : ∀ l : List (ByteArray × Tr), sumBy (fun z : Pr => A z.2.1 + B z.2.2) (l.map fun y => (y.1, none, some y.2)) = sumBy (fun y => B (some y.2)) l
  | [] => rfl
  | b :: r => by simp only [List.map_cons, sumBy, sum_right hA r, hA]; omega
/-- What is summed over both. -/
theorem mrgK_sum {A B : Option Tr → Nat} (hA : A none = 0) (hB : B none = 0) : ∀ (xa xb : List (ByteArray × Tr)), sumBy (fun z : Pr => A z.2.1 + B z.2.2) (mrgK xa xb) = sumBy (fun y => A (some y.2)) xa + sumBy (fun y => B (some y.2)) xb
  | [], xb => by rw [mrgK, sum_right hA]; simp [sumBy]
  | a :: xa, [] => by rw [mrgK, sum_left hB]; simp [sumBy]
  | a :: xa, b :: xb => by
    rw [mrgK]
    split
    · have := mrgK_sum hA hB xa (b :: xb)
      simp only [sumBy, this, hB]; omega
    · split
      · have := mrgK_sum hA hB (a :: xa) xb
        simp only [sumBy, this, hA]; omega
      · have := mrgK_sum hA hB xa xb
        simp only [sumBy, this]; omega
termination_by xa xb => xa.length + xb.length
end Go.Proofs.YtkbhjejalkbogaaGreat
