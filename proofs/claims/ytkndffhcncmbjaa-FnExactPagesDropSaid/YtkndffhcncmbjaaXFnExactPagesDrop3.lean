/- The law FnExactPagesDrop holds: it returns true, and the input reads as it did. No condition. This is part 3 of 4 of its proof. -/
import Derived.Test.YtkndffhcncmbjaaXFnExactPagesDrop2
import Derived.WideShapes
import Derived.ProofKit
import Derived.Below

/- What each function owes, reckoned out, part 2. MADE BY PROGRAM (emit.py). -/
set_option linter.unusedVariables false
namespace Go.Proofs.Ytkndffhcncmbjaa
open Go Go.Av

/-- (*spec.l1Rd).pick -/
def kp_p_spec_l1Rd_pick : Nat → Keep
  | 7 => ⟨[], [], [], .step 0 (.step 1 (.step 2 (.step 3 (.step 4 (.step 5 (.step 6 (.step 7 (.step 8 (.step 9 (.step 10 (.step 11 (.step 12 (.step 13 (.step 14 (.step 15 (.step 16 (.step 17 (.step 18 (.step 19 (.step 20 (.step 21 (.step 22 (.step 23 (.step 24 (.step 25 (.step 26 (.step 27 (.step 28 (.step 29 (.step 30 (.step 31 (.step 32 (.step 33 (.step 34 (.step 35 (.step 36 (.step 37 (.step 38 (.step 39 (.step 40 (.step 41 (.step 42 (.step 43 (.step 44 (.step 45 (.done)))))))))))))))))))))))))))))))))))))))))))))), [(1, [0]), (2, [0, 1]), (3, [0, 1, 2]), (6, [5]), (7, [5, 6]), (8, [5, 6, 7]), (9, [5, 6, 7, 8]), (10, [4, 5, 6, 7, 8, 9]), (11, [0, 1, 2, 3, 4, 5, 6, 7, 8, 9, 10]), (12, [0, 1, 2, 3, 4, 5, 6, 7, 8, 9, 10, 11]), (13, [0, 1, 2, 3, 4, 5, 6, 7, 8, 9, 10, 11, 12]), (14, [0, 1, 2, 3, 4, 5, 6, 7, 8, 9, 10, 11, 12, 13]), (16, [15]), (17, [15, 16]), (18, [15, 16, 17]), (20, [19]), (21, [19, 20]), (23, [22]), (24, [22, 23]), (25, [22, 23, 24]), (26, [22, 23, 24, 25]), (27, [19, 20, 21, 22, 23, 24, 25, 26]), (28, [15, 16, 17, 18, 19, 20, 21, 22, 23, 24, 25, 26, 27]), (29, [15, 16, 17, 18, 19, 20, 21, 22, 23, 24, 25, 26, 27, 28]), (30, [15, 16, 17, 18, 19, 20, 21, 22, 23, 24, 25, 26, 27, 28, 29]), (31, [15, 16, 17, 18, 19, 20, 21, 22, 23, 24, 25, 26, 27, 28, 29, 30]), (32, [0, 1, 2, 3, 4, 5, 6, 7, 8, 9, 10, 11, 12, 13, 14, 15, 16, 17, 18, 19, 20, 21, 22, 23, 24, 25, 26, 27, 28, 29, 30, 31]), (34, [33]), (35, [0, 1, 2, 3, 4, 5, 6, 7, 8, 9, 10, 11, 12, 13, 14, 15, 16, 17, 18, 19, 20, 21, 22, 23, 24, 25, 26, 27, 28, 29, 30, 31, 32, 33, 34]), (38, [37]), (39, [37, 38]), (40, [37, 38, 39]), (41, [37, 38, 39, 40]), (42, [36, 37, 38, 39, 40, 41]), (43, [36, 37, 38, 39, 40, 41, 42]), (44, [0, 1, 2, 3, 4, 5, 6, 7, 8, 9, 10, 11, 12, 13, 14, 15, 16, 17, 18, 19, 20, 21, 22, 23, 24, 25, 26, 27, 28, 29, 30, 31, 32, 33, 34, 35, 36, 37, 38, 39, 40, 41, 42, 43]), (45, [0, 1, 2, 3, 4, 5, 6, 7, 8, 9, 10, 11, 12, 13, 14, 15, 16, 17, 18, 19, 20, 21, 22, 23, 24, 25, 26, 27, 28, 29, 30, 31, 32, 33, 34, 35, 36, 37, 38, 39, 40, 41, 42, 43, 44])]⟩
  | _ => ⟨[], [], [], .done, []⟩
def esc_p_spec_l1Rd_pick : Nat → Bool
  | _ => false
def vc_p_spec_l1Rd_pick (w0 : World) (a0 a1 : Value) (σ : Vw) (R : Value → Vw → Prop) : Prop :=
  pNil a0 (pField 1 a0 (fun v0 => pLoad w0 1 v0 σ (fun g1 => pBin Try.prog 3 BinOp.add (g1 0) (Value.int IntKind.i64 1) (fun v2 => pNil a0 (pField 1 a0 (fun v3 => pVal false 1 v2 (pStore v3 [v2] σ (fun s4 => pBin Try.prog 3 BinOp.lss a1 (Value.int IntKind.i64 1) (fun v5 => pIf v5 (R (Value.int IntKind.i64 0) s4) (pNil a0 (pField 0 a0 (fun v6 => pLoad w0 1 v6 s4 (fun g7 => pLen (g7 0) (fun v8 => pBin Try.prog 3 BinOp.eql v8 (Value.int IntKind.i64 0) (fun v9 => pIf v9 (R (Value.int IntKind.i64 0) s4) (pNil a0 (pField 1 a0 (fun v10 => pLoad w0 1 v10 s4 (fun g11 => pBin Try.prog 3 BinOp.sub (g11 0) (Value.int IntKind.i64 1) (fun v12 => pNil a0 (pField 0 a0 (fun v13 => pLoad w0 1 v13 s4 (fun g14 => pLen (g14 0) (fun v15 => pBin Try.prog 3 BinOp.lss v12 v15 (fun v16 => pIf v16 (pNil a0 (pField 0 a0 (fun v17 => pLoad w0 1 v17 s4 (fun g18 => pIndexAddr 1 (g18 0) v12 (fun v19 => pLoad w0 1 v19 s4 (fun g20 => pConvInt IntKind.i64 (g20 0) (fun v21 => pBin Try.prog 3 BinOp.rem v21 a1 (fun v22 => R v22 s4)))))))) (pNil a0 (pField 0 a0 (fun v23 => pLoad w0 1 v23 s4 (fun g24 => pNil a0 (pField 0 a0 (fun v25 => pLoad w0 1 v25 s4 (fun g26 => pLen (g26 0) (fun v27 => pBin Try.prog 3 BinOp.rem v12 v27 (fun v28 => pIndexAddr 1 (g24 0) v28 (fun v29 => pLoad w0 1 v29 s4 (fun g30 => pConvInt IntKind.i64 (g30 0) (fun v31 => pBin Try.prog 3 BinOp.mul v31 (Value.int IntKind.i64 131) (fun v32 => pNil a0 (pField 0 a0 (fun v33 => pLoad w0 1 v33 s4 (fun g34 => pBin Try.prog 3 BinOp.mul v12 (Value.int IntKind.i64 7) (fun v35 => pBin Try.prog 3 BinOp.add v35 (Value.int IntKind.i64 3) (fun v36 => pNil a0 (pField 0 a0 (fun v37 => pLoad w0 1 v37 s4 (fun g38 => pLen (g38 0) (fun v39 => pBin Try.prog 3 BinOp.rem v36 v39 (fun v40 => pIndexAddr 1 (g34 0) v40 (fun v41 => pLoad w0 1 v41 s4 (fun g42 => pConvInt IntKind.i64 (g42 0) (fun v43 => pBin Try.prog 3 BinOp.mul v43 (Value.int IntKind.i64 1117) (fun v44 => pBin Try.prog 3 BinOp.add v32 v44 (fun v45 => pBin Try.prog 3 BinOp.mul v12 (Value.int IntKind.i64 29) (fun v46 => pBin Try.prog 3 BinOp.add v45 v46 (fun v47 => pNil a0 (pField 0 a0 (fun v48 => pLoad w0 1 v48 s4 (fun g49 => pLen (g49 0) (fun v50 => pBin Try.prog 3 BinOp.quo v12 v50 (fun v51 => pBin Try.prog 3 BinOp.mul v51 (Value.int IntKind.i64 53) (fun v52 => pBin Try.prog 3 BinOp.add v47 v52 (fun v53 => pBin Try.prog 3 BinOp.quo v53 (Value.int IntKind.i64 64) (fun v54 => pBin Try.prog 3 BinOp.xor v53 v54 (fun v55 => pBin Try.prog 3 BinOp.rem v55 a1 (fun v56 => R v56 s4)))))))))))))))))))))))))))))))))))))))))))))))))))))))))))))))))
theorem vc_p_spec_l1Rd_pick_eq (w0 : World) (a0 a1 : Value) (σ : Vw) (R : Value → Vw → Prop) : vc_p_spec_l1Rd_pick w0 a0 a1 σ R = den Try.prog w0 kp_p_spec_l1Rd_pick esc_p_spec_l1Rd_pick (Try.f63.body.getD .skip) (entry Try.f63.ntmps [a0, a1]) σ (retK Try.prog Try.f63.results.toList R) := by kernel_rfl
theorem ac_p_spec_l1Rd_pick {w0 : World} {a0 a1 : Value} {σ : Vw} {R : Value → Vw → Prop} (h : vc_p_spec_l1Rd_pick w0 a0 a1 σ R) : AC Try.prog w0 n_p_spec_l1Rd_pick [a0, a1] σ R := by
  refine ac_rule (fn := Try.f63) (c := Try.f63.body.getD .skip) kp_p_spec_l1Rd_pick esc_p_spec_l1Rd_pick Try.func63 (by kernel_rfl) (by kernel_rfl) ?_
  rw [← vc_p_spec_l1Rd_pick_eq]
  exact h

/-- spec.l1Many -/
def kp_spec_l1Many : Nat → Keep
  | 2 => ⟨[0, 1, 5], [], [], .done, []⟩
  | _ => ⟨[], [], [], .done, []⟩
def esc_spec_l1Many : Nat → Bool
  | _ => false
def vc_spec_l1Many (w0 : World) (a0 a1 : Value) (σ : Vw) (R : Value → Vw → Prop) : Prop :=
  pLoop (fun l0 K1 s2 => pBin Try.prog 3 BinOp.gtr (vget l0 1) (Value.int IntKind.i64 0) (fun v3 => pIf v3 (pBin Try.prog 3 BinOp.rem (vget l0 1) (Value.int IntKind.i64 2) (fun v4 => pBin Try.prog 3 BinOp.eql v4 (Value.int IntKind.i64 1) (fun v5 => pIf v5 (pBin Try.prog 9 BinOp.add (vget l0 2) (vget l0 0) (fun v6 => pBin Try.prog 9 BinOp.add (vget l0 0) (vget l0 0) (fun v7 => pBin Try.prog 3 BinOp.quo (vget l0 1) (Value.int IntKind.i64 2) (fun v8 => K1 AX.normal [v7, v8, v6] s2)))) (pBin Try.prog 9 BinOp.add (vget l0 0) (vget l0 0) (fun v9 => pBin Try.prog 3 BinOp.quo (vget l0 1) (Value.int IntKind.i64 2) (fun v10 => K1 AX.normal [v9, v10, vget l0 2] s2)))))) (K1 (AX.exit 0) [vget l0 0, vget l0 1, vget l0 2] s2))) ([a0, a1, Value.string ({ data := #[] })]) σ (fun x11 l12 s13 => match x11 with | .normal => R (vget l12 2) s13 | .ret => False | .exit i14 => (match Nat.beq i14 0 with | true => R (vget l12 2) s13 | false => False))
theorem vc_spec_l1Many_eq (w0 : World) (a0 a1 : Value) (σ : Vw) (R : Value → Vw → Prop) : vc_spec_l1Many w0 a0 a1 σ R = den Try.prog w0 kp_spec_l1Many esc_spec_l1Many (Try.f64.body.getD .skip) (entry Try.f64.ntmps [a0, a1]) σ (retK Try.prog Try.f64.results.toList R) := by kernel_rfl
theorem ac_spec_l1Many {w0 : World} {a0 a1 : Value} {σ : Vw} {R : Value → Vw → Prop} (h : vc_spec_l1Many w0 a0 a1 σ R) : AC Try.prog w0 n_spec_l1Many [a0, a1] σ R := by
  refine ac_rule (fn := Try.f64) (c := Try.f64.body.getD .skip) kp_spec_l1Many esc_spec_l1Many Try.func64 (by kernel_rfl) (by kernel_rfl) ?_
  rw [← vc_spec_l1Many_eq]
  exact h

/-- impl.cloneDisk -/
def kp_impl_cloneDisk : Nat → Keep
  | _ => ⟨[], [], [], .done, []⟩
def esc_impl_cloneDisk : Nat → Bool
  | 3 => true
  | _ => false
def vc_impl_cloneDisk (w0 : World) (a0 : Value) (σ : Vw) (R : Value → Vw → Prop) : Prop :=
  pVal true 1 a0 (pNew w0 9 [] σ (fun n0 s1 => pAppendS w0 9 1 16 (Value.slice (Option.some (Addr.mk n0 0 Option.none)) 0 0) (cellOf a0 0) s1 (fun v2 s3 => pVal false 1 v2 (pVal true 1 (Value.agg ⟨[v2]⟩) (R (Value.agg ⟨[v2]⟩) s3)))))
theorem vc_impl_cloneDisk_eq (w0 : World) (a0 : Value) (σ : Vw) (R : Value → Vw → Prop) : vc_impl_cloneDisk w0 a0 σ R = den Try.prog w0 kp_impl_cloneDisk esc_impl_cloneDisk (Try.f65.body.getD .skip) (entry Try.f65.ntmps [a0]) σ (retK Try.prog Try.f65.results.toList R) := by kernel_rfl
theorem ac_impl_cloneDisk {w0 : World} {a0 : Value} {σ : Vw} {R : Value → Vw → Prop} (h : vc_impl_cloneDisk w0 a0 σ R) : AC Try.prog w0 n_impl_cloneDisk [a0] σ R := by
  refine ac_rule (fn := Try.f65) (c := Try.f65.body.getD .skip) kp_impl_cloneDisk esc_impl_cloneDisk Try.func65 (by kernel_rfl) (by kernel_rfl) ?_
  rw [← vc_impl_cloneDisk_eq]
  exact h

/-- spec.l21Copy -/
def kp_spec_l21Copy : Nat → Keep
  | _ => ⟨[], [], [], .done, []⟩
def esc_spec_l21Copy : Nat → Bool
  | 3 => true
  | _ => false
def vc_spec_l21Copy (w0 : World) (a0 : Value) (σ : Vw) (R : Value → Vw → Prop) : Prop :=
  pVal true 1 a0 (pNew w0 9 [] σ (fun n0 s1 => pAppendS w0 9 1 16 (Value.slice (Option.some (Addr.mk n0 0 Option.none)) 0 0) (cellOf a0 0) s1 (fun v2 s3 => pVal false 1 v2 (pVal true 1 (Value.agg ⟨[v2]⟩) (R (Value.agg ⟨[v2]⟩) s3)))))
theorem vc_spec_l21Copy_eq (w0 : World) (a0 : Value) (σ : Vw) (R : Value → Vw → Prop) : vc_spec_l21Copy w0 a0 σ R = den Try.prog w0 kp_spec_l21Copy esc_spec_l21Copy (Try.f66.body.getD .skip) (entry Try.f66.ntmps [a0]) σ (retK Try.prog Try.f66.results.toList R) := by kernel_rfl
theorem ac_spec_l21Copy {w0 : World} {a0 : Value} {σ : Vw} {R : Value → Vw → Prop} (h : vc_spec_l21Copy w0 a0 σ R) : AC Try.prog w0 n_spec_l21Copy [a0] σ R := by
  refine ac_rule (fn := Try.f66) (c := Try.f66.body.getD .skip) kp_spec_l21Copy esc_spec_l21Copy Try.func66 (by kernel_rfl) (by kernel_rfl) ?_
  rw [← vc_spec_l21Copy_eq]
  exact h

/-- spec.l21RawOk -/
def kp_spec_l21RawOk : Nat → Keep
  | _ => ⟨[], [], [], .done, []⟩
def esc_spec_l21RawOk : Nat → Bool
  | _ => false
def vc_spec_l21RawOk (w0 : World) (a0 : Value) (σ : Vw) (R : Value → Vw → Prop) : Prop :=
  pVal true 2 a0 (AC Try.prog w0 n_spec_l21In [cellOf a0 0, Value.int IntKind.i64 0, Value.int IntKind.i64 193] σ (fun v0 s1 => pIf v0 (pLenS (cellOf a0 1) (fun v2 => pBin Try.prog 3 BinOp.leq v2 (Value.int IntKind.i64 64) (fun v3 => R v3 s1))) (R (Value.bool false) s1)))
theorem vc_spec_l21RawOk_eq (w0 : World) (a0 : Value) (σ : Vw) (R : Value → Vw → Prop) : vc_spec_l21RawOk w0 a0 σ R = den Try.prog w0 kp_spec_l21RawOk esc_spec_l21RawOk (Try.f67.body.getD .skip) (entry Try.f67.ntmps [a0]) σ (retK Try.prog Try.f67.results.toList R) := by kernel_rfl
theorem ac_spec_l21RawOk {w0 : World} {a0 : Value} {σ : Vw} {R : Value → Vw → Prop} (h : vc_spec_l21RawOk w0 a0 σ R) : AC Try.prog w0 n_spec_l21RawOk [a0] σ R := by
  refine ac_rule (fn := Try.f67) (c := Try.f67.body.getD .skip) kp_spec_l21RawOk esc_spec_l21RawOk Try.func67 (by kernel_rfl) (by kernel_rfl) ?_
  rw [← vc_spec_l21RawOk_eq]
  exact h

/-- laws.szPage -/
def kp_laws_szPage : Nat → Keep
  | _ => ⟨[], [], [], .done, []⟩
def esc_laws_szPage : Nat → Bool
  | _ => false
def vc_laws_szPage (w0 : World) (a0 a1 : Value) (σ : Vw) (R : Value → Vw → Prop) : Prop :=
  pVal true 3 a0 (pLenS (cellOf a0 1) (fun v0 => pBin Try.prog 3 BinOp.sub a1 v0 (fun v1 => pBin Try.prog 3 BinOp.lss v1 (Value.int IntKind.i64 0) (fun v2 => pIf v2 (R (Value.int IntKind.i64 (-1)) σ) (R v1 σ)))))
theorem vc_laws_szPage_eq (w0 : World) (a0 a1 : Value) (σ : Vw) (R : Value → Vw → Prop) : vc_laws_szPage w0 a0 a1 σ R = den Try.prog w0 kp_laws_szPage esc_laws_szPage (Try.f68.body.getD .skip) (entry Try.f68.ntmps [a0, a1]) σ (retK Try.prog Try.f68.results.toList R) := by kernel_rfl
theorem ac_laws_szPage {w0 : World} {a0 a1 : Value} {σ : Vw} {R : Value → Vw → Prop} (h : vc_laws_szPage w0 a0 a1 σ R) : AC Try.prog w0 n_laws_szPage [a0, a1] σ R := by
  refine ac_rule (fn := Try.f68) (c := Try.f68.body.getD .skip) kp_laws_szPage esc_laws_szPage Try.func68 (by kernel_rfl) (by kernel_rfl) ?_
  rw [← vc_laws_szPage_eq]
  exact h

/-- laws.szPageName -/
def kp_laws_szPageName : Nat → Keep
  | _ => ⟨[], [], [], .done, []⟩
def esc_laws_szPageName : Nat → Bool
  | _ => false
def vc_laws_szPageName (w0 : World) (a0 a1 : Value) (σ : Vw) (R : Value → Vw → Prop) : Prop :=
  pVal true 3 a0 (pLenS (cellOf a0 0) (fun v0 => pBin Try.prog 3 BinOp.sub a1 v0 (fun v1 => pBin Try.prog 3 BinOp.lss v1 (Value.int IntKind.i64 0) (fun v2 => pIf v2 (R (Value.int IntKind.i64 (-1)) σ) (R v1 σ)))))
theorem vc_laws_szPageName_eq (w0 : World) (a0 a1 : Value) (σ : Vw) (R : Value → Vw → Prop) : vc_laws_szPageName w0 a0 a1 σ R = den Try.prog w0 kp_laws_szPageName esc_laws_szPageName (Try.f69.body.getD .skip) (entry Try.f69.ntmps [a0, a1]) σ (retK Try.prog Try.f69.results.toList R) := by kernel_rfl
theorem ac_laws_szPageName {w0 : World} {a0 a1 : Value} {σ : Vw} {R : Value → Vw → Prop} (h : vc_laws_szPageName w0 a0 a1 σ R) : AC Try.prog w0 n_laws_szPageName [a0, a1] σ R := by
  refine ac_rule (fn := Try.f69) (c := Try.f69.body.getD .skip) kp_laws_szPageName esc_laws_szPageName Try.func69 (by kernel_rfl) (by kernel_rfl) ?_
  rw [← vc_laws_szPageName_eq]
  exact h

/-- laws.toPage -/
def kp_laws_toPage : Nat → Keep
  | _ => ⟨[], [], [], .done, []⟩
def esc_laws_toPage : Nat → Bool
  | _ => false
def vc_laws_toPage (w0 : World) (a0 : Value) (σ : Vw) (R : Value → Vw → Prop) : Prop :=
  pVal true 3 a0 (pVal false 1 (cellOf a0 0) (pVal false 1 (cellOf a0 1) (pVal false 1 (cellOf a0 2) (pVal true 3 (Value.agg (⟨[cellOf a0 0, cellOf a0 1, cellOf a0 2]⟩)) (R (Value.agg (⟨[cellOf a0 0, cellOf a0 1, cellOf a0 2]⟩)) σ)))))
theorem vc_laws_toPage_eq (w0 : World) (a0 : Value) (σ : Vw) (R : Value → Vw → Prop) : vc_laws_toPage w0 a0 σ R = den Try.prog w0 kp_laws_toPage esc_laws_toPage (Try.f70.body.getD .skip) (entry Try.f70.ntmps [a0]) σ (retK Try.prog Try.f70.results.toList R) := by kernel_rfl
theorem ac_laws_toPage {w0 : World} {a0 : Value} {σ : Vw} {R : Value → Vw → Prop} (h : vc_laws_toPage w0 a0 σ R) : AC Try.prog w0 n_laws_toPage [a0] σ R := by
  refine ac_rule (fn := Try.f70) (c := Try.f70.body.getD .skip) kp_laws_toPage esc_laws_toPage Try.func70 (by kernel_rfl) (by kernel_rfl) ?_
  rw [← vc_laws_toPage_eq]
  exact h

/-- laws.toPageName -/
def kp_laws_toPageName : Nat → Keep
  | _ => ⟨[], [], [], .done, []⟩
def esc_laws_toPageName : Nat → Bool
  | _ => false
def vc_laws_toPageName (w0 : World) (a0 : Value) (σ : Vw) (R : Value → Vw → Prop) : Prop :=
  pVal true 3 a0 (pVal false 1 (cellOf a0 0) (pVal false 1 (cellOf a0 1) (pVal false 1 (cellOf a0 2) (pVal true 3 (Value.agg (⟨[cellOf a0 0, cellOf a0 1, cellOf a0 2]⟩)) (R (Value.agg (⟨[cellOf a0 0, cellOf a0 1, cellOf a0 2]⟩)) σ)))))
theorem vc_laws_toPageName_eq (w0 : World) (a0 : Value) (σ : Vw) (R : Value → Vw → Prop) : vc_laws_toPageName w0 a0 σ R = den Try.prog w0 kp_laws_toPageName esc_laws_toPageName (Try.f71.body.getD .skip) (entry Try.f71.ntmps [a0]) σ (retK Try.prog Try.f71.results.toList R) := by kernel_rfl
theorem ac_laws_toPageName {w0 : World} {a0 : Value} {σ : Vw} {R : Value → Vw → Prop} (h : vc_laws_toPageName w0 a0 σ R) : AC Try.prog w0 n_laws_toPageName [a0] σ R := by
  refine ac_rule (fn := Try.f71) (c := Try.f71.body.getD .skip) kp_laws_toPageName esc_laws_toPageName Try.func71 (by kernel_rfl) (by kernel_rfl) ?_
  rw [← vc_laws_toPageName_eq]
  exact h

/-- laws.eqPage -/
def kp_laws_eqPage : Nat → Keep
  | _ => ⟨[], [], [], .done, []⟩
def esc_laws_eqPage : Nat → Bool
  | _ => false
def vc_laws_eqPage (w0 : World) (a0 a1 : Value) (σ : Vw) (R : Value → Vw → Prop) : Prop :=
  pVal true 3 a0 (pVal true 3 a1 (pBin Try.prog 4 BinOp.neq (cellOf a0 0) (cellOf a1 0) (fun v0 => pIf v0 (R (Value.bool false) σ) (pBin Try.prog 9 BinOp.neq (cellOf a0 1) (cellOf a1 1) (fun v1 => pIf v1 (R (Value.bool false) σ) (pBin Try.prog 3 BinOp.neq (cellOf a0 2) (cellOf a1 2) (fun v2 => pIf v2 (R (Value.bool false) σ) (R (Value.bool true) σ))))))))
theorem vc_laws_eqPage_eq (w0 : World) (a0 a1 : Value) (σ : Vw) (R : Value → Vw → Prop) : vc_laws_eqPage w0 a0 a1 σ R = den Try.prog w0 kp_laws_eqPage esc_laws_eqPage (Try.f72.body.getD .skip) (entry Try.f72.ntmps [a0, a1]) σ (retK Try.prog Try.f72.results.toList R) := by kernel_rfl
theorem ac_laws_eqPage {w0 : World} {a0 a1 : Value} {σ : Vw} {R : Value → Vw → Prop} (h : vc_laws_eqPage w0 a0 a1 σ R) : AC Try.prog w0 n_laws_eqPage [a0, a1] σ R := by
  refine ac_rule (fn := Try.f72) (c := Try.f72.body.getD .skip) kp_laws_eqPage esc_laws_eqPage Try.func72 (by kernel_rfl) (by kernel_rfl) ?_
  rw [← vc_laws_eqPage_eq]
  exact h

/-- laws.eqPageName -/
def kp_laws_eqPageName : Nat → Keep
  | _ => ⟨[], [], [], .done, []⟩
def esc_laws_eqPageName : Nat → Bool
  | _ => false
def vc_laws_eqPageName (w0 : World) (a0 a1 : Value) (σ : Vw) (R : Value → Vw → Prop) : Prop :=
  pVal true 3 a0 (pVal true 3 a1 (pBin Try.prog 9 BinOp.neq (cellOf a0 0) (cellOf a1 0) (fun v0 => pIf v0 (R (Value.bool false) σ) (pBin Try.prog 3 BinOp.neq (cellOf a0 1) (cellOf a1 1) (fun v1 => pIf v1 (R (Value.bool false) σ) (pBin Try.prog 3 BinOp.neq (cellOf a0 2) (cellOf a1 2) (fun v2 => pIf v2 (R (Value.bool false) σ) (R (Value.bool true) σ))))))))
theorem vc_laws_eqPageName_eq (w0 : World) (a0 a1 : Value) (σ : Vw) (R : Value → Vw → Prop) : vc_laws_eqPageName w0 a0 a1 σ R = den Try.prog w0 kp_laws_eqPageName esc_laws_eqPageName (Try.f73.body.getD .skip) (entry Try.f73.ntmps [a0, a1]) σ (retK Try.prog Try.f73.results.toList R) := by kernel_rfl
theorem ac_laws_eqPageName {w0 : World} {a0 a1 : Value} {σ : Vw} {R : Value → Vw → Prop} (h : vc_laws_eqPageName w0 a0 a1 σ R) : AC Try.prog w0 n_laws_eqPageName [a0, a1] σ R := by
  refine ac_rule (fn := Try.f73) (c := Try.f73.body.getD .skip) kp_laws_eqPageName esc_laws_eqPageName Try.func73 (by kernel_rfl) (by kernel_rfl) ?_
  rw [← vc_laws_eqPageName_eq]
  exact h

/-- slices.IndexFunc[[]impl.PageName,impl.PageName] -/
def kp_slices_IndexFunc_impl_PageName_impl_PageName : Nat → Keep
  | 2 => ⟨[0, 1, 4, 7, 8], [], [], .done, []⟩
  | _ => ⟨[], [], [], .done, []⟩
def esc_slices_IndexFunc_impl_PageName_impl_PageName : Nat → Bool
  | _ => false
def vc_slices_IndexFunc_impl_PageName_impl_PageName (w0 : World) (a0 a1 : Value) (σ : Vw) (R : Value → Vw → Prop) : Prop :=
  pLen a0 (fun v0 => pLoop (fun l1 K2 s3 => pBin Try.prog 3 BinOp.lss (vget l1 4) (vget l1 3) (fun v4 => pIf v4 (pIndexAddr 3 (vget l1 0) (vget l1 4) (fun v5 => pLoad w0 3 v5 s3 (fun g6 => pCallV (fun n7 l8 s9 K10 => AC Try.prog w0 n7 l8 s9 K10) (vget l1 1) ([Value.agg (⟨[g6 0, g6 1, g6 2]⟩)]) s3 (fun v11 s12 => pIf v11 (K2 AX.ret [vget l1 0, vget l1 1, vget l1 4, vget l1 3, vget l1 4] s12) (pBin Try.prog 3 BinOp.add (vget l1 4) (Value.int IntKind.i64 1) (fun v13 => K2 AX.normal [vget l1 0, vget l1 1, vget l1 2, vget l1 3, v13] s12)))))) (K2 (AX.exit 0) [vget l1 0, vget l1 1, vget l1 2, vget l1 3, vget l1 4] s3))) [a0, a1, Value.int IntKind.i64 0, v0, Value.int IntKind.i64 0] σ (fun x14 l15 s16 => match x14 with | .normal => R (Value.int IntKind.i64 (-1)) s16 | .ret => R (vget l15 2) s16 | .exit i17 => (match Nat.beq i17 0 with | true => R (Value.int IntKind.i64 (-1)) s16 | false => False)))
theorem vc_slices_IndexFunc_impl_PageName_impl_PageName_eq (w0 : World) (a0 a1 : Value) (σ : Vw) (R : Value → Vw → Prop) : vc_slices_IndexFunc_impl_PageName_impl_PageName w0 a0 a1 σ R = den Try.prog w0 kp_slices_IndexFunc_impl_PageName_impl_PageName esc_slices_IndexFunc_impl_PageName_impl_PageName (Try.f74.body.getD .skip) (entry Try.f74.ntmps [a0, a1]) σ (retK Try.prog Try.f74.results.toList R) := by kernel_rfl
theorem ac_slices_IndexFunc_impl_PageName_impl_PageName {w0 : World} {a0 a1 : Value} {σ : Vw} {R : Value → Vw → Prop} (h : vc_slices_IndexFunc_impl_PageName_impl_PageName w0 a0 a1 σ R) : AC Try.prog w0 n_slices_IndexFunc_impl_PageName_impl_PageName [a0, a1] σ R := by
  refine ac_rule (fn := Try.f74) (c := Try.f74.body.getD .skip) kp_slices_IndexFunc_impl_PageName_impl_PageName esc_slices_IndexFunc_impl_PageName_impl_PageName Try.func74 (by kernel_rfl) (by kernel_rfl) ?_
  rw [← vc_slices_IndexFunc_impl_PageName_impl_PageName_eq]
  exact h

/-- (impl.Pages).find$1 -/
def kp_impl_Pages_find_c1 : Nat → Keep
  | _ => ⟨[], [], [], .done, []⟩
def esc_impl_Pages_find_c1 : Nat → Bool
  | _ => false
def vc_impl_Pages_find_c1 (w0 : World) (a0 a1 : Value) (σ : Vw) (R : Value → Vw → Prop) : Prop :=
  pVal true 3 a0 (pLoad w0 1 a1 σ (fun g0 => pBin Try.prog 9 BinOp.eql (cellOf a0 0) (g0 0) (fun v1 => R v1 σ)))
theorem vc_impl_Pages_find_c1_eq (w0 : World) (a0 a1 : Value) (σ : Vw) (R : Value → Vw → Prop) : vc_impl_Pages_find_c1 w0 a0 a1 σ R = den Try.prog w0 kp_impl_Pages_find_c1 esc_impl_Pages_find_c1 (Try.f75.body.getD .skip) (entry Try.f75.ntmps [a0, a1]) σ (retK Try.prog Try.f75.results.toList R) := by kernel_rfl
theorem ac_impl_Pages_find_c1 {w0 : World} {a0 a1 : Value} {σ : Vw} {R : Value → Vw → Prop} (h : vc_impl_Pages_find_c1 w0 a0 a1 σ R) : AC Try.prog w0 n_impl_Pages_find_c1 [a0, a1] σ R := by
  refine ac_rule (fn := Try.f75) (c := Try.f75.body.getD .skip) kp_impl_Pages_find_c1 esc_impl_Pages_find_c1 Try.func75 (by kernel_rfl) (by kernel_rfl) ?_
  rw [← vc_impl_Pages_find_c1_eq]
  exact h

/-- slices.Delete[[]impl.PageName,impl.PageName] -/
def kp_slices_Delete_impl_PageName_impl_PageName : Nat → Keep
  | 5 => ⟨[], [], [], .step 0 (.step 1 (.step 2 (.step 3 (.step 4 (.step 5 (.step 6 (.step 7 (.done)))))))), [(2, [0, 1]), (5, [3, 4]), (6, [0, 1, 2, 3, 4, 5]), (7, [0, 1, 2, 3, 4, 5, 6])]⟩
  | _ => ⟨[], [], [], .done, []⟩
def esc_slices_Delete_impl_PageName_impl_PageName : Nat → Bool
  | _ => false
def vc_slices_Delete_impl_PageName_impl_PageName (w0 : World) (a0 a1 a2 : Value) (σ : Vw) (R : Value → Vw → Prop) : Prop :=
  pLen a0 (fun v0 => pSlice3 3 a0 (Option.some a1) (Option.some a2) (Option.some v0) (fun v1 => pBin Try.prog 3 BinOp.eql a1 a2 (fun v2 => pIf v2 (R a0 σ) (pLen a0 (fun v3 => pSlice 3 a0 Option.none (Option.some a1) (fun v4 => pSlice 3 a0 (Option.some a2) Option.none (fun v5 => pAppendS w0 44 3 32 v4 v5 σ (fun v6 s7 => pLen v6 (fun v8 => pSlice 3 v6 (Option.some v8) (Option.some v3) (fun v9 => pClear 3 ([Value.string ({ data := #[] }), Value.int IntKind.i64 0, Value.int IntKind.i64 0]) v9 s7 (fun s10 => R v6 s10)))))))))))
theorem vc_slices_Delete_impl_PageName_impl_PageName_eq (w0 : World) (a0 a1 a2 : Value) (σ : Vw) (R : Value → Vw → Prop) : vc_slices_Delete_impl_PageName_impl_PageName w0 a0 a1 a2 σ R = den Try.prog w0 kp_slices_Delete_impl_PageName_impl_PageName esc_slices_Delete_impl_PageName_impl_PageName (Try.f76.body.getD .skip) (entry Try.f76.ntmps [a0, a1, a2]) σ (retK Try.prog Try.f76.results.toList R) := by kernel_rfl
theorem ac_slices_Delete_impl_PageName_impl_PageName {w0 : World} {a0 a1 a2 : Value} {σ : Vw} {R : Value → Vw → Prop} (h : vc_slices_Delete_impl_PageName_impl_PageName w0 a0 a1 a2 σ R) : AC Try.prog w0 n_slices_Delete_impl_PageName_impl_PageName [a0, a1, a2] σ R := by
  refine ac_rule (fn := Try.f76) (c := Try.f76.body.getD .skip) kp_slices_Delete_impl_PageName_impl_PageName esc_slices_Delete_impl_PageName_impl_PageName Try.func76 (by kernel_rfl) (by kernel_rfl) ?_
  rw [← vc_slices_Delete_impl_PageName_impl_PageName_eq]
  exact h

/-- laws.markText -/
def kp_laws_markText : Nat → Keep
  | 4 => ⟨[0, 3], [], [], .done, []⟩
  | _ => ⟨[], [], [], .done, []⟩
def esc_laws_markText : Nat → Bool
  | 12 => true
  | _ => false
def vc_laws_markText (w0 : World) (a0 : Value) (σ : Vw) (R : Value → Vw → Prop) : Prop :=
  pBin Try.prog 3 BinOp.leq a0 (Value.int IntKind.i64 0) (fun v0 => pIf v0 (R (Value.string ({ data := #[109, 48] })) σ) (pLoop (fun l1 K2 s3 => pBin Try.prog 3 BinOp.gtr (vget l1 0) (Value.int IntKind.i64 0) (fun v4 => pIf v4 (pBin Try.prog 3 BinOp.rem (vget l1 0) (Value.int IntKind.i64 10) (fun v5 => pBin Try.prog 3 BinOp.add (Value.int IntKind.i64 48) v5 (fun v6 => pConvInt IntKind.u8 v6 (fun v7 => pVal false 1 v7 (pNew w0 5 [v7] s3 (fun n8 s9 => pStr w0 (Value.slice (Option.some (Addr.mk n8 0 Option.none)) 1 1) s9 (fun v10 => pBin Try.prog 9 BinOp.add v10 (vget l1 1) (fun v11 => pBin Try.prog 3 BinOp.quo (vget l1 0) (Value.int IntKind.i64 10) (fun v12 => K2 AX.normal [v12, v11] s9))))))))) (K2 (AX.exit 0) [vget l1 0, vget l1 1] s3))) ([a0, Value.string ({ data := #[] })]) σ (fun x13 l14 s15 => match x13 with | .normal => pBin Try.prog 9 BinOp.add (Value.string ({ data := #[109] })) (vget l14 1) (fun v16 => R v16 s15) | .ret => False | .exit i17 => (match Nat.beq i17 0 with | true => pBin Try.prog 9 BinOp.add (Value.string ({ data := #[109] })) (vget l14 1) (fun v18 => R v18 s15) | false => False))))
theorem vc_laws_markText_eq (w0 : World) (a0 : Value) (σ : Vw) (R : Value → Vw → Prop) : vc_laws_markText w0 a0 σ R = den Try.prog w0 kp_laws_markText esc_laws_markText (Try.f77.body.getD .skip) (entry Try.f77.ntmps [a0]) σ (retK Try.prog Try.f77.results.toList R) := by kernel_rfl
theorem ac_laws_markText {w0 : World} {a0 : Value} {σ : Vw} {R : Value → Vw → Prop} (h : vc_laws_markText w0 a0 σ R) : AC Try.prog w0 n_laws_markText [a0] σ R := by
  refine ac_rule (fn := Try.f77) (c := Try.f77.body.getD .skip) kp_laws_markText esc_laws_markText Try.func77 (by kernel_rfl) (by kernel_rfl) ?_
  rw [← vc_laws_markText_eq]
  exact h

/-- spec.l61Pages -/
def kp_spec_l61Pages : Nat → Keep
  | 3 => ⟨[0, 4], [(2, 2), (3, 2)], [2, 3], .done, []⟩
  | 8 => ⟨[], [], [], .step 0 (.step 1 (.step 2 (.step 3 (.step 4 (.step 5 (.step 6 (.step 7 (.step 8 (.done))))))))), [(3, [2]), (4, [0, 1, 2, 3]), (5, [0, 1, 2, 3, 4]), (6, [0, 1, 2, 3, 4, 5]), (7, [0, 1, 2, 3, 4, 5]), (8, [0, 1, 2, 3, 4, 5, 6])]⟩
  | _ => ⟨[], [], [], .done, []⟩
def esc_spec_l61Pages : Nat → Bool
  | 14 => true
  | _ => false
def vc_spec_l61Pages (w0 : World) (a0 : Value) (σ : Vw) (R : Value → Vw → Prop) : Prop :=
  AC Try.prog w0 n_spec_PagesNew [] σ (fun v0 s1 => pVal true 2 v0 (AC Try.prog w0 n_p_spec_l1Rd_pick [a0, Value.int IntKind.i64 14] s1 (fun v2 s3 => pLoop (fun l4 K5 s6 => pBin Try.prog 3 BinOp.gtr (vget l4 1) (Value.int IntKind.i64 0) (fun v7 => pIf v7 (pVal false 1 (Value.string ({ data := #[97] })) (pVal false 1 (Value.string ({ data := #[98] })) (pVal false 1 (Value.string ({ data := #[99] })) (pVal false 1 (Value.string ({ data := #[100, 49] })) (pVal false 1 (Value.string ({ data := #[101] })) (pVal false 1 (Value.string ({ data := #[102] })) (pVal false 1 (Value.string ({ data := #[103] })) (pVal false 1 (Value.string ({ data := #[104] })) (pNew w0 9 ([Value.string ({ data := #[97] }), Value.string ({ data := #[98] }), Value.string ({ data := #[99] }), Value.string ({ data := #[100, 49] }), Value.string ({ data := #[101] }), Value.string ({ data := #[102] }), Value.string ({ data := #[103] }), Value.string ({ data := #[104] })]) s6 (fun n8 s9 => AC Try.prog w0 n_p_spec_l1Rd_of [vget l4 0, Value.slice (Option.some (Addr.mk n8 0 Option.none)) 8 8] s9 (fun v10 s11 => AC Try.prog w0 n_p_spec_l1Rd_pick [vget l4 0, Value.int IntKind.i64 3] s11 (fun v12 s13 => pBin Try.prog 3 BinOp.eql v12 (Value.int IntKind.i64 0) (fun v14 => pIf v14 (AC Try.prog w0 n_spec_PagesDrop ([Value.agg (⟨[vget l4 4, vget l4 5]⟩), v10]) s13 (fun v15 s16 => pExtract v15 0 (fun v17 => pExtract v15 1 (fun v18 => pVal true 2 v17 (pBin Try.prog 3 BinOp.sub (vget l4 1) (Value.int IntKind.i64 1) (fun v19 => K5 AX.normal [vget l4 0, v19, vget l4 2, vget l4 3, cellOf v17 0, cellOf v17 1] s16)))))) (AC Try.prog w0 n_spec_l61Text [vget l4 0] s13 (fun v20 s21 => AC Try.prog w0 n_spec_PagesPut ([Value.agg (⟨[vget l4 4, vget l4 5]⟩), v10, v20]) s21 (fun v22 s23 => pExtract v22 0 (fun v24 => pExtract v22 1 (fun v25 => pVal true 2 v24 (pBin Try.prog 3 BinOp.sub (vget l4 1) (Value.int IntKind.i64 1) (fun v26 => K5 AX.normal [vget l4 0, v26, vget l4 2, vget l4 3, cellOf v24 0, cellOf v24 1] s23)))))))))))))))))))) (K5 (AX.exit 0) [vget l4 0, vget l4 1, vget l4 2, vget l4 3, vget l4 4, vget l4 5] s6))) [a0, v2, Value.slice Option.none 0 0, Value.slice Option.none 0 0, cellOf v0 0, cellOf v0 1] s3 (fun x27 l28 s29 => match x27 with | .normal => pVal true 2 (Value.agg (⟨[vget l28 4, vget l28 5]⟩)) (R (Value.agg (⟨[vget l28 4, vget l28 5]⟩)) s29) | .ret => R (Value.agg (⟨[vget l28 2, vget l28 3]⟩)) s29 | .exit i30 => (match Nat.beq i30 0 with | true => pVal true 2 (Value.agg (⟨[vget l28 4, vget l28 5]⟩)) (R (Value.agg (⟨[vget l28 4, vget l28 5]⟩)) s29) | false => False)))))
theorem vc_spec_l61Pages_eq (w0 : World) (a0 : Value) (σ : Vw) (R : Value → Vw → Prop) : vc_spec_l61Pages w0 a0 σ R = den Try.prog w0 kp_spec_l61Pages esc_spec_l61Pages (Try.f78.body.getD .skip) (entry Try.f78.ntmps [a0]) σ (retK Try.prog Try.f78.results.toList R) := by kernel_rfl
theorem ac_spec_l61Pages {w0 : World} {a0 : Value} {σ : Vw} {R : Value → Vw → Prop} (h : vc_spec_l61Pages w0 a0 σ R) : AC Try.prog w0 n_spec_l61Pages [a0] σ R := by
  refine ac_rule (fn := Try.f78) (c := Try.f78.body.getD .skip) kp_spec_l61Pages esc_spec_l61Pages Try.func78 (by kernel_rfl) (by kernel_rfl) ?_
  rw [← vc_spec_l61Pages_eq]
  exact h

/-- spec.l61Spoil -/
def kp_spec_l61Spoil : Nat → Keep
  | 7 => ⟨[], [], [], .step 0 (.step 1 (.step 2 (.step 3 (.step 4 (.step 5 (.step 6 (.step 7 (.step 8 (.done))))))))), [(1, [0]), (5, [3, 4]), (6, [0, 1, 2, 3, 4, 5]), (7, [0, 1, 2, 3, 4, 5, 6]), (8, [0, 1, 2, 3, 4, 5, 6, 7])]⟩
  | 9 => ⟨[], [], [], .step 0 (.step 1 (.step 2 (.step 3 (.step 4 (.step 5 (.step 6 (.step 7 (.step 8 (.done))))))))), [(1, [0]), (4, [3]), (5, [3, 4]), (6, [0, 1, 2, 3, 4, 5]), (7, [0, 1, 2, 3, 4, 5, 6]), (8, [0, 1, 2, 3, 4, 5, 6, 7])]⟩
  | 11 => ⟨[], [], [], .step 0 (.step 1 (.step 2 (.step 3 (.step 4 (.step 5 (.step 6 (.step 7 (.step 8 (.step 9 (.step 10 (.step 11 (.step 12 (.step 13 (.step 14 (.step 15 (.done)))))))))))))))), [(1, [0]), (4, [3]), (6, [3, 4, 5]), (7, [3, 4, 5, 6]), (8, [3, 4, 5, 6, 7]), (10, [9]), (11, [3, 4, 5, 6, 7, 8, 9, 10]), (12, [3, 4, 5, 6, 7, 8, 9, 10, 11]), (13, [0, 1, 2, 3, 4, 5, 6, 7, 8, 9, 10, 11, 12]), (14, [0, 1, 2, 3, 4, 5, 6, 7, 8, 9, 10, 11, 12, 13]), (15, [0, 1, 2, 3, 4, 5, 6, 7, 8, 9, 10, 11, 12, 13, 14])]⟩
  | 13 => ⟨[], [], [], .step 0 (.step 1 (.step 2 (.step 3 (.step 4 (.step 5 (.step 6 (.step 7 (.step 8 (.step 9 (.step 10 (.step 11 (.step 12 (.done))))))))))))), [(1, [0]), (4, [3]), (6, [3, 4, 5]), (7, [3, 4, 5, 6]), (8, [3, 4, 5, 6, 7]), (9, [3, 4, 5, 6, 7, 8]), (10, [0, 1, 2, 3, 4, 5, 6, 7, 8, 9]), (11, [0, 1, 2, 3, 4, 5, 6, 7, 8, 9, 10]), (12, [0, 1, 2, 3, 4, 5, 6, 7, 8, 9, 10, 11])]⟩
  | 15 => ⟨[], [], [], .step 0 (.step 1 (.step 2 (.step 3 (.step 4 (.step 5 (.step 6 (.step 7 (.step 8 (.step 9 (.step 10 (.step 11 (.step 12 (.done))))))))))))), [(1, [0]), (4, [3]), (6, [3, 4, 5]), (7, [3, 4, 5, 6]), (8, [3, 4, 5, 6, 7]), (9, [3, 4, 5, 6, 7, 8]), (10, [0, 1, 2, 3, 4, 5, 6, 7, 8, 9]), (11, [0, 1, 2, 3, 4, 5, 6, 7, 8, 9, 10]), (12, [0, 1, 2, 3, 4, 5, 6, 7, 8, 9, 10, 11])]⟩
  | 17 => ⟨[], [], [], .step 0 (.step 1 (.step 2 (.step 3 (.step 4 (.step 5 (.step 6 (.step 7 (.step 8 (.done))))))))), [(1, [0]), (4, [3]), (5, [3, 4]), (6, [0, 1, 2, 3, 4, 5]), (7, [0, 1, 2, 3, 4, 5, 6]), (8, [0, 1, 2, 3, 4, 5, 6, 7])]⟩
  | 21 => ⟨[], [], [], .step 0 (.step 1 (.step 2 (.step 5 (.step 8 (.step 3 (.step 4 (.step 6 (.step 7 (.step 9 (.step 10 (.step 11 (.step 12 (.step 13 (.step 14 (.done))))))))))))))), [(1, [0]), (4, [2, 3]), (6, [2, 3, 4, 5]), (7, [2, 3, 4, 5, 6]), (9, [2, 3, 4, 5, 6, 8]), (10, [2, 3, 4, 5, 6, 7, 8, 9]), (11, [2, 3, 4, 5, 6, 7, 8, 9, 10]), (12, [0, 1, 2, 3, 4, 5, 6, 7, 8, 9, 10, 11]), (13, [0, 1, 2, 3, 4, 5, 6, 7, 8, 9, 10, 11, 12]), (14, [0, 1, 2, 3, 4, 5, 6, 7, 8, 9, 10, 11, 12, 13])]⟩
  | _ => ⟨[], [], [], .done, []⟩
def esc_spec_l61Spoil : Nat → Bool
  | 32 => true
  | 116 => true
  | _ => false
def vc_spec_l61Spoil (w0 : World) (a0 a1 : Value) (σ : Vw) (R : Value → Vw → Prop) : Prop :=
  pVal true 2 a1 (AC Try.prog w0 n_spec_l32Copy ([Value.agg (⟨[cellOf a1 0, cellOf a1 1]⟩)]) σ (fun v0 s1 => pVal true 2 v0 (pLen (cellOf v0 0) (fun v2 => AC Try.prog w0 n_p_spec_l1Rd_pick [a0, v2] s1 (fun v3 s4 => AC Try.prog w0 n_p_spec_l1Rd_pick [a0, Value.int IntKind.i64 8] s4 (fun v5 s6 => pBin Try.prog 3 BinOp.eql v5 (Value.int IntKind.i64 0) (fun v7 => pIf v7 (pIndexAddr 3 (cellOf v0 0) v3 (fun v8 => pField 0 v8 (fun v9 => pLoad w0 1 v9 s6 (fun g10 => pUn UnOp.not (g10 0) (fun v11 => pIndexAddr 3 (cellOf v0 0) v3 (fun v12 => pField 0 v12 (fun v13 => pVal false 1 v11 (pStore v13 [v11] s6 (fun s14 => pVal true 2 (Value.agg (⟨[cellOf v0 0, cellOf v0 1]⟩)) (R (Value.agg (⟨[cellOf v0 0, cellOf v0 1]⟩)) s14)))))))))) (pBin Try.prog 3 BinOp.eql v5 (Value.int IntKind.i64 1) (fun v15 => pIf v15 (pIndexAddr 3 (cellOf v0 0) v3 (fun v16 => pField 1 v16 (fun v17 => pLoad w0 1 v17 s6 (fun g18 => pBin Try.prog 9 BinOp.add (g18 0) (Value.string ({ data := #[120] })) (fun v19 => pIndexAddr 3 (cellOf v0 0) v3 (fun v20 => pField 1 v20 (fun v21 => pVal false 1 v19 (pStore v21 [v19] s6 (fun s22 => pVal true 2 (Value.agg (⟨[cellOf v0 0, cellOf v0 1]⟩)) (R (Value.agg (⟨[cellOf v0 0, cellOf v0 1]⟩)) s22)))))))))) (pBin Try.prog 3 BinOp.eql v5 (Value.int IntKind.i64 2) (fun v23 => pIf v23 (AC Try.prog w0 n_p_spec_l1Rd_pick [a0, Value.int IntKind.i64 8] s6 (fun v24 s25 => pBin Try.prog 3 BinOp.sub v24 (Value.int IntKind.i64 2) (fun v26 => pIndexAddr 3 (cellOf v0 0) v3 (fun v27 => pField 2 v27 (fun v28 => pVal false 1 v26 (pStore v28 [v26] s25 (fun s29 => pVal true 2 (Value.agg (⟨[cellOf v0 0, cellOf v0 1]⟩)) (R (Value.agg (⟨[cellOf v0 0, cellOf v0 1]⟩)) s29)))))))) (pBin Try.prog 3 BinOp.eql v5 (Value.int IntKind.i64 3) (fun v30 => pIf v30 (pLen (cellOf v0 0) (fun v31 => pBin Try.prog 3 BinOp.sub v31 (Value.int IntKind.i64 1) (fun v32 => pSlice 3 (cellOf v0 0) Option.none (Option.some v32) (fun v33 => pVal false 1 v33 (pVal true 2 (Value.agg (⟨[v33, cellOf v0 1]⟩)) (R (Value.agg (⟨[v33, cellOf v0 1]⟩)) s6)))))) (pBin Try.prog 3 BinOp.eql v5 (Value.int IntKind.i64 4) (fun v34 => pIf v34 (pVal false 1 (Value.string ({ data := #[122, 122] })) (pVal false 1 (Value.string ({ data := #[] })) (pVal false 1 (Value.string ({ data := #[97] })) (pNew w0 9 ([Value.string ({ data := #[122, 122] }), Value.string ({ data := #[] }), Value.string ({ data := #[97] })]) s6 (fun n35 s36 => AC Try.prog w0 n_p_spec_l1Rd_of [a0, Value.slice (Option.some (Addr.mk n35 0 Option.none)) 3 3] s36 (fun v37 s38 => AC Try.prog w0 n_p_spec_l1Rd_pick [a0, Value.int IntKind.i64 4] s38 (fun v39 s40 => pBin Try.prog 3 BinOp.sub v39 (Value.int IntKind.i64 2) (fun v41 => AC Try.prog w0 n_p_spec_l1Rd_pick [a0, Value.int IntKind.i64 3] s40 (fun v42 s43 => pVal false 1 v37 (pVal false 1 v41 (pVal false 1 v42 (pVal true 3 (Value.agg (⟨[v37, v41, v42]⟩)) ((allOne [v37, v41, v42]) ∧ (pAppend w0 44 3 32 (cellOf v0 1) 1 [v37, v41, v42] s43 (fun v44 s45 => pVal false 1 v44 (pVal true 2 (Value.agg (⟨[cellOf v0 0, v44]⟩)) (R (Value.agg (⟨[cellOf v0 0, v44]⟩)) s45))))))))))))))))) (pLen (cellOf v0 1) (fun v46 => pBin Try.prog 3 BinOp.gtr v46 (Value.int IntKind.i64 0) (fun v47 => pIf v47 (pLen (cellOf v0 1) (fun v48 => AC Try.prog w0 n_p_spec_l1Rd_pick [a0, v48] s6 (fun v49 s50 => AC Try.prog w0 n_p_spec_l1Rd_pick [a0, Value.int IntKind.i64 3] s50 (fun v51 s52 => pBin Try.prog 3 BinOp.eql v51 (Value.int IntKind.i64 0) (fun v53 => pIf v53 (AC Try.prog w0 n_p_spec_l1Rd_pick [a0, Value.int IntKind.i64 6] s52 (fun v54 s55 => pBin Try.prog 3 BinOp.sub v54 (Value.int IntKind.i64 2) (fun v56 => pIndexAddr 3 (cellOf v0 1) v49 (fun v57 => pField 1 v57 (fun v58 => pVal false 1 v56 (pStore v58 [v56] s55 (fun s59 => pVal true 2 (Value.agg (⟨[cellOf v0 0, cellOf v0 1]⟩)) (R (Value.agg (⟨[cellOf v0 0, cellOf v0 1]⟩)) s59)))))))) (pBin Try.prog 3 BinOp.eql v51 (Value.int IntKind.i64 1) (fun v60 => pIf v60 (pIndexAddr 3 (cellOf v0 1) v49 (fun v61 => pField 2 v61 (fun v62 => pLoad w0 1 v62 s52 (fun g63 => AC Try.prog w0 n_p_spec_l1Rd_pick [a0, Value.int IntKind.i64 3] s52 (fun v64 s65 => (Stay w0 s52 s65 v62 1) ∧ (pBin Try.prog 3 BinOp.add (g63 0) v64 (fun v66 => pBin Try.prog 3 BinOp.sub v66 (Value.int IntKind.i64 1) (fun v67 => pIndexAddr 3 (cellOf v0 1) v49 (fun v68 => pField 2 v68 (fun v69 => pVal false 1 v67 (pStore v69 [v67] s65 (fun s70 => pVal true 2 (Value.agg (⟨[cellOf v0 0, cellOf v0 1]⟩)) (R (Value.agg (⟨[cellOf v0 0, cellOf v0 1]⟩)) s70))))))))))))) (pVal false 1 (Value.string ({ data := #[] })) (pVal false 1 (Value.string ({ data := #[122, 122] })) (pVal false 1 (Value.string ({ data := #[65] })) (pNew w0 9 ([Value.string ({ data := #[] }), Value.string ({ data := #[122, 122] }), Value.string ({ data := #[65] })]) s52 (fun n71 s72 => AC Try.prog w0 n_p_spec_l1Rd_of [a0, Value.slice (Option.some (Addr.mk n71 0 Option.none)) 3 3] s72 (fun v73 s74 => pIndexAddr 3 (cellOf v0 1) v49 (fun v75 => pField 0 v75 (fun v76 => pVal false 1 v73 (pStore v76 [v73] s74 (fun s77 => pVal true 2 (Value.agg (⟨[cellOf v0 0, cellOf v0 1]⟩)) (R (Value.agg (⟨[cellOf v0 0, cellOf v0 1]⟩)) s77)))))))))))))))))) (pVal true 2 (Value.agg (⟨[cellOf v0 0, cellOf v0 1]⟩)) (R (Value.agg (⟨[cellOf v0 0, cellOf v0 1]⟩)) s6))))))))))))))))))))
theorem vc_spec_l61Spoil_eq (w0 : World) (a0 a1 : Value) (σ : Vw) (R : Value → Vw → Prop) : vc_spec_l61Spoil w0 a0 a1 σ R = den Try.prog w0 kp_spec_l61Spoil esc_spec_l61Spoil (Try.f79.body.getD .skip) (entry Try.f79.ntmps [a0, a1]) σ (retK Try.prog Try.f79.results.toList R) := by kernel_rfl
theorem ac_spec_l61Spoil {w0 : World} {a0 a1 : Value} {σ : Vw} {R : Value → Vw → Prop} (h : vc_spec_l61Spoil w0 a0 a1 σ R) : AC Try.prog w0 n_spec_l61Spoil [a0, a1] σ R := by
  refine ac_rule (fn := Try.f79) (c := Try.f79.body.getD .skip) kp_spec_l61Spoil esc_spec_l61Spoil Try.func79 (by kernel_rfl) (by kernel_rfl) ?_
  rw [← vc_spec_l61Spoil_eq]
  exact h

/-- spec.PagesPut -/
def kp_spec_PagesPut : Nat → Keep
  | 13 => ⟨[], [], [], .step 0 (.step 2 (.step 1 (.step 3 (.step 4 (.step 5 (.done)))))), [(1, [0]), (3, [0, 1, 2]), (4, [0, 1, 2, 3]), (5, [0, 1, 2, 3, 4])]⟩
  | _ => ⟨[], [], [], .done, []⟩
def esc_spec_PagesPut : Nat → Bool
  | _ => false
def vc_spec_PagesPut (w0 : World) (a0 a1 a2 : Value) (σ : Vw) (R : Value → Vw → Prop) : Prop :=
  pVal true 2 a0 (AC Try.prog w0 n_spec_PagesOk ([Value.agg (⟨[cellOf a0 0, cellOf a0 1]⟩)]) σ (fun v0 s1 => pUn UnOp.not v0 (fun v2 => pIf v2 (pVal true 2 (Value.agg (⟨[Value.slice Option.none 0 0, Value.slice Option.none 0 0]⟩)) (R (Value.tuple (⟨[Value.agg (⟨[Value.slice Option.none 0 0, Value.slice Option.none 0 0]⟩), Value.int IntKind.i64 1]⟩)) s1)) (AC Try.prog w0 n_spec_l1NameOk [a1] s1 (fun v3 s4 => pUn UnOp.not v3 (fun v5 => pIf v5 (AC Try.prog w0 n_spec_l32Copy ([Value.agg (⟨[cellOf a0 0, cellOf a0 1]⟩)]) s4 (fun v6 s7 => pVal true 2 v6 (R (Value.tuple (⟨[Value.agg (⟨[cellOf v6 0, cellOf v6 1]⟩), Value.int IntKind.i64 2]⟩)) s7))) (AC Try.prog w0 n_spec_l32Copy ([Value.agg (⟨[cellOf a0 0, cellOf a0 1]⟩)]) s4 (fun v8 s9 => pVal true 2 v8 (AC Try.prog w0 n_spec_l32At ([Value.agg (⟨[cellOf v8 0, cellOf v8 1]⟩), a1]) s9 (fun v10 s11 => pBin Try.prog 3 BinOp.geq v10 (Value.int IntKind.i64 0) (fun v12 => pIf v12 (AC Try.prog w0 n_spec_l32Drop ([Value.agg (⟨[cellOf v8 0, cellOf v8 1]⟩), v10]) s11 (fun v13 s14 => pVal true 2 v13 (pLen (cellOf v13 1) (fun v15 => pBin Try.prog 3 BinOp.geq v15 (Value.int IntKind.i64 16) (fun v16 => pIf v16 (AC Try.prog w0 n_spec_l32Copy ([Value.agg (⟨[cellOf a0 0, cellOf a0 1]⟩)]) s14 (fun v17 s18 => pVal true 2 v17 (R (Value.tuple (⟨[Value.agg (⟨[cellOf v17 0, cellOf v17 1]⟩), Value.int IntKind.i64 4]⟩)) s18))) (pLenS a2 (fun v19 => pBin Try.prog 3 BinOp.gtr v19 (Value.int IntKind.i64 3000) (fun v20 => pIf v20 (AC Try.prog w0 n_spec_l32Copy ([Value.agg (⟨[cellOf a0 0, cellOf a0 1]⟩)]) s14 (fun v21 s22 => pVal true 2 v21 (R (Value.tuple (⟨[Value.agg (⟨[cellOf v21 0, cellOf v21 1]⟩), Value.int IntKind.i64 5]⟩)) s22))) (AC Try.prog w0 n_spec_PagesNeed [a2] s14 (fun v23 s24 => AC Try.prog w0 n_spec_l32Free ([Value.agg (⟨[cellOf v13 0, cellOf v13 1]⟩)]) s24 (fun v25 s26 => pBin Try.prog 3 BinOp.gtr v23 v25 (fun v27 => pIf v27 (AC Try.prog w0 n_spec_l32Copy ([Value.agg (⟨[cellOf a0 0, cellOf a0 1]⟩)]) s26 (fun v28 s29 => pVal true 2 v28 (R (Value.tuple (⟨[Value.agg (⟨[cellOf v28 0, cellOf v28 1]⟩), Value.int IntKind.i64 6]⟩)) s29))) (AC Try.prog w0 n_spec_l32Keep ([Value.agg (⟨[cellOf v13 0, cellOf v13 1]⟩), a1, a2]) s26 (fun v30 s31 => AC Try.prog w0 n_spec_l32Copy [v30] s31 (fun v32 s33 => pVal true 2 v32 (R (Value.tuple (⟨[Value.agg (⟨[cellOf v32 0, cellOf v32 1]⟩), Value.int IntKind.i64 0]⟩)) s33)))))))))))))))) (pLen (cellOf v8 1) (fun v34 => pBin Try.prog 3 BinOp.geq v34 (Value.int IntKind.i64 16) (fun v35 => pIf v35 (AC Try.prog w0 n_spec_l32Copy ([Value.agg (⟨[cellOf a0 0, cellOf a0 1]⟩)]) s11 (fun v36 s37 => pVal true 2 v36 (R (Value.tuple (⟨[Value.agg (⟨[cellOf v36 0, cellOf v36 1]⟩), Value.int IntKind.i64 4]⟩)) s37))) (pLenS a2 (fun v38 => pBin Try.prog 3 BinOp.gtr v38 (Value.int IntKind.i64 3000) (fun v39 => pIf v39 (AC Try.prog w0 n_spec_l32Copy ([Value.agg (⟨[cellOf a0 0, cellOf a0 1]⟩)]) s11 (fun v40 s41 => pVal true 2 v40 (R (Value.tuple (⟨[Value.agg (⟨[cellOf v40 0, cellOf v40 1]⟩), Value.int IntKind.i64 5]⟩)) s41))) (AC Try.prog w0 n_spec_PagesNeed [a2] s11 (fun v42 s43 => AC Try.prog w0 n_spec_l32Free ([Value.agg (⟨[cellOf v8 0, cellOf v8 1]⟩)]) s43 (fun v44 s45 => pBin Try.prog 3 BinOp.gtr v42 v44 (fun v46 => pIf v46 (AC Try.prog w0 n_spec_l32Copy ([Value.agg (⟨[cellOf a0 0, cellOf a0 1]⟩)]) s45 (fun v47 s48 => pVal true 2 v47 (R (Value.tuple (⟨[Value.agg (⟨[cellOf v47 0, cellOf v47 1]⟩), Value.int IntKind.i64 6]⟩)) s48))) (AC Try.prog w0 n_spec_l32Keep ([Value.agg (⟨[cellOf v8 0, cellOf v8 1]⟩), a1, a2]) s45 (fun v49 s50 => AC Try.prog w0 n_spec_l32Copy [v49] s50 (fun v51 s52 => pVal true 2 v51 (R (Value.tuple (⟨[Value.agg (⟨[cellOf v51 0, cellOf v51 1]⟩), Value.int IntKind.i64 0]⟩)) s52)))))))))))))))))))))))))
theorem vc_spec_PagesPut_eq (w0 : World) (a0 a1 a2 : Value) (σ : Vw) (R : Value → Vw → Prop) : vc_spec_PagesPut w0 a0 a1 a2 σ R = den Try.prog w0 kp_spec_PagesPut esc_spec_PagesPut (Try.f80.body.getD .skip) (entry Try.f80.ntmps [a0, a1, a2]) σ (retK Try.prog Try.f80.results.toList R) := by kernel_rfl
theorem ac_spec_PagesPut {w0 : World} {a0 a1 a2 : Value} {σ : Vw} {R : Value → Vw → Prop} (h : vc_spec_PagesPut w0 a0 a1 a2 σ R) : AC Try.prog w0 n_spec_PagesPut [a0, a1, a2] σ R := by
  refine ac_rule (fn := Try.f80) (c := Try.f80.body.getD .skip) kp_spec_PagesPut esc_spec_PagesPut Try.func80 (by kernel_rfl) (by kernel_rfl) ?_
  rw [← vc_spec_PagesPut_eq]
  exact h

/-- spec.l1Dec -/
def kp_spec_l1Dec : Nat → Keep
  | 7 => ⟨[], [], [], .step 0 (.step 1 (.step 3 (.step 4 (.step 5 (.step 6 (.both (.step 2 (.step 7 (.step 8 (.step 9 (.step 10 (.done)))))) (.step 7 (.step 8 (.step 2 (.step 9 (.step 10 (.done)))))))))))), [(1, [0]), (2, [0, 1]), (4, [3]), (5, [3, 4]), (6, [3, 4, 5]), (7, [3, 4, 5, 6]), (8, [3, 4, 5, 6, 7]), (9, [0, 1, 2, 3, 4, 5, 6, 7, 8]), (10, [0, 1, 2, 3, 4, 5, 6, 7, 8, 9])]⟩
  | _ => ⟨[], [], [], .done, []⟩
def esc_spec_l1Dec : Nat → Bool
  | 16 => true
  | 25 => true
  | _ => false
def vc_spec_l1Dec (w0 : World) (a0 : Value) (σ : Vw) (R : Value → Vw → Prop) : Prop :=
  pBin Try.prog 3 BinOp.lss a0 (Value.int IntKind.i64 (-9223372036854775807)) (fun v0 => pIf v0 (R (Value.string ({ data := #[45, 57, 50, 50, 51, 51, 55, 50, 48, 51, 54, 56, 53, 52, 55, 55, 53, 56, 48, 56] })) σ) (pBin Try.prog 3 BinOp.lss a0 (Value.int IntKind.i64 0) (fun v1 => pIf v1 (pUn UnOp.neg a0 (fun v2 => AC Try.prog w0 n_spec_l1Dec [v2] σ (fun v3 s4 => pBin Try.prog 9 BinOp.add (Value.string ({ data := #[45] })) v3 (fun v5 => R v5 s4)))) (pBin Try.prog 3 BinOp.lss a0 (Value.int IntKind.i64 10) (fun v6 => pIf v6 (pBin Try.prog 3 BinOp.add (Value.int IntKind.i64 48) a0 (fun v7 => pConvInt IntKind.u8 v7 (fun v8 => pVal false 1 v8 (pNew w0 5 [v8] σ (fun n9 s10 => pStr w0 (Value.slice (Option.some (Addr.mk n9 0 Option.none)) 1 1) s10 (fun v11 => R v11 s10)))))) (pBin Try.prog 3 BinOp.quo a0 (Value.int IntKind.i64 10) (fun v12 => pBin Try.prog 3 BinOp.rem a0 (Value.int IntKind.i64 10) (fun v13 => pBin Try.prog 3 BinOp.add (Value.int IntKind.i64 48) v13 (fun v14 => pConvInt IntKind.u8 v14 (fun v15 => (AC Try.prog w0 n_spec_l1Dec [v12] σ (fun v16 s17 => pVal false 1 v15 (pNew w0 5 [v15] s17 (fun n18 s19 => pStr w0 (Value.slice (Option.some (Addr.mk n18 0 Option.none)) 1 1) s19 (fun v20 => pBin Try.prog 9 BinOp.add v16 v20 (fun v21 => R v21 s19)))))) ∧ (pVal false 1 v15 (pNew w0 5 [v15] σ (fun n22 s23 => pStr w0 (Value.slice (Option.some (Addr.mk n22 0 Option.none)) 1 1) s23 (fun v24 => AC Try.prog w0 n_spec_l1Dec [v12] s23 (fun v25 s26 => (Ext s23 s26) ∧ (pBin Try.prog 9 BinOp.add v25 v24 (fun v27 => R v27 s26)))))))))))))))))
theorem vc_spec_l1Dec_eq (w0 : World) (a0 : Value) (σ : Vw) (R : Value → Vw → Prop) : vc_spec_l1Dec w0 a0 σ R = den Try.prog w0 kp_spec_l1Dec esc_spec_l1Dec (Try.f81.body.getD .skip) (entry Try.f81.ntmps [a0]) σ (retK Try.prog Try.f81.results.toList R) := by kernel_rfl
theorem ac_spec_l1Dec {w0 : World} {a0 : Value} {σ : Vw} {R : Value → Vw → Prop} (h : vc_spec_l1Dec w0 a0 σ R) : AC Try.prog w0 n_spec_l1Dec [a0] σ R := by
  refine ac_rule (fn := Try.f81) (c := Try.f81.body.getD .skip) kp_spec_l1Dec esc_spec_l1Dec Try.func81 (by kernel_rfl) (by kernel_rfl) ?_
  rw [← vc_spec_l1Dec_eq]
  exact h

/-- (*spec.l1Rd).of -/
def kp_p_spec_l1Rd_of : Nat → Keep
  | _ => ⟨[], [], [], .done, []⟩
def esc_p_spec_l1Rd_of : Nat → Bool
  | _ => false
def vc_p_spec_l1Rd_of (w0 : World) (a0 a1 : Value) (σ : Vw) (R : Value → Vw → Prop) : Prop :=
  pLen a1 (fun v0 => AC Try.prog w0 n_p_spec_l1Rd_pick [a0, v0] σ (fun v1 s2 => pIndexAddr 1 a1 v1 (fun v3 => pLoad w0 1 v3 s2 (fun g4 => R (g4 0) s2))))
theorem vc_p_spec_l1Rd_of_eq (w0 : World) (a0 a1 : Value) (σ : Vw) (R : Value → Vw → Prop) : vc_p_spec_l1Rd_of w0 a0 a1 σ R = den Try.prog w0 kp_p_spec_l1Rd_of esc_p_spec_l1Rd_of (Try.f82.body.getD .skip) (entry Try.f82.ntmps [a0, a1]) σ (retK Try.prog Try.f82.results.toList R) := by kernel_rfl
theorem ac_p_spec_l1Rd_of {w0 : World} {a0 a1 : Value} {σ : Vw} {R : Value → Vw → Prop} (h : vc_p_spec_l1Rd_of w0 a0 a1 σ R) : AC Try.prog w0 n_p_spec_l1Rd_of [a0, a1] σ R := by
  refine ac_rule (fn := Try.f82) (c := Try.f82.body.getD .skip) kp_p_spec_l1Rd_of esc_p_spec_l1Rd_of Try.func82 (by kernel_rfl) (by kernel_rfl) ?_
  rw [← vc_p_spec_l1Rd_of_eq]
  exact h

/-- slices.Contains[[]int,int] -/
def kp_slices_Contains_int_int : Nat → Keep
  | _ => ⟨[], [], [], .done, []⟩
def esc_slices_Contains_int_int : Nat → Bool
  | _ => false
def vc_slices_Contains_int_int (w0 : World) (a0 a1 : Value) (σ : Vw) (R : Value → Vw → Prop) : Prop :=
  AC Try.prog w0 n_slices_Index_int_int [a0, a1] σ (fun v0 s1 => pBin Try.prog 3 BinOp.geq v0 (Value.int IntKind.i64 0) (fun v2 => R v2 s1))
theorem vc_slices_Contains_int_int_eq (w0 : World) (a0 a1 : Value) (σ : Vw) (R : Value → Vw → Prop) : vc_slices_Contains_int_int w0 a0 a1 σ R = den Try.prog w0 kp_slices_Contains_int_int esc_slices_Contains_int_int (Try.f83.body.getD .skip) (entry Try.f83.ntmps [a0, a1]) σ (retK Try.prog Try.f83.results.toList R) := by kernel_rfl
theorem ac_slices_Contains_int_int {w0 : World} {a0 a1 : Value} {σ : Vw} {R : Value → Vw → Prop} (h : vc_slices_Contains_int_int w0 a0 a1 σ R) : AC Try.prog w0 n_slices_Contains_int_int [a0, a1] σ R := by
  refine ac_rule (fn := Try.f83) (c := Try.f83.body.getD .skip) kp_slices_Contains_int_int esc_slices_Contains_int_int Try.func83 (by kernel_rfl) (by kernel_rfl) ?_
  rw [← vc_slices_Contains_int_int_eq]
  exact h

/-- spec.l24Disk -/
def kp_spec_l24Disk : Nat → Keep
  | _ => ⟨[], [], [], .done, []⟩
def esc_spec_l24Disk : Nat → Bool
  | _ => false
def vc_spec_l24Disk (w0 : World) (a0 : Value) (σ : Vw) (R : Value → Vw → Prop) : Prop :=
  AC Try.prog w0 n_spec_l24New [a0] σ (fun v0 s1 => AC Try.prog w0 n_spec_l24Steps [a0, Value.int IntKind.i64 14] s1 (fun v2 s3 => AC Try.prog w0 n_spec_StorePlay [v0, v2] s3 (fun v4 s5 => pExtract v4 0 (fun v6 => pExtract v4 1 (fun v7 => pExtract v4 2 (fun v8 => pVal true 1 v6 (pVal true 4 v7 (pVal true 1 (Value.agg (⟨[cellOf v6 0]⟩)) (R (Value.agg (⟨[cellOf v6 0]⟩)) s5)))))))))
theorem vc_spec_l24Disk_eq (w0 : World) (a0 : Value) (σ : Vw) (R : Value → Vw → Prop) : vc_spec_l24Disk w0 a0 σ R = den Try.prog w0 kp_spec_l24Disk esc_spec_l24Disk (Try.f84.body.getD .skip) (entry Try.f84.ntmps [a0]) σ (retK Try.prog Try.f84.results.toList R) := by kernel_rfl
theorem ac_spec_l24Disk {w0 : World} {a0 : Value} {σ : Vw} {R : Value → Vw → Prop} (h : vc_spec_l24Disk w0 a0 σ R) : AC Try.prog w0 n_spec_l24Disk [a0] σ R := by
  refine ac_rule (fn := Try.f84) (c := Try.f84.body.getD .skip) kp_spec_l24Disk esc_spec_l24Disk Try.func84 (by kernel_rfl) (by kernel_rfl) ?_
  rw [← vc_spec_l24Disk_eq]
  exact h

/-- spec.l24Spoil -/
def kp_spec_l24Spoil : Nat → Keep
  | 3 => ⟨[], [], [], .step 0 (.step 1 (.step 2 (.step 3 (.step 4 (.step 5 (.step 6 (.step 7 (.step 8 (.done))))))))), [(1, [0]), (4, [3]), (5, [3, 4]), (6, [2, 3, 4, 5]), (7, [0, 1, 2, 3, 4, 5, 6]), (8, [0, 1, 2, 3, 4, 5, 6, 7])]⟩
  | 7 => ⟨[], [], [], .step 0 (.step 1 (.step 2 (.step 3 (.step 4 (.step 5 (.step 7 (.step 6 (.step 8 (.step 9 (.step 10 (.step 11 (.step 12 (.done))))))))))))), [(1, [0]), (4, [3]), (5, [3, 4]), (6, [2, 3, 4, 5]), (8, [2, 3, 4, 5, 6, 7]), (9, [2, 3, 4, 5, 6, 7, 8]), (10, [2, 3, 4, 5, 6, 7, 8, 9]), (11, [0, 1, 2, 3, 4, 5, 6, 7, 8, 9, 10]), (12, [0, 1, 2, 3, 4, 5, 6, 7, 8, 9, 10, 11])]⟩
  | 9 => ⟨[], [], [], .step 0 (.step 1 (.step 2 (.step 4 (.both (.step 3 (.step 5 (.step 6 (.step 7 (.step 8 (.done)))))) (.step 5 (.step 3 (.step 6 (.step 7 (.step 8 (.done)))))))))), [(1, [0]), (3, [2]), (6, [2, 3, 4, 5]), (7, [0, 1, 2, 3, 4, 5, 6]), (8, [0, 1, 2, 3, 4, 5, 6, 7])]⟩
  | 11 => ⟨[], [], [], .step 0 (.step 1 (.step 2 (.step 5 (.both (.step 3 (.step 4 (.step 6 (.step 7 (.step 8 (.step 9 (.done))))))) (.step 6 (.step 3 (.step 4 (.step 7 (.step 8 (.step 9 (.done))))))))))), [(1, [0]), (3, [2]), (4, [2, 3]), (7, [2, 3, 5, 6]), (8, [0, 1, 2, 3, 4, 5, 6, 7]), (9, [0, 1, 2, 3, 4, 5, 6, 7, 8])]⟩
  | _ => ⟨[], [], [], .done, []⟩
def esc_spec_l24Spoil : Nat → Bool
  | 49 => true
  | 60 => true
  | _ => false
def vc_spec_l24Spoil (w0 : World) (a0 a1 : Value) (σ : Vw) (R : Value → Vw → Prop) : Prop :=
  pVal true 1 a1 (AC Try.prog w0 n_spec_l21Copy ([Value.agg (⟨[cellOf a1 0]⟩)]) σ (fun v0 s1 => pVal true 1 v0 (AC Try.prog w0 n_p_spec_l1Rd_pick [a0, Value.int IntKind.i64 5] s1 (fun v2 s3 => pBin Try.prog 3 BinOp.eql v2 (Value.int IntKind.i64 0) (fun v4 => pIf v4 (pLen (cellOf v0 0) (fun v5 => pBin Try.prog 3 BinOp.sub v5 (Value.int IntKind.i64 1) (fun v6 => pSlice 1 (cellOf v0 0) Option.none (Option.some v6) (fun v7 => pVal false 1 v7 (pVal true 1 (Value.agg ⟨[v7]⟩) (R (Value.agg ⟨[v7]⟩) s3)))))) (pBin Try.prog 3 BinOp.eql v2 (Value.int IntKind.i64 1) (fun v8 => pIf v8 (pLen (cellOf v0 0) (fun v9 => AC Try.prog w0 n_p_spec_l1Rd_pick [a0, v9] s3 (fun v10 s11 => AC Try.prog w0 n_p_spec_l1Rd_pick [a0, Value.int IntKind.i64 2] s11 (fun v12 s13 => pBin Try.prog 3 BinOp.add (Value.int IntKind.i64 64) v12 (fun v14 => AC Try.prog w0 n_spec_l1Many ([Value.string ({ data := #[113] }), v14]) s13 (fun v15 s16 => pIndexAddr 1 (cellOf v0 0) v10 (fun v17 => pVal false 1 v15 (pStore v17 [v15] s16 (fun s18 => pVal true 1 (Value.agg (⟨[cellOf v0 0]⟩)) (R (Value.agg (⟨[cellOf v0 0]⟩)) s18)))))))))) (pBin Try.prog 3 BinOp.eql v2 (Value.int IntKind.i64 2) (fun v19 => pIf v19 ((AC Try.prog w0 n_p_spec_l1Rd_pick [a0, Value.int IntKind.i64 2] s3 (fun v20 s21 => pVal false 1 (Value.string ({ data := #[] })) (pVal false 1 (Value.string ({ data := #[67, 32, 49, 32, 48] })) (pVal false 1 (Value.string ({ data := #[67, 32, 50, 32, 57] })) (pVal false 1 (Value.string ({ data := #[67, 32, 50, 32, 53, 48, 48, 48] })) (pVal false 1 (Value.string ({ data := #[67, 32, 51, 32, 51, 50, 48, 48] })) (pVal false 1 (Value.string ({ data := #[67, 32, 48, 32, 48] })) (pVal false 1 (Value.string ({ data := #[67, 32, 49] })) (pVal false 1 (Value.string ({ data := #[88, 32, 49, 32, 49] })) (pVal false 1 (Value.string ({ data := #[67, 32, 48, 49, 32, 48] })) (pVal false 1 (Value.string ({ data := #[67, 32, 57, 57, 57, 57, 57, 32, 48] })) (pVal false 1 (Value.string ({ data := #[67, 32, 57, 57, 57, 57, 56, 32, 49] })) (pNew w0 9 ([Value.string ({ data := #[] }), Value.string ({ data := #[67, 32, 49, 32, 48] }), Value.string ({ data := #[67, 32, 50, 32, 57] }), Value.string ({ data := #[67, 32, 50, 32, 53, 48, 48, 48] }), Value.string ({ data := #[67, 32, 51, 32, 51, 50, 48, 48] }), Value.string ({ data := #[67, 32, 48, 32, 48] }), Value.string ({ data := #[67, 32, 49] }), Value.string ({ data := #[88, 32, 49, 32, 49] }), Value.string ({ data := #[67, 32, 48, 49, 32, 48] }), Value.string ({ data := #[67, 32, 57, 57, 57, 57, 57, 32, 48] }), Value.string ({ data := #[67, 32, 57, 57, 57, 57, 56, 32, 49] })]) s21 (fun n22 s23 => AC Try.prog w0 n_p_spec_l1Rd_of [a0, Value.slice (Option.some (Addr.mk n22 0 Option.none)) 11 11] s23 (fun v24 s25 => pIndexAddr 1 (cellOf v0 0) v20 (fun v26 => pVal false 1 v24 (pStore v26 [v24] s25 (fun s27 => pVal true 1 (Value.agg (⟨[cellOf v0 0]⟩)) (R (Value.agg (⟨[cellOf v0 0]⟩)) s27))))))))))))))))))) ∧ (pVal false 1 (Value.string ({ data := #[] })) (pVal false 1 (Value.string ({ data := #[67, 32, 49, 32, 48] })) (pVal false 1 (Value.string ({ data := #[67, 32, 50, 32, 57] })) (pVal false 1 (Value.string ({ data := #[67, 32, 50, 32, 53, 48, 48, 48] })) (pVal false 1 (Value.string ({ data := #[67, 32, 51, 32, 51, 50, 48, 48] })) (pVal false 1 (Value.string ({ data := #[67, 32, 48, 32, 48] })) (pVal false 1 (Value.string ({ data := #[67, 32, 49] })) (pVal false 1 (Value.string ({ data := #[88, 32, 49, 32, 49] })) (pVal false 1 (Value.string ({ data := #[67, 32, 48, 49, 32, 48] })) (pVal false 1 (Value.string ({ data := #[67, 32, 57, 57, 57, 57, 57, 32, 48] })) (pVal false 1 (Value.string ({ data := #[67, 32, 57, 57, 57, 57, 56, 32, 49] })) (pNew w0 9 ([Value.string ({ data := #[] }), Value.string ({ data := #[67, 32, 49, 32, 48] }), Value.string ({ data := #[67, 32, 50, 32, 57] }), Value.string ({ data := #[67, 32, 50, 32, 53, 48, 48, 48] }), Value.string ({ data := #[67, 32, 51, 32, 51, 50, 48, 48] }), Value.string ({ data := #[67, 32, 48, 32, 48] }), Value.string ({ data := #[67, 32, 49] }), Value.string ({ data := #[88, 32, 49, 32, 49] }), Value.string ({ data := #[67, 32, 48, 49, 32, 48] }), Value.string ({ data := #[67, 32, 57, 57, 57, 57, 57, 32, 48] }), Value.string ({ data := #[67, 32, 57, 57, 57, 57, 56, 32, 49] })]) s3 (fun n28 s29 => AC Try.prog w0 n_p_spec_l1Rd_pick [a0, Value.int IntKind.i64 2] s29 (fun v30 s31 => AC Try.prog w0 n_p_spec_l1Rd_of [a0, Value.slice (Option.some (Addr.mk n28 0 Option.none)) 11 11] s31 (fun v32 s33 => pIndexAddr 1 (cellOf v0 0) v30 (fun v34 => pVal false 1 v32 (pStore v34 [v32] s33 (fun s35 => pVal true 1 (Value.agg (⟨[cellOf v0 0]⟩)) (R (Value.agg (⟨[cellOf v0 0]⟩)) s35)))))))))))))))))))) (pBin Try.prog 3 BinOp.eql v2 (Value.int IntKind.i64 3) (fun v36 => pIf v36 ((AC Try.prog w0 n_p_spec_l1Rd_pick [a0, Value.int IntKind.i64 12] s3 (fun v37 s38 => pBin Try.prog 3 BinOp.add (Value.int IntKind.i64 2) v37 (fun v39 => pVal false 1 (Value.string ({ data := #[] })) (pVal false 1 (Value.string ({ data := #[68] })) (pVal false 1 (Value.string ({ data := #[72, 32, 49, 32, 48, 32, 48] })) (pVal false 1 (Value.string ({ data := #[72, 32, 50, 32, 48, 32, 53] })) (pVal false 1 (Value.string ({ data := #[72, 32, 49, 32, 49, 32, 54, 48, 48] })) (pVal false 1 (Value.string ({ data := #[72, 32, 49, 32, 48, 32, 54, 48, 49] })) (pVal false 1 (Value.string ({ data := #[68, 97, 98, 99] })) (pNew w0 9 ([Value.string ({ data := #[] }), Value.string ({ data := #[68] }), Value.string ({ data := #[72, 32, 49, 32, 48, 32, 48] }), Value.string ({ data := #[72, 32, 50, 32, 48, 32, 53] }), Value.string ({ data := #[72, 32, 49, 32, 49, 32, 54, 48, 48] }), Value.string ({ data := #[72, 32, 49, 32, 48, 32, 54, 48, 49] }), Value.string ({ data := #[68, 97, 98, 99] })]) s38 (fun n40 s41 => AC Try.prog w0 n_p_spec_l1Rd_of [a0, Value.slice (Option.some (Addr.mk n40 0 Option.none)) 7 7] s41 (fun v42 s43 => pIndexAddr 1 (cellOf v0 0) v39 (fun v44 => pVal false 1 v42 (pStore v44 [v42] s43 (fun s45 => pVal true 1 (Value.agg (⟨[cellOf v0 0]⟩)) (R (Value.agg (⟨[cellOf v0 0]⟩)) s45)))))))))))))))) ∧ (pVal false 1 (Value.string ({ data := #[] })) (pVal false 1 (Value.string ({ data := #[68] })) (pVal false 1 (Value.string ({ data := #[72, 32, 49, 32, 48, 32, 48] })) (pVal false 1 (Value.string ({ data := #[72, 32, 50, 32, 48, 32, 53] })) (pVal false 1 (Value.string ({ data := #[72, 32, 49, 32, 49, 32, 54, 48, 48] })) (pVal false 1 (Value.string ({ data := #[72, 32, 49, 32, 48, 32, 54, 48, 49] })) (pVal false 1 (Value.string ({ data := #[68, 97, 98, 99] })) (pNew w0 9 ([Value.string ({ data := #[] }), Value.string ({ data := #[68] }), Value.string ({ data := #[72, 32, 49, 32, 48, 32, 48] }), Value.string ({ data := #[72, 32, 50, 32, 48, 32, 53] }), Value.string ({ data := #[72, 32, 49, 32, 49, 32, 54, 48, 48] }), Value.string ({ data := #[72, 32, 49, 32, 48, 32, 54, 48, 49] }), Value.string ({ data := #[68, 97, 98, 99] })]) s3 (fun n46 s47 => AC Try.prog w0 n_p_spec_l1Rd_pick [a0, Value.int IntKind.i64 12] s47 (fun v48 s49 => pBin Try.prog 3 BinOp.add (Value.int IntKind.i64 2) v48 (fun v50 => AC Try.prog w0 n_p_spec_l1Rd_of [a0, Value.slice (Option.some (Addr.mk n46 0 Option.none)) 7 7] s49 (fun v51 s52 => pIndexAddr 1 (cellOf v0 0) v50 (fun v53 => pVal false 1 v51 (pStore v53 [v51] s52 (fun s54 => pVal true 1 (Value.agg (⟨[cellOf v0 0]⟩)) (R (Value.agg (⟨[cellOf v0 0]⟩)) s54))))))))))))))))) (pLen (cellOf v0 0) (fun v55 => AC Try.prog w0 n_p_spec_l1Rd_pick [a0, v55] s3 (fun v56 s57 => pIndexAddr 1 (cellOf v0 0) v56 (fun v58 => pVal false 1 (Value.string ({ data := #[] })) (pStore v58 ([Value.string ({ data := #[] })]) s57 (fun s59 => pVal true 1 (Value.agg (⟨[cellOf v0 0]⟩)) (R (Value.agg (⟨[cellOf v0 0]⟩)) s59))))))))))))))))))
theorem vc_spec_l24Spoil_eq (w0 : World) (a0 a1 : Value) (σ : Vw) (R : Value → Vw → Prop) : vc_spec_l24Spoil w0 a0 a1 σ R = den Try.prog w0 kp_spec_l24Spoil esc_spec_l24Spoil (Try.f85.body.getD .skip) (entry Try.f85.ntmps [a0, a1]) σ (retK Try.prog Try.f85.results.toList R) := by kernel_rfl
theorem ac_spec_l24Spoil {w0 : World} {a0 a1 : Value} {σ : Vw} {R : Value → Vw → Prop} (h : vc_spec_l24Spoil w0 a0 a1 σ R) : AC Try.prog w0 n_spec_l24Spoil [a0, a1] σ R := by
  refine ac_rule (fn := Try.f85) (c := Try.f85.body.getD .skip) kp_spec_l24Spoil esc_spec_l24Spoil Try.func85 (by kernel_rfl) (by kernel_rfl) ?_
  rw [← vc_spec_l24Spoil_eq]
  exact h

/-- spec.l21In -/
def kp_spec_l21In : Nat → Keep
  | _ => ⟨[], [], [], .done, []⟩
def esc_spec_l21In : Nat → Bool
  | _ => false
def vc_spec_l21In (w0 : World) (a0 a1 a2 : Value) (σ : Vw) (R : Value → Vw → Prop) : Prop :=
  pBin Try.prog 3 BinOp.geq a0 a1 (fun v0 => pIf v0 (pBin Try.prog 3 BinOp.leq a0 a2 (fun v1 => R v1 σ)) (R (Value.bool false) σ))
theorem vc_spec_l21In_eq (w0 : World) (a0 a1 a2 : Value) (σ : Vw) (R : Value → Vw → Prop) : vc_spec_l21In w0 a0 a1 a2 σ R = den Try.prog w0 kp_spec_l21In esc_spec_l21In (Try.f86.body.getD .skip) (entry Try.f86.ntmps [a0, a1, a2]) σ (retK Try.prog Try.f86.results.toList R) := by kernel_rfl
theorem ac_spec_l21In {w0 : World} {a0 a1 a2 : Value} {σ : Vw} {R : Value → Vw → Prop} (h : vc_spec_l21In w0 a0 a1 a2 σ R) : AC Try.prog w0 n_spec_l21In [a0, a1, a2] σ R := by
  refine ac_rule (fn := Try.f86) (c := Try.f86.body.getD .skip) kp_spec_l21In esc_spec_l21In Try.func86 (by kernel_rfl) (by kernel_rfl) ?_
  rw [← vc_spec_l21In_eq]
  exact h

/-- spec.PagesNew -/
def kp_spec_PagesNew : Nat → Keep
  | 3 => ⟨[2], [(0, 2), (1, 2)], [0, 1], .done, []⟩
  | _ => ⟨[], [], [], .done, []⟩
def esc_spec_PagesNew : Nat → Bool
  | _ => false
def vc_spec_PagesNew (w0 : World) (σ : Vw) (R : Value → Vw → Prop) : Prop :=
  pVal true 2 (Value.agg (⟨[Value.slice Option.none 0 0, Value.slice Option.none 0 0]⟩)) (pLoop (fun l0 K1 s2 => pBin Try.prog 3 BinOp.lss (vget l0 0) (Value.int IntKind.i64 96) (fun v3 => pIf v3 (pVal false 1 (Value.int IntKind.i64 (-1)) (pVal true 3 (Value.agg (⟨[Value.bool false, Value.string ({ data := #[] }), Value.int IntKind.i64 (-1)]⟩)) ((allOne ([Value.bool false, Value.string ({ data := #[] }), Value.int IntKind.i64 (-1)])) ∧ (pAppend w0 85 3 32 (vget l0 3) 1 ([Value.bool false, Value.string ({ data := #[] }), Value.int IntKind.i64 (-1)]) s2 (fun v4 s5 => pVal false 1 v4 (pBin Try.prog 3 BinOp.add (vget l0 0) (Value.int IntKind.i64 1) (fun v6 => K1 AX.normal [v6, vget l0 1, vget l0 2, v4, vget l0 4] s5))))))) (K1 (AX.exit 0) [vget l0 0, vget l0 1, vget l0 2, vget l0 3, vget l0 4] s2))) [Value.int IntKind.i64 0, Value.slice Option.none 0 0, Value.slice Option.none 0 0, Value.slice Option.none 0 0, Value.slice Option.none 0 0] σ (fun x7 l8 s9 => match x7 with | .normal => pVal true 2 (Value.agg (⟨[vget l8 3, vget l8 4]⟩)) (R (Value.agg (⟨[vget l8 3, vget l8 4]⟩)) s9) | .ret => R (Value.agg (⟨[vget l8 1, vget l8 2]⟩)) s9 | .exit i10 => (match Nat.beq i10 0 with | true => pVal true 2 (Value.agg (⟨[vget l8 3, vget l8 4]⟩)) (R (Value.agg (⟨[vget l8 3, vget l8 4]⟩)) s9) | false => False)))
theorem vc_spec_PagesNew_eq (w0 : World) (σ : Vw) (R : Value → Vw → Prop) : vc_spec_PagesNew w0 σ R = den Try.prog w0 kp_spec_PagesNew esc_spec_PagesNew (Try.f87.body.getD .skip) (entry Try.f87.ntmps []) σ (retK Try.prog Try.f87.results.toList R) := by kernel_rfl
theorem ac_spec_PagesNew {w0 : World} {σ : Vw} {R : Value → Vw → Prop} (h : vc_spec_PagesNew w0 σ R) : AC Try.prog w0 n_spec_PagesNew [] σ R := by
  refine ac_rule (fn := Try.f87) (c := Try.f87.body.getD .skip) kp_spec_PagesNew esc_spec_PagesNew Try.func87 (by kernel_rfl) (by kernel_rfl) ?_
  rw [← vc_spec_PagesNew_eq]
  exact h

/-- spec.l61Text -/
def kp_spec_l61Text : Nat → Keep
  | _ => ⟨[], [], [], .done, []⟩
def esc_spec_l61Text : Nat → Bool
  | 23 => true
  | _ => false
def vc_spec_l61Text (w0 : World) (a0 : Value) (σ : Vw) (R : Value → Vw → Prop) : Prop :=
  AC Try.prog w0 n_p_spec_l1Rd_pick [a0, Value.int IntKind.i64 8] σ (fun v0 s1 => pBin Try.prog 3 BinOp.eql v0 (Value.int IntKind.i64 0) (fun v2 => pIf v2 (AC Try.prog w0 n_p_spec_l1Rd_pick [a0, Value.int IntKind.i64 5] s1 (fun v3 s4 => pBin Try.prog 3 BinOp.mul (Value.int IntKind.i64 40) v3 (fun v5 => AC Try.prog w0 n_spec_l1Many ([Value.string ({ data := #[112] }), v5]) s4 (fun v6 s7 => R v6 s7)))) (pBin Try.prog 3 BinOp.eql v0 (Value.int IntKind.i64 1) (fun v8 => pIf v8 (AC Try.prog w0 n_p_spec_l1Rd_pick [a0, Value.int IntKind.i64 2] s1 (fun v9 s10 => pBin Try.prog 3 BinOp.sub (Value.int IntKind.i64 3000) v9 (fun v11 => AC Try.prog w0 n_p_spec_l1Rd_pick [a0, Value.int IntKind.i64 3] s10 (fun v12 s13 => pBin Try.prog 3 BinOp.add v11 v12 (fun v14 => AC Try.prog w0 n_spec_l1Many ([Value.string ({ data := #[113] }), v14]) s13 (fun v15 s16 => R v15 s16)))))) (pBin Try.prog 3 BinOp.eql v0 (Value.int IntKind.i64 2) (fun v17 => pIf v17 (R (Value.string ({ data := #[] })) s1) (pVal false 1 (Value.string ({ data := #[97] })) (pVal false 1 (Value.string ({ data := #[104, 101, 108, 108, 111, 10] })) (pVal false 1 (Value.string ({ data := #[101, 110, 100, 10] })) (pVal false 1 (Value.string ({ data := #[97, 32, 49, 10] })) (pVal false 1 (Value.string ({ data := #[0] })) (pNew w0 9 ([Value.string ({ data := #[97] }), Value.string ({ data := #[104, 101, 108, 108, 111, 10] }), Value.string ({ data := #[101, 110, 100, 10] }), Value.string ({ data := #[97, 32, 49, 10] }), Value.string ({ data := #[0] })]) s1 (fun n18 s19 => AC Try.prog w0 n_p_spec_l1Rd_of [a0, Value.slice (Option.some (Addr.mk n18 0 Option.none)) 5 5] s19 (fun v20 s21 => AC Try.prog w0 n_p_spec_l1Rd_pick [a0, Value.int IntKind.i64 60] s21 (fun v22 s23 => AC Try.prog w0 n_spec_l1Many [v20, v22] s23 (fun v24 s25 => R v24 s25))))))))))))))))
theorem vc_spec_l61Text_eq (w0 : World) (a0 : Value) (σ : Vw) (R : Value → Vw → Prop) : vc_spec_l61Text w0 a0 σ R = den Try.prog w0 kp_spec_l61Text esc_spec_l61Text (Try.f88.body.getD .skip) (entry Try.f88.ntmps [a0]) σ (retK Try.prog Try.f88.results.toList R) := by kernel_rfl
theorem ac_spec_l61Text {w0 : World} {a0 : Value} {σ : Vw} {R : Value → Vw → Prop} (h : vc_spec_l61Text w0 a0 σ R) : AC Try.prog w0 n_spec_l61Text [a0] σ R := by
  refine ac_rule (fn := Try.f88) (c := Try.f88.body.getD .skip) kp_spec_l61Text esc_spec_l61Text Try.func88 (by kernel_rfl) (by kernel_rfl) ?_
  rw [← vc_spec_l61Text_eq]
  exact h

/-- spec.PagesNeed -/
def kp_spec_PagesNeed : Nat → Keep
  | _ => ⟨[], [], [], .done, []⟩
def esc_spec_PagesNeed : Nat → Bool
  | _ => false
def vc_spec_PagesNeed (w0 : World) (a0 : Value) (σ : Vw) (R : Value → Vw → Prop) : Prop :=
  pLenS a0 (fun v0 => pBin Try.prog 3 BinOp.add v0 (Value.int IntKind.i64 40) (fun v1 => pBin Try.prog 3 BinOp.sub v1 (Value.int IntKind.i64 1) (fun v2 => pBin Try.prog 3 BinOp.quo v2 (Value.int IntKind.i64 40) (fun v3 => R v3 σ))))
theorem vc_spec_PagesNeed_eq (w0 : World) (a0 : Value) (σ : Vw) (R : Value → Vw → Prop) : vc_spec_PagesNeed w0 a0 σ R = den Try.prog w0 kp_spec_PagesNeed esc_spec_PagesNeed (Try.f89.body.getD .skip) (entry Try.f89.ntmps [a0]) σ (retK Try.prog Try.f89.results.toList R) := by kernel_rfl
theorem ac_spec_PagesNeed {w0 : World} {a0 : Value} {σ : Vw} {R : Value → Vw → Prop} (h : vc_spec_PagesNeed w0 a0 σ R) : AC Try.prog w0 n_spec_PagesNeed [a0] σ R := by
  refine ac_rule (fn := Try.f89) (c := Try.f89.body.getD .skip) kp_spec_PagesNeed esc_spec_PagesNeed Try.func89 (by kernel_rfl) (by kernel_rfl) ?_
  rw [← vc_spec_PagesNeed_eq]
  exact h

/-- spec.l32Keep -/
def kp_spec_l32Keep : Nat → Keep
  | 5 => ⟨[1, 2, 7, 8, 9, 10], [(3, 2), (6, 2)], [3, 6], .done, []⟩
  | 11 => ⟨[], [], [], .step 0 (.step 1 (.step 2 (.step 3 (.step 4 (.step 5 (.step 6 (.step 7 (.step 8 (.done))))))))), [(1, [0]), (5, [3, 4]), (6, [3, 4, 5]), (7, [0, 1, 2, 3, 4, 5, 6]), (8, [0, 1, 2, 3, 4, 5, 6, 7])]⟩
  | 18 => ⟨[1, 2, 7, 12], [(3, 2), (6, 2)], [3, 6], .done, []⟩
  | 21 => ⟨[], [], [], .step 1 (.step 2 (.step 3 (.step 4 (.step 6 (.step 7 (.step 9 (.step 10 (.step 11 (.step 12 (.step 0 (.step 5 (.step 8 (.step 13 (.step 14 (.step 15 (.done)))))))))))))))), [(2, [1]), (4, [1, 2, 3]), (5, [0, 1, 2, 3, 4]), (7, [6]), (8, [0, 1, 2, 3, 4, 5, 6, 7]), (10, [9]), (12, [9, 10, 11]), (13, [0, 1, 2, 3, 4, 5, 6, 7, 8, 9, 10, 11, 12]), (14, [0, 1, 2, 3, 4, 5, 6, 7, 8, 9, 10, 11, 12, 13]), (15, [0, 1, 2, 3, 4, 5, 6, 7, 8, 9, 10, 11, 12, 13, 14])]⟩
  | _ => ⟨[], [], [], .done, []⟩
def esc_spec_l32Keep : Nat → Bool
  | 79 => true
  | _ => false
def vc_spec_l32Keep (w0 : World) (a0 a1 a2 : Value) (σ : Vw) (R : Value → Vw → Prop) : Prop :=
  pVal true 2 a0 (pLoop (fun l0 K1 s2 => pLen (vget l0 6) (fun v3 => pBin Try.prog 3 BinOp.lss (vget l0 5) v3 (fun v4 => pIf v4 (pBin Try.prog 9 BinOp.neq (vget l0 4) (Value.string ({ data := #[] })) (fun v5 => pIf v5 (pIndexAddr 3 (vget l0 6) (vget l0 5) (fun v6 => pField 0 v6 (fun v7 => pLoad w0 1 v7 s2 (fun g8 => pIf (g8 0) (pBin Try.prog 3 BinOp.add (vget l0 5) (Value.int IntKind.i64 1) (fun v9 => K1 AX.normal [vget l0 0, vget l0 1, vget l0 2, vget l0 3, vget l0 4, v9, vget l0 6, vget l0 7, vget l0 8, vget l0 9] s2)) (pLenS (vget l0 4) (fun v10 => pBin Try.prog 3 BinOp.gtr v10 (Value.int IntKind.i64 40) (fun v11 => pIf v11 (pSliceStr (vget l0 4) Option.none (Option.some (Value.int IntKind.i64 40)) (fun v12 => pVal false 1 (Value.bool true) (pVal false 1 v12 (pVal false 1 (Value.int IntKind.i64 (-1)) (pIndexAddr 3 (vget l0 6) (vget l0 5) (fun v13 => pVal true 3 (Value.agg (⟨[Value.bool true, v12, Value.int IntKind.i64 (-1)]⟩)) (pStore v13 [Value.bool true, v12, Value.int IntKind.i64 (-1)] s2 (fun s14 => pSliceStr (vget l0 4) (Option.some (Value.int IntKind.i64 40)) Option.none (fun v15 => pBin Try.prog 3 BinOp.geq (vget l0 3) (Value.int IntKind.i64 0) (fun v16 => pIf v16 (pIndexAddr 3 (vget l0 6) (vget l0 3) (fun v17 => pField 2 v17 (fun v18 => pVal false 1 (vget l0 5) (pStore v18 [vget l0 5] s14 (fun s19 => pBin Try.prog 3 BinOp.add (vget l0 5) (Value.int IntKind.i64 1) (fun v20 => K1 AX.normal [vget l0 0, vget l0 1, vget l0 2, vget l0 5, v15, v20, vget l0 6, vget l0 7, vget l0 8, vget l0 9] s19)))))) (pBin Try.prog 3 BinOp.add (vget l0 5) (Value.int IntKind.i64 1) (fun v21 => K1 AX.normal [vget l0 0, vget l0 1, vget l0 5, vget l0 5, v15, v21, vget l0 6, vget l0 7, vget l0 8, vget l0 9] s14)))))))))))) (pSliceStr (vget l0 4) Option.none (Option.some v10) (fun v22 => pVal false 1 (Value.bool true) (pVal false 1 v22 (pVal false 1 (Value.int IntKind.i64 (-1)) (pIndexAddr 3 (vget l0 6) (vget l0 5) (fun v23 => pVal true 3 (Value.agg (⟨[Value.bool true, v22, Value.int IntKind.i64 (-1)]⟩)) (pStore v23 [Value.bool true, v22, Value.int IntKind.i64 (-1)] s2 (fun s24 => pSliceStr (vget l0 4) (Option.some v10) Option.none (fun v25 => pBin Try.prog 3 BinOp.geq (vget l0 3) (Value.int IntKind.i64 0) (fun v26 => pIf v26 (pIndexAddr 3 (vget l0 6) (vget l0 3) (fun v27 => pField 2 v27 (fun v28 => pVal false 1 (vget l0 5) (pStore v28 [vget l0 5] s24 (fun s29 => pBin Try.prog 3 BinOp.add (vget l0 5) (Value.int IntKind.i64 1) (fun v30 => K1 AX.normal [vget l0 0, vget l0 1, vget l0 2, vget l0 5, v25, v30, vget l0 6, vget l0 7, vget l0 8, vget l0 9] s29)))))) (pBin Try.prog 3 BinOp.add (vget l0 5) (Value.int IntKind.i64 1) (fun v31 => K1 AX.normal [vget l0 0, vget l0 1, vget l0 5, vget l0 5, v25, v31, vget l0 6, vget l0 7, vget l0 8, vget l0 9] s24))))))))))))))))))) (K1 (AX.exit 0) [vget l0 0, vget l0 1, vget l0 2, vget l0 3, vget l0 4, vget l0 5, vget l0 6, vget l0 7, vget l0 8, vget l0 9] s2))) (K1 (AX.exit 0) [vget l0 0, vget l0 1, vget l0 2, vget l0 3, vget l0 4, vget l0 5, vget l0 6, vget l0 7, vget l0 8, vget l0 9] s2)))) [a1, a2, Value.int IntKind.i64 (-1), Value.int IntKind.i64 (-1), a2, Value.int IntKind.i64 0, cellOf a0 0, cellOf a0 1, Value.slice Option.none 0 0, Value.slice Option.none 0 0] σ (fun x32 l33 s34 => match x32 with | .normal => pLoop (fun l35 K36 s37 => pLen (vget l35 5) (fun v38 => pBin Try.prog 3 BinOp.lss (vget l35 3) v38 (fun v39 => pIf v39 (pIndexAddr 3 (vget l35 5) (vget l35 3) (fun v40 => pField 0 v40 (fun v41 => pLoad w0 1 v41 s37 (fun g42 => pBin Try.prog 9 BinOp.lss (g42 0) (vget l35 0) (fun v43 => pIf v43 (pBin Try.prog 3 BinOp.add (vget l35 3) (Value.int IntKind.i64 1) (fun v44 => K36 AX.normal [vget l35 0, vget l35 1, vget l35 2, v44, vget l35 4, vget l35 5, vget l35 6, vget l35 7] s37)) (K36 (AX.exit 2) [vget l35 0, vget l35 1, vget l35 2, vget l35 3, vget l35 4, vget l35 5, vget l35 6, vget l35 7] s37)))))) (K36 (AX.exit 2) [vget l35 0, vget l35 1, vget l35 2, vget l35 3, vget l35 4, vget l35 5, vget l35 6, vget l35 7] s37)))) [vget l33 0, vget l33 1, vget l33 2, Value.int IntKind.i64 0, vget l33 6, vget l33 7, vget l33 8, vget l33 9] s34 (fun x45 l46 s47 => match x45 with | .normal => pLenS (vget l46 1) (fun v48 => pVal false 1 (vget l46 0) (pVal false 1 (vget l46 2) (pVal false 1 v48 (pVal true 3 (Value.agg (⟨[vget l46 0, vget l46 2, v48]⟩)) (pSlice 3 (vget l46 5) Option.none (Option.some (vget l46 3)) (fun v49 => pVal true 3 (Value.agg (⟨[vget l46 0, vget l46 2, v48]⟩)) (pSlice 3 (vget l46 5) (Option.some (vget l46 3)) Option.none (fun v50 => pNew w0 44 [] s47 (fun n51 s52 => pAppendS w0 44 3 32 (Value.slice (Option.some (Addr.mk n51 0 Option.none)) 0 0) v49 s52 (fun v53 s54 => (allOne [vget l46 0, vget l46 2, v48]) ∧ (pAppend w0 44 3 32 v53 1 [vget l46 0, vget l46 2, v48] s54 (fun v55 s56 => pAppendS w0 44 3 32 v55 v50 s56 (fun v57 s58 => pVal false 1 v57 (pVal true 2 (Value.agg (⟨[vget l46 4, v57]⟩)) (R (Value.agg (⟨[vget l46 4, v57]⟩)) s58))))))))))))))) | .ret => R (Value.agg (⟨[vget l46 6, vget l46 7]⟩)) s47 | .exit i59 => (match Nat.beq i59 2 with | true => pLenS (vget l46 1) (fun v60 => pVal false 1 (vget l46 0) (pVal false 1 (vget l46 2) (pVal false 1 v60 (pVal true 3 (Value.agg (⟨[vget l46 0, vget l46 2, v60]⟩)) (pSlice 3 (vget l46 5) Option.none (Option.some (vget l46 3)) (fun v61 => pVal true 3 (Value.agg (⟨[vget l46 0, vget l46 2, v60]⟩)) (pSlice 3 (vget l46 5) (Option.some (vget l46 3)) Option.none (fun v62 => pNew w0 44 [] s47 (fun n63 s64 => pAppendS w0 44 3 32 (Value.slice (Option.some (Addr.mk n63 0 Option.none)) 0 0) v61 s64 (fun v65 s66 => (allOne [vget l46 0, vget l46 2, v60]) ∧ (pAppend w0 44 3 32 v65 1 [vget l46 0, vget l46 2, v60] s66 (fun v67 s68 => pAppendS w0 44 3 32 v67 v62 s68 (fun v69 s70 => pVal false 1 v69 (pVal true 2 (Value.agg (⟨[vget l46 4, v69]⟩)) (R (Value.agg (⟨[vget l46 4, v69]⟩)) s70))))))))))))))) | false => False)) | .ret => R (Value.agg (⟨[vget l33 8, vget l33 9]⟩)) s34 | .exit i71 => (match Nat.beq i71 0 with | true => pLoop (fun l72 K73 s74 => pLen (vget l72 5) (fun v75 => pBin Try.prog 3 BinOp.lss (vget l72 3) v75 (fun v76 => pIf v76 (pIndexAddr 3 (vget l72 5) (vget l72 3) (fun v77 => pField 0 v77 (fun v78 => pLoad w0 1 v78 s74 (fun g79 => pBin Try.prog 9 BinOp.lss (g79 0) (vget l72 0) (fun v80 => pIf v80 (pBin Try.prog 3 BinOp.add (vget l72 3) (Value.int IntKind.i64 1) (fun v81 => K73 AX.normal [vget l72 0, vget l72 1, vget l72 2, v81, vget l72 4, vget l72 5, vget l72 6, vget l72 7] s74)) (K73 (AX.exit 2) [vget l72 0, vget l72 1, vget l72 2, vget l72 3, vget l72 4, vget l72 5, vget l72 6, vget l72 7] s74)))))) (K73 (AX.exit 2) [vget l72 0, vget l72 1, vget l72 2, vget l72 3, vget l72 4, vget l72 5, vget l72 6, vget l72 7] s74)))) [vget l33 0, vget l33 1, vget l33 2, Value.int IntKind.i64 0, vget l33 6, vget l33 7, vget l33 8, vget l33 9] s34 (fun x82 l83 s84 => match x82 with | .normal => pLenS (vget l83 1) (fun v85 => pVal false 1 (vget l83 0) (pVal false 1 (vget l83 2) (pVal false 1 v85 (pVal true 3 (Value.agg (⟨[vget l83 0, vget l83 2, v85]⟩)) (pSlice 3 (vget l83 5) Option.none (Option.some (vget l83 3)) (fun v86 => pVal true 3 (Value.agg (⟨[vget l83 0, vget l83 2, v85]⟩)) (pSlice 3 (vget l83 5) (Option.some (vget l83 3)) Option.none (fun v87 => pNew w0 44 [] s84 (fun n88 s89 => pAppendS w0 44 3 32 (Value.slice (Option.some (Addr.mk n88 0 Option.none)) 0 0) v86 s89 (fun v90 s91 => (allOne [vget l83 0, vget l83 2, v85]) ∧ (pAppend w0 44 3 32 v90 1 [vget l83 0, vget l83 2, v85] s91 (fun v92 s93 => pAppendS w0 44 3 32 v92 v87 s93 (fun v94 s95 => pVal false 1 v94 (pVal true 2 (Value.agg (⟨[vget l83 4, v94]⟩)) (R (Value.agg (⟨[vget l83 4, v94]⟩)) s95))))))))))))))) | .ret => R (Value.agg (⟨[vget l83 6, vget l83 7]⟩)) s84 | .exit i96 => (match Nat.beq i96 2 with | true => pLenS (vget l83 1) (fun v97 => pVal false 1 (vget l83 0) (pVal false 1 (vget l83 2) (pVal false 1 v97 (pVal true 3 (Value.agg (⟨[vget l83 0, vget l83 2, v97]⟩)) (pSlice 3 (vget l83 5) Option.none (Option.some (vget l83 3)) (fun v98 => pVal true 3 (Value.agg (⟨[vget l83 0, vget l83 2, v97]⟩)) (pSlice 3 (vget l83 5) (Option.some (vget l83 3)) Option.none (fun v99 => pNew w0 44 [] s84 (fun n100 s101 => pAppendS w0 44 3 32 (Value.slice (Option.some (Addr.mk n100 0 Option.none)) 0 0) v98 s101 (fun v102 s103 => (allOne [vget l83 0, vget l83 2, v97]) ∧ (pAppend w0 44 3 32 v102 1 [vget l83 0, vget l83 2, v97] s103 (fun v104 s105 => pAppendS w0 44 3 32 v104 v99 s105 (fun v106 s107 => pVal false 1 v106 (pVal true 2 (Value.agg (⟨[vget l83 4, v106]⟩)) (R (Value.agg (⟨[vget l83 4, v106]⟩)) s107))))))))))))))) | false => False)) | false => False)))
theorem vc_spec_l32Keep_eq (w0 : World) (a0 a1 a2 : Value) (σ : Vw) (R : Value → Vw → Prop) : vc_spec_l32Keep w0 a0 a1 a2 σ R = den Try.prog w0 kp_spec_l32Keep esc_spec_l32Keep (Try.f90.body.getD .skip) (entry Try.f90.ntmps [a0, a1, a2]) σ (retK Try.prog Try.f90.results.toList R) := by kernel_rfl
theorem ac_spec_l32Keep {w0 : World} {a0 a1 a2 : Value} {σ : Vw} {R : Value → Vw → Prop} (h : vc_spec_l32Keep w0 a0 a1 a2 σ R) : AC Try.prog w0 n_spec_l32Keep [a0, a1, a2] σ R := by
  refine ac_rule (fn := Try.f90) (c := Try.f90.body.getD .skip) kp_spec_l32Keep esc_spec_l32Keep Try.func90 (by kernel_rfl) (by kernel_rfl) ?_
  rw [← vc_spec_l32Keep_eq]
  exact h

/-- slices.Index[[]int,int] -/
def kp_slices_Index_int_int : Nat → Keep
  | 2 => ⟨[0, 1, 4, 7, 8], [], [], .done, []⟩
  | _ => ⟨[], [], [], .done, []⟩
def esc_slices_Index_int_int : Nat → Bool
  | _ => false
def vc_slices_Index_int_int (w0 : World) (a0 a1 : Value) (σ : Vw) (R : Value → Vw → Prop) : Prop :=
  pLen a0 (fun v0 => pLoop (fun l1 K2 s3 => pBin Try.prog 3 BinOp.lss (vget l1 4) (vget l1 3) (fun v4 => pIf v4 (pIndexAddr 1 (vget l1 0) (vget l1 4) (fun v5 => pLoad w0 1 v5 s3 (fun g6 => pBin Try.prog 3 BinOp.eql (vget l1 1) (g6 0) (fun v7 => pIf v7 (K2 AX.ret [vget l1 0, vget l1 1, vget l1 4, vget l1 3, vget l1 4] s3) (pBin Try.prog 3 BinOp.add (vget l1 4) (Value.int IntKind.i64 1) (fun v8 => K2 AX.normal [vget l1 0, vget l1 1, vget l1 2, vget l1 3, v8] s3)))))) (K2 (AX.exit 0) [vget l1 0, vget l1 1, vget l1 2, vget l1 3, vget l1 4] s3))) [a0, a1, Value.int IntKind.i64 0, v0, Value.int IntKind.i64 0] σ (fun x9 l10 s11 => match x9 with | .normal => R (Value.int IntKind.i64 (-1)) s11 | .ret => R (vget l10 2) s11 | .exit i12 => (match Nat.beq i12 0 with | true => R (Value.int IntKind.i64 (-1)) s11 | false => False)))
theorem vc_slices_Index_int_int_eq (w0 : World) (a0 a1 : Value) (σ : Vw) (R : Value → Vw → Prop) : vc_slices_Index_int_int w0 a0 a1 σ R = den Try.prog w0 kp_slices_Index_int_int esc_slices_Index_int_int (Try.f91.body.getD .skip) (entry Try.f91.ntmps [a0, a1]) σ (retK Try.prog Try.f91.results.toList R) := by kernel_rfl
theorem ac_slices_Index_int_int {w0 : World} {a0 a1 : Value} {σ : Vw} {R : Value → Vw → Prop} (h : vc_slices_Index_int_int w0 a0 a1 σ R) : AC Try.prog w0 n_slices_Index_int_int [a0, a1] σ R := by
  refine ac_rule (fn := Try.f91) (c := Try.f91.body.getD .skip) kp_slices_Index_int_int esc_slices_Index_int_int Try.func91 (by kernel_rfl) (by kernel_rfl) ?_
  rw [← vc_slices_Index_int_int_eq]
  exact h

/-- spec.StorePlay -/
def kp_spec_StorePlay : Nat → Keep
  | 6 => ⟨[1, 6, 10], [(4, 1), (5, 4), (7, 4), (9, 1)], [4, 5, 7, 9], .done, []⟩
  | 8 => ⟨[], [], [], .step 0 (.step 1 (.step 2 (.step 3 (.step 4 (.step 5 (.step 11 (.step 12 (.step 6 (.step 7 (.step 8 (.step 9 (.step 10 (.step 13 (.step 14 (.step 15 (.done)))))))))))))))), [(4, [2, 3]), (5, [2, 3, 4]), (6, [0, 1, 2, 3, 4, 5]), (7, [0, 1, 2, 3, 4, 5, 6]), (8, [0, 1, 2, 3, 4, 5, 6, 7]), (9, [0, 1, 2, 3, 4, 5, 6, 7]), (10, [0, 1, 2, 3, 4, 5, 6, 7]), (13, [0, 1, 2, 3, 4, 5, 6, 7, 8, 11, 12]), (14, [0, 1, 2, 3, 4, 5, 6, 7, 8, 9, 11, 12, 13]), (15, [0, 1, 2, 3, 4, 5, 6, 7, 8, 9, 10, 11, 12, 13, 14])]⟩
  | 13 => ⟨[], [], [], .step 0 (.step 2 (.step 1 (.step 3 (.step 4 (.step 5 (.step 6 (.done))))))), [(1, [0]), (3, [0, 1, 2]), (4, [0, 1, 2, 3]), (5, [0, 1, 2, 3, 4]), (6, [0, 1, 2, 3, 4, 5])]⟩
  | _ => ⟨[], [], [], .done, []⟩
def esc_spec_StorePlay : Nat → Bool
  | _ => false
def vc_spec_StorePlay (w0 : World) (a0 a1 : Value) (σ : Vw) (R : Value → Vw → Prop) : Prop :=
  pVal true 1 a0 (AC Try.prog w0 n_spec_StoreOpen ([Value.agg (⟨[cellOf a0 0]⟩)]) σ (fun v0 s1 => pExtract v0 0 (fun v2 => pExtract v0 1 (fun v3 => pVal true 4 v2 (pUn UnOp.not v3 (fun v4 => pIf v4 (pVal true 1 (Value.agg (⟨[Value.slice Option.none 0 0]⟩)) (pVal true 4 (Value.agg (⟨[Value.int IntKind.i64 0, Value.string ({ data := #[] }), Value.slice Option.none 0 0, Value.int IntKind.i64 0]⟩)) (R (Value.tuple (⟨[Value.agg (⟨[Value.slice Option.none 0 0]⟩), Value.agg (⟨[Value.int IntKind.i64 0, Value.string ({ data := #[] }), Value.slice Option.none 0 0, Value.int IntKind.i64 0]⟩), Value.bool false]⟩)) s1))) (AC Try.prog w0 n_spec_l21Copy ([Value.agg (⟨[cellOf a0 0]⟩)]) s1 (fun v5 s6 => pVal true 1 v5 (pLoop (fun l7 K8 s9 => pLen (vget l7 0) (fun v10 => pBin Try.prog 3 BinOp.lss (vget l7 2) v10 (fun v11 => pIf v11 (pIndexAddr 3 (vget l7 0) (vget l7 2) (fun v12 => pLoad w0 3 v12 s9 (fun g13 => AC Try.prog w0 n_spec_l23Step ([Value.agg (⟨[vget l7 12]⟩), Value.agg (⟨[vget l7 8, vget l7 9, vget l7 10, vget l7 11]⟩), Value.agg (⟨[g13 0, g13 1, g13 2]⟩)]) s9 (fun v14 s15 => pExtract v14 0 (fun v16 => pExtract v14 1 (fun v17 => pExtract v14 2 (fun v18 => pVal true 1 v16 (pVal true 4 v17 (pUn UnOp.not v18 (fun v19 => pIf v19 (pVal true 1 (Value.agg (⟨[Value.slice Option.none 0 0]⟩)) (pVal true 4 (Value.agg (⟨[Value.int IntKind.i64 0, Value.string ({ data := #[] }), Value.slice Option.none 0 0, Value.int IntKind.i64 0]⟩)) (K8 AX.ret ([vget l7 0, Value.bool false, vget l7 2, Value.slice Option.none 0 0, Value.int IntKind.i64 0, Value.string ({ data := #[] }), Value.slice Option.none 0 0, Value.int IntKind.i64 0, vget l7 8, vget l7 9, vget l7 10, vget l7 11, vget l7 12]) s15))) (pVal true 1 (Value.agg (⟨[cellOf v16 0]⟩)) (pVal true 4 (Value.agg (⟨[cellOf v17 0, cellOf v17 1, cellOf v17 2, cellOf v17 3]⟩)) (pBin Try.prog 3 BinOp.add (vget l7 2) (Value.int IntKind.i64 1) (fun v20 => K8 AX.normal [vget l7 0, vget l7 1, v20, vget l7 3, vget l7 4, vget l7 5, vget l7 6, vget l7 7, cellOf v17 0, cellOf v17 1, cellOf v17 2, cellOf v17 3, cellOf v16 0] s15)))))))))))))) (K8 (AX.exit 0) [vget l7 0, vget l7 1, vget l7 2, vget l7 3, vget l7 4, vget l7 5, vget l7 6, vget l7 7, vget l7 8, vget l7 9, vget l7 10, vget l7 11, vget l7 12] s9)))) ([a1, Value.bool false, Value.int IntKind.i64 0, Value.slice Option.none 0 0, Value.int IntKind.i64 0, Value.string ({ data := #[] }), Value.slice Option.none 0 0, Value.int IntKind.i64 0, cellOf v2 0, cellOf v2 1, cellOf v2 2, cellOf v2 3, cellOf v5 0]) s6 (fun x21 l22 s23 => match x21 with | .normal => AC Try.prog w0 n_spec_l21Copy ([Value.agg (⟨[vget l22 12]⟩)]) s23 (fun v24 s25 => AC Try.prog w0 n_spec_l22Copy ([Value.agg (⟨[vget l22 8, vget l22 9, vget l22 10, vget l22 11]⟩)]) s25 (fun v26 s27 => pVal true 1 v24 (pVal true 4 v26 (R (Value.tuple (⟨[Value.agg (⟨[cellOf v24 0]⟩), Value.agg (⟨[cellOf v26 0, cellOf v26 1, cellOf v26 2, cellOf v26 3]⟩), Value.bool true]⟩)) s27)))) | .ret => R (Value.tuple (⟨[Value.agg (⟨[vget l22 3]⟩), Value.agg (⟨[vget l22 4, vget l22 5, vget l22 6, vget l22 7]⟩), vget l22 1]⟩)) s23 | .exit i28 => (match Nat.beq i28 0 with | true => AC Try.prog w0 n_spec_l21Copy ([Value.agg (⟨[vget l22 12]⟩)]) s23 (fun v29 s30 => AC Try.prog w0 n_spec_l22Copy ([Value.agg (⟨[vget l22 8, vget l22 9, vget l22 10, vget l22 11]⟩)]) s30 (fun v31 s32 => pVal true 1 v29 (pVal true 4 v31 (R (Value.tuple (⟨[Value.agg (⟨[cellOf v29 0]⟩), Value.agg (⟨[cellOf v31 0, cellOf v31 1, cellOf v31 2, cellOf v31 3]⟩), Value.bool true]⟩)) s32)))) | false => False)))))))))))
theorem vc_spec_StorePlay_eq (w0 : World) (a0 a1 : Value) (σ : Vw) (R : Value → Vw → Prop) : vc_spec_StorePlay w0 a0 a1 σ R = den Try.prog w0 kp_spec_StorePlay esc_spec_StorePlay (Try.f92.body.getD .skip) (entry Try.f92.ntmps [a0, a1]) σ (retK Try.prog Try.f92.results.toList R) := by kernel_rfl
theorem ac_spec_StorePlay {w0 : World} {a0 a1 : Value} {σ : Vw} {R : Value → Vw → Prop} (h : vc_spec_StorePlay w0 a0 a1 σ R) : AC Try.prog w0 n_spec_StorePlay [a0, a1] σ R := by
  refine ac_rule (fn := Try.f92) (c := Try.f92.body.getD .skip) kp_spec_StorePlay esc_spec_StorePlay Try.func92 (by kernel_rfl) (by kernel_rfl) ?_
  rw [← vc_spec_StorePlay_eq]
  exact h

/-- spec.l24New -/
def kp_spec_l24New : Nat → Keep
  | _ => ⟨[], [], [], .done, []⟩
def esc_spec_l24New : Nat → Bool
  | _ => false
def vc_spec_l24New (w0 : World) (a0 : Value) (σ : Vw) (R : Value → Vw → Prop) : Prop :=
  AC Try.prog w0 n_p_spec_l1Rd_pick [a0, Value.int IntKind.i64 200] σ (fun v0 s1 => AC Try.prog w0 n_spec_l1Many ([Value.string ({ data := #[116] }), v0]) s1 (fun v2 s3 => AC Try.prog w0 n_spec_StoreNew [v2] s3 (fun v4 s5 => pExtract v4 0 (fun v6 => pExtract v4 1 (fun v7 => AC Try.prog w0 n_spec_l24Blank [] s5 (fun v8 s9 => pLen v6 (fun v10 => AC Try.prog w0 n_spec_DiskWrite [v8, v6, v10] s9 (fun v11 s12 => pVal true 1 v11 (R (Value.agg (⟨[cellOf v11 0]⟩)) s12)))))))))
theorem vc_spec_l24New_eq (w0 : World) (a0 : Value) (σ : Vw) (R : Value → Vw → Prop) : vc_spec_l24New w0 a0 σ R = den Try.prog w0 kp_spec_l24New esc_spec_l24New (Try.f93.body.getD .skip) (entry Try.f93.ntmps [a0]) σ (retK Try.prog Try.f93.results.toList R) := by kernel_rfl
theorem ac_spec_l24New {w0 : World} {a0 : Value} {σ : Vw} {R : Value → Vw → Prop} (h : vc_spec_l24New w0 a0 σ R) : AC Try.prog w0 n_spec_l24New [a0] σ R := by
  refine ac_rule (fn := Try.f93) (c := Try.f93.body.getD .skip) kp_spec_l24New esc_spec_l24New Try.func93 (by kernel_rfl) (by kernel_rfl) ?_
  rw [← vc_spec_l24New_eq]
  exact h

/-- spec.l24Steps -/
def kp_spec_l24Steps : Nat → Keep
  | 3 => ⟨[0, 5, 6], [], [], .done, []⟩
  | _ => ⟨[], [], [], .done, []⟩
def esc_spec_l24Steps : Nat → Bool
  | 8 => true
  | _ => false
def vc_spec_l24Steps (w0 : World) (a0 a1 : Value) (σ : Vw) (R : Value → Vw → Prop) : Prop :=
  pNew w0 127 [] σ (fun n0 s1 => AC Try.prog w0 n_p_spec_l1Rd_pick [a0, a1] s1 (fun v2 s3 => pLoop (fun l4 K5 s6 => pBin Try.prog 3 BinOp.gtr (vget l4 2) (Value.int IntKind.i64 0) (fun v7 => pIf v7 (AC Try.prog w0 n_spec_l24Group [vget l4 0] s6 (fun v8 s9 => pVal false 1 v8 (pVal false 1 (Value.int IntKind.i64 (-1)) (pVal true 3 (Value.agg (⟨[Value.bool false, v8, Value.int IntKind.i64 (-1)]⟩)) (AC Try.prog w0 n_p_spec_l1Rd_pick [vget l4 0, Value.int IntKind.i64 4] s9 (fun v10 s11 => pBin Try.prog 3 BinOp.eql v10 (Value.int IntKind.i64 0) (fun v12 => pIf v12 (pVal false 1 (Value.bool true) (AC Try.prog w0 n_spec_l24Text [vget l4 0] s11 (fun v13 s14 => pVal false 1 v13 (AC Try.prog w0 n_p_spec_l1Rd_pick [vget l4 0, Value.int IntKind.i64 3] s14 (fun v15 s16 => pBin Try.prog 3 BinOp.eql v15 (Value.int IntKind.i64 0) (fun v17 => pIf v17 (AC Try.prog w0 n_p_spec_l1Rd_pick [vget l4 0, Value.int IntKind.i64 12] s16 (fun v18 s19 => AC Try.prog w0 n_p_spec_l1Rd_pick [vget l4 0, Value.int IntKind.i64 2] s19 (fun v20 s21 => pBin Try.prog 3 BinOp.mul v18 v20 (fun v22 => pVal false 1 v22 (AC Try.prog w0 n_p_spec_l1Rd_pick [vget l4 0, Value.int IntKind.i64 4] s21 (fun v23 s24 => pBin Try.prog 3 BinOp.eql v23 (Value.int IntKind.i64 0) (fun v25 => pIf v25 (AC Try.prog w0 n_p_spec_l1Rd_pick [vget l4 0, Value.int IntKind.i64 70] s24 (fun v26 s27 => pVal false 1 v26 (pVal true 3 (Value.agg (⟨[Value.bool true, v13, v26]⟩)) ((allOne [Value.bool true, v13, v26]) ∧ (pAppend w0 127 3 32 (vget l4 1) 1 [Value.bool true, v13, v26] s27 (fun v28 s29 => pBin Try.prog 3 BinOp.sub (vget l4 2) (Value.int IntKind.i64 1) (fun v30 => K5 AX.normal [vget l4 0, v28, v30] s29))))))) (pVal true 3 (Value.agg (⟨[Value.bool true, v13, v22]⟩)) ((allOne [Value.bool true, v13, v22]) ∧ (pAppend w0 127 3 32 (vget l4 1) 1 [Value.bool true, v13, v22] s24 (fun v31 s32 => pBin Try.prog 3 BinOp.sub (vget l4 2) (Value.int IntKind.i64 1) (fun v33 => K5 AX.normal [vget l4 0, v31, v33] s32)))))))))))) (pVal true 3 (Value.agg (⟨[Value.bool true, v13, Value.int IntKind.i64 (-1)]⟩)) ((allOne [Value.bool true, v13, Value.int IntKind.i64 (-1)]) ∧ (pAppend w0 127 3 32 (vget l4 1) 1 [Value.bool true, v13, Value.int IntKind.i64 (-1)] s16 (fun v34 s35 => pBin Try.prog 3 BinOp.sub (vget l4 2) (Value.int IntKind.i64 1) (fun v36 => K5 AX.normal [vget l4 0, v34, v36] s35))))))))))) (AC Try.prog w0 n_p_spec_l1Rd_pick [vget l4 0, Value.int IntKind.i64 3] s11 (fun v37 s38 => pBin Try.prog 3 BinOp.eql v37 (Value.int IntKind.i64 0) (fun v39 => pIf v39 (AC Try.prog w0 n_p_spec_l1Rd_pick [vget l4 0, Value.int IntKind.i64 12] s38 (fun v40 s41 => AC Try.prog w0 n_p_spec_l1Rd_pick [vget l4 0, Value.int IntKind.i64 2] s41 (fun v42 s43 => pBin Try.prog 3 BinOp.mul v40 v42 (fun v44 => pVal false 1 v44 (AC Try.prog w0 n_p_spec_l1Rd_pick [vget l4 0, Value.int IntKind.i64 4] s43 (fun v45 s46 => pBin Try.prog 3 BinOp.eql v45 (Value.int IntKind.i64 0) (fun v47 => pIf v47 (AC Try.prog w0 n_p_spec_l1Rd_pick [vget l4 0, Value.int IntKind.i64 70] s46 (fun v48 s49 => pVal false 1 v48 (pVal true 3 (Value.agg (⟨[Value.bool false, v8, v48]⟩)) ((allOne [Value.bool false, v8, v48]) ∧ (pAppend w0 127 3 32 (vget l4 1) 1 [Value.bool false, v8, v48] s49 (fun v50 s51 => pBin Try.prog 3 BinOp.sub (vget l4 2) (Value.int IntKind.i64 1) (fun v52 => K5 AX.normal [vget l4 0, v50, v52] s51))))))) (pVal true 3 (Value.agg (⟨[Value.bool false, v8, v44]⟩)) ((allOne [Value.bool false, v8, v44]) ∧ (pAppend w0 127 3 32 (vget l4 1) 1 [Value.bool false, v8, v44] s46 (fun v53 s54 => pBin Try.prog 3 BinOp.sub (vget l4 2) (Value.int IntKind.i64 1) (fun v55 => K5 AX.normal [vget l4 0, v53, v55] s54)))))))))))) (pVal true 3 (Value.agg (⟨[Value.bool false, v8, Value.int IntKind.i64 (-1)]⟩)) ((allOne [Value.bool false, v8, Value.int IntKind.i64 (-1)]) ∧ (pAppend w0 127 3 32 (vget l4 1) 1 [Value.bool false, v8, Value.int IntKind.i64 (-1)] s38 (fun v56 s57 => pBin Try.prog 3 BinOp.sub (vget l4 2) (Value.int IntKind.i64 1) (fun v58 => K5 AX.normal [vget l4 0, v56, v58] s57))))))))))))))) (K5 (AX.exit 0) [vget l4 0, vget l4 1, vget l4 2] s6))) [a0, Value.slice (Option.some (Addr.mk n0 0 Option.none)) 0 0, v2] s3 (fun x59 l60 s61 => match x59 with | .normal => R (vget l60 1) s61 | .ret => False | .exit i62 => (match Nat.beq i62 0 with | true => R (vget l60 1) s61 | false => False))))
theorem vc_spec_l24Steps_eq (w0 : World) (a0 a1 : Value) (σ : Vw) (R : Value → Vw → Prop) : vc_spec_l24Steps w0 a0 a1 σ R = den Try.prog w0 kp_spec_l24Steps esc_spec_l24Steps (Try.f94.body.getD .skip) (entry Try.f94.ntmps [a0, a1]) σ (retK Try.prog Try.f94.results.toList R) := by kernel_rfl
theorem ac_spec_l24Steps {w0 : World} {a0 a1 : Value} {σ : Vw} {R : Value → Vw → Prop} (h : vc_spec_l24Steps w0 a0 a1 σ R) : AC Try.prog w0 n_spec_l24Steps [a0, a1] σ R := by
  refine ac_rule (fn := Try.f94) (c := Try.f94.body.getD .skip) kp_spec_l24Steps esc_spec_l24Steps Try.func94 (by kernel_rfl) (by kernel_rfl) ?_
  rw [← vc_spec_l24Steps_eq]
  exact h

/-- spec.StoreOpen -/
def kp_spec_StoreOpen : Nat → Keep
  | 10 => ⟨[], [], [], .step 0 (.step 1 (.step 3 (.step 2 (.step 4 (.step 5 (.step 6 (.step 7 (.step 8 (.step 9 (.done)))))))))), [(2, [1]), (4, [0, 1, 2, 3]), (5, [0, 1, 2, 3, 4]), (6, [0, 1, 2, 3, 4, 5]), (7, [0, 1, 2, 3, 4, 5]), (8, [0, 1, 2, 3, 4, 5, 6]), (9, [0, 1, 2, 3, 4, 5, 6, 7, 8])]⟩
  | 14 => ⟨[3, 4], [(1, 1), (2, 4), (10, 4)], [1, 2, 10], .done, []⟩
  | _ => ⟨[], [], [], .done, []⟩
def esc_spec_StoreOpen : Nat → Bool
  | _ => false
def vc_spec_StoreOpen (w0 : World) (a0 : Value) (σ : Vw) (R : Value → Vw → Prop) : Prop :=
  pVal true 1 a0 (AC Try.prog w0 n_spec_DiskOk ([Value.agg (⟨[cellOf a0 0]⟩)]) σ (fun v0 s1 => pUn UnOp.not v0 (fun v2 => pIf v2 (pVal true 4 (Value.agg (⟨[Value.int IntKind.i64 0, Value.string ({ data := #[] }), Value.slice Option.none 0 0, Value.int IntKind.i64 0]⟩)) (R (Value.tuple (⟨[Value.agg (⟨[Value.int IntKind.i64 0, Value.string ({ data := #[] }), Value.slice Option.none 0 0, Value.int IntKind.i64 0]⟩), Value.bool false]⟩)) s1)) (AC Try.prog w0 n_spec_l22Found ([Value.agg (⟨[cellOf a0 0]⟩), Value.int IntKind.i64 0]) s1 (fun v3 s4 => pExtract v3 0 (fun v5 => pExtract v3 1 (fun v6 => AC Try.prog w0 n_spec_l22Found ([Value.agg (⟨[cellOf a0 0]⟩), Value.int IntKind.i64 1]) s4 (fun v7 s8 => pExtract v7 0 (fun v9 => pExtract v7 1 (fun v10 => pBin Try.prog 3 BinOp.gtr v9 v5 (fun v11 => pIf v11 (pBin Try.prog 3 BinOp.eql v9 (Value.int IntKind.i64 0) (fun v12 => pIf v12 (pVal true 4 (Value.agg (⟨[Value.int IntKind.i64 0, Value.string ({ data := #[] }), Value.slice Option.none 0 0, Value.int IntKind.i64 0]⟩)) (R (Value.tuple (⟨[Value.agg (⟨[Value.int IntKind.i64 0, Value.string ({ data := #[] }), Value.slice Option.none 0 0, Value.int IntKind.i64 0]⟩), Value.bool false]⟩)) s8)) (AC Try.prog w0 n_spec_l22Area [v9] s8 (fun v13 s14 => AC Try.prog w0 n_spec_l22Text ([Value.agg (⟨[cellOf a0 0]⟩), v13, Value.int IntKind.i64 90, v10, Value.int IntKind.i64 0]) s14 (fun v15 s16 => pExtract v15 0 (fun v17 => pExtract v15 1 (fun v18 => pUn UnOp.not v18 (fun v19 => pIf v19 (pVal true 4 (Value.agg (⟨[Value.int IntKind.i64 0, Value.string ({ data := #[] }), Value.slice Option.none 0 0, Value.int IntKind.i64 0]⟩)) (R (Value.tuple (⟨[Value.agg (⟨[Value.int IntKind.i64 0, Value.string ({ data := #[] }), Value.slice Option.none 0 0, Value.int IntKind.i64 0]⟩), Value.bool false]⟩)) s16)) (pVal false 1 v9 (pVal false 1 v17 (pVal true 4 (Value.agg (⟨[v9, v17, Value.slice Option.none 0 0, Value.int IntKind.i64 0]⟩)) (pLoop (fun l20 K21 s22 => pLen (vget l20 9) (fun v23 => AC Try.prog w0 n_spec_l22Group ([Value.agg (⟨[vget l20 2]⟩), vget l20 1, v23, vget l20 10]) s22 (fun v24 s25 => pExtract v24 0 (fun v26 => pExtract v24 1 (fun v27 => pBin Try.prog 3 BinOp.eql v27 (Value.int IntKind.i64 0) (fun v28 => pIf v28 (AC Try.prog w0 n_spec_l22Clean ([Value.agg (⟨[vget l20 2]⟩), Value.agg (⟨[vget l20 7, vget l20 8, vget l20 9, vget l20 10]⟩)]) s25 (fun v29 s30 => pExtract v29 0 (fun v31 => pExtract v29 1 (fun v32 => pVal true 4 v31 (K21 AX.ret [v32, vget l20 1, vget l20 2, cellOf v31 0, cellOf v31 1, cellOf v31 2, cellOf v31 3, vget l20 7, vget l20 8, vget l20 9, vget l20 10] s30))))) (pVal false 1 v26 ((allOne [v26]) ∧ (pAppend w0 9 1 16 (vget l20 9) 1 [v26] s25 (fun v33 s34 => pVal false 1 v33 (pBin Try.prog 3 BinOp.add (vget l20 10) v27 (fun v35 => pVal false 1 v35 (K21 AX.normal [vget l20 0, vget l20 1, vget l20 2, vget l20 3, vget l20 4, vget l20 5, vget l20 6, vget l20 7, vget l20 8, v33, v35] s34))))))))))))) ([Value.bool false, v9, cellOf a0 0, Value.int IntKind.i64 0, Value.string ({ data := #[] }), Value.slice Option.none 0 0, Value.int IntKind.i64 0, v9, v17, Value.slice Option.none 0 0, Value.int IntKind.i64 0]) s16 (fun x36 l37 s38 => match x36 with | .normal => R (Value.tuple (⟨[Value.agg (⟨[vget l37 3, vget l37 4, vget l37 5, vget l37 6]⟩), vget l37 0]⟩)) s38 | .ret => R (Value.tuple (⟨[Value.agg (⟨[vget l37 3, vget l37 4, vget l37 5, vget l37 6]⟩), vget l37 0]⟩)) s38 | .exit i39 => (match Nat.beq i39 0 with | true => R (Value.tuple (⟨[Value.agg (⟨[vget l37 3, vget l37 4, vget l37 5, vget l37 6]⟩), vget l37 0]⟩)) s38 | false => False)))))))))))))) (pBin Try.prog 3 BinOp.eql v5 (Value.int IntKind.i64 0) (fun v40 => pIf v40 (pVal true 4 (Value.agg (⟨[Value.int IntKind.i64 0, Value.string ({ data := #[] }), Value.slice Option.none 0 0, Value.int IntKind.i64 0]⟩)) (R (Value.tuple (⟨[Value.agg (⟨[Value.int IntKind.i64 0, Value.string ({ data := #[] }), Value.slice Option.none 0 0, Value.int IntKind.i64 0]⟩), Value.bool false]⟩)) s8)) (AC Try.prog w0 n_spec_l22Area [v5] s8 (fun v41 s42 => AC Try.prog w0 n_spec_l22Text ([Value.agg (⟨[cellOf a0 0]⟩), v41, Value.int IntKind.i64 90, v6, Value.int IntKind.i64 0]) s42 (fun v43 s44 => pExtract v43 0 (fun v45 => pExtract v43 1 (fun v46 => pUn UnOp.not v46 (fun v47 => pIf v47 (pVal true 4 (Value.agg (⟨[Value.int IntKind.i64 0, Value.string ({ data := #[] }), Value.slice Option.none 0 0, Value.int IntKind.i64 0]⟩)) (R (Value.tuple (⟨[Value.agg (⟨[Value.int IntKind.i64 0, Value.string ({ data := #[] }), Value.slice Option.none 0 0, Value.int IntKind.i64 0]⟩), Value.bool false]⟩)) s44)) (pVal false 1 v5 (pVal false 1 v45 (pVal true 4 (Value.agg (⟨[v5, v45, Value.slice Option.none 0 0, Value.int IntKind.i64 0]⟩)) (pLoop (fun l48 K49 s50 => pLen (vget l48 9) (fun v51 => AC Try.prog w0 n_spec_l22Group ([Value.agg (⟨[vget l48 2]⟩), vget l48 1, v51, vget l48 10]) s50 (fun v52 s53 => pExtract v52 0 (fun v54 => pExtract v52 1 (fun v55 => pBin Try.prog 3 BinOp.eql v55 (Value.int IntKind.i64 0) (fun v56 => pIf v56 (AC Try.prog w0 n_spec_l22Clean ([Value.agg (⟨[vget l48 2]⟩), Value.agg (⟨[vget l48 7, vget l48 8, vget l48 9, vget l48 10]⟩)]) s53 (fun v57 s58 => pExtract v57 0 (fun v59 => pExtract v57 1 (fun v60 => pVal true 4 v59 (K49 AX.ret [v60, vget l48 1, vget l48 2, cellOf v59 0, cellOf v59 1, cellOf v59 2, cellOf v59 3, vget l48 7, vget l48 8, vget l48 9, vget l48 10] s58))))) (pVal false 1 v54 ((allOne [v54]) ∧ (pAppend w0 9 1 16 (vget l48 9) 1 [v54] s53 (fun v61 s62 => pVal false 1 v61 (pBin Try.prog 3 BinOp.add (vget l48 10) v55 (fun v63 => pVal false 1 v63 (K49 AX.normal [vget l48 0, vget l48 1, vget l48 2, vget l48 3, vget l48 4, vget l48 5, vget l48 6, vget l48 7, vget l48 8, v61, v63] s62))))))))))))) ([Value.bool false, v5, cellOf a0 0, Value.int IntKind.i64 0, Value.string ({ data := #[] }), Value.slice Option.none 0 0, Value.int IntKind.i64 0, v5, v45, Value.slice Option.none 0 0, Value.int IntKind.i64 0]) s44 (fun x64 l65 s66 => match x64 with | .normal => R (Value.tuple (⟨[Value.agg (⟨[vget l65 3, vget l65 4, vget l65 5, vget l65 6]⟩), vget l65 0]⟩)) s66 | .ret => R (Value.tuple (⟨[Value.agg (⟨[vget l65 3, vget l65 4, vget l65 5, vget l65 6]⟩), vget l65 0]⟩)) s66 | .exit i67 => (match Nat.beq i67 0 with | true => R (Value.tuple (⟨[Value.agg (⟨[vget l65 3, vget l65 4, vget l65 5, vget l65 6]⟩), vget l65 0]⟩)) s66 | false => False)))))))))))))))))))))))))
theorem vc_spec_StoreOpen_eq (w0 : World) (a0 : Value) (σ : Vw) (R : Value → Vw → Prop) : vc_spec_StoreOpen w0 a0 σ R = den Try.prog w0 kp_spec_StoreOpen esc_spec_StoreOpen (Try.f95.body.getD .skip) (entry Try.f95.ntmps [a0]) σ (retK Try.prog Try.f95.results.toList R) := by kernel_rfl
theorem ac_spec_StoreOpen {w0 : World} {a0 : Value} {σ : Vw} {R : Value → Vw → Prop} (h : vc_spec_StoreOpen w0 a0 σ R) : AC Try.prog w0 n_spec_StoreOpen [a0] σ R := by
  refine ac_rule (fn := Try.f95) (c := Try.f95.body.getD .skip) kp_spec_StoreOpen esc_spec_StoreOpen Try.func95 (by kernel_rfl) (by kernel_rfl) ?_
  rw [← vc_spec_StoreOpen_eq]
  exact h

/-- spec.l23Step -/
def kp_spec_l23Step : Nat → Keep
  | 5 => ⟨[], [], [], .step 0 (.step 1 (.step 2 (.step 3 (.step 4 (.done))))), [(2, [0]), (3, [0, 1, 2]), (4, [0, 1, 2, 3])]⟩
  | 7 => ⟨[], [], [], .step 0 (.step 1 (.step 2 (.step 3 (.step 5 (.step 4 (.step 6 (.step 7 (.step 8 (.done))))))))), [(3, [2]), (4, [0, 1, 2, 3]), (6, [0, 1, 2, 3, 4]), (7, [0, 1, 2, 3, 4, 5, 6]), (8, [0, 1, 2, 3, 4, 5, 6, 7])]⟩
  | 10 => ⟨[], [], [], .step 0 (.step 1 (.step 2 (.step 3 (.step 4 (.step 5 (.done)))))), [(3, [0]), (4, [0, 1, 3]), (5, [0, 1, 2, 3, 4])]⟩
  | _ => ⟨[], [], [], .done, []⟩
def esc_spec_l23Step : Nat → Bool
  | _ => false
def vc_spec_l23Step (w0 : World) (a0 a1 a2 : Value) (σ : Vw) (R : Value → Vw → Prop) : Prop :=
  pVal true 1 a0 (pVal true 4 a1 (pVal true 3 a2 (AC Try.prog w0 n_spec_StoreAppend ([Value.agg (⟨[cellOf a1 0, cellOf a1 1, cellOf a1 2, cellOf a1 3]⟩), cellOf a2 1]) σ (fun v0 s1 => pExtract v0 0 (fun v2 => pExtract v0 1 (fun v3 => pExtract v0 2 (fun v4 => pVal true 4 v3 (pIf (cellOf a2 0) (AC Try.prog w0 n_spec_StoreSave ([Value.agg (⟨[cellOf a1 0, cellOf a1 1, cellOf a1 2, cellOf a1 3]⟩), cellOf a2 1]) s1 (fun v5 s6 => pExtract v5 0 (fun v7 => pExtract v5 1 (fun v8 => pExtract v5 2 (fun v9 => pVal true 4 v8 (pBin Try.prog 3 BinOp.neq v9 (Value.int IntKind.i64 0) (fun v10 => pIf v10 (pVal true 1 (Value.agg (⟨[cellOf a0 0]⟩)) (pVal true 4 (Value.agg (⟨[cellOf a1 0, cellOf a1 1, cellOf a1 2, cellOf a1 3]⟩)) (R (Value.tuple (⟨[Value.agg (⟨[cellOf a0 0]⟩), Value.agg (⟨[cellOf a1 0, cellOf a1 1, cellOf a1 2, cellOf a1 3]⟩), Value.bool true]⟩)) s6))) (pBin Try.prog 3 BinOp.lss (cellOf a2 2) (Value.int IntKind.i64 0) (fun v11 => pIf v11 (pLen v7 (fun v12 => AC Try.prog w0 n_spec_DiskWrite ([Value.agg (⟨[cellOf a0 0]⟩), v7, v12]) s6 (fun v13 s14 => pVal true 1 v13 (pVal true 4 (Value.agg (⟨[cellOf v8 0, cellOf v8 1, cellOf v8 2, cellOf v8 3]⟩)) (R (Value.tuple (⟨[Value.agg (⟨[cellOf v13 0]⟩), Value.agg (⟨[cellOf v8 0, cellOf v8 1, cellOf v8 2, cellOf v8 3]⟩), Value.bool true]⟩)) s14))))) (AC Try.prog w0 n_spec_DiskWrite ([Value.agg (⟨[cellOf a0 0]⟩), v7, cellOf a2 2]) s6 (fun v15 s16 => pVal true 1 v15 (AC Try.prog w0 n_spec_StoreOpen ([Value.agg (⟨[cellOf v15 0]⟩)]) s16 (fun v17 s18 => pExtract v17 0 (fun v19 => pExtract v17 1 (fun v20 => pVal true 4 v19 (pVal true 1 (Value.agg (⟨[cellOf v15 0]⟩)) (pVal true 4 (Value.agg (⟨[cellOf v19 0, cellOf v19 1, cellOf v19 2, cellOf v19 3]⟩)) (R (Value.tuple (⟨[Value.agg (⟨[cellOf v15 0]⟩), Value.agg (⟨[cellOf v19 0, cellOf v19 1, cellOf v19 2, cellOf v19 3]⟩), v20]⟩)) s18)))))))))))))))))) (pBin Try.prog 3 BinOp.neq v4 (Value.int IntKind.i64 0) (fun v21 => pIf v21 (pVal true 1 (Value.agg (⟨[cellOf a0 0]⟩)) (pVal true 4 (Value.agg (⟨[cellOf a1 0, cellOf a1 1, cellOf a1 2, cellOf a1 3]⟩)) (R (Value.tuple (⟨[Value.agg (⟨[cellOf a0 0]⟩), Value.agg (⟨[cellOf a1 0, cellOf a1 1, cellOf a1 2, cellOf a1 3]⟩), Value.bool true]⟩)) s1))) (pBin Try.prog 3 BinOp.lss (cellOf a2 2) (Value.int IntKind.i64 0) (fun v22 => pIf v22 (pLen v2 (fun v23 => AC Try.prog w0 n_spec_DiskWrite ([Value.agg (⟨[cellOf a0 0]⟩), v2, v23]) s1 (fun v24 s25 => pVal true 1 v24 (pVal true 4 (Value.agg (⟨[cellOf v3 0, cellOf v3 1, cellOf v3 2, cellOf v3 3]⟩)) (R (Value.tuple (⟨[Value.agg (⟨[cellOf v24 0]⟩), Value.agg (⟨[cellOf v3 0, cellOf v3 1, cellOf v3 2, cellOf v3 3]⟩), Value.bool true]⟩)) s25))))) (AC Try.prog w0 n_spec_DiskWrite ([Value.agg (⟨[cellOf a0 0]⟩), v2, cellOf a2 2]) s1 (fun v26 s27 => pVal true 1 v26 (AC Try.prog w0 n_spec_StoreOpen ([Value.agg (⟨[cellOf v26 0]⟩)]) s27 (fun v28 s29 => pExtract v28 0 (fun v30 => pExtract v28 1 (fun v31 => pVal true 4 v30 (pVal true 1 (Value.agg (⟨[cellOf v26 0]⟩)) (pVal true 4 (Value.agg (⟨[cellOf v30 0, cellOf v30 1, cellOf v30 2, cellOf v30 3]⟩)) (R (Value.tuple (⟨[Value.agg (⟨[cellOf v26 0]⟩), Value.agg (⟨[cellOf v30 0, cellOf v30 1, cellOf v30 2, cellOf v30 3]⟩), v31]⟩)) s29)))))))))))))))))))))
theorem vc_spec_l23Step_eq (w0 : World) (a0 a1 a2 : Value) (σ : Vw) (R : Value → Vw → Prop) : vc_spec_l23Step w0 a0 a1 a2 σ R = den Try.prog w0 kp_spec_l23Step esc_spec_l23Step (Try.f96.body.getD .skip) (entry Try.f96.ntmps [a0, a1, a2]) σ (retK Try.prog Try.f96.results.toList R) := by kernel_rfl
theorem ac_spec_l23Step {w0 : World} {a0 a1 a2 : Value} {σ : Vw} {R : Value → Vw → Prop} (h : vc_spec_l23Step w0 a0 a1 a2 σ R) : AC Try.prog w0 n_spec_l23Step [a0, a1, a2] σ R := by
  refine ac_rule (fn := Try.f96) (c := Try.f96.body.getD .skip) kp_spec_l23Step esc_spec_l23Step Try.func96 (by kernel_rfl) (by kernel_rfl) ?_
  rw [← vc_spec_l23Step_eq]
  exact h

/-- spec.l22Copy -/
def kp_spec_l22Copy : Nat → Keep
  | _ => ⟨[], [], [], .done, []⟩
def esc_spec_l22Copy : Nat → Bool
  | 3 => true
  | _ => false
def vc_spec_l22Copy (w0 : World) (a0 : Value) (σ : Vw) (R : Value → Vw → Prop) : Prop :=
  pVal true 4 a0 (pNew w0 9 [] σ (fun n0 s1 => pAppendS w0 9 1 16 (Value.slice (Option.some (Addr.mk n0 0 Option.none)) 0 0) (cellOf a0 2) s1 (fun v2 s3 => pVal false 1 v2 (pVal true 4 (Value.agg (⟨[cellOf a0 0, cellOf a0 1, v2, cellOf a0 3]⟩)) (R (Value.agg (⟨[cellOf a0 0, cellOf a0 1, v2, cellOf a0 3]⟩)) s3)))))
theorem vc_spec_l22Copy_eq (w0 : World) (a0 : Value) (σ : Vw) (R : Value → Vw → Prop) : vc_spec_l22Copy w0 a0 σ R = den Try.prog w0 kp_spec_l22Copy esc_spec_l22Copy (Try.f97.body.getD .skip) (entry Try.f97.ntmps [a0]) σ (retK Try.prog Try.f97.results.toList R) := by kernel_rfl
theorem ac_spec_l22Copy {w0 : World} {a0 : Value} {σ : Vw} {R : Value → Vw → Prop} (h : vc_spec_l22Copy w0 a0 σ R) : AC Try.prog w0 n_spec_l22Copy [a0] σ R := by
  refine ac_rule (fn := Try.f97) (c := Try.f97.body.getD .skip) kp_spec_l22Copy esc_spec_l22Copy Try.func97 (by kernel_rfl) (by kernel_rfl) ?_
  rw [← vc_spec_l22Copy_eq]
  exact h

/-- spec.StoreNew -/
def kp_spec_StoreNew : Nat → Keep
  | _ => ⟨[], [], [], .done, []⟩
def esc_spec_StoreNew : Nat → Bool
  | 7 => true
  | _ => false
def vc_spec_StoreNew (w0 : World) (a0 : Value) (σ : Vw) (R : Value → Vw → Prop) : Prop :=
  AC Try.prog w0 n_spec_l22TextOk [a0] σ (fun v0 s1 => pUn UnOp.not v0 (fun v2 => pIf v2 (pNew w0 58 [] s1 (fun n3 s4 => R (Value.tuple (⟨[Value.slice (Option.some (Addr.mk n3 0 Option.none)) 0 0, Value.bool false]⟩)) s4)) (AC Try.prog w0 n_spec_l22Saved [Value.int IntKind.i64 1, a0] s1 (fun v5 s6 => R (Value.tuple (⟨[v5, Value.bool true]⟩)) s6))))
theorem vc_spec_StoreNew_eq (w0 : World) (a0 : Value) (σ : Vw) (R : Value → Vw → Prop) : vc_spec_StoreNew w0 a0 σ R = den Try.prog w0 kp_spec_StoreNew esc_spec_StoreNew (Try.f98.body.getD .skip) (entry Try.f98.ntmps [a0]) σ (retK Try.prog Try.f98.results.toList R) := by kernel_rfl
theorem ac_spec_StoreNew {w0 : World} {a0 : Value} {σ : Vw} {R : Value → Vw → Prop} (h : vc_spec_StoreNew w0 a0 σ R) : AC Try.prog w0 n_spec_StoreNew [a0] σ R := by
  refine ac_rule (fn := Try.f98) (c := Try.f98.body.getD .skip) kp_spec_StoreNew esc_spec_StoreNew Try.func98 (by kernel_rfl) (by kernel_rfl) ?_
  rw [← vc_spec_StoreNew_eq]
  exact h

/-- spec.l24Blank -/
def kp_spec_l24Blank : Nat → Keep
  | 3 => ⟨[2], [(0, 1), (1, 1)], [0, 1], .done, []⟩
  | _ => ⟨[], [], [], .done, []⟩
def esc_spec_l24Blank : Nat → Bool
  | _ => false
def vc_spec_l24Blank (w0 : World) (σ : Vw) (R : Value → Vw → Prop) : Prop :=
  pVal true 1 (Value.agg (⟨[Value.slice Option.none 0 0]⟩)) (pLoop (fun l0 K1 s2 => pBin Try.prog 3 BinOp.lss (vget l0 0) (Value.int IntKind.i64 194) (fun v3 => pIf v3 (pVal false 1 (Value.string ({ data := #[] })) ((allOne ([Value.string ({ data := #[] })])) ∧ (pAppend w0 9 1 16 (vget l0 2) 1 ([Value.string ({ data := #[] })]) s2 (fun v4 s5 => pVal false 1 v4 (pBin Try.prog 3 BinOp.add (vget l0 0) (Value.int IntKind.i64 1) (fun v6 => K1 AX.normal [v6, vget l0 1, v4] s5)))))) (K1 (AX.exit 0) [vget l0 0, vget l0 1, vget l0 2] s2))) [Value.int IntKind.i64 0, Value.slice Option.none 0 0, Value.slice Option.none 0 0] σ (fun x7 l8 s9 => match x7 with | .normal => pVal true 1 (Value.agg (⟨[vget l8 2]⟩)) (R (Value.agg (⟨[vget l8 2]⟩)) s9) | .ret => R (Value.agg (⟨[vget l8 1]⟩)) s9 | .exit i10 => (match Nat.beq i10 0 with | true => pVal true 1 (Value.agg (⟨[vget l8 2]⟩)) (R (Value.agg (⟨[vget l8 2]⟩)) s9) | false => False)))
theorem vc_spec_l24Blank_eq (w0 : World) (σ : Vw) (R : Value → Vw → Prop) : vc_spec_l24Blank w0 σ R = den Try.prog w0 kp_spec_l24Blank esc_spec_l24Blank (Try.f99.body.getD .skip) (entry Try.f99.ntmps []) σ (retK Try.prog Try.f99.results.toList R) := by kernel_rfl
theorem ac_spec_l24Blank {w0 : World} {σ : Vw} {R : Value → Vw → Prop} (h : vc_spec_l24Blank w0 σ R) : AC Try.prog w0 n_spec_l24Blank [] σ R := by
  refine ac_rule (fn := Try.f99) (c := Try.f99.body.getD .skip) kp_spec_l24Blank esc_spec_l24Blank Try.func99 (by kernel_rfl) (by kernel_rfl) ?_
  rw [← vc_spec_l24Blank_eq]
  exact h

/-- spec.l24Group -/
def kp_spec_l24Group : Nat → Keep
  | _ => ⟨[], [], [], .done, []⟩
def esc_spec_l24Group : Nat → Bool
  | 29 => true
  | _ => false
def vc_spec_l24Group (w0 : World) (a0 : Value) (σ : Vw) (R : Value → Vw → Prop) : Prop :=
  AC Try.prog w0 n_p_spec_l1Rd_pick [a0, Value.int IntKind.i64 10] σ (fun v0 s1 => pBin Try.prog 3 BinOp.eql v0 (Value.int IntKind.i64 0) (fun v2 => pIf v2 (AC Try.prog w0 n_p_spec_l1Rd_pick [a0, Value.int IntKind.i64 2] s1 (fun v3 s4 => pBin Try.prog 3 BinOp.sub (Value.int IntKind.i64 600) v3 (fun v5 => AC Try.prog w0 n_p_spec_l1Rd_pick [a0, Value.int IntKind.i64 3] s4 (fun v6 s7 => pBin Try.prog 3 BinOp.add v5 v6 (fun v8 => AC Try.prog w0 n_spec_l1Many ([Value.string ({ data := #[103] }), v8]) s7 (fun v9 s10 => R v9 s10)))))) (pBin Try.prog 3 BinOp.eql v0 (Value.int IntKind.i64 1) (fun v11 => pIf v11 (AC Try.prog w0 n_p_spec_l1Rd_pick [a0, Value.int IntKind.i64 30] s1 (fun v12 s13 => AC Try.prog w0 n_spec_l1Many ([Value.string ({ data := #[72, 32, 49, 32, 49, 32, 48] }), v12]) s13 (fun v14 s15 => R v14 s15))) (pBin Try.prog 3 BinOp.eql v0 (Value.int IntKind.i64 2) (fun v16 => pIf v16 (AC Try.prog w0 n_p_spec_l1Rd_pick [a0, Value.int IntKind.i64 4] s1 (fun v17 s18 => pBin Try.prog 3 BinOp.mul (Value.int IntKind.i64 63) v17 (fun v19 => AC Try.prog w0 n_p_spec_l1Rd_pick [a0, Value.int IntKind.i64 2] s18 (fun v20 s21 => pBin Try.prog 3 BinOp.add v19 v20 (fun v22 => AC Try.prog w0 n_spec_l1Many ([Value.string ({ data := #[100] }), v22]) s21 (fun v23 s24 => R v23 s24)))))) (pVal false 1 (Value.string ({ data := #[] })) (pVal false 1 (Value.string ({ data := #[98] })) (pVal false 1 (Value.string ({ data := #[112, 117, 116, 32, 120, 32] })) (pVal false 1 (Value.string ({ data := #[72, 32, 50, 32, 49, 32, 48] })) (pNew w0 9 ([Value.string ({ data := #[] }), Value.string ({ data := #[98] }), Value.string ({ data := #[112, 117, 116, 32, 120, 32] }), Value.string ({ data := #[72, 32, 50, 32, 49, 32, 48] })]) s1 (fun n25 s26 => AC Try.prog w0 n_p_spec_l1Rd_of [a0, Value.slice (Option.some (Addr.mk n25 0 Option.none)) 4 4] s26 (fun v27 s28 => AC Try.prog w0 n_p_spec_l1Rd_pick [a0, Value.int IntKind.i64 16] s28 (fun v29 s30 => AC Try.prog w0 n_spec_l1Many [v27, v29] s30 (fun v31 s32 => R v31 s32)))))))))))))))
theorem vc_spec_l24Group_eq (w0 : World) (a0 : Value) (σ : Vw) (R : Value → Vw → Prop) : vc_spec_l24Group w0 a0 σ R = den Try.prog w0 kp_spec_l24Group esc_spec_l24Group (Try.f100.body.getD .skip) (entry Try.f100.ntmps [a0]) σ (retK Try.prog Try.f100.results.toList R) := by kernel_rfl
theorem ac_spec_l24Group {w0 : World} {a0 : Value} {σ : Vw} {R : Value → Vw → Prop} (h : vc_spec_l24Group w0 a0 σ R) : AC Try.prog w0 n_spec_l24Group [a0] σ R := by
  refine ac_rule (fn := Try.f100) (c := Try.f100.body.getD .skip) kp_spec_l24Group esc_spec_l24Group Try.func100 (by kernel_rfl) (by kernel_rfl) ?_
  rw [← vc_spec_l24Group_eq]
  exact h

/-- spec.l24Text -/
def kp_spec_l24Text : Nat → Keep
  | _ => ⟨[], [], [], .done, []⟩
def esc_spec_l24Text : Nat → Bool
  | 27 => true
  | _ => false
def vc_spec_l24Text (w0 : World) (a0 : Value) (σ : Vw) (R : Value → Vw → Prop) : Prop :=
  AC Try.prog w0 n_p_spec_l1Rd_pick [a0, Value.int IntKind.i64 12] σ (fun v0 s1 => pBin Try.prog 3 BinOp.eql v0 (Value.int IntKind.i64 0) (fun v2 => pIf v2 (AC Try.prog w0 n_p_spec_l1Rd_pick [a0, Value.int IntKind.i64 2] s1 (fun v3 s4 => pBin Try.prog 3 BinOp.sub (Value.int IntKind.i64 5760) v3 (fun v5 => AC Try.prog w0 n_p_spec_l1Rd_pick [a0, Value.int IntKind.i64 2] s4 (fun v6 s7 => pBin Try.prog 3 BinOp.add v5 v6 (fun v8 => AC Try.prog w0 n_spec_l1Many ([Value.string ({ data := #[121] }), v8]) s7 (fun v9 s10 => R v9 s10)))))) (pBin Try.prog 3 BinOp.eql v0 (Value.int IntKind.i64 1) (fun v11 => pIf v11 (AC Try.prog w0 n_p_spec_l1Rd_pick [a0, Value.int IntKind.i64 20] s1 (fun v12 s13 => AC Try.prog w0 n_spec_l1Many ([Value.string ({ data := #[72, 32, 49, 32, 48, 32, 51, 32] }), v12]) s13 (fun v14 s15 => pBin Try.prog 9 BinOp.add v14 (Value.string ({ data := #[67, 32, 57, 32, 48] })) (fun v16 => R v16 s15)))) (pBin Try.prog 3 BinOp.eql v0 (Value.int IntKind.i64 2) (fun v17 => pIf v17 (AC Try.prog w0 n_p_spec_l1Rd_pick [a0, Value.int IntKind.i64 4] s1 (fun v18 s19 => pBin Try.prog 3 BinOp.mul (Value.int IntKind.i64 64) v18 (fun v20 => AC Try.prog w0 n_spec_l1Many ([Value.string ({ data := #[122] }), v20]) s19 (fun v21 s22 => R v21 s22)))) (pVal false 1 (Value.string ({ data := #[] })) (pVal false 1 (Value.string ({ data := #[97] })) (pVal false 1 (Value.string ({ data := #[104, 101, 108, 108, 111, 32] })) (pVal false 1 (Value.string ({ data := #[67, 32, 51, 32, 49] })) (pVal false 1 (Value.string ({ data := #[72, 32, 50, 32, 48, 32, 49] })) (pVal false 1 (Value.string ({ data := #[0] })) (pNew w0 9 ([Value.string ({ data := #[] }), Value.string ({ data := #[97] }), Value.string ({ data := #[104, 101, 108, 108, 111, 32] }), Value.string ({ data := #[67, 32, 51, 32, 49] }), Value.string ({ data := #[72, 32, 50, 32, 48, 32, 49] }), Value.string ({ data := #[0] })]) s1 (fun n23 s24 => AC Try.prog w0 n_p_spec_l1Rd_of [a0, Value.slice (Option.some (Addr.mk n23 0 Option.none)) 6 6] s24 (fun v25 s26 => AC Try.prog w0 n_p_spec_l1Rd_pick [a0, Value.int IntKind.i64 30] s26 (fun v27 s28 => AC Try.prog w0 n_spec_l1Many [v25, v27] s28 (fun v29 s30 => R v29 s30)))))))))))))))))
theorem vc_spec_l24Text_eq (w0 : World) (a0 : Value) (σ : Vw) (R : Value → Vw → Prop) : vc_spec_l24Text w0 a0 σ R = den Try.prog w0 kp_spec_l24Text esc_spec_l24Text (Try.f101.body.getD .skip) (entry Try.f101.ntmps [a0]) σ (retK Try.prog Try.f101.results.toList R) := by kernel_rfl
theorem ac_spec_l24Text {w0 : World} {a0 : Value} {σ : Vw} {R : Value → Vw → Prop} (h : vc_spec_l24Text w0 a0 σ R) : AC Try.prog w0 n_spec_l24Text [a0] σ R := by
  refine ac_rule (fn := Try.f101) (c := Try.f101.body.getD .skip) kp_spec_l24Text esc_spec_l24Text Try.func101 (by kernel_rfl) (by kernel_rfl) ?_
  rw [← vc_spec_l24Text_eq]
  exact h

/-- spec.l22Found -/
def kp_spec_l22Found : Nat → Keep
  | _ => ⟨[], [], [], .done, []⟩
def esc_spec_l22Found : Nat → Bool
  | _ => false
def vc_spec_l22Found (w0 : World) (a0 a1 : Value) (σ : Vw) (R : Value → Vw → Prop) : Prop :=
  pVal true 1 a0 (pIndexAddr 1 (cellOf a0 0) a1 (fun v0 => pLoad w0 1 v0 σ (fun g1 => AC Try.prog w0 n_spec_l22Cut [g1 0, Value.int IntKind.u8 32] σ (fun v2 s3 => pLen v2 (fun v4 => pBin Try.prog 3 BinOp.neq v4 (Value.int IntKind.i64 3) (fun v5 => pIf v5 (R (Value.tuple (⟨[Value.int IntKind.i64 0, Value.int IntKind.i64 0]⟩)) s3) (pIndexAddr 1 v2 (Value.int IntKind.i64 0) (fun v6 => pLoad w0 1 v6 s3 (fun g7 => pBin Try.prog 9 BinOp.neq (g7 0) (Value.string ({ data := #[67] })) (fun v8 => pIf v8 (R (Value.tuple (⟨[Value.int IntKind.i64 0, Value.int IntKind.i64 0]⟩)) s3) (pIndexAddr 1 v2 (Value.int IntKind.i64 1) (fun v9 => pLoad w0 1 v9 s3 (fun g10 => AC Try.prog w0 n_spec_l22Num [g10 0] s3 (fun v11 s12 => pIndexAddr 1 v2 (Value.int IntKind.i64 2) (fun v13 => pLoad w0 1 v13 s12 (fun g14 => AC Try.prog w0 n_spec_l22Num [g14 0] s12 (fun v15 s16 => AC Try.prog w0 n_spec_l21In [v11, Value.int IntKind.i64 1, Value.int IntKind.i64 99999] s16 (fun v17 s18 => pUn UnOp.not v17 (fun v19 => pIf v19 (R (Value.tuple (⟨[Value.int IntKind.i64 0, Value.int IntKind.i64 0]⟩)) s18) (pBin Try.prog 3 BinOp.rem v11 (Value.int IntKind.i64 2) (fun v20 => pBin Try.prog 3 BinOp.neq v20 a1 (fun v21 => pIf v21 (R (Value.tuple (⟨[Value.int IntKind.i64 0, Value.int IntKind.i64 0]⟩)) s18) (AC Try.prog w0 n_spec_l21In [v15, Value.int IntKind.i64 0, Value.int IntKind.i64 5760] s18 (fun v22 s23 => pUn UnOp.not v22 (fun v24 => pIf v24 (R (Value.tuple (⟨[Value.int IntKind.i64 0, Value.int IntKind.i64 0]⟩)) s23) (R (Value.tuple (⟨[v11, v15]⟩)) s23))))))))))))))))))))))))))
theorem vc_spec_l22Found_eq (w0 : World) (a0 a1 : Value) (σ : Vw) (R : Value → Vw → Prop) : vc_spec_l22Found w0 a0 a1 σ R = den Try.prog w0 kp_spec_l22Found esc_spec_l22Found (Try.f102.body.getD .skip) (entry Try.f102.ntmps [a0, a1]) σ (retK Try.prog Try.f102.results.toList R) := by kernel_rfl
theorem ac_spec_l22Found {w0 : World} {a0 a1 : Value} {σ : Vw} {R : Value → Vw → Prop} (h : vc_spec_l22Found w0 a0 a1 σ R) : AC Try.prog w0 n_spec_l22Found [a0, a1] σ R := by
  refine ac_rule (fn := Try.f102) (c := Try.f102.body.getD .skip) kp_spec_l22Found esc_spec_l22Found Try.func102 (by kernel_rfl) (by kernel_rfl) ?_
  rw [← vc_spec_l22Found_eq]
  exact h

/-- spec.l22Text -/
def kp_spec_l22Text : Nat → Keep
  | 3 => ⟨[1, 2, 3, 4, 10, 11, 12, 13], [(5, 1)], [5], .done, []⟩
  | _ => ⟨[], [], [], .done, []⟩
def esc_spec_l22Text : Nat → Bool
  | _ => false
def vc_spec_l22Text (w0 : World) (a0 a1 a2 a3 a4 : Value) (σ : Vw) (R : Value → Vw → Prop) : Prop :=
  pVal true 1 a0 (pLoop (fun l0 K1 s2 => pLenS (vget l0 6) (fun v3 => pBin Try.prog 3 BinOp.lss v3 (vget l0 2) (fun v4 => pIf v4 (pBin Try.prog 3 BinOp.geq (vget l0 7) (vget l0 1) (fun v5 => pIf v5 (K1 AX.ret ([vget l0 0, vget l0 1, vget l0 2, vget l0 3, Value.string ({ data := #[] }), Value.bool false, vget l0 6, vget l0 7, vget l0 8]) s2) (pBin Try.prog 3 BinOp.add (vget l0 0) (vget l0 7) (fun v6 => pIndexAddr 1 (vget l0 8) v6 (fun v7 => pLoad w0 1 v7 s2 (fun g8 => pLenS (g8 0) (fun v9 => pBin Try.prog 3 BinOp.leq v9 (vget l0 3) (fun v10 => pIf v10 (K1 AX.ret ([vget l0 0, vget l0 1, vget l0 2, vget l0 3, Value.string ({ data := #[] }), Value.bool false, vget l0 6, vget l0 7, vget l0 8]) s2) (pBin Try.prog 3 BinOp.eql (vget l0 3) (Value.int IntKind.i64 1) (fun v11 => pIf v11 (pBin Try.prog 3 BinOp.add (vget l0 0) (vget l0 7) (fun v12 => pIndexAddr 1 (vget l0 8) v12 (fun v13 => pLoad w0 1 v13 s2 (fun g14 => pIndexStr (g14 0) (Value.int IntKind.i64 0) (fun v15 => pBin Try.prog 5 BinOp.neq v15 (Value.int IntKind.u8 68) (fun v16 => pIf v16 (K1 AX.ret ([vget l0 0, vget l0 1, vget l0 2, vget l0 3, Value.string ({ data := #[] }), Value.bool false, vget l0 6, vget l0 7, vget l0 8]) s2) (pBin Try.prog 3 BinOp.add (vget l0 0) (vget l0 7) (fun v17 => pIndexAddr 1 (vget l0 8) v17 (fun v18 => pLoad w0 1 v18 s2 (fun g19 => pSliceStr (g19 0) (Option.some (vget l0 3)) Option.none (fun v20 => pBin Try.prog 9 BinOp.add (vget l0 6) v20 (fun v21 => pBin Try.prog 3 BinOp.add (vget l0 7) (Value.int IntKind.i64 1) (fun v22 => K1 AX.normal [vget l0 0, vget l0 1, vget l0 2, vget l0 3, vget l0 4, vget l0 5, v21, v22, vget l0 8] s2))))))))))))) (pBin Try.prog 3 BinOp.add (vget l0 0) (vget l0 7) (fun v23 => pIndexAddr 1 (vget l0 8) v23 (fun v24 => pLoad w0 1 v24 s2 (fun g25 => pSliceStr (g25 0) (Option.some (vget l0 3)) Option.none (fun v26 => pBin Try.prog 9 BinOp.add (vget l0 6) v26 (fun v27 => pBin Try.prog 3 BinOp.add (vget l0 7) (Value.int IntKind.i64 1) (fun v28 => K1 AX.normal [vget l0 0, vget l0 1, vget l0 2, vget l0 3, vget l0 4, vget l0 5, v27, v28, vget l0 8] s2))))))))))))))))) (K1 (AX.exit 0) [vget l0 0, vget l0 1, vget l0 2, vget l0 3, vget l0 4, vget l0 5, vget l0 6, vget l0 7, vget l0 8] s2)))) ([a1, a2, a3, a4, Value.string ({ data := #[] }), Value.bool false, Value.string ({ data := #[] }), Value.int IntKind.i64 0, cellOf a0 0]) σ (fun x29 l30 s31 => match x29 with | .normal => pLenS (vget l30 6) (fun v32 => pBin Try.prog 3 BinOp.eql v32 (vget l30 2) (fun v33 => R (Value.tuple (⟨[vget l30 6, v33]⟩)) s31)) | .ret => R (Value.tuple (⟨[vget l30 4, vget l30 5]⟩)) s31 | .exit i34 => (match Nat.beq i34 0 with | true => pLenS (vget l30 6) (fun v35 => pBin Try.prog 3 BinOp.eql v35 (vget l30 2) (fun v36 => R (Value.tuple (⟨[vget l30 6, v36]⟩)) s31)) | false => False)))
theorem vc_spec_l22Text_eq (w0 : World) (a0 a1 a2 a3 a4 : Value) (σ : Vw) (R : Value → Vw → Prop) : vc_spec_l22Text w0 a0 a1 a2 a3 a4 σ R = den Try.prog w0 kp_spec_l22Text esc_spec_l22Text (Try.f103.body.getD .skip) (entry Try.f103.ntmps [a0, a1, a2, a3, a4]) σ (retK Try.prog Try.f103.results.toList R) := by kernel_rfl
theorem ac_spec_l22Text {w0 : World} {a0 a1 a2 a3 a4 : Value} {σ : Vw} {R : Value → Vw → Prop} (h : vc_spec_l22Text w0 a0 a1 a2 a3 a4 σ R) : AC Try.prog w0 n_spec_l22Text [a0, a1, a2, a3, a4] σ R := by
  refine ac_rule (fn := Try.f103) (c := Try.f103.body.getD .skip) kp_spec_l22Text esc_spec_l22Text Try.func103 (by kernel_rfl) (by kernel_rfl) ?_
  rw [← vc_spec_l22Text_eq]
  exact h

/-- spec.l22Area -/
def kp_spec_l22Area : Nat → Keep
  | _ => ⟨[], [], [], .done, []⟩
def esc_spec_l22Area : Nat → Bool
  | _ => false
def vc_spec_l22Area (w0 : World) (a0 : Value) (σ : Vw) (R : Value → Vw → Prop) : Prop :=
  pBin Try.prog 3 BinOp.rem a0 (Value.int IntKind.i64 2) (fun v0 => pBin Try.prog 3 BinOp.mul v0 (Value.int IntKind.i64 90) (fun v1 => pBin Try.prog 3 BinOp.add (Value.int IntKind.i64 14) v1 (fun v2 => R v2 σ)))
theorem vc_spec_l22Area_eq (w0 : World) (a0 : Value) (σ : Vw) (R : Value → Vw → Prop) : vc_spec_l22Area w0 a0 σ R = den Try.prog w0 kp_spec_l22Area esc_spec_l22Area (Try.f104.body.getD .skip) (entry Try.f104.ntmps [a0]) σ (retK Try.prog Try.f104.results.toList R) := by kernel_rfl
theorem ac_spec_l22Area {w0 : World} {a0 : Value} {σ : Vw} {R : Value → Vw → Prop} (h : vc_spec_l22Area w0 a0 σ R) : AC Try.prog w0 n_spec_l22Area [a0] σ R := by
  refine ac_rule (fn := Try.f104) (c := Try.f104.body.getD .skip) kp_spec_l22Area esc_spec_l22Area Try.func104 (by kernel_rfl) (by kernel_rfl) ?_
  rw [← vc_spec_l22Area_eq]
  exact h

/-- spec.l22Group -/
def kp_spec_l22Group : Nat → Keep
  | _ => ⟨[], [], [], .done, []⟩
def esc_spec_l22Group : Nat → Bool
  | _ => false
def vc_spec_l22Group (w0 : World) (a0 a1 a2 a3 : Value) (σ : Vw) (R : Value → Vw → Prop) : Prop :=
  pVal true 1 a0 (pBin Try.prog 3 BinOp.geq a3 (Value.int IntKind.i64 12) (fun v0 => pIf v0 (R (Value.tuple (⟨[Value.string ({ data := #[] }), Value.int IntKind.i64 0]⟩)) σ) (pBin Try.prog 3 BinOp.add (Value.int IntKind.i64 2) a3 (fun v1 => pIndexAddr 1 (cellOf a0 0) v1 (fun v2 => pLoad w0 1 v2 σ (fun g3 => AC Try.prog w0 n_spec_l22Cut [g3 0, Value.int IntKind.u8 32] σ (fun v4 s5 => pLen v4 (fun v6 => pBin Try.prog 3 BinOp.neq v6 (Value.int IntKind.i64 4) (fun v7 => pIf v7 (R (Value.tuple (⟨[Value.string ({ data := #[] }), Value.int IntKind.i64 0]⟩)) s5) (pIndexAddr 1 v4 (Value.int IntKind.i64 0) (fun v8 => pLoad w0 1 v8 s5 (fun g9 => pBin Try.prog 9 BinOp.neq (g9 0) (Value.string ({ data := #[72] })) (fun v10 => pIf v10 (R (Value.tuple (⟨[Value.string ({ data := #[] }), Value.int IntKind.i64 0]⟩)) s5) (pIndexAddr 1 v4 (Value.int IntKind.i64 1) (fun v11 => pLoad w0 1 v11 s5 (fun g12 => AC Try.prog w0 n_spec_l22Num [g12 0] s5 (fun v13 s14 => pBin Try.prog 3 BinOp.neq v13 a1 (fun v15 => pIf v15 (R (Value.tuple (⟨[Value.string ({ data := #[] }), Value.int IntKind.i64 0]⟩)) s14) (pIndexAddr 1 v4 (Value.int IntKind.i64 2) (fun v16 => pLoad w0 1 v16 s14 (fun g17 => AC Try.prog w0 n_spec_l22Num [g17 0] s14 (fun v18 s19 => pBin Try.prog 3 BinOp.neq v18 a2 (fun v20 => pIf v20 (R (Value.tuple (⟨[Value.string ({ data := #[] }), Value.int IntKind.i64 0]⟩)) s19) (pIndexAddr 1 v4 (Value.int IntKind.i64 3) (fun v21 => pLoad w0 1 v21 s19 (fun g22 => AC Try.prog w0 n_spec_l22Num [g22 0] s19 (fun v23 s24 => pBin Try.prog 3 BinOp.add v23 (Value.int IntKind.i64 64) (fun v25 => pBin Try.prog 3 BinOp.sub v25 (Value.int IntKind.i64 2) (fun v26 => pBin Try.prog 3 BinOp.quo v26 (Value.int IntKind.i64 63) (fun v27 => pBin Try.prog 3 BinOp.add (Value.int IntKind.i64 1) v27 (fun v28 => AC Try.prog w0 n_spec_l21In [v23, Value.int IntKind.i64 0, Value.int IntKind.i64 600] s24 (fun v29 s30 => pUn UnOp.not v29 (fun v31 => pIf v31 (R (Value.tuple (⟨[Value.string ({ data := #[] }), Value.int IntKind.i64 0]⟩)) s30) (pBin Try.prog 3 BinOp.add a3 v28 (fun v32 => pBin Try.prog 3 BinOp.gtr v32 (Value.int IntKind.i64 12) (fun v33 => pIf v33 (R (Value.tuple (⟨[Value.string ({ data := #[] }), Value.int IntKind.i64 0]⟩)) s30) (pBin Try.prog 3 BinOp.add (Value.int IntKind.i64 2) a3 (fun v34 => pBin Try.prog 3 BinOp.add v34 (Value.int IntKind.i64 1) (fun v35 => pBin Try.prog 3 BinOp.sub v28 (Value.int IntKind.i64 1) (fun v36 => AC Try.prog w0 n_spec_l22Text ([Value.agg (⟨[cellOf a0 0]⟩), v35, v36, v23, Value.int IntKind.i64 1]) s30 (fun v37 s38 => pExtract v37 0 (fun v39 => pExtract v37 1 (fun v40 => pUn UnOp.not v40 (fun v41 => pIf v41 (R (Value.tuple (⟨[Value.string ({ data := #[] }), Value.int IntKind.i64 0]⟩)) s38) (R (Value.tuple (⟨[v39, v28]⟩)) s38)))))))))))))))))))))))))))))))))))))))))))))
theorem vc_spec_l22Group_eq (w0 : World) (a0 a1 a2 a3 : Value) (σ : Vw) (R : Value → Vw → Prop) : vc_spec_l22Group w0 a0 a1 a2 a3 σ R = den Try.prog w0 kp_spec_l22Group esc_spec_l22Group (Try.f105.body.getD .skip) (entry Try.f105.ntmps [a0, a1, a2, a3]) σ (retK Try.prog Try.f105.results.toList R) := by kernel_rfl
theorem ac_spec_l22Group {w0 : World} {a0 a1 a2 a3 : Value} {σ : Vw} {R : Value → Vw → Prop} (h : vc_spec_l22Group w0 a0 a1 a2 a3 σ R) : AC Try.prog w0 n_spec_l22Group [a0, a1, a2, a3] σ R := by
  refine ac_rule (fn := Try.f105) (c := Try.f105.body.getD .skip) kp_spec_l22Group esc_spec_l22Group Try.func105 (by kernel_rfl) (by kernel_rfl) ?_
  rw [← vc_spec_l22Group_eq]
  exact h

/-- spec.l22Clean -/
def kp_spec_l22Clean : Nat → Keep
  | 2 => ⟨[5, 6], [(2, 1), (3, 4), (4, 4)], [2, 3, 4], .done, []⟩
  | 5 => ⟨[], [], [], .step 0 (.step 1 (.step 2 (.step 3 (.step 4 (.step 5 (.step 6 (.step 7 (.step 8 (.step 9 (.step 10 (.step 11 (.step 12 (.step 14 (.step 15 (.step 13 (.step 16 (.step 17 (.done)))))))))))))))))), [(1, [0]), (2, [0, 1]), (3, [0, 1, 2]), (4, [0, 1, 2, 3]), (5, [0, 1, 2, 3, 4]), (6, [0, 1, 2, 3, 4, 5]), (7, [0, 1, 2, 3, 4, 5, 6]), (8, [0, 1, 2, 3, 4, 5, 6, 7]), (9, [0, 1, 2, 3, 4, 5, 6, 7, 8]), (10, [0, 1, 2, 3, 4, 5, 6, 7, 8, 9]), (11, [0, 1, 2, 3, 4, 5, 6, 7, 8, 9, 10]), (12, [0, 1, 2, 3, 4, 5, 6, 7, 8, 9, 10, 11]), (13, [0, 1, 2, 3, 4, 5, 6, 7, 8, 9, 10, 11, 12]), (14, [0, 1, 2, 3, 4, 5, 6, 7, 8, 9]), (15, [0, 1, 2, 3, 4, 5, 6, 7, 8, 9, 14]), (16, [0, 1, 2, 3, 4, 5, 6, 7, 8, 9, 10, 11, 12, 13, 14, 15]), (17, [0, 1, 2, 3, 4, 5, 6, 7, 8, 9, 10, 11, 12, 13, 14, 15, 16])]⟩
  | _ => ⟨[], [], [], .done, []⟩
def esc_spec_l22Clean : Nat → Bool
  | _ => false
def vc_spec_l22Clean (w0 : World) (a0 a1 : Value) (σ : Vw) (R : Value → Vw → Prop) : Prop :=
  pVal true 1 a0 (pVal true 4 a1 (pLoop (fun l0 K1 s2 => pBin Try.prog 3 BinOp.lss (vget l0 1) (Value.int IntKind.i64 12) (fun v3 => pIf v3 (pBin Try.prog 3 BinOp.add (Value.int IntKind.i64 2) (vget l0 1) (fun v4 => pIndexAddr 1 (vget l0 2) v4 (fun v5 => pLoad w0 1 v5 s2 (fun g6 => AC Try.prog w0 n_spec_l22Cut [g6 0, Value.int IntKind.u8 32] s2 (fun v7 s8 => pLen v7 (fun v9 => pBin Try.prog 3 BinOp.eql v9 (Value.int IntKind.i64 4) (fun v10 => pIf v10 (pIndexAddr 1 v7 (Value.int IntKind.i64 0) (fun v11 => pLoad w0 1 v11 s8 (fun g12 => pBin Try.prog 9 BinOp.eql (g12 0) (Value.string ({ data := #[72] })) (fun v13 => pIf v13 (pIndexAddr 1 v7 (Value.int IntKind.i64 1) (fun v14 => pLoad w0 1 v14 s8 (fun g15 => AC Try.prog w0 n_spec_l22Num [g15 0] s8 (fun v16 s17 => pBin Try.prog 3 BinOp.geq v16 (vget l0 3) (fun v18 => pIf v18 (pVal true 4 (Value.agg (⟨[Value.int IntKind.i64 0, Value.string ({ data := #[] }), Value.slice Option.none 0 0, Value.int IntKind.i64 0]⟩)) (K1 AX.ret ([Value.bool false, vget l0 1, vget l0 2, vget l0 3, vget l0 4, vget l0 5, vget l0 6, Value.int IntKind.i64 0, Value.string ({ data := #[] }), Value.slice Option.none 0 0, Value.int IntKind.i64 0]) s17)) (pBin Try.prog 3 BinOp.add (vget l0 1) (Value.int IntKind.i64 1) (fun v19 => K1 AX.normal [vget l0 0, v19, vget l0 2, vget l0 3, vget l0 4, vget l0 5, vget l0 6, vget l0 7, vget l0 8, vget l0 9, vget l0 10] s17))))))) (pBin Try.prog 3 BinOp.add (vget l0 1) (Value.int IntKind.i64 1) (fun v20 => K1 AX.normal [vget l0 0, v20, vget l0 2, vget l0 3, vget l0 4, vget l0 5, vget l0 6, vget l0 7, vget l0 8, vget l0 9, vget l0 10] s8)))))) (pBin Try.prog 3 BinOp.add (vget l0 1) (Value.int IntKind.i64 1) (fun v21 => K1 AX.normal [vget l0 0, v21, vget l0 2, vget l0 3, vget l0 4, vget l0 5, vget l0 6, vget l0 7, vget l0 8, vget l0 9, vget l0 10] s8))))))))) (K1 (AX.exit 0) [vget l0 0, vget l0 1, vget l0 2, vget l0 3, vget l0 4, vget l0 5, vget l0 6, vget l0 7, vget l0 8, vget l0 9, vget l0 10] s2))) ([Value.bool false, cellOf a1 3, cellOf a0 0, cellOf a1 0, cellOf a1 1, cellOf a1 2, cellOf a1 3, Value.int IntKind.i64 0, Value.string ({ data := #[] }), Value.slice Option.none 0 0, Value.int IntKind.i64 0]) σ (fun x22 l23 s24 => match x22 with | .normal => pVal true 4 (Value.agg (⟨[vget l23 3, vget l23 4, vget l23 5, vget l23 6]⟩)) (R (Value.tuple (⟨[Value.agg (⟨[vget l23 3, vget l23 4, vget l23 5, vget l23 6]⟩), Value.bool true]⟩)) s24) | .ret => R (Value.tuple (⟨[Value.agg (⟨[vget l23 7, vget l23 8, vget l23 9, vget l23 10]⟩), vget l23 0]⟩)) s24 | .exit i25 => (match Nat.beq i25 0 with | true => pVal true 4 (Value.agg (⟨[vget l23 3, vget l23 4, vget l23 5, vget l23 6]⟩)) (R (Value.tuple (⟨[Value.agg (⟨[vget l23 3, vget l23 4, vget l23 5, vget l23 6]⟩), Value.bool true]⟩)) s24) | false => False))))
theorem vc_spec_l22Clean_eq (w0 : World) (a0 a1 : Value) (σ : Vw) (R : Value → Vw → Prop) : vc_spec_l22Clean w0 a0 a1 σ R = den Try.prog w0 kp_spec_l22Clean esc_spec_l22Clean (Try.f106.body.getD .skip) (entry Try.f106.ntmps [a0, a1]) σ (retK Try.prog Try.f106.results.toList R) := by kernel_rfl
theorem ac_spec_l22Clean {w0 : World} {a0 a1 : Value} {σ : Vw} {R : Value → Vw → Prop} (h : vc_spec_l22Clean w0 a0 a1 σ R) : AC Try.prog w0 n_spec_l22Clean [a0, a1] σ R := by
  refine ac_rule (fn := Try.f106) (c := Try.f106.body.getD .skip) kp_spec_l22Clean esc_spec_l22Clean Try.func106 (by kernel_rfl) (by kernel_rfl) ?_
  rw [← vc_spec_l22Clean_eq]
  exact h

/-- spec.StoreAppend -/
def kp_spec_StoreAppend : Nat → Keep
  | 6 => ⟨[], [], [], .step 0 (.step 1 (.step 2 (.step 3 (.step 4 (.step 5 (.done)))))), [(1, [0]), (3, [2]), (4, [0, 1, 2, 3]), (5, [0, 1, 2, 3, 4])]⟩
  | 10 => ⟨[1, 8, 9], [(2, 4), (5, 4)], [2, 5], .done, []⟩
  | 12 => ⟨[], [], [], .step 0 (.step 1 (.step 2 (.step 3 (.step 4 (.step 5 (.step 6 (.step 7 (.step 8 (.step 9 (.step 10 (.step 11 (.step 12 (.step 13 (.step 14 (.done))))))))))))))), [(2, [1]), (3, [1, 2]), (4, [1, 2, 3]), (6, [1, 2, 3, 4, 5]), (9, [7, 8]), (10, [7, 8, 9]), (11, [1, 2, 3, 4, 5, 6, 7, 8, 9, 10]), (12, [1, 2, 3, 4, 5, 6, 7, 8, 9, 10, 11]), (13, [0, 1, 2, 3, 4, 5, 6, 7, 8, 9, 10, 11, 12]), (14, [0, 1, 2, 3, 4, 5, 6, 7, 8, 9, 10, 11, 12, 13])]⟩
  | 13 => ⟨[], [], [], .step 0 (.step 1 (.step 2 (.step 3 (.step 4 (.step 5 (.step 9 (.step 10 (.step 11 (.step 15 (.step 16 (.step 6 (.step 7 (.step 8 (.step 12 (.step 13 (.step 14 (.step 17 (.step 18 (.step 19 (.step 20 (.step 21 (.step 22 (.done))))))))))))))))))))))), [(2, [1]), (3, [1, 2]), (5, [4]), (6, [4, 5]), (7, [4, 5, 6]), (8, [4, 5, 6, 7]), (10, [9]), (11, [9, 10]), (12, [4, 5, 6, 9, 10, 11]), (13, [4, 5, 6, 7, 8, 9, 10, 11, 12]), (14, [4, 5, 6, 7, 8, 9, 10, 11, 12, 13]), (16, [15]), (17, [4, 5, 6, 9, 10, 11, 12, 15, 16]), (18, [4, 5, 6, 7, 8, 9, 10, 11, 12, 13, 14, 15, 16, 17]), (19, [1, 2, 3, 4, 5, 6, 7, 8, 9, 10, 11, 12, 13, 14, 15, 16, 17, 18]), (20, [1, 2, 3, 4, 5, 6, 7, 8, 9, 10, 11, 12, 13, 14, 15, 16, 17, 18, 19]), (21, [0, 1, 2, 3, 4, 5, 6, 7, 8, 9, 10, 11, 12, 13, 14, 15, 16, 17, 18, 19, 20]), (22, [0, 1, 2, 3, 4, 5, 6, 7, 8, 9, 10, 11, 12, 13, 14, 15, 16, 17, 18, 19, 20, 21])]⟩
  | 16 => ⟨[], [], [], .step 0 (.step 1 (.step 2 (.step 3 (.step 4 (.step 5 (.step 6 (.done))))))), [(1, [0]), (3, [2]), (4, [0, 1, 2, 3]), (5, [0, 1, 2, 3, 4]), (6, [0, 1, 2, 3, 4, 5])]⟩
  | 17 => ⟨[], [], [], .step 0 (.step 1 (.step 2 (.step 3 (.step 4 (.done))))), [(2, [0]), (3, [0, 1, 2]), (4, [0, 1, 2, 3])]⟩
  | _ => ⟨[], [], [], .done, []⟩
def esc_spec_StoreAppend : Nat → Bool
  | 11 => true
  | 32 => true
  | _ => false
def vc_spec_StoreAppend (w0 : World) (a0 a1 : Value) (σ : Vw) (R : Value → Vw → Prop) : Prop :=
  pVal true 4 a0 (pNew w0 58 [] σ (fun n0 s1 => AC Try.prog w0 n_spec_l22Ok ([Value.agg (⟨[cellOf a0 0, cellOf a0 1, cellOf a0 2, cellOf a0 3]⟩)]) s1 (fun v2 s3 => pUn UnOp.not v2 (fun v4 => pIf v4 (pVal true 4 (Value.agg (⟨[Value.int IntKind.i64 0, Value.string ({ data := #[] }), Value.slice Option.none 0 0, Value.int IntKind.i64 0]⟩)) (R (Value.tuple (⟨[Value.slice (Option.some (Addr.mk n0 0 Option.none)) 0 0, Value.agg (⟨[Value.int IntKind.i64 0, Value.string ({ data := #[] }), Value.slice Option.none 0 0, Value.int IntKind.i64 0]⟩), Value.int IntKind.i64 1]⟩)) s3)) (pLenS a1 (fun v5 => pBin Try.prog 3 BinOp.gtr v5 (Value.int IntKind.i64 600) (fun v6 => pIf v6 (AC Try.prog w0 n_spec_l22Copy ([Value.agg (⟨[cellOf a0 0, cellOf a0 1, cellOf a0 2, cellOf a0 3]⟩)]) s3 (fun v7 s8 => pVal true 4 v7 (R (Value.tuple (⟨[Value.slice (Option.some (Addr.mk n0 0 Option.none)) 0 0, Value.agg (⟨[cellOf v7 0, cellOf v7 1, cellOf v7 2, cellOf v7 3]⟩), Value.int IntKind.i64 6]⟩)) s8))) (AC Try.prog w0 n_spec_l22Blocks [a1] s3 (fun v9 s10 => pBin Try.prog 3 BinOp.add (cellOf a0 3) v9 (fun v11 => pBin Try.prog 3 BinOp.gtr v11 (Value.int IntKind.i64 12) (fun v12 => pIf v12 (AC Try.prog w0 n_spec_l22Copy ([Value.agg (⟨[cellOf a0 0, cellOf a0 1, cellOf a0 2, cellOf a0 3]⟩)]) s10 (fun v13 s14 => pVal true 4 v13 (R (Value.tuple (⟨[Value.slice (Option.some (Addr.mk n0 0 Option.none)) 0 0, Value.agg (⟨[cellOf v13 0, cellOf v13 1, cellOf v13 2, cellOf v13 3]⟩), Value.int IntKind.i64 4]⟩)) s14))) (pNew w0 58 [] s10 (fun n15 s16 => pLoop (fun l17 K18 s19 => AC Try.prog w0 n_spec_l22Blocks [vget l17 0] s19 (fun v20 s21 => pBin Try.prog 3 BinOp.sub v20 (Value.int IntKind.i64 1) (fun v22 => pBin Try.prog 3 BinOp.lss (vget l17 2) v22 (fun v23 => pIf v23 (pBin Try.prog 3 BinOp.add (Value.int IntKind.i64 2) (vget l17 6) (fun v24 => pBin Try.prog 3 BinOp.add v24 (Value.int IntKind.i64 1) (fun v25 => pBin Try.prog 3 BinOp.add v25 (vget l17 2) (fun v26 => AC Try.prog w0 n_spec_l22Piece [vget l17 0, vget l17 2, Value.int IntKind.i64 63] s21 (fun v27 s28 => pBin Try.prog 9 BinOp.add (Value.string ({ data := #[68] })) v27 (fun v29 => pVal false 1 v26 (pVal false 1 v29 (pVal true 2 (Value.agg (⟨[v26, v29]⟩)) ((allOne [v26, v29]) ∧ (pAppend w0 58 2 24 (vget l17 1) 1 [v26, v29] s28 (fun v30 s31 => pBin Try.prog 3 BinOp.add (vget l17 2) (Value.int IntKind.i64 1) (fun v32 => K18 AX.normal [vget l17 0, v30, v32, vget l17 3, vget l17 4, vget l17 5, vget l17 6, vget l17 7, vget l17 8, vget l17 9, vget l17 10] s31)))))))))))) (K18 (AX.exit 0) [vget l17 0, vget l17 1, vget l17 2, vget l17 3, vget l17 4, vget l17 5, vget l17 6, vget l17 7, vget l17 8, vget l17 9, vget l17 10] s21))))) ([a1, Value.slice (Option.some (Addr.mk n15 0 Option.none)) 0 0, Value.int IntKind.i64 0, cellOf a0 0, cellOf a0 1, cellOf a0 2, cellOf a0 3, Value.int IntKind.i64 0, Value.string ({ data := #[] }), Value.slice Option.none 0 0, Value.int IntKind.i64 0]) s16 (fun x33 l34 s35 => match x33 with | .normal => pBin Try.prog 3 BinOp.add (Value.int IntKind.i64 2) (vget l34 6) (fun v36 => pLen (vget l34 5) (fun v37 => pLenS (vget l34 0) (fun v38 => AC Try.prog w0 n_spec_l22Dec [vget l34 3] s35 (fun v39 s40 => pBin Try.prog 9 BinOp.add (Value.string ({ data := #[72, 32] })) v39 (fun v41 => pBin Try.prog 9 BinOp.add v41 (Value.string ({ data := #[32] })) (fun v42 => AC Try.prog w0 n_spec_l22Dec [v37] s40 (fun v43 s44 => pBin Try.prog 9 BinOp.add v42 v43 (fun v45 => pBin Try.prog 9 BinOp.add v45 (Value.string ({ data := #[32] })) (fun v46 => AC Try.prog w0 n_spec_l22Dec [v38] s44 (fun v47 s48 => pBin Try.prog 9 BinOp.add v46 v47 (fun v49 => pVal false 1 v36 (pVal false 1 v49 (pVal true 2 (Value.agg (⟨[v36, v49]⟩)) ((allOne [v36, v49]) ∧ (pAppend w0 58 2 24 (vget l34 1) 1 [v36, v49] s48 (fun v50 s51 => AC Try.prog w0 n_spec_l22Copy ([Value.agg (⟨[vget l34 3, vget l34 4, vget l34 5, vget l34 6]⟩)]) s51 (fun v52 s53 => pVal true 4 v52 (pVal false 1 (vget l34 0) ((allOne [vget l34 0]) ∧ (pAppend w0 9 1 16 (cellOf v52 2) 1 [vget l34 0] s53 (fun v54 s55 => pVal false 1 v54 (AC Try.prog w0 n_spec_l22Blocks [vget l34 0] s55 (fun v56 s57 => pBin Try.prog 3 BinOp.add (vget l34 6) v56 (fun v58 => pVal false 1 v58 (pVal true 4 (Value.agg (⟨[cellOf v52 0, cellOf v52 1, v54, v58]⟩)) (R (Value.tuple (⟨[v50, Value.agg (⟨[cellOf v52 0, cellOf v52 1, v54, v58]⟩), Value.int IntKind.i64 0]⟩)) s57)))))))))))))))))))))))))) | .ret => False | .exit i59 => (match Nat.beq i59 0 with | true => pBin Try.prog 3 BinOp.add (Value.int IntKind.i64 2) (vget l34 6) (fun v60 => pLen (vget l34 5) (fun v61 => pLenS (vget l34 0) (fun v62 => AC Try.prog w0 n_spec_l22Dec [vget l34 3] s35 (fun v63 s64 => pBin Try.prog 9 BinOp.add (Value.string ({ data := #[72, 32] })) v63 (fun v65 => pBin Try.prog 9 BinOp.add v65 (Value.string ({ data := #[32] })) (fun v66 => AC Try.prog w0 n_spec_l22Dec [v61] s64 (fun v67 s68 => pBin Try.prog 9 BinOp.add v66 v67 (fun v69 => pBin Try.prog 9 BinOp.add v69 (Value.string ({ data := #[32] })) (fun v70 => AC Try.prog w0 n_spec_l22Dec [v62] s68 (fun v71 s72 => pBin Try.prog 9 BinOp.add v70 v71 (fun v73 => pVal false 1 v60 (pVal false 1 v73 (pVal true 2 (Value.agg (⟨[v60, v73]⟩)) ((allOne [v60, v73]) ∧ (pAppend w0 58 2 24 (vget l34 1) 1 [v60, v73] s72 (fun v74 s75 => AC Try.prog w0 n_spec_l22Copy ([Value.agg (⟨[vget l34 3, vget l34 4, vget l34 5, vget l34 6]⟩)]) s75 (fun v76 s77 => pVal true 4 v76 (pVal false 1 (vget l34 0) ((allOne [vget l34 0]) ∧ (pAppend w0 9 1 16 (cellOf v76 2) 1 [vget l34 0] s77 (fun v78 s79 => pVal false 1 v78 (AC Try.prog w0 n_spec_l22Blocks [vget l34 0] s79 (fun v80 s81 => pBin Try.prog 3 BinOp.add (vget l34 6) v80 (fun v82 => pVal false 1 v82 (pVal true 4 (Value.agg (⟨[cellOf v76 0, cellOf v76 1, v78, v82]⟩)) (R (Value.tuple (⟨[v74, Value.agg (⟨[cellOf v76 0, cellOf v76 1, v78, v82]⟩), Value.int IntKind.i64 0]⟩)) s81)))))))))))))))))))))))))) | false => False)))))))))))))))
theorem vc_spec_StoreAppend_eq (w0 : World) (a0 a1 : Value) (σ : Vw) (R : Value → Vw → Prop) : vc_spec_StoreAppend w0 a0 a1 σ R = den Try.prog w0 kp_spec_StoreAppend esc_spec_StoreAppend (Try.f107.body.getD .skip) (entry Try.f107.ntmps [a0, a1]) σ (retK Try.prog Try.f107.results.toList R) := by kernel_rfl
theorem ac_spec_StoreAppend {w0 : World} {a0 a1 : Value} {σ : Vw} {R : Value → Vw → Prop} (h : vc_spec_StoreAppend w0 a0 a1 σ R) : AC Try.prog w0 n_spec_StoreAppend [a0, a1] σ R := by
  refine ac_rule (fn := Try.f107) (c := Try.f107.body.getD .skip) kp_spec_StoreAppend esc_spec_StoreAppend Try.func107 (by kernel_rfl) (by kernel_rfl) ?_
  rw [← vc_spec_StoreAppend_eq]
  exact h

/-- spec.StoreSave -/
def kp_spec_StoreSave : Nat → Keep
  | 8 => ⟨[], [], [], .step 0 (.step 1 (.step 2 (.step 3 (.step 5 (.step 6 (.step 7 (.step 8 (.step 9 (.step 4 (.step 10 (.step 11 (.step 12 (.done))))))))))))), [(1, [0]), (2, [0, 1]), (4, [0, 1, 2, 3]), (6, [5]), (7, [5, 6]), (9, [5, 6, 7, 8]), (10, [0, 1, 2, 3, 4]), (11, [0, 1, 2, 3, 4, 5, 6, 7, 8, 9, 10]), (12, [0, 1, 2, 3, 4, 5, 6, 7, 8, 9, 10, 11])]⟩
  | _ => ⟨[], [], [], .done, []⟩
def esc_spec_StoreSave : Nat → Bool
  | 8 => true
  | _ => false
def vc_spec_StoreSave (w0 : World) (a0 a1 : Value) (σ : Vw) (R : Value → Vw → Prop) : Prop :=
  pVal true 4 a0 (pNew w0 58 [] σ (fun n0 s1 => AC Try.prog w0 n_spec_l22Ok ([Value.agg (⟨[cellOf a0 0, cellOf a0 1, cellOf a0 2, cellOf a0 3]⟩)]) s1 (fun v2 s3 => pUn UnOp.not v2 (fun v4 => pIf v4 (pVal true 4 (Value.agg (⟨[Value.int IntKind.i64 0, Value.string ({ data := #[] }), Value.slice Option.none 0 0, Value.int IntKind.i64 0]⟩)) (R (Value.tuple (⟨[Value.slice (Option.some (Addr.mk n0 0 Option.none)) 0 0, Value.agg (⟨[Value.int IntKind.i64 0, Value.string ({ data := #[] }), Value.slice Option.none 0 0, Value.int IntKind.i64 0]⟩), Value.int IntKind.i64 1]⟩)) s3)) (AC Try.prog w0 n_spec_l22TextOk [a1] s3 (fun v5 s6 => pUn UnOp.not v5 (fun v7 => pIf v7 (AC Try.prog w0 n_spec_l22Copy ([Value.agg (⟨[cellOf a0 0, cellOf a0 1, cellOf a0 2, cellOf a0 3]⟩)]) s6 (fun v8 s9 => pVal true 4 v8 (R (Value.tuple (⟨[Value.slice (Option.some (Addr.mk n0 0 Option.none)) 0 0, Value.agg (⟨[cellOf v8 0, cellOf v8 1, cellOf v8 2, cellOf v8 3]⟩), Value.int IntKind.i64 4]⟩)) s9))) (pBin Try.prog 3 BinOp.geq (cellOf a0 0) (Value.int IntKind.i64 99999) (fun v10 => pIf v10 (AC Try.prog w0 n_spec_l22Copy ([Value.agg (⟨[cellOf a0 0, cellOf a0 1, cellOf a0 2, cellOf a0 3]⟩)]) s6 (fun v11 s12 => pVal true 4 v11 (R (Value.tuple (⟨[Value.slice (Option.some (Addr.mk n0 0 Option.none)) 0 0, Value.agg (⟨[cellOf v11 0, cellOf v11 1, cellOf v11 2, cellOf v11 3]⟩), Value.int IntKind.i64 5]⟩)) s12))) (pBin Try.prog 3 BinOp.add (cellOf a0 0) (Value.int IntKind.i64 1) (fun v13 => pBin Try.prog 3 BinOp.add (cellOf a0 0) (Value.int IntKind.i64 1) (fun v14 => pVal false 1 v14 (pVal false 1 a1 (AC Try.prog w0 n_spec_l22Saved [v13, a1] s6 (fun v15 s16 => pVal true 4 (Value.agg (⟨[v14, a1, Value.slice Option.none 0 0, Value.int IntKind.i64 0]⟩)) (R (Value.tuple (⟨[v15, Value.agg (⟨[v14, a1, Value.slice Option.none 0 0, Value.int IntKind.i64 0]⟩), Value.int IntKind.i64 0]⟩)) s16))))))))))))))))
theorem vc_spec_StoreSave_eq (w0 : World) (a0 a1 : Value) (σ : Vw) (R : Value → Vw → Prop) : vc_spec_StoreSave w0 a0 a1 σ R = den Try.prog w0 kp_spec_StoreSave esc_spec_StoreSave (Try.f108.body.getD .skip) (entry Try.f108.ntmps [a0, a1]) σ (retK Try.prog Try.f108.results.toList R) := by kernel_rfl
theorem ac_spec_StoreSave {w0 : World} {a0 a1 : Value} {σ : Vw} {R : Value → Vw → Prop} (h : vc_spec_StoreSave w0 a0 a1 σ R) : AC Try.prog w0 n_spec_StoreSave [a0, a1] σ R := by
  refine ac_rule (fn := Try.f108) (c := Try.f108.body.getD .skip) kp_spec_StoreSave esc_spec_StoreSave Try.func108 (by kernel_rfl) (by kernel_rfl) ?_
  rw [← vc_spec_StoreSave_eq]
  exact h

/-- spec.l22TextOk -/
def kp_spec_l22TextOk : Nat → Keep
  | _ => ⟨[], [], [], .done, []⟩
def esc_spec_l22TextOk : Nat → Bool
  | _ => false
def vc_spec_l22TextOk (w0 : World) (a0 : Value) (σ : Vw) (R : Value → Vw → Prop) : Prop :=
  pLenS a0 (fun v0 => pBin Try.prog 3 BinOp.leq v0 (Value.int IntKind.i64 5760) (fun v1 => R v1 σ))
theorem vc_spec_l22TextOk_eq (w0 : World) (a0 : Value) (σ : Vw) (R : Value → Vw → Prop) : vc_spec_l22TextOk w0 a0 σ R = den Try.prog w0 kp_spec_l22TextOk esc_spec_l22TextOk (Try.f109.body.getD .skip) (entry Try.f109.ntmps [a0]) σ (retK Try.prog Try.f109.results.toList R) := by kernel_rfl
theorem ac_spec_l22TextOk {w0 : World} {a0 : Value} {σ : Vw} {R : Value → Vw → Prop} (h : vc_spec_l22TextOk w0 a0 σ R) : AC Try.prog w0 n_spec_l22TextOk [a0] σ R := by
  refine ac_rule (fn := Try.f109) (c := Try.f109.body.getD .skip) kp_spec_l22TextOk esc_spec_l22TextOk Try.func109 (by kernel_rfl) (by kernel_rfl) ?_
  rw [← vc_spec_l22TextOk_eq]
  exact h

/-- spec.l22Saved -/
def kp_spec_l22Saved : Nat → Keep
  | 3 => ⟨[0, 1, 5, 6], [], [], .done, []⟩
  | _ => ⟨[], [], [], .done, []⟩
def esc_spec_l22Saved : Nat → Bool
  | 7 => true
  | _ => false
def vc_spec_l22Saved (w0 : World) (a0 a1 : Value) (σ : Vw) (R : Value → Vw → Prop) : Prop :=
  pNew w0 58 [] σ (fun n0 s1 => pLoop (fun l2 K3 s4 => AC Try.prog w0 n_spec_l22Many [vget l2 1, Value.int IntKind.i64 64] s4 (fun v5 s6 => pBin Try.prog 3 BinOp.lss (vget l2 3) v5 (fun v7 => pIf v7 (AC Try.prog w0 n_spec_l22Area [vget l2 0] s6 (fun v8 s9 => pBin Try.prog 3 BinOp.add v8 (vget l2 3) (fun v10 => AC Try.prog w0 n_spec_l22Piece [vget l2 1, vget l2 3, Value.int IntKind.i64 64] s9 (fun v11 s12 => pVal false 1 v10 (pVal false 1 v11 (pVal true 2 (Value.agg (⟨[v10, v11]⟩)) ((allOne [v10, v11]) ∧ (pAppend w0 58 2 24 (vget l2 2) 1 [v10, v11] s12 (fun v13 s14 => pBin Try.prog 3 BinOp.add (vget l2 3) (Value.int IntKind.i64 1) (fun v15 => K3 AX.normal [vget l2 0, vget l2 1, v13, v15] s14)))))))))) (K3 (AX.exit 0) [vget l2 0, vget l2 1, vget l2 2, vget l2 3] s6)))) [a0, a1, Value.slice (Option.some (Addr.mk n0 0 Option.none)) 0 0, Value.int IntKind.i64 0] s1 (fun x16 l17 s18 => match x16 with | .normal => pBin Try.prog 3 BinOp.rem (vget l17 0) (Value.int IntKind.i64 2) (fun v19 => AC Try.prog w0 n_spec_l22Head [vget l17 0, vget l17 1] s18 (fun v20 s21 => pVal false 1 v19 (pVal false 1 v20 (pVal true 2 (Value.agg (⟨[v19, v20]⟩)) ((allOne [v19, v20]) ∧ (pAppend w0 58 2 24 (vget l17 2) 1 [v19, v20] s21 (fun v22 s23 => R v22 s23))))))) | .ret => False | .exit i24 => (match Nat.beq i24 0 with | true => pBin Try.prog 3 BinOp.rem (vget l17 0) (Value.int IntKind.i64 2) (fun v25 => AC Try.prog w0 n_spec_l22Head [vget l17 0, vget l17 1] s18 (fun v26 s27 => pVal false 1 v25 (pVal false 1 v26 (pVal true 2 (Value.agg (⟨[v25, v26]⟩)) ((allOne [v25, v26]) ∧ (pAppend w0 58 2 24 (vget l17 2) 1 [v25, v26] s27 (fun v28 s29 => R v28 s29))))))) | false => False)))
theorem vc_spec_l22Saved_eq (w0 : World) (a0 a1 : Value) (σ : Vw) (R : Value → Vw → Prop) : vc_spec_l22Saved w0 a0 a1 σ R = den Try.prog w0 kp_spec_l22Saved esc_spec_l22Saved (Try.f110.body.getD .skip) (entry Try.f110.ntmps [a0, a1]) σ (retK Try.prog Try.f110.results.toList R) := by kernel_rfl
theorem ac_spec_l22Saved {w0 : World} {a0 a1 : Value} {σ : Vw} {R : Value → Vw → Prop} (h : vc_spec_l22Saved w0 a0 a1 σ R) : AC Try.prog w0 n_spec_l22Saved [a0, a1] σ R := by
  refine ac_rule (fn := Try.f110) (c := Try.f110.body.getD .skip) kp_spec_l22Saved esc_spec_l22Saved Try.func110 (by kernel_rfl) (by kernel_rfl) ?_
  rw [← vc_spec_l22Saved_eq]
  exact h

/-- spec.l22Cut -/
def kp_spec_l22Cut : Nat → Keep
  | 4 => ⟨[0, 1, 5, 6, 7], [], [], .done, []⟩
  | _ => ⟨[], [], [], .done, []⟩
def esc_spec_l22Cut : Nat → Bool
  | 8 => true
  | _ => false
def vc_spec_l22Cut (w0 : World) (a0 a1 : Value) (σ : Vw) (R : Value → Vw → Prop) : Prop :=
  pNew w0 9 [] σ (fun n0 s1 => pLoop (fun l2 K3 s4 => pLenS (vget l2 0) (fun v5 => pBin Try.prog 3 BinOp.lss (vget l2 4) v5 (fun v6 => pIf v6 (pIndexStr (vget l2 0) (vget l2 4) (fun v7 => pBin Try.prog 5 BinOp.eql v7 (vget l2 1) (fun v8 => pIf v8 (pSliceStr (vget l2 0) (Option.some (vget l2 3)) (Option.some (vget l2 4)) (fun v9 => pVal false 1 v9 ((allOne [v9]) ∧ (pAppend w0 9 1 16 (vget l2 2) 1 [v9] s4 (fun v10 s11 => pBin Try.prog 3 BinOp.add (vget l2 4) (Value.int IntKind.i64 1) (fun v12 => pBin Try.prog 3 BinOp.add (vget l2 4) (Value.int IntKind.i64 1) (fun v13 => K3 AX.normal [vget l2 0, vget l2 1, v10, v12, v13] s11))))))) (pBin Try.prog 3 BinOp.add (vget l2 4) (Value.int IntKind.i64 1) (fun v14 => K3 AX.normal [vget l2 0, vget l2 1, vget l2 2, vget l2 3, v14] s4))))) (K3 (AX.exit 0) [vget l2 0, vget l2 1, vget l2 2, vget l2 3, vget l2 4] s4)))) [a0, a1, Value.slice (Option.some (Addr.mk n0 0 Option.none)) 0 0, Value.int IntKind.i64 0, Value.int IntKind.i64 0] s1 (fun x15 l16 s17 => match x15 with | .normal => pSliceStr (vget l16 0) (Option.some (vget l16 3)) Option.none (fun v18 => pVal false 1 v18 ((allOne [v18]) ∧ (pAppend w0 9 1 16 (vget l16 2) 1 [v18] s17 (fun v19 s20 => R v19 s20)))) | .ret => False | .exit i21 => (match Nat.beq i21 0 with | true => pSliceStr (vget l16 0) (Option.some (vget l16 3)) Option.none (fun v22 => pVal false 1 v22 ((allOne [v22]) ∧ (pAppend w0 9 1 16 (vget l16 2) 1 [v22] s17 (fun v23 s24 => R v23 s24)))) | false => False)))
theorem vc_spec_l22Cut_eq (w0 : World) (a0 a1 : Value) (σ : Vw) (R : Value → Vw → Prop) : vc_spec_l22Cut w0 a0 a1 σ R = den Try.prog w0 kp_spec_l22Cut esc_spec_l22Cut (Try.f111.body.getD .skip) (entry Try.f111.ntmps [a0, a1]) σ (retK Try.prog Try.f111.results.toList R) := by kernel_rfl
theorem ac_spec_l22Cut {w0 : World} {a0 a1 : Value} {σ : Vw} {R : Value → Vw → Prop} (h : vc_spec_l22Cut w0 a0 a1 σ R) : AC Try.prog w0 n_spec_l22Cut [a0, a1] σ R := by
  refine ac_rule (fn := Try.f111) (c := Try.f111.body.getD .skip) kp_spec_l22Cut esc_spec_l22Cut Try.func111 (by kernel_rfl) (by kernel_rfl) ?_
  rw [← vc_spec_l22Cut_eq]
  exact h

/-- spec.l22Num -/
def kp_spec_l22Num : Nat → Keep
  | 5 => ⟨[0, 2, 3, 4], [], [], .done, []⟩
  | _ => ⟨[], [], [], .done, []⟩
def esc_spec_l22Num : Nat → Bool
  | _ => false
def vc_spec_l22Num (w0 : World) (a0 : Value) (σ : Vw) (R : Value → Vw → Prop) : Prop :=
  pLenS a0 (fun v0 => AC Try.prog w0 n_spec_l21In [v0, Value.int IntKind.i64 1, Value.int IntKind.i64 5] σ (fun v1 s2 => pUn UnOp.not v1 (fun v3 => pIf v3 (R (Value.int IntKind.i64 (-1)) s2) (pLenS a0 (fun v4 => pBin Try.prog 3 BinOp.gtr v4 (Value.int IntKind.i64 1) (fun v5 => pIf v5 (pIndexStr a0 (Value.int IntKind.i64 0) (fun v6 => pBin Try.prog 5 BinOp.eql v6 (Value.int IntKind.u8 48) (fun v7 => pIf v7 (R (Value.int IntKind.i64 (-1)) s2) (pLoop (fun l8 K9 s10 => pLenS (vget l8 0) (fun v11 => pBin Try.prog 3 BinOp.lss (vget l8 3) v11 (fun v12 => pIf v12 (pIndexStr (vget l8 0) (vget l8 3) (fun v13 => pBin Try.prog 5 BinOp.lss v13 (Value.int IntKind.u8 48) (fun v14 => pIf v14 (K9 AX.ret [vget l8 0, Value.int IntKind.i64 (-1), vget l8 2, vget l8 3] s10) (pIndexStr (vget l8 0) (vget l8 3) (fun v15 => pBin Try.prog 5 BinOp.gtr v15 (Value.int IntKind.u8 57) (fun v16 => pIf v16 (K9 AX.ret [vget l8 0, Value.int IntKind.i64 (-1), vget l8 2, vget l8 3] s10) (pBin Try.prog 3 BinOp.mul (vget l8 2) (Value.int IntKind.i64 10) (fun v17 => pIndexStr (vget l8 0) (vget l8 3) (fun v18 => pBin Try.prog 5 BinOp.sub v18 (Value.int IntKind.u8 48) (fun v19 => pConvInt IntKind.i64 v19 (fun v20 => pBin Try.prog 3 BinOp.add v17 v20 (fun v21 => pBin Try.prog 3 BinOp.add (vget l8 3) (Value.int IntKind.i64 1) (fun v22 => K9 AX.normal [vget l8 0, vget l8 1, v21, v22] s10))))))))))))) (K9 (AX.exit 0) [vget l8 0, vget l8 1, vget l8 2, vget l8 3] s10)))) [a0, Value.int IntKind.i64 0, Value.int IntKind.i64 0, Value.int IntKind.i64 0] s2 (fun x23 l24 s25 => match x23 with | .normal => R (vget l24 2) s25 | .ret => R (vget l24 1) s25 | .exit i26 => (match Nat.beq i26 0 with | true => R (vget l24 2) s25 | false => False)))))) (pLoop (fun l27 K28 s29 => pLenS (vget l27 0) (fun v30 => pBin Try.prog 3 BinOp.lss (vget l27 3) v30 (fun v31 => pIf v31 (pIndexStr (vget l27 0) (vget l27 3) (fun v32 => pBin Try.prog 5 BinOp.lss v32 (Value.int IntKind.u8 48) (fun v33 => pIf v33 (K28 AX.ret [vget l27 0, Value.int IntKind.i64 (-1), vget l27 2, vget l27 3] s29) (pIndexStr (vget l27 0) (vget l27 3) (fun v34 => pBin Try.prog 5 BinOp.gtr v34 (Value.int IntKind.u8 57) (fun v35 => pIf v35 (K28 AX.ret [vget l27 0, Value.int IntKind.i64 (-1), vget l27 2, vget l27 3] s29) (pBin Try.prog 3 BinOp.mul (vget l27 2) (Value.int IntKind.i64 10) (fun v36 => pIndexStr (vget l27 0) (vget l27 3) (fun v37 => pBin Try.prog 5 BinOp.sub v37 (Value.int IntKind.u8 48) (fun v38 => pConvInt IntKind.i64 v38 (fun v39 => pBin Try.prog 3 BinOp.add v36 v39 (fun v40 => pBin Try.prog 3 BinOp.add (vget l27 3) (Value.int IntKind.i64 1) (fun v41 => K28 AX.normal [vget l27 0, vget l27 1, v40, v41] s29))))))))))))) (K28 (AX.exit 0) [vget l27 0, vget l27 1, vget l27 2, vget l27 3] s29)))) [a0, Value.int IntKind.i64 0, Value.int IntKind.i64 0, Value.int IntKind.i64 0] s2 (fun x42 l43 s44 => match x42 with | .normal => R (vget l43 2) s44 | .ret => R (vget l43 1) s44 | .exit i45 => (match Nat.beq i45 0 with | true => R (vget l43 2) s44 | false => False)))))))))
theorem vc_spec_l22Num_eq (w0 : World) (a0 : Value) (σ : Vw) (R : Value → Vw → Prop) : vc_spec_l22Num w0 a0 σ R = den Try.prog w0 kp_spec_l22Num esc_spec_l22Num (Try.f112.body.getD .skip) (entry Try.f112.ntmps [a0]) σ (retK Try.prog Try.f112.results.toList R) := by kernel_rfl
theorem ac_spec_l22Num {w0 : World} {a0 : Value} {σ : Vw} {R : Value → Vw → Prop} (h : vc_spec_l22Num w0 a0 σ R) : AC Try.prog w0 n_spec_l22Num [a0] σ R := by
  refine ac_rule (fn := Try.f112) (c := Try.f112.body.getD .skip) kp_spec_l22Num esc_spec_l22Num Try.func112 (by kernel_rfl) (by kernel_rfl) ?_
  rw [← vc_spec_l22Num_eq]
  exact h

/-- spec.l22Ok -/
def kp_spec_l22Ok : Nat → Keep
  | 3 => ⟨[2, 3, 4], [(1, 4)], [1], .done, []⟩
  | _ => ⟨[], [], [], .done, []⟩
def esc_spec_l22Ok : Nat → Bool
  | _ => false
def vc_spec_l22Ok (w0 : World) (a0 : Value) (σ : Vw) (R : Value → Vw → Prop) : Prop :=
  pVal true 4 a0 (pLoop (fun l0 K1 s2 => pLen (vget l0 5) (fun v3 => pBin Try.prog 3 BinOp.lss (vget l0 2) v3 (fun v4 => pIf v4 (pIndexAddr 1 (vget l0 5) (vget l0 2) (fun v5 => pLoad w0 1 v5 s2 (fun g6 => pLenS (g6 0) (fun v7 => pBin Try.prog 3 BinOp.gtr v7 (Value.int IntKind.i64 600) (fun v8 => pIf v8 (K1 AX.ret [Value.bool false, vget l0 1, vget l0 2, vget l0 3, vget l0 4, vget l0 5, vget l0 6] s2) (pIndexAddr 1 (vget l0 5) (vget l0 2) (fun v9 => pLoad w0 1 v9 s2 (fun g10 => AC Try.prog w0 n_spec_l22Blocks [g10 0] s2 (fun v11 s12 => pBin Try.prog 3 BinOp.add (vget l0 1) v11 (fun v13 => pBin Try.prog 3 BinOp.add (vget l0 2) (Value.int IntKind.i64 1) (fun v14 => K1 AX.normal [vget l0 0, v13, v14, vget l0 3, vget l0 4, vget l0 5, vget l0 6] s12))))))))))) (K1 (AX.exit 0) [vget l0 0, vget l0 1, vget l0 2, vget l0 3, vget l0 4, vget l0 5, vget l0 6] s2)))) [Value.bool false, Value.int IntKind.i64 0, Value.int IntKind.i64 0, cellOf a0 0, cellOf a0 1, cellOf a0 2, cellOf a0 3] σ (fun x15 l16 s17 => match x15 with | .normal => AC Try.prog w0 n_spec_l21In [vget l16 3, Value.int IntKind.i64 1, Value.int IntKind.i64 99999] s17 (fun v18 s19 => pIf v18 (AC Try.prog w0 n_spec_l22TextOk [vget l16 4] s19 (fun v20 s21 => pIf v20 (pBin Try.prog 3 BinOp.eql (vget l16 1) (vget l16 6) (fun v22 => pIf v22 (pBin Try.prog 3 BinOp.leq (vget l16 1) (Value.int IntKind.i64 12) (fun v23 => R v23 s21)) (R (Value.bool false) s21))) (R (Value.bool false) s21))) (R (Value.bool false) s19)) | .ret => R (vget l16 0) s17 | .exit i24 => (match Nat.beq i24 0 with | true => AC Try.prog w0 n_spec_l21In [vget l16 3, Value.int IntKind.i64 1, Value.int IntKind.i64 99999] s17 (fun v25 s26 => pIf v25 (AC Try.prog w0 n_spec_l22TextOk [vget l16 4] s26 (fun v27 s28 => pIf v27 (pBin Try.prog 3 BinOp.eql (vget l16 1) (vget l16 6) (fun v29 => pIf v29 (pBin Try.prog 3 BinOp.leq (vget l16 1) (Value.int IntKind.i64 12) (fun v30 => R v30 s28)) (R (Value.bool false) s28))) (R (Value.bool false) s28))) (R (Value.bool false) s26)) | false => False)))
theorem vc_spec_l22Ok_eq (w0 : World) (a0 : Value) (σ : Vw) (R : Value → Vw → Prop) : vc_spec_l22Ok w0 a0 σ R = den Try.prog w0 kp_spec_l22Ok esc_spec_l22Ok (Try.f113.body.getD .skip) (entry Try.f113.ntmps [a0]) σ (retK Try.prog Try.f113.results.toList R) := by kernel_rfl
theorem ac_spec_l22Ok {w0 : World} {a0 : Value} {σ : Vw} {R : Value → Vw → Prop} (h : vc_spec_l22Ok w0 a0 σ R) : AC Try.prog w0 n_spec_l22Ok [a0] σ R := by
  refine ac_rule (fn := Try.f113) (c := Try.f113.body.getD .skip) kp_spec_l22Ok esc_spec_l22Ok Try.func113 (by kernel_rfl) (by kernel_rfl) ?_
  rw [← vc_spec_l22Ok_eq]
  exact h

/-- spec.l22Blocks -/
def kp_spec_l22Blocks : Nat → Keep
  | _ => ⟨[], [], [], .done, []⟩
def esc_spec_l22Blocks : Nat → Bool
  | _ => false
def vc_spec_l22Blocks (w0 : World) (a0 : Value) (σ : Vw) (R : Value → Vw → Prop) : Prop :=
  AC Try.prog w0 n_spec_l22Many [a0, Value.int IntKind.i64 63] σ (fun v0 s1 => pBin Try.prog 3 BinOp.add (Value.int IntKind.i64 1) v0 (fun v2 => R v2 s1))
theorem vc_spec_l22Blocks_eq (w0 : World) (a0 : Value) (σ : Vw) (R : Value → Vw → Prop) : vc_spec_l22Blocks w0 a0 σ R = den Try.prog w0 kp_spec_l22Blocks esc_spec_l22Blocks (Try.f114.body.getD .skip) (entry Try.f114.ntmps [a0]) σ (retK Try.prog Try.f114.results.toList R) := by kernel_rfl
theorem ac_spec_l22Blocks {w0 : World} {a0 : Value} {σ : Vw} {R : Value → Vw → Prop} (h : vc_spec_l22Blocks w0 a0 σ R) : AC Try.prog w0 n_spec_l22Blocks [a0] σ R := by
  refine ac_rule (fn := Try.f114) (c := Try.f114.body.getD .skip) kp_spec_l22Blocks esc_spec_l22Blocks Try.func114 (by kernel_rfl) (by kernel_rfl) ?_
  rw [← vc_spec_l22Blocks_eq]
  exact h

/-- spec.l22Piece -/
def kp_spec_l22Piece : Nat → Keep
  | _ => ⟨[], [], [], .done, []⟩
def esc_spec_l22Piece : Nat → Bool
  | _ => false
def vc_spec_l22Piece (w0 : World) (a0 a1 a2 : Value) (σ : Vw) (R : Value → Vw → Prop) : Prop :=
  pBin Try.prog 3 BinOp.mul a1 a2 (fun v0 => pLenS a0 (fun v1 => pBin Try.prog 3 BinOp.geq v0 v1 (fun v2 => pIf v2 (R (Value.string ({ data := #[] })) σ) (pBin Try.prog 3 BinOp.add v0 a2 (fun v3 => pLenS a0 (fun v4 => pBin Try.prog 3 BinOp.gtr v3 v4 (fun v5 => pIf v5 (pSliceStr a0 (Option.some v0) Option.none (fun v6 => R v6 σ)) (pBin Try.prog 3 BinOp.add v0 a2 (fun v7 => pSliceStr a0 (Option.some v0) (Option.some v7) (fun v8 => R v8 σ))))))))))
theorem vc_spec_l22Piece_eq (w0 : World) (a0 a1 a2 : Value) (σ : Vw) (R : Value → Vw → Prop) : vc_spec_l22Piece w0 a0 a1 a2 σ R = den Try.prog w0 kp_spec_l22Piece esc_spec_l22Piece (Try.f115.body.getD .skip) (entry Try.f115.ntmps [a0, a1, a2]) σ (retK Try.prog Try.f115.results.toList R) := by kernel_rfl
theorem ac_spec_l22Piece {w0 : World} {a0 a1 a2 : Value} {σ : Vw} {R : Value → Vw → Prop} (h : vc_spec_l22Piece w0 a0 a1 a2 σ R) : AC Try.prog w0 n_spec_l22Piece [a0, a1, a2] σ R := by
  refine ac_rule (fn := Try.f115) (c := Try.f115.body.getD .skip) kp_spec_l22Piece esc_spec_l22Piece Try.func115 (by kernel_rfl) (by kernel_rfl) ?_
  rw [← vc_spec_l22Piece_eq]
  exact h

/-- spec.l22Dec -/
def kp_spec_l22Dec : Nat → Keep
  | 7 => ⟨[], [], [], .step 0 (.step 1 (.step 3 (.step 4 (.step 5 (.step 6 (.both (.step 2 (.step 7 (.step 8 (.step 9 (.step 10 (.done)))))) (.step 7 (.step 8 (.step 2 (.step 9 (.step 10 (.done)))))))))))), [(1, [0]), (2, [0, 1]), (4, [3]), (5, [3, 4]), (6, [3, 4, 5]), (7, [3, 4, 5, 6]), (8, [3, 4, 5, 6, 7]), (9, [0, 1, 2, 3, 4, 5, 6, 7, 8]), (10, [0, 1, 2, 3, 4, 5, 6, 7, 8, 9])]⟩
  | _ => ⟨[], [], [], .done, []⟩
def esc_spec_l22Dec : Nat → Bool
  | 16 => true
  | 25 => true
  | _ => false
def vc_spec_l22Dec (w0 : World) (a0 : Value) (σ : Vw) (R : Value → Vw → Prop) : Prop :=
  pBin Try.prog 3 BinOp.lss a0 (Value.int IntKind.i64 (-9223372036854775807)) (fun v0 => pIf v0 (R (Value.string ({ data := #[45, 57, 50, 50, 51, 51, 55, 50, 48, 51, 54, 56, 53, 52, 55, 55, 53, 56, 48, 56] })) σ) (pBin Try.prog 3 BinOp.lss a0 (Value.int IntKind.i64 0) (fun v1 => pIf v1 (pUn UnOp.neg a0 (fun v2 => AC Try.prog w0 n_spec_l22Dec [v2] σ (fun v3 s4 => pBin Try.prog 9 BinOp.add (Value.string ({ data := #[45] })) v3 (fun v5 => R v5 s4)))) (pBin Try.prog 3 BinOp.lss a0 (Value.int IntKind.i64 10) (fun v6 => pIf v6 (pBin Try.prog 3 BinOp.add (Value.int IntKind.i64 48) a0 (fun v7 => pConvInt IntKind.u8 v7 (fun v8 => pVal false 1 v8 (pNew w0 5 [v8] σ (fun n9 s10 => pStr w0 (Value.slice (Option.some (Addr.mk n9 0 Option.none)) 1 1) s10 (fun v11 => R v11 s10)))))) (pBin Try.prog 3 BinOp.quo a0 (Value.int IntKind.i64 10) (fun v12 => pBin Try.prog 3 BinOp.rem a0 (Value.int IntKind.i64 10) (fun v13 => pBin Try.prog 3 BinOp.add (Value.int IntKind.i64 48) v13 (fun v14 => pConvInt IntKind.u8 v14 (fun v15 => (AC Try.prog w0 n_spec_l22Dec [v12] σ (fun v16 s17 => pVal false 1 v15 (pNew w0 5 [v15] s17 (fun n18 s19 => pStr w0 (Value.slice (Option.some (Addr.mk n18 0 Option.none)) 1 1) s19 (fun v20 => pBin Try.prog 9 BinOp.add v16 v20 (fun v21 => R v21 s19)))))) ∧ (pVal false 1 v15 (pNew w0 5 [v15] σ (fun n22 s23 => pStr w0 (Value.slice (Option.some (Addr.mk n22 0 Option.none)) 1 1) s23 (fun v24 => AC Try.prog w0 n_spec_l22Dec [v12] s23 (fun v25 s26 => (Ext s23 s26) ∧ (pBin Try.prog 9 BinOp.add v25 v24 (fun v27 => R v27 s26)))))))))))))))))
theorem vc_spec_l22Dec_eq (w0 : World) (a0 : Value) (σ : Vw) (R : Value → Vw → Prop) : vc_spec_l22Dec w0 a0 σ R = den Try.prog w0 kp_spec_l22Dec esc_spec_l22Dec (Try.f116.body.getD .skip) (entry Try.f116.ntmps [a0]) σ (retK Try.prog Try.f116.results.toList R) := by kernel_rfl
theorem ac_spec_l22Dec {w0 : World} {a0 : Value} {σ : Vw} {R : Value → Vw → Prop} (h : vc_spec_l22Dec w0 a0 σ R) : AC Try.prog w0 n_spec_l22Dec [a0] σ R := by
  refine ac_rule (fn := Try.f116) (c := Try.f116.body.getD .skip) kp_spec_l22Dec esc_spec_l22Dec Try.func116 (by kernel_rfl) (by kernel_rfl) ?_
  rw [← vc_spec_l22Dec_eq]
  exact h

/-- spec.l22Many -/
def kp_spec_l22Many : Nat → Keep
  | _ => ⟨[], [], [], .done, []⟩
def esc_spec_l22Many : Nat → Bool
  | _ => false
def vc_spec_l22Many (w0 : World) (a0 a1 : Value) (σ : Vw) (R : Value → Vw → Prop) : Prop :=
  pLenS a0 (fun v0 => pBin Try.prog 3 BinOp.add v0 a1 (fun v1 => pBin Try.prog 3 BinOp.sub v1 (Value.int IntKind.i64 1) (fun v2 => pBin Try.prog 3 BinOp.quo v2 a1 (fun v3 => R v3 σ))))
theorem vc_spec_l22Many_eq (w0 : World) (a0 a1 : Value) (σ : Vw) (R : Value → Vw → Prop) : vc_spec_l22Many w0 a0 a1 σ R = den Try.prog w0 kp_spec_l22Many esc_spec_l22Many (Try.f117.body.getD .skip) (entry Try.f117.ntmps [a0, a1]) σ (retK Try.prog Try.f117.results.toList R) := by kernel_rfl
theorem ac_spec_l22Many {w0 : World} {a0 a1 : Value} {σ : Vw} {R : Value → Vw → Prop} (h : vc_spec_l22Many w0 a0 a1 σ R) : AC Try.prog w0 n_spec_l22Many [a0, a1] σ R := by
  refine ac_rule (fn := Try.f117) (c := Try.f117.body.getD .skip) kp_spec_l22Many esc_spec_l22Many Try.func117 (by kernel_rfl) (by kernel_rfl) ?_
  rw [← vc_spec_l22Many_eq]
  exact h

/-- spec.l22Head -/
def kp_spec_l22Head : Nat → Keep
  | _ => ⟨[], [], [], .done, []⟩
def esc_spec_l22Head : Nat → Bool
  | _ => false
def vc_spec_l22Head (w0 : World) (a0 a1 : Value) (σ : Vw) (R : Value → Vw → Prop) : Prop :=
  AC Try.prog w0 n_spec_l22Dec [a0] σ (fun v0 s1 => pBin Try.prog 9 BinOp.add (Value.string ({ data := #[67, 32] })) v0 (fun v2 => pBin Try.prog 9 BinOp.add v2 (Value.string ({ data := #[32] })) (fun v3 => pLenS a1 (fun v4 => AC Try.prog w0 n_spec_l22Dec [v4] s1 (fun v5 s6 => pBin Try.prog 9 BinOp.add v3 v5 (fun v7 => R v7 s6))))))
theorem vc_spec_l22Head_eq (w0 : World) (a0 a1 : Value) (σ : Vw) (R : Value → Vw → Prop) : vc_spec_l22Head w0 a0 a1 σ R = den Try.prog w0 kp_spec_l22Head esc_spec_l22Head (Try.f118.body.getD .skip) (entry Try.f118.ntmps [a0, a1]) σ (retK Try.prog Try.f118.results.toList R) := by kernel_rfl
theorem ac_spec_l22Head {w0 : World} {a0 a1 : Value} {σ : Vw} {R : Value → Vw → Prop} (h : vc_spec_l22Head w0 a0 a1 σ R) : AC Try.prog w0 n_spec_l22Head [a0, a1] σ R := by
  refine ac_rule (fn := Try.f118) (c := Try.f118.body.getD .skip) kp_spec_l22Head esc_spec_l22Head Try.func118 (by kernel_rfl) (by kernel_rfl) ?_
  rw [← vc_spec_l22Head_eq]
  exact h

end Go.Proofs.Ytkndffhcncmbjaa

/- What each function owes: all parts. MADE BY PROGRAM (emit.py). -/


/- The lists of texts: their size, their copy, their comparison. -/
set_option linter.unusedVariables false
set_option linter.unusedSimpArgs false
namespace Go.Proofs.Ytkndffhcncmbjaa
open Go Go.Av

section
variable {w0 : World} {σ : Vw}

def sumS : List ByteArray → Nat
  | [] => 0
  | s :: r => s.size + sumS r
theorem sumS_take {xs : List ByteArray} : ∀ {j : Nat} {x : ByteArray}, xs[j]? = some x → sumS (xs.take (j + 1)) = sumS (xs.take j) + x.size := by
  induction xs with
  | nil => intro j x h; simp at h
  | cons a r ih =>
    intro j x h
    cases j with
    | zero => simp at h; subst h; simp [sumS]
    | succ j =>
      simp at h
      have := ih h
      simp only [List.take_succ_cons, sumS, this]
      omega
theorem sumS_le {xs : List ByteArray} : ∀ (j : Nat), sumS (xs.take j) ≤ sumS xs := by
  induction xs with
  | nil => intro j; simp [sumS]
  | cons a r ih =>
    intro j
    cases j with
    | zero => simp [sumS]
    | succ j => have := ih j; simp only [List.take_succ_cons, sumS]; omega

/-- What is left of n. -/
def left (n : Int) (t : Nat) : Int := if n - t < 0 then -1 else n - t

end
end Go.Proofs.Ytkndffhcncmbjaa

/- The lists of texts: their copy, their comparison. -/
set_option linter.unusedVariables false
set_option linter.unusedSimpArgs false
namespace Go.Proofs.Ytkndffhcncmbjaa
open Go Go.Av

section
variable {w0 : World} {σ : Vw}


end
end Go.Proofs.Ytkndffhcncmbjaa

/- The lists of texts in rows of their own; marks (a path and a bool) and their lists: size, copy, comparison. -/
set_option linter.unusedVariables false
set_option linter.unusedSimpArgs false
namespace Go.Proofs.Ytkndffhcncmbjaa
open Go Go.Av

/-- A text needs no row. -/
def OStr (σ : Vw) (F : List Nat) (es : List Value) (s : ByteArray) : Prop := F = [] ∧ es = [.string s] ∧ s.size ≤ 9223372036854775807

section
variable {w0 : World} {σ : Vw}

theorem ok_str (w0 : World) : OOk w0 1 RS OStr := by
  refine ⟨?_, ?_, ?_, ?_, ?_, ?_⟩
  · rintro σ F es x ⟨_, h1, h2⟩; exact ⟨h1, h2⟩
  · rintro σ σ' F es x h _; exact h
  · rintro σ F es x ⟨rfl, _, _⟩ b hb; cases hb
  · rintro σ F es x ⟨rfl, _, _⟩; exact List.nodup_nil
  · rintro σ F es x ⟨_, rfl, _⟩; rfl
  · rintro σ F es x ⟨_, rfl, _⟩ c hc; rw [List.mem_singleton.1 hc]; rfl

abbrev OStrs (w0 : World) := OSl w0 1 OStr
theorem mono_rs {rd rd' : Addr → Option Value} {es : List Value} {x : ByteArray} (_ : Le rd rd') (h : RS rd es x) : RS rd' es x := h

theorem strs_le {rd : Addr → Option Value} {v : Value} {xs : List ByteArray} (h : RSl 1 RS rd v xs) : ∀ x, x ∈ xs → x.size ≤ 9223372036854775807 := by
  obtain ⟨A, cap, _, _, h3⟩ := h
  intro x hx
  obtain ⟨j, hj⟩ := List.getElem?_of_mem hx
  obtain ⟨a, es, _, _, _, h4⟩ := h3 j x hj
  exact h4.2

theorem flat_strs (xs : List ByteArray) : xs.map Value.string = (xs.map fun s => [Value.string s]).flatten := by
  induction xs with
  | nil => rfl
  | cons a r ih => simp [ih]

theorem own_strs {b cap : Nat} {r : Row} {xs : List ByteArray} (hb : w0.heap.size ≤ b) (hr : σ b = some r) (hc : r.cells = xs.map .string) (hm : xs.length ≤ cap ∧ cap ≤ 9223372036854775807) (hs : ∀ x, x ∈ xs → x.size ≤ 9223372036854775807) : OStrs w0 σ [b] (.slice (some ⟨b, 0, none⟩) xs.length cap) xs := by
  have hnil : (List.replicate xs.length ([] : List Nat)).flatten = [] := by simp
  refine ⟨Nat.le_trans hm.1 hm.2, by simp, .inr ⟨b, 0, cap, r, [], [], xs.map fun s => [.string s], List.replicate xs.length [], rfl, hm, hb, hr, by rw [hc, flat_strs]; simp, rfl, by simp, by simp, by rw [hnil], fun j c x f e1 e2 e3 => ?_⟩⟩
  rw [List.getElem?_map, e2] at e1
  cases e1
  refine ⟨?_, rfl, hs x (List.mem_of_getElem? e2)⟩
  rw [List.getElem?_replicate] at e3
  split at e3
  · cases e3; rfl
  · cases e3

/-- A mark: a path, and a bool. -/
abbrev Mk := List ByteArray × Bool
def RMk (rd : Addr → Option Value) (es : List Value) (m : Mk) : Prop := ∃ v, es = [v, .bool m.2] ∧ RSl 1 RS rd v m.1
def OMk (w0 : World) (σ : Vw) (F : List Nat) (es : List Value) (m : Mk) : Prop := ∃ v, es = [v, .bool m.2] ∧ OStrs w0 σ F v m.1
def szMk (m : Mk) : Nat := m.1.length + sumS m.1

theorem OSl.one' {α : Type} {n : Nat} {O : Vw → List Nat → List Value → α → Prop} {F : List Nat} {v : Value} {xs : List α} (h : OSl w0 n O σ F v xs) : v.oneCell' = true := by
  obtain ⟨_, _, ⟨rfl, _⟩ | ⟨_, _, _, _, _, _, _, _, rfl, _⟩⟩ := h <;> rfl

theorem ok_mk (w0 : World) : OOk w0 2 RMk (OMk w0) := by
  refine ⟨?_, ?_, ?_, ?_, ?_, ?_⟩
  · rintro σ F es x ⟨v, h1, h2⟩; exact ⟨v, h1, h2.rel (ok_str w0)⟩
  · rintro σ σ' F es x ⟨v, h1, h2⟩ hF; exact ⟨v, h1, h2.frame (ok_str w0) hF⟩
  · rintro σ F es x ⟨v, h1, h2⟩; exact h2.dom (ok_str w0)
  · rintro σ F es x ⟨v, h1, h2⟩; exact h2.2.1
  · rintro σ F es x ⟨v, rfl, h2⟩; rfl
  · rintro σ F es x ⟨v, rfl, h2⟩ c hc
    simp at hc
    rcases hc with rfl | rfl
    · exact OSl.one' h2
    · rfl
theorem mono_mk {rd rd' : Addr → Option Value} {es : List Value} {x : Mk} (hl : Le rd rd') (h : RMk rd es x) : RMk rd' es x := by
  obtain ⟨v, h1, h2⟩ := h; exact ⟨v, h1, h2.mono hl fun _ _ h => h⟩

theorem sumS_eq (xs : List ByteArray) : sumS xs = sumBy ByteArray.size xs := by
  induction xs with
  | nil => rfl
  | cons a r ih => simp [sumS, sumBy, ih]

end
end Go.Proofs.Ytkndffhcncmbjaa

/- Names: their letters and their length. -/
set_option linter.unusedVariables false
set_option linter.unusedSimpArgs false
namespace Go.Proofs.Ytkndffhcncmbjaa
open Go Go.Av

theorem pIndexStr_s {s : ByteArray} {j : Nat} {K : Value → Prop} (h : j < s.size) (hK : K (.int .u8 ((s[j]'h).toNat : Int))) : pIndexStr (.string s) (.int .i64 j) K :=
  ⟨s, .i64, j, rfl, rfl, by omega, h, hK⟩

def okB (n : Nat) : Prop := (97 ≤ n ∧ n ≤ 122) ∨ (48 ≤ n ∧ n ≤ 57)
/-- Within two bounds. -/
def inB (n lo hi : Int) : Bool := decide (lo ≤ n ∧ n ≤ hi)
def lettersOk (s : ByteArray) : Prop := ∀ (i : Nat) (h : i < s.size), okB (s[i]'h).toNat
open Classical in
noncomputable def nameOk (s : ByteArray) : Bool := decide (lettersOk s) && inB s.size 1 5

section
variable {w0 : World} {σ : Vw}

theorem spec_In {n lo hi : Int} {R : Value → Vw → Prop} (hR : R (.bool (inB n lo hi)) σ) : AC Try.prog w0 n_spec_l1In [.int .i64 n, .int .i64 lo, .int .i64 hi] σ R := by
  refine ac_spec_l1In ?_
  unfold vc_spec_l1In
  rw [pBin_ge, pIf_d]
  refine ⟨fun h => ?_, fun h => ?_⟩
  · rw [pBin_le]
    have : inB n lo hi = decide (n ≤ hi) := by simp [inB, h]
    rw [this] at hR; exact hR
  · have : inB n lo hi = false := by simp [inB, h]
    rw [this] at hR; exact hR
theorem impl_within {n lo hi : Int} {R : Value → Vw → Prop} (hR : R (.bool (inB n lo hi)) σ) : AC Try.prog w0 n_impl_within [.int .i64 n, .int .i64 lo, .int .i64 hi] σ R := by
  refine ac_impl_within ?_
  unfold vc_impl_within
  rw [pBin_ge, pIf_d]
  refine ⟨fun h => ?_, fun h => ?_⟩
  · rw [pBin_le]
    have : inB n lo hi = decide (n ≤ hi) := by simp [inB, h]
    rw [this] at hR; exact hR
  · have : inB n lo hi = false := by simp [inB, h]
    rw [this] at hR; exact hR

theorem nameOk_bad {s : ByteArray} {j : Nat} (h : j < s.size) (hb : ¬ okB (s[j]'h).toNat) : nameOk s = false := by
  have : ¬ lettersOk s := fun h' => hb (h' j h)
  simp [nameOk, this]
theorem nameOk_good {s : ByteArray} (h : lettersOk s) : nameOk s = inB s.size 1 5 := by simp [nameOk, h]

theorem spec_nameOk {s : ByteArray} (hs : s.size ≤ 9223372036854775807) {R : Value → Vw → Prop} (hR : R (.bool (nameOk s)) σ) : AC Try.prog w0 n_spec_l1NameOk [.string s] σ R := by
  refine ac_spec_l1NameOk ?_
  unfold vc_spec_l1NameOk
  refine loop_rule (m := s.size) (fun m l t => ∃ j, t = σ ∧ m + j = s.size ∧ (∀ (i : Nat) (h : i < s.size), i < j → okB (s[i]'h).toNat) ∧ l = [.string s, .bool false, .int .i64 (j : Nat)]) ?_ ⟨0, rfl, by omega, fun i h h' => by omega, rfl⟩
  rintro m l t L ⟨j, rfl, hm, ht, rfl⟩ hL
  simp only [vget, List.getD_cons_zero, List.getD_cons_succ]
  rw [pLenS_s, pBin_lt, pIf_d]
  refine ⟨fun hj => ?_, fun hj => ?_⟩
  · have hj' : j < s.size := by omega
    have bad : ¬ okB (s[j]'hj').toNat → R (.bool false) t := fun h => by rw [nameOk_bad hj' h] at hR; exact hR
    have good : okB (s[j]'hj').toNat → L [.string s, .bool false, .int .i64 ((j + 1 : Nat) : Int)] t := fun h => hL _ _ (m - 1) (by omega) ⟨j + 1, rfl, by omega, fun i hi hij => by
      by_cases e : i = j
      · subst e; exact h
      · exact ht i hi (by omega), rfl⟩
    have add : ∀ K : Value → Prop, pBin Try.prog 3 .add (.int .i64 j) (.int .i64 1) K ↔ K (.int .i64 ((j + 1 : Nat) : Int)) := fun K => pBin_add (by omega)
    have idx : ∀ K : Value → Prop, K (.int .u8 ((s[j]'hj').toNat : Int)) → pIndexStr (.string s) (.int .i64 j) K := fun K hK => pIndexStr_s hj' hK
    simp only [add, pUn_not, pIf_b, Bool.not_true, Bool.not_false, forall_const, Bool.false_eq_true, false_imp_iff, true_imp_iff, true_and, and_true, reduceCtorEq]
    refine idx _ ?_
    rw [pBin_ge, pIf_d]
    refine ⟨fun h1 => idx _ ?_, fun h1 => idx _ ?_⟩
    · rw [pBin_le, pIf_d]
      refine ⟨fun h2 => good (.inl ⟨by omega, by omega⟩), fun h2 => idx _ ?_⟩
      rw [pBin_ge, pIf_d]
      refine ⟨fun h3 => idx _ ?_, fun h3 => bad fun h => by unfold okB at h; omega⟩
      rw [pBin_le, pUn_not, pIf_b]
      refine ⟨fun h4 => bad fun h => ?_, fun h4 => good ?_⟩
      · unfold okB at h; simp at h4; omega
      · simp at h4; exact .inr ⟨by omega, by omega⟩
    · rw [pBin_ge, pIf_d]
      refine ⟨fun h3 => idx _ ?_, fun h3 => bad fun h => by unfold okB at h; omega⟩
      rw [pBin_le, pUn_not, pIf_b]
      refine ⟨fun h4 => bad fun h => ?_, fun h4 => good ?_⟩
      · unfold okB at h; simp at h4; omega
      · simp at h4; exact .inr ⟨by omega, by omega⟩
  · have hj' : j = s.size := by omega
    subst hj'
    show pLenS (.string s) _
    rw [pLenS_s]
    refine spec_In ?_
    rw [nameOk_good fun i h => ht i h h] at hR
    exact hR

theorem impl_nameOk {s : ByteArray} (hs : s.size ≤ 9223372036854775807) {R : Value → Vw → Prop} (hR : R (.bool (nameOk s)) σ) : AC Try.prog w0 n_impl_nameOk [.string s] σ R := by
  refine ac_impl_nameOk ?_
  unfold vc_impl_nameOk
  rw [pLenS_s]
  refine loop_rule (m := s.size) (fun m l t => ∃ j, t = σ ∧ m + j = s.size ∧ (∀ (i : Nat) (h : i < s.size), i < j → okB (s[i]'h).toNat) ∧ l = [.string s, .bool false, .int .i64 s.size, .int .i64 (j : Nat)]) ?_ ⟨0, rfl, by omega, fun i h h' => by omega, rfl⟩
  rintro m l t L ⟨j, rfl, hm, ht, rfl⟩ hL
  simp only [vget, List.getD_cons_zero, List.getD_cons_succ]
  rw [pBin_lt, pIf_d]
  refine ⟨fun hj => ?_, fun hj => ?_⟩
  · have hj' : j < s.size := by omega
    have bad : ¬ okB (s[j]'hj').toNat → R (.bool false) t := fun h => by rw [nameOk_bad hj' h] at hR; exact hR
    have good : okB (s[j]'hj').toNat → L [.string s, .bool false, .int .i64 s.size, .int .i64 ((j + 1 : Nat) : Int)] t := fun h => hL _ _ (m - 1) (by omega) ⟨j + 1, rfl, by omega, fun i hi hij => by
      by_cases e : i = j
      · subst e; exact h
      · exact ht i hi (by omega), rfl⟩
    have add : ∀ K : Value → Prop, pBin Try.prog 3 .add (.int .i64 j) (.int .i64 1) K ↔ K (.int .i64 ((j + 1 : Nat) : Int)) := fun K => pBin_add (by omega)
    have idx : ∀ K : Value → Prop, K (.int .u8 ((s[j]'hj').toNat : Int)) → pIndexStr (.string s) (.int .i64 j) K := fun K hK => pIndexStr_s hj' hK
    simp only [add]
    refine idx _ ?_
    rw [pBin_lt, pIf_d]
    refine ⟨fun h1 => idx _ ?_, fun h1 => idx _ ?_⟩
    · rw [pBin_lt, pIf_d]
      refine ⟨fun h2 => bad fun h => by unfold okB at h; omega, fun h2 => idx _ ?_⟩
      rw [pBin_gt, pIf_d]
      exact ⟨fun h3 => bad fun h => by unfold okB at h; omega, fun h3 => good (.inr ⟨by omega, by omega⟩)⟩
    · rw [pBin_gt, pIf_d]
      refine ⟨fun h2 => idx _ ?_, fun h2 => good (.inl ⟨by omega, by omega⟩)⟩
      rw [pBin_lt, pIf_d]
      refine ⟨fun h2 => bad fun h => by unfold okB at h; omega, fun h2 => idx _ ?_⟩
      rw [pBin_gt, pIf_d]
      exact ⟨fun h3 => bad fun h => by unfold okB at h; omega, fun h3 => good (.inr ⟨by omega, by omega⟩)⟩
  · have hj' : j = s.size := by omega
    subst hj'
    show pLenS (.string s) _
    rw [pLenS_s]
    refine impl_within ?_
    rw [nameOk_good fun i h => ht i h h] at hR
    exact hR
end
end Go.Proofs.Ytkndffhcncmbjaa

/- Lists in rows of our own, written element by element: the focus on one element, and the loops that mark and that look at marks. -/
set_option linter.unusedVariables false
set_option linter.unusedSimpArgs false
namespace Go.Av
open Go Go.RowKit

/-- Every row but those of F stays as it is. -/
def KeepsBut (F : List Nat) (σ σ' : Vw) : Prop := ∀ b r, σ b = some r → b ∉ F → σ' b = some r
theorem KeepsBut.refl (F : List Nat) (σ : Vw) : KeepsBut F σ σ := fun _ _ h _ => h
theorem Keeps.but {F : List Nat} {σ σ' : Vw} (h : Keeps σ σ') : KeepsBut F σ σ' := fun b r hb _ => h b r hb
theorem KeepsBut.trans {F : List Nat} {σ σ' σ'' : Vw} (h : KeepsBut F σ σ') (h' : KeepsBut F σ' σ'') : KeepsBut F σ σ'' := fun b r hb hF => h' b r (h b r hb hF) hF
theorem KeepsBut.mono {F F' : List Nat} {σ σ' : Vw} (h : KeepsBut F σ σ') (hF : ∀ b, b ∈ F → b ∈ F') : KeepsBut F' σ σ' := fun b r hb h' => h b r hb fun hb' => h' (hF b hb')
/-- What is older than F stays. -/
theorem KeepsBut.old {F : List Nat} {σ0 σ σ' : Vw} (h : KeepsBut F σ σ') (h0 : Keeps σ0 σ) (hF : ∀ b, b ∈ F → σ0 b = none) : Keeps σ0 σ' := fun b r hb => h b r (h0 b r hb) fun hb' => by rw [hF b hb'] at hb; cases hb
theorem KeepsBut.at {F G : List Nat} {σ σ' : Vw} (h : KeepsBut F σ σ') (hG : ∀ b, b ∈ G → σ b ≠ none) (hd : ∀ b, b ∈ G → b ∉ F) : ∀ b, b ∈ G → σ' b = σ b := fun b hb => by
  cases hs : σ b with
  | none => exact absurd hs (hG b hb)
  | some r => exact h b r hs (hd b hb)
theorem KeepsBut.put {F : List Nat} {σ : Vw} {b : Nat} {r : Row} (hb : b ∈ F) : KeepsBut F σ (σ.put b r) := fun i x hi hF => by
  have : i ≠ b := fun e => hF (e ▸ hb)
  simp [Vw.put, this, hi]

section
variable {P : Program} {w0 : World} {σ σ' : Vw} {α : Type}

theorem nodup_at {l : List (List Nat)} {i j : Nat} {f g : List Nat} (h : l.flatten.Nodup) (hi : l[i]? = some f) (hj : l[j]? = some g) (hij : i ≠ j) : ∀ b, b ∈ f → b ∉ g := by
  induction l generalizing i j with
  | nil => simp at hi
  | cons a r ih =>
    rw [List.flatten_cons, List.nodup_append] at h
    intro b hb hb'
    cases i with
    | zero =>
      cases j with
      | zero => exact hij rfl
      | succ j =>
        simp at hi hj
        subst hi
        exact h.2.2 b hb b (List.mem_flatten.2 ⟨g, List.mem_of_getElem? hj, hb'⟩) rfl
    | succ i =>
      cases j with
      | zero =>
        simp at hi hj
        subst hj
        exact h.2.2 b hb' b (List.mem_flatten.2 ⟨f, List.mem_of_getElem? hi, hb⟩) rfl
      | succ j =>
        simp at hi hj
        exact ih h.2.1 hi hj (fun e => hij (by rw [e])) b hb hb'

theorem split_at {l : List (List Value)} {j : Nat} {c : List Value} (hj : l[j]? = some c) : l.flatten = (l.take j).flatten ++ (c ++ (l.drop (j + 1)).flatten) := by
  have hlt := (List.getElem?_eq_some_iff.1 hj).1
  have e : l = l.take j ++ (c :: l.drop (j + 1)) := by
    have := List.take_append_drop j l
    rw [List.drop_eq_getElem_cons hlt] at this
    have hc : l[j] = c := (List.getElem?_eq_some_iff.1 hj).2
    rw [hc] at this
    exact this.symm
  calc l.flatten = (l.take j ++ (c :: l.drop (j + 1))).flatten := by rw [← e]
    _ = _ := by rw [List.flatten_append, List.flatten_cons]

/-- One element of a list of our own, and how the list is put together again behind a change of it. -/
theorem OSl.focus {n : Nat} {Rel : (Addr → Option Value) → List Value → α → Prop} {O : Vw → List Nat → List Value → α → Prop} (ok : OOk w0 n Rel O) {F : List Nat} {v : Value} {xs : List α} (h : OSl w0 n O σ F v xs) {j : Nat} {x : α} (hj : xs[j]? = some x) :
    ∃ (b o : Nat) (f : List Nat) (c A C : List Value) (r : Row), (∀ K : Value → Prop, K (.pointer (some ⟨b, o, none⟩)) → pIndexAddr n v (.int .i64 j) K) ∧ w0.heap.size ≤ b ∧ σ b = some r ∧ r.cells = A ++ (c ++ C) ∧ A.length = o ∧ O σ f c x ∧ b ∈ F ∧ (∀ i, i ∈ f → i ∈ F ∧ i ≠ b) ∧
      ∀ (σ' : Vw) (c' : List Value) (x' : α) (r' : Row), σ' b = some r' → r'.cells = A ++ (c' ++ C) → O σ' f c' x' → (∀ i, i ∈ F → i ≠ b → i ∉ f → σ' i = σ i) → OSl w0 n O σ' F v (xs.set j x') := by
  obtain ⟨h1, h2, ⟨rfl, rfl, _⟩ | ⟨b, off, cap, r, pre, post, css, Fs, rfl, gc, g2, g3, g4, g5, g6, g7, g8, g9⟩⟩ := h
  · simp at hj
  have hlt : j < xs.length := (List.getElem?_eq_some_iff.1 hj).1
  have hcj := List.getElem?_eq_getElem (show j < css.length by omega)
  have hfj := List.getElem?_eq_getElem (show j < Fs.length by omega)
  generalize hce : css[j]'(by omega) = c at hcj
  generalize hfe : Fs[j]'(by omega) = f at hfj
  have hO := g9 j c x f hcj hj hfj
  have hn : ∀ c, c ∈ css → c.length = n := fun c hc => by
    obtain ⟨i, hi⟩ := List.getElem?_of_mem hc
    have hil : i < css.length := (List.getElem?_eq_some_iff.1 hi).1
    exact ok.len _ _ _ _ (g9 i c _ _ hi (List.getElem?_eq_getElem (by omega)) (List.getElem?_eq_getElem (by omega)))
  have hA : (pre ++ (css.take j).flatten).length = off + j * n := by
    rw [List.length_append, g5, flat_len _ fun c hc => hn c (List.mem_of_mem_take hc), List.length_take]
    congr 2; omega
  rw [g8] at h2
  have hbf : b ∉ f := fun hb => (List.nodup_cons.1 h2).1 (List.mem_flatten.2 ⟨f, List.mem_of_getElem? hfj, hb⟩)
  refine ⟨b, off + j * n, f, c, pre ++ (css.take j).flatten, (css.drop (j + 1)).flatten ++ post, r, fun K hK => ?_, g2, g3, ?_, hA, hO, by rw [g8]; exact List.mem_cons_self, fun i hi => ⟨?_, fun e => hbf (e ▸ hi)⟩, ?_⟩
  · refine ⟨⟨b, off, none⟩, xs.length, cap, .i64, j, rfl, rfl, by omega, by omega, ?_⟩
    rw [addr_add]; exact hK
  · rw [g4, split_at hcj]; simp only [List.append_assoc]
  · rw [g8]; exact List.mem_cons_of_mem _ (List.mem_flatten.2 ⟨f, List.mem_of_getElem? hfj, hi⟩)
  · intro σ' c' x' r' hr' hcells hO' hrest
    have hlen' := ok.len _ _ _ _ hO'
    refine ⟨by rw [List.length_set]; exact h1, by rw [g8]; exact h2, .inr ⟨b, off, cap, r', pre, post, css.set j c', Fs, by rw [List.length_set], by rw [List.length_set]; exact gc, g2, hr', ?_, g5, by rw [List.length_set, List.length_set]; exact g6, by rw [List.length_set]; exact g7, g8, ?_⟩⟩
    · have hcj' : (css.set j c')[j]? = some c' := List.getElem?_set_self (by omega)
      rw [hcells, split_at hcj', List.take_set_of_le (Nat.le_refl j), List.drop_set_of_lt (by omega)]
      simp only [List.append_assoc]
    · intro i ci y fi e1 e2 e3
      by_cases hij : j = i
      · subst hij
        rw [List.getElem?_set_self (by omega)] at e1 e2
        cases e1; cases e2
        rw [hfj] at e3; cases e3
        exact hO'
      · rw [List.getElem?_set_ne hij] at e1 e2
        refine ok.frame _ _ _ _ _ (g9 i ci y fi e1 e2 e3) fun k hk => ?_
        have hkF : k ∈ Fs.flatten := List.mem_flatten.2 ⟨fi, List.mem_of_getElem? e3, hk⟩
        exact hrest k (by rw [g8]; exact List.mem_cons_of_mem _ hkF) (fun e => (List.nodup_cons.1 h2).1 (e ▸ hkF)) (nodup_at (List.nodup_cons.1 h2).2 e3 hfj (fun e => hij e.symm) k hk)

/-- A field of an element is written. -/
theorem field_store {b o off : Nat} {r : Row} {A c C : List Value} {y : Value} {K : Vw → Prop} (hr : σ b = some r) (hc : r.cells = A ++ (c ++ C)) (hA : A.length = o) (hoff : off < c.length) (hy : y.oneCell' = true)
    (hK : K (σ.put b { r with cells := A ++ (c.set off y ++ C) })) : pField off (.pointer (some ⟨b, o, none⟩)) fun q => pVal false 1 y (pStore q [y] σ K) := by
  rw [pField_s, pVal1 hy, addr_add]
  refine ⟨b, o + off, r, rfl, hr, ?_, ?_⟩
  · rw [hc]; simp only [List.length_append, List.length_singleton]; omega
  · have e : setAt r.cells (o + off) [y] = A ++ (c.set off y ++ C) := by
      simp only [setAt]
      rw [hc, List.set_append_right _ _ (by omega), List.set_append_left _ _ (by omega), hA]
      congr 3; omega
    rw [e]; exact hK
theorem elem_store {b o : Nat} {r : Row} {A C : List Value} {x y : Value} {K : Vw → Prop} (hr : σ b = some r) (hc : r.cells = A ++ ([x] ++ C)) (hA : A.length = o) (hy : y.oneCell' = true)
    (hK : K (σ.put b { r with cells := A ++ ([y] ++ C) })) : pVal false 1 y (pStore (.pointer (some ⟨b, o, none⟩)) [y] σ K) := by
  rw [pVal1 hy]
  refine ⟨b, o, r, rfl, hr, ?_, ?_⟩
  · rw [hc]; simp only [List.length_append, List.length_singleton]; omega
  · have e : setAt r.cells o [y] = A ++ ([y] ++ C) := by
      simp only [setAt]
      rw [hc, List.set_append_right _ _ (by omega), hA, Nat.sub_self]; rfl
    rw [e]; exact hK
/-- A field of an element is read. -/
theorem field_load {b o off : Nat} {r : Row} {A c C : List Value} {y : Value} {K : (Nat → Value) → Prop} (hb : w0.heap.size ≤ b) (hr : σ b = some r) (hc : r.cells = A ++ (c ++ C)) (hA : A.length = o) (hoff : c[off]? = some y)
    (hK : ∀ g : Nat → Value, g 0 = y → K g) : pField off (.pointer (some ⟨b, o, none⟩)) fun q => pLoad w0 1 q σ K := by
  rw [pField_s, addr_add]
  refine ⟨_, fun _ => y, rfl, fun j hj => ?_, hK _ rfl⟩
  have : j = 0 := by omega
  subst this
  have hlt : off < c.length := (List.getElem?_eq_some_iff.1 hoff).1
  rw [addr_add, get_row hb hr, hc, List.getElem?_append_right (by omega), List.getElem?_append_left (by omega)]
  rw [show o + off + 0 - A.length = off by omega]; exact hoff

/-! ### Marks -/
def mkS (mk : Nat → α → α) (cnt : α → Nat) : Nat → List α → List α
  | _, [] => []
  | k, x :: r => mk k x :: mkS mk cnt (k + cnt x) r
theorem mkS_len {mk : Nat → α → α} {cnt : α → Nat} : ∀ {xs : List α} {k : Nat}, (mkS mk cnt k xs).length = xs.length
  | [], _ => rfl
  | x :: r, k => by simp [mkS, mkS_len (xs := r)]
theorem mkS_snoc {mk : Nat → α → α} {cnt : α → Nat} {x : α} : ∀ {xs : List α} {k : Nat}, mkS mk cnt k (xs ++ [x]) = mkS mk cnt k xs ++ [mk (k + sumBy cnt xs) x]
  | [], k => by simp [mkS, sumBy]
  | y :: r, k => by simp [mkS, sumBy, mkS_snoc (xs := r), Nat.add_assoc]
theorem mkS_get {mk : Nat → α → α} {cnt : α → Nat} : ∀ {xs : List α} {k j : Nat} {x : α}, xs[j]? = some x → (mkS mk cnt k xs)[j]? = some (mk (k + sumBy cnt (xs.take j)) x)
  | [], k, j, x, h => by simp at h
  | y :: r, k, 0, x, h => by simp at h; subst h; simp [mkS, sumBy]
  | y :: r, k, j + 1, x, h => by
    have := mkS_get (mk := mk) (cnt := cnt) (k := k + cnt y) (xs := r) (j := j) (by simpa using h)
    simp only [mkS, List.getElem?_cons_succ, this, List.take_succ_cons, sumBy, Nat.add_assoc]

/-- A loop that marks. -/
theorem mark_loop {T n : Nat} {Rel : (Addr → Option Value) → List Value → α → Prop} {O : Vw → List Nat → List Value → α → Prop} (ok : OOk w0 n Rel O) {mk : Nat → α → α} {cnt : α → Nat} {F : List Nat} {v : Value} {xs : List α} {k : Nat} {R : Value → Vw → Prop}
    {BODY : List Value → (AX → List Value → Vw → Prop) → Vw → Prop}
    (h : OSl w0 n O σ F v xs) (hk : k + sumBy cnt xs ≤ 1000000000000)
    (hB : ∀ (j : Nat) (x : α) (k' : Nat) (s : Vw) (ys : List α) (K : AX → List Value → Vw → Prop), j < ys.length → ys.length = xs.length → KeepsBut F σ s → x ∈ xs → k' + cnt x ≤ 1000000000000 → OSl w0 n O s F v ys → ys[j]? = some x →
      (∀ s', KeepsBut F s s' → OSl w0 n O s' F v (ys.set j (mk k' x)) → K .normal [v, .int .i64 ((k' + cnt x : Nat) : Int), .int .i64 ((j : Int) + 1)] s') → BODY [v, .int .i64 (k' : Nat), .int .i64 (j : Nat)] K s)
    (hR : ∀ s', KeepsBut F σ s' → OSl w0 n O s' F v (mkS mk cnt k xs) → R (.int .i64 ((k + sumBy cnt xs : Nat) : Int)) s') :
    pLoop (fun l K s => pLen (vget l 0) (fun v3 => pBin P T .lss (vget l 2) v3 (fun v4 => pIf v4 (BODY l K s) (K (.exit 0) [vget l 0, vget l 1, vget l 2] s)))) [v, .int .i64 (k : Nat), .int .i64 0] σ
      (fun x l s => match x with | .normal => R (vget l 1) s | .ret => False | .exit i => (match Nat.beq i 0 with | true => R (vget l 1) s | false => False)) := by
  have hl : xs.length ≤ 9223372036854775807 := h.1
  refine loop_rule (m := xs.length) (fun c l s => ∃ j, c + j = xs.length ∧ KeepsBut F σ s ∧ OSl w0 n O s F v (mkS mk cnt k (xs.take j) ++ xs.drop j) ∧ l = [v, .int .i64 ((k + sumBy cnt (xs.take j) : Nat) : Int), .int .i64 (j : Nat)]) ?_ ⟨0, by omega, KeepsBut.refl _ _, by simpa [mkS] using h, by simp [sumBy]⟩
  rintro c l s L ⟨j, hc, hkb, hO, rfl⟩ hL
  simp only [vget, List.getD_cons_zero, List.getD_cons_succ]
  have hlen : (mkS mk cnt k (xs.take j) ++ xs.drop j).length = xs.length := by simp [mkS_len]; omega
  have hrel := hO.rel ok
  rw [hrel.len, hlen, pBin_lt, pIf_d]
  refine ⟨fun hj => ?_, fun hj => ?_⟩
  · have hj' : j < xs.length := by omega
    have hx := List.getElem?_eq_getElem hj'
    have ht := sumBy_take (f := cnt) hx
    have hle := sumBy_le (f := cnt) (xs := xs) (j + 1)
    have htl : (mkS mk cnt k (xs.take j)).length = j := by rw [mkS_len, List.length_take]; omega
    refine hB j xs[j] (k + sumBy cnt (xs.take j)) s _ _ (by rw [hlen]; exact hj') hlen hkb (List.getElem_mem hj') (by omega) hO ?_ fun s' hk' hO' => ?_
    · rw [List.getElem?_append_right (by omega), htl, Nat.sub_self, List.getElem?_drop, Nat.add_zero, hx]
    · refine hL _ _ (c - 1) (by omega) ⟨j + 1, by omega, hkb.trans hk', ?_, ?_⟩
      · have e : (mkS mk cnt k (xs.take j) ++ xs.drop j).set j (mk (k + sumBy cnt (xs.take j)) xs[j]) = mkS mk cnt k (xs.take (j + 1)) ++ xs.drop (j + 1) := by
          rw [List.set_append_right _ _ (by omega), htl, Nat.sub_self, List.drop_eq_getElem_cons hj', List.set_cons_zero, List.take_add_one, hx, Option.toList_some, mkS_snoc]
          simp
        rw [e] at hO'; exact hO'
      · rw [ht]
        congr 2
        · congr 1; omega
  · have hj' : j = xs.length := by omega
    subst hj'
    rw [List.take_length] at hO ⊢
    rw [List.drop_length, List.append_nil] at hO
    exact hR s hkb hO

/-- A loop that looks at marks. -/
theorem held_loop {T n : Nat} {Rel : (Addr → Option Value) → List Value → α → Prop} (hmono : ∀ rd rd' es x, Le rd rd' → Rel rd es x → Rel rd' es x) {mk : Nat → α → α} {cnt : α → Nat} {v : Value} {xs : List α} {k : Nat} {R : Value → Vw → Prop}
    {BODY : List Value → (AX → List Value → Vw → Prop) → Vw → Prop}
    (h : RSl n Rel (Av.get w0 σ) v (mkS mk cnt k xs)) (hk : k + sumBy cnt xs ≤ 1000000000000)
    (hB : ∀ (j : Nat) (x : α) (k' : Nat) (s : Vw) (K : AX → List Value → Vw → Prop), j < xs.length → Keeps σ s → x ∈ xs → k' + cnt x ≤ 1000000000000 → RSl n Rel (Av.get w0 s) v (mkS mk cnt k xs) → (mkS mk cnt k xs)[j]? = some (mk k' x) →
      (∀ s', Keeps s s' → K .normal [v, .int .i64 ((k' + cnt x : Nat) : Int), .int .i64 0, .int .i64 ((j : Int) + 1)] s') → BODY [v, .int .i64 (k' : Nat), .int .i64 0, .int .i64 (j : Nat)] K s)
    (hR : ∀ s', Keeps σ s' → R (.int .i64 ((k + sumBy cnt xs : Nat) : Int)) s') :
    pLoop (fun l K s => pLen (vget l 0) (fun v3 => pBin P T .lss (vget l 3) v3 (fun v4 => pIf v4 (BODY l K s) (K (.exit 0) [vget l 0, vget l 1, vget l 2, vget l 3] s)))) [v, .int .i64 (k : Nat), .int .i64 0, .int .i64 0] σ
      (fun x l s => match x with | .normal => R (vget l 1) s | .ret => R (vget l 2) s | .exit i => (match Nat.beq i 0 with | true => R (vget l 1) s | false => False)) := by
  have hl : xs.length ≤ 9223372036854775807 := by have := h.le; rwa [mkS_len] at this
  refine loop_rule (m := xs.length) (fun c l s => ∃ j, c + j = xs.length ∧ Keeps σ s ∧ l = [v, .int .i64 ((k + sumBy cnt (xs.take j) : Nat) : Int), .int .i64 0, .int .i64 (j : Nat)]) ?_ ⟨0, by omega, Keeps.refl _, by simp [sumBy]⟩
  rintro c l s L ⟨j, hc, hkb, rfl⟩ hL
  simp only [vget, List.getD_cons_zero, List.getD_cons_succ]
  have h' := h.mono hkb.le fun es x => hmono _ _ es x hkb.le
  rw [h'.len, mkS_len, pBin_lt, pIf_d]
  refine ⟨fun hj => ?_, fun hj => ?_⟩
  · have hj' : j < xs.length := by omega
    have hx := List.getElem?_eq_getElem hj'
    have ht := sumBy_take (f := cnt) hx
    have hle := sumBy_le (f := cnt) (xs := xs) (j + 1)
    refine hB j xs[j] (k + sumBy cnt (xs.take j)) s _ hj' hkb (List.getElem_mem hj') (by omega) h' (mkS_get hx) fun s' hk' => ?_
    refine hL _ _ (c - 1) (by omega) ⟨j + 1, by omega, hkb.trans hk', ?_⟩
    rw [ht]
    congr 2
    · congr 1; omega
  · have hj' : j = xs.length := by omega
    subst hj'
    rw [List.take_length]
    exact hR s hkb
end
end Go.Av

/- The plain side, part 3: what the statement's reading of an argument says of the cells. -/
set_option linter.unusedVariables false
set_option linter.unusedSimpArgs false
namespace Go.Av
open Go Go.RowKit

def σ0 : Vw := fun _ => none

section
variable {H : Type} {enc : TypeId × Value → H} {P : Program} {W : World} {fuel : Nat} {cs : List Value} {x : DataW H × List MemPlace}

theorem sat0 (W : World) : Sat W σ0 W := ⟨Below.refl _ _, fun b r h => by cases h⟩

theorem get0 {a : Addr} {v : Value} (h : W.cell? a = some v) {σ : Vw} : Av.get W σ a = some v := by
  have hlt : a.block < W.heap.size := by
    rcases Nat.lt_or_ge a.block W.heap.size with h1 | h1
    · exact h1
    · have : W.heap[a.block]? = none := Array.getElem?_eq_none h1
      unfold World.cell? at h
      simp [this] at h
  unfold Av.get
  rw [if_pos hlt]; exact h

theorem listOf {α : Type} (p : Nat → α → Prop) : ∀ (n : Nat), (∀ i, i < n → ∃ x, p i x) → ∃ xs : List α, xs.length = n ∧ ∀ (j : Nat) (x : α), xs[j]? = some x → p j x
  | 0, _ => ⟨[], rfl, fun j x h => by simp at h⟩
  | n + 1, h => by
    obtain ⟨xs, hl, hx⟩ := listOf p n (fun i hi => h i (by omega))
    obtain ⟨y, hy⟩ := h n (by omega)
    refine ⟨xs ++ [y], by simp [hl], fun j x hj => ?_⟩
    by_cases e : j < xs.length
    · rw [List.getElem?_append_left e] at hj; exact hx j x hj
    · rw [List.getElem?_append_right (by omega)] at hj
      have : j - xs.length = 0 := by
        rcases Nat.eq_zero_or_pos (j - xs.length) with h0 | h0
        · exact h0
        · rw [List.getElem?_eq_none (by simp; omega)] at hj; cases hj
      rw [this] at hj
      simp at hj
      subst hj
      have : j = n := by omega
      subst this; exact hy

/-- A slice is opened, its elements by a rule of their own. -/
theorem open_rsl {α : Type} {t e n : Nat} {R : (Addr → Option Value) → List Value → α → Prop} {spare : Nat → Bool} (ht : P.underlying t = some (.slice e)) (hc : P.cellsOf e = n)
    (hR : ∀ (fuel : Nat) (es : List Value) (y : DataW H × List MemPlace), DataW.trod enc P W 0 spare true fuel e es = some y → es.length = n → ∃ x, R (Av.get W σ0) es x) (h : DataW.trod enc P W 0 spare true fuel t cs = some x) : ∃ v xs, cs = [v] ∧ RSl n R (Av.get W σ0) v xs := by
  rcases DataW.trod_slice ht h with ⟨rfl, _⟩ | ⟨a, len, cap, elems, rest, m, _, rfl, _, hb, hl, hm, hlen, hel, _, _⟩
  · exact ⟨_, [], rfl, none, 0, rfl, by simp, fun j x hj => by simp at hj⟩
  · have each : ∀ i, i < len → ∃ x : α, ∃ es : List Value, es.length = n ∧ (∀ k, k < n → Av.get W σ0 (a.add (i * n + k)) = es[k]?) ∧ R (Av.get W σ0) es x := by
      intro i hi
      have h1 := hel i hi
      rw [hc, List.getElem?_eq_getElem (by omega), Option.bind_eq_some_iff] at h1
      obtain ⟨es, h2, h3⟩ := h1
      obtain ⟨_, hes, hcell⟩ := World.cells?_some h2
      obtain ⟨x, hx⟩ := hR m es _ h3 hes
      refine ⟨x, es, hes, fun k hk => ?_, hx⟩
      have := hcell k hk
      rw [add_add] at this
      have hlt : k < es.length := by omega
      rw [List.getElem?_eq_getElem hlt] at this ⊢
      exact get0 this
    obtain ⟨xs, hxl, hxs⟩ := listOf _ len each
    have hmax : cap ≤ 9223372036854775807 := by have : maxLen = 9223372036854775807 := by decide
                                                omega
    refine ⟨_, xs, rfl, some a, cap, by rw [hxl], ⟨by omega, hmax⟩, fun j x hj => ?_⟩
    obtain ⟨es, g1, g2, g3⟩ := hxs j x hj
    exact ⟨a, es, rfl, g1, g2, g3⟩

theorem open_rs {e : Nat} {spare : Nat → Bool} (he : P.underlying e = some .string) : ∀ (fuel : Nat) (es : List Value) (y : DataW H × List MemPlace), DataW.trod enc P W 0 spare true fuel e es = some y → es.length = 1 → ∃ s, RS (Av.get W σ0) es s := by
  intro fuel es y h _
  obtain ⟨s, rfl, _, hm⟩ := DataW.trod_string he h
  exact ⟨s, rfl, by have : maxLen = 9223372036854775807 := by decide
                    omega⟩

def fsOf (P : Program) (t : Nat) : Array Field := match P.underlying t with | some (.struct fs) => fs | _ => #[]

theorem open_field {t : Nat} {spare : Nat → Bool} (ht : P.underlying t = some (.struct (fsOf P t))) (i ft off n : Nat) (hf : (fsOf P t)[i]?.map (fun f => (f.type, f.offset)) = some (ft, off)) (hn : P.cellsOf ft = n) (h : DataW.trod enc P W 0 spare true fuel t cs = some x) :
    ∃ (fuel' : Nat) (y : DataW H × List MemPlace), DataW.trod enc P W 0 spare true fuel' ft ((cs.drop off).take n) = some y := by
  obtain ⟨xs, m, _, _, _, hl, hall⟩ := DataW.trod_struct ht h
  cases hc : (fsOf P t)[i]? with
  | none => rw [hc] at hf; cases hf
  | some f =>
    rw [hc] at hf
    simp only [Option.map_some, Option.some.injEq, Prod.mk.injEq] at hf
    obtain ⟨rfl, rfl⟩ := hf
    have h1 := hall i f hc
    have hlt : i < xs.length := by rw [hl]; exact (Array.getElem?_eq_some_iff.1 hc).1
    rw [List.getElem?_eq_getElem hlt, hn] at h1
    exact ⟨m, _, h1⟩

/-- From the functions to the statement. -/
theorem AC.calls {f : FuncId} {args : List Value} {R : Value → Vw → Prop} (h : AC P W f args σ0 R) : Calls P f args.toArray W fun e W' => ∃ v σ', e = .returned v ∧ R v σ' ∧ Below W.heap.size W W' :=
  (h.2 W (sat0 W)).mono fun e W' ⟨v, σ', h1, h2, h3⟩ => ⟨v, σ', h1, h2, h3.sat.bel⟩
end
end Go.Av

/- The plain side, part 4: what the statement's reading of an argument says, with the fuel told; numbers, bools, texts. -/
set_option linter.unusedVariables false
set_option linter.unusedSimpArgs false
namespace Go.Av
open Go Go.RowKit

theorem RSl.imp {α : Type} {n : Nat} {R R' : (Addr → Option Value) → List Value → α → Prop} {rd : Addr → Option Value} {v : Value} {xs : List α} (h : RSl n R rd v xs) (hR : ∀ es x, R rd es x → R' rd es x) : RSl n R' rd v xs := by
  obtain ⟨A, cap, h1, h2, h3⟩ := h
  refine ⟨A, cap, h1, h2, fun j x hj => ?_⟩
  obtain ⟨a, es, h4, h5, h6, h7⟩ := h3 j x hj
  exact ⟨a, es, h4, h5, h6, hR _ _ h7⟩

section
variable {H : Type} {enc : TypeId × Value → H} {P : Program} {W : World} {fuel : Nat} {cs : List Value} {x : DataW H × List MemPlace}

/-- A slice is opened, its elements by a rule of their own, at less fuel. -/
theorem open_rsl' {α : Type} {t e n : Nat} {R : (Addr → Option Value) → List Value → α → Prop} {spare : Nat → Bool} (ht : P.underlying t = some (.slice e)) (hc : P.cellsOf e = n)
    (hR : ∀ (m : Nat) (es : List Value) (y : DataW H × List MemPlace), m < fuel → DataW.trod enc P W 0 spare true m e es = some y → es.length = n → ∃ x, R (Av.get W σ0) es x) (h : DataW.trod enc P W 0 spare true fuel t cs = some x) : ∃ v xs, cs = [v] ∧ RSl n R (Av.get W σ0) v xs := by
  rcases DataW.trod_slice ht h with ⟨rfl, _⟩ | ⟨a, len, cap, elems, rest, m, hm1, rfl, _, hb, hl, hm, hlen, hel, _, _⟩
  · exact ⟨_, [], rfl, none, 0, rfl, by simp, fun j x hj => by simp at hj⟩
  · have each : ∀ i, i < len → ∃ x : α, ∃ es : List Value, es.length = n ∧ (∀ k, k < n → Av.get W σ0 (a.add (i * n + k)) = es[k]?) ∧ R (Av.get W σ0) es x := by
      intro i hi
      have h1 := hel i hi
      rw [hc, List.getElem?_eq_getElem (by omega), Option.bind_eq_some_iff] at h1
      obtain ⟨es, h2, h3⟩ := h1
      obtain ⟨_, hes, hcell⟩ := World.cells?_some h2
      obtain ⟨x, hx⟩ := hR m es _ (by omega) h3 hes
      refine ⟨x, es, hes, fun k hk => ?_, hx⟩
      have := hcell k hk
      rw [add_add] at this
      have hlt : k < es.length := by omega
      rw [List.getElem?_eq_getElem hlt] at this ⊢
      exact get0 this
    obtain ⟨xs, hxl, hxs⟩ := listOf _ len each
    have hmax : cap ≤ 9223372036854775807 := by have : maxLen = 9223372036854775807 := by decide
                                                omega
    refine ⟨_, xs, rfl, some a, cap, by rw [hxl], ⟨by omega, hmax⟩, fun j x hj => ?_⟩
    obtain ⟨es, g1, g2, g3⟩ := hxs j x hj
    exact ⟨a, es, rfl, g1, g2, g3⟩

theorem open_field' {t : Nat} {spare : Nat → Bool} (ht : P.underlying t = some (.struct (fsOf P t))) (i ft off n : Nat) (hf : (fsOf P t)[i]?.map (fun f => (f.type, f.offset)) = some (ft, off)) (hn : P.cellsOf ft = n) (h : DataW.trod enc P W 0 spare true fuel t cs = some x) :
    ∃ (fuel' : Nat) (y : DataW H × List MemPlace), fuel' < fuel ∧ DataW.trod enc P W 0 spare true fuel' ft ((cs.drop off).take n) = some y := by
  obtain ⟨xs, m, hm, _, _, hl, hall⟩ := DataW.trod_struct ht h
  cases hc : (fsOf P t)[i]? with
  | none => rw [hc] at hf; cases hf
  | some f =>
    rw [hc] at hf
    simp only [Option.map_some, Option.some.injEq, Prod.mk.injEq] at hf
    obtain ⟨rfl, rfl⟩ := hf
    have h1 := hall i f hc
    have hlt : i < xs.length := by rw [hl]; exact (Array.getElem?_eq_some_iff.1 hc).1
    rw [List.getElem?_eq_getElem hlt, hn] at h1
    exact ⟨m, _, by omega, h1⟩

theorem open_int {t : Nat} {spare : Nat → Bool} (ht : P.underlying t = some (.int .i64)) (h : DataW.trod enc P W 0 spare true fuel t cs = some x) : ∃ n : Int, cs = [.int .i64 n] ∧ -9223372036854775808 ≤ n ∧ n ≤ 9223372036854775807 := by
  obtain ⟨n, rfl, _, hw⟩ := DataW.trod_int ht h
  refine ⟨n, rfl, ?_⟩
  have e1 : IntKind.i64.min = -9223372036854775808 := by decide
  have e2 : IntKind.i64.max = 9223372036854775807 := by decide
  simp only [Lit.wf, Bool.and_eq_true, decide_eq_true_eq, e1, e2] at hw
  exact ⟨hw.1, hw.2⟩
theorem open_str {t : Nat} {spare : Nat → Bool} (ht : P.underlying t = some .string) (h : DataW.trod enc P W 0 spare true fuel t cs = some x) : ∃ s : ByteArray, cs = [.string s] ∧ s.size ≤ 9223372036854775807 := by
  obtain ⟨s, rfl, _, hm⟩ := DataW.trod_string ht h
  exact ⟨s, rfl, by have : maxLen = 9223372036854775807 := by decide
                    omega⟩
theorem open_bool {t : Nat} {spare : Nat → Bool} (ht : P.underlying t = some .bool) (h : DataW.trod enc P W 0 spare true fuel t cs = some x) : ∃ b : Bool, cs = [.bool b] := by
  obtain ⟨b, rfl, _⟩ := DataW.trod_bool ht h
  exact ⟨b, rfl⟩
end
end Go.Av

/- The plain side, part 5: more operations at known values. -/
set_option linter.unusedVariables false
set_option linter.unusedSimpArgs false
namespace Go.Av
open Go Go.RowKit IntWalk

section
variable {P : Program} {w0 : World} {σ σ' : Vw}
theorem pConv_s {k k' : IntKind} {n : Int} {K : Value → Prop} : pConvInt k (.int k' n) K ↔ K (.int k (k.wrap n)) :=
  ⟨fun ⟨_, _, h, hK⟩ => by cases h; exact hK, fun h => ⟨_, _, rfl, h⟩⟩
theorem pConv_u8 {k' : IntKind} {n : Int} {K : Value → Prop} (h : 0 ≤ n ∧ n ≤ 255) : pConvInt .u8 (.int k' n) K ↔ K (.int .u8 n) := by rw [pConv_s, u8_in n h]
theorem pConv_i64 {k' : IntKind} {n : Int} {K : Value → Prop} (h : -9223372036854775808 ≤ n ∧ n ≤ 9223372036854775807) : pConvInt .i64 (.int k' n) K ↔ K (.int .i64 n) := by rw [pConv_s, i64_in n h]
theorem pConv_u64 {k' : IntKind} {n : Int} {K : Value → Prop} (h : 0 ≤ n ∧ n ≤ 18446744073709551615) : pConvInt .u64 (.int k' n) K ↔ K (.int .u64 n) := by rw [pConv_s, u64_in n h]
theorem pBin_rem {T : Nat} {k : IntKind} {a b : Int} {K : Value → Prop} (h : 0 ≤ a ∧ 0 < b) : pBin P T .rem (.int k a) (.int k b) K ↔ K (.int k (a % b)) :=
  pBin_i (by simp only [aint]; rw [if_neg (by omega), Int.tmod_eq_emod_of_nonneg h.1])
theorem pBin_quo {T : Nat} {a b : Int} {K : Value → Prop} (h : 0 ≤ a ∧ a ≤ 9223372036854775807 ∧ 0 < b) : pBin P T .quo (.int .i64 a) (.int .i64 b) K ↔ K (.int .i64 (a / b)) :=
  pBin_i (by simp only [aint]; rw [if_neg (by omega), i64_quo a b (by omega)])
theorem pBin_cat {T : Nat} {a b : ByteArray} {K : Value → Prop} (h : a.size + b.size ≤ 9223372036854775807) : pBin P T .add (.string a) (.string b) K ↔ K (.string (a ++ b)) :=
  pBin_s (by
    have e : IntKind.i64.max = 9223372036854775807 := by decide
    simp only [astr, e]
    rw [if_neg (by omega)])
theorem pMin_s {k : IntKind} {a b : Int} {K : Value → Prop} : pMin (.int k a) (.int k b) K ↔ K (.int k (min a b)) := by
  have e : (if b < a then b else a) = min a b := by split <;> omega
  exact ⟨fun ⟨_, _, _, h1, h2, hK⟩ => by cases h1; cases h2; rw [e] at hK; exact hK, fun hK => ⟨_, _, _, rfl, rfl, by rw [e]; exact hK⟩⟩
theorem pMax_s {k : IntKind} {a b : Int} {K : Value → Prop} : pMax (.int k a) (.int k b) K ↔ K (.int k (max a b)) := by
  have e : (if b > a then b else a) = max a b := by split <;> omega
  exact ⟨fun ⟨_, _, _, h1, h2, hK⟩ => by cases h1; cases h2; rw [e] at hK; exact hK, fun hK => ⟨_, _, _, rfl, rfl, by rw [e]; exact hK⟩⟩
theorem pExtract_s {vs : List Value} {i : Nat} {v : Value} {K : Value → Prop} (h : vs[i]? = some v) : pExtract (.tuple ⟨vs⟩) i K ↔ K v := by
  obtain ⟨hl, he⟩ := List.getElem?_eq_some_iff.1 h
  exact ⟨fun ⟨_, e, hl', hK⟩ => by cases e; rw [he] at hK; exact hK, fun hK => ⟨_, rfl, hl, by rw [he]; exact hK⟩⟩
theorem pIndexStr_s {s : ByteArray} {j : Nat} {K : Value → Prop} (h : j < s.size) (hK : K (.int .u8 ((s[j]'h).toNat : Int))) : pIndexStr (.string s) (.int .i64 j) K :=
  ⟨s, .i64, j, rfl, rfl, by omega, h, hK⟩
theorem pSliceStr_s {s : ByteArray} {lo hi : Option Value} {l h : Int} {K : Value → Prop} (hl : boundOf 0 lo = some l) (hh : boundOf s.size hi = some h) (h0 : 0 ≤ l ∧ l ≤ h ∧ h ≤ s.size) (hK : K (.string (s.extract l.toNat h.toNat))) : pSliceStr (.string s) lo hi K :=
  ⟨s, l, h, rfl, hl, hh, h0.1, h0.2.1, h0.2.2, hK⟩
theorem pLoad_row {b o n : Nat} {r : Row} {A c C : List Value} {K : (Nat → Value) → Prop} (hb : w0.heap.size ≤ b) (hr : σ b = some r) (hc : r.cells = A ++ (c ++ C)) (hA : A.length = o) (hn : c.length = n)
    (hK : ∀ g : Nat → Value, expl g 0 n = c → K g) : pLoad w0 n (.pointer (some ⟨b, o, none⟩)) σ K := by
  refine ⟨_, fun i => c.getD i undef, rfl, fun j hj => ?_, hK _ ?_⟩
  · rw [addr_add, get_row hb hr, hc, List.getElem?_append_right (by omega), List.getElem?_append_left (by omega)]
    rw [show o + j - A.length = j by omega]
    simp only [List.getD_eq_getElem?_getD, List.getElem?_eq_getElem (show j < c.length by omega), Option.getD_some]
  · apply List.ext_getElem?
    intro i
    by_cases hi : i < n
    · rw [expl_get _ _ _ _ hi, Nat.zero_add, List.getD_eq_getElem?_getD, List.getElem?_eq_getElem (by omega)]; rfl
    · rw [List.getElem?_eq_none (by rw [length_expl]; omega), List.getElem?_eq_none (by omega)]
end
end Go.Av

/- Marks of texts. -/
set_option linter.unusedVariables false
set_option linter.unusedSimpArgs false
namespace Go.Proofs.Ytkndffhcncmbjaa
open Go Go.Av

/-- How many figures a number has. -/
def figs (k : Nat) : Nat := if h : k = 0 then 0 else figs (k / 10) + 1
termination_by k
theorem figs_le (k : Nat) : figs k ≤ k := by
  induction k using Nat.strongRecOn with
  | _ k ih =>
    rw [figs]
    by_cases h : k = 0
    · simp [h]
    · rw [dif_neg h]
      have := ih (k / 10) (by omega)
      omega
def digit (n : Nat) : ByteArray := strOfNums [((48 + n % 10 : Nat) : Int)]
theorem size_strOfNums (xs : List Int) : (strOfNums xs).size = xs.length := by
  simp [strOfNums, ByteArray.size]
/-- The figures of a number, ahead of a text. -/
def mtxt (k : Nat) (out : ByteArray) : ByteArray := if h : k = 0 then out else mtxt (k / 10) (digit k ++ out)
termination_by k
theorem mtxt_size (k : Nat) : ∀ out, (mtxt k out).size = out.size + figs k := by
  induction k using Nat.strongRecOn with
  | _ k ih =>
    intro out
    rw [mtxt, figs]
    by_cases h : k = 0
    · simp [h]
    · rw [dif_neg h, dif_neg h, ih (k / 10) (by omega), ByteArray.size_append, digit, size_strOfNums]
      simp; omega
/-- What marks the number k. -/
def mtext (k : Nat) : ByteArray := if k = 0 then ⟨#[109, 48]⟩ else ⟨#[109]⟩ ++ mtxt k ⟨#[]⟩
theorem mtext_size {k : Nat} (h : k ≤ 1000000000000) : (mtext k).size ≤ 9223372036854775807 := by
  unfold mtext
  split
  · show 2 ≤ _; omega
  · rw [ByteArray.size_append, mtxt_size]
    have := figs_le k
    show 1 + (0 + _) ≤ _
    omega

section
variable {w0 : World} {σ : Vw}

theorem markText {k : Nat} (hk : k ≤ 1000000000000) {R : Value → Vw → Prop} (hR : ∀ σ', Keeps σ σ' → R (.string (mtext k)) σ') : AC Try.prog w0 n_laws_markText [.int .i64 (k : Nat)] σ R := by
  refine ac_laws_markText ?_
  unfold vc_laws_markText
  rw [pBin_le, pIf_d]
  refine ⟨fun h => ?_, fun h => ?_⟩
  · have : k = 0 := by omega
    subst this
    exact hR σ (Keeps.refl σ)
  · have hk0 : k ≠ 0 := by omega
    have e : mtext k = ⟨#[109]⟩ ++ mtxt k ⟨#[]⟩ := by rw [mtext, if_neg hk0]
    rw [e] at hR
    have hf := figs_le k
    refine loop_rule (m := figs k) (fun m l s => ∃ (n : Nat) (out : ByteArray), m = figs n ∧ n ≤ k ∧ out.size + figs n ≤ 1000000000000 ∧ mtxt n out = mtxt k ⟨#[]⟩ ∧ Keeps σ s ∧ l = [.int .i64 (n : Nat), .string out]) ?_ ⟨k, ⟨#[]⟩, rfl, Nat.le_refl _, by show 0 + _ ≤ _; omega, rfl, Keeps.refl σ, rfl⟩
    rintro m l s L ⟨n, out, rfl, hn, hsz, hm, hkp, rfl⟩ hL
    simp only [vget, List.getD_cons_zero, List.getD_cons_succ]
    rw [pBin_gt, pIf_d]
    refine ⟨fun hpos => ?_, fun h0 => ?_⟩
    · have hn0 : n ≠ 0 := by omega
      have hfig : figs n = figs (n / 10) + 1 := by rw [figs, dif_neg hn0]
      rw [pBin_rem (by omega), pBin_add (by omega)]
      show pConvInt .u8 _ _
      rw [pConv_u8 (by omega), show (48 + ((n : Int) % 10)) = ((48 + n % 10 : Nat) : Int) by omega, pVal1 rfl]
      intro b h1 h2
      refine pStr1 (by rw [get_row h1 put_at]; rfl) ?_
      show pBin Try.prog 9 .add (.string (digit n)) _ _
      have hd : (digit n).size = 1 := by rw [digit, size_strOfNums]; rfl
      rw [pBin_cat (by omega)]
      rw [pBin_quo (by omega), show ((n : Int) / 10) = ((n / 10 : Nat) : Int) by omega]
      refine hL _ _ (figs (n / 10)) hfig.symm ⟨n / 10, digit n ++ out, rfl, by omega, by rw [ByteArray.size_append, hd]; omega, ?_, hkp.trans (Keeps.put h2), rfl⟩
      rw [← hm]; conv => rhs; rw [mtxt, dif_neg hn0]
    · have hn0 : n = 0 := by omega
      subst hn0
      rw [mtxt, dif_pos rfl] at hm
      subst hm
      have hs := mtxt_size k ⟨#[]⟩
      show pBin Try.prog 9 .add (.string ⟨#[109]⟩) _ _
      rw [pBin_cat (by rw [hs]; show 1 + (0 + _) ≤ _; omega)]
      exact hR s hkp

abbrev mkTexts (k : Nat) (xs : List ByteArray) : List ByteArray := mkS (fun k _ => mtext k) (fun _ => 1) k xs
theorem sum_one {α : Type} (xs : List α) : sumBy (fun _ => 1) xs = xs.length := by
  induction xs with
  | nil => rfl
  | cons a r ih => simp only [sumBy, ih, List.length_cons]; omega

end
end Go.Proofs.Ytkndffhcncmbjaa

/- Lists that grow by append, in a row of our own; elements that need no row; elements that are read in what is older. -/
set_option linter.unusedVariables false
set_option linter.unusedSimpArgs false
namespace Go.Av
open Go Go.RowKit

section
variable {P : Program} {w0 : World} {σ σ' : Vw} {α : Type}

/-! ### Elements that are read by a reader that is fixed -/
def RB (Rel : (Addr → Option Value) → List Value → α → Prop) (rd0 : Addr → Option Value) (rd : Addr → Option Value) (es : List Value) (x : α) : Prop := Rel rd0 es x
def OB (Rel : (Addr → Option Value) → List Value → α → Prop) (rd0 : Addr → Option Value) (σ : Vw) (F : List Nat) (es : List Value) (x : α) : Prop := F = [] ∧ Rel rd0 es x
/-- What a rule of reading must keep. -/
structure ROk (n : Nat) (Rel : (Addr → Option Value) → List Value → α → Prop) : Prop where
  mono : ∀ rd rd' es x, Le rd rd' → Rel rd es x → Rel rd' es x
  len : ∀ rd es x, Rel rd es x → es.length = n
  one : ∀ rd es x, Rel rd es x → ∀ c, c ∈ es → c.oneCell' = true
theorem ok_base {n : Nat} {Rel : (Addr → Option Value) → List Value → α → Prop} (ok : ROk n Rel) (w0 : World) (rd0 : Addr → Option Value) : OOk w0 n (RB Rel rd0) (OB Rel rd0) := by
  refine ⟨?_, ?_, ?_, ?_, ?_, ?_⟩
  · rintro σ F es x ⟨_, h⟩; exact h
  · rintro σ σ' F es x h _; exact h
  · rintro σ F es x ⟨rfl, _⟩ b hb; cases hb
  · rintro σ F es x ⟨rfl, _⟩; exact List.nodup_nil
  · rintro σ F es x ⟨_, h⟩; exact ok.len _ _ _ h
  · rintro σ F es x ⟨_, h⟩; exact ok.one _ _ _ h
theorem RSl.unbase {n : Nat} {Rel : (Addr → Option Value) → List Value → α → Prop} (ok : ROk n Rel) {rd0 rd : Addr → Option Value} {v : Value} {xs : List α} (h : RSl n (RB Rel rd0) rd v xs) (hle : Le rd0 rd) : RSl n Rel rd v xs :=
  h.imp fun es x hx => ok.mono _ _ _ _ hle hx

/-! ### Elements that need no row -/
def RFl (enc : α → List Value) (good : α → Prop) (rd : Addr → Option Value) (es : List Value) (x : α) : Prop := es = enc x ∧ good x
def OFl (enc : α → List Value) (good : α → Prop) (σ : Vw) (F : List Nat) (es : List Value) (x : α) : Prop := F = [] ∧ es = enc x ∧ good x
theorem rok_fl {n : Nat} {enc : α → List Value} {good : α → Prop} (hl : ∀ x, (enc x).length = n) (ho : ∀ x c, c ∈ enc x → c.oneCell' = true) : ROk n (RFl enc good) :=
  ⟨fun _ _ _ _ _ h => h, fun _ _ x h => by rw [h.1]; exact hl x, fun _ _ x h => by rw [h.1]; exact ho x⟩
theorem ok_fl {n : Nat} {enc : α → List Value} {good : α → Prop} (hl : ∀ x, (enc x).length = n) (ho : ∀ x c, c ∈ enc x → c.oneCell' = true) (w0 : World) : OOk w0 n (RFl enc good) (OFl enc good) := by
  refine ⟨?_, ?_, ?_, ?_, ?_, ?_⟩
  · rintro σ F es x ⟨_, h⟩; exact h
  · rintro σ σ' F es x h _; exact h
  · rintro σ F es x ⟨rfl, _⟩ b hb; cases hb
  · rintro σ F es x ⟨rfl, _⟩; exact List.nodup_nil
  · rintro σ F es x ⟨_, h, _⟩; rw [h]; exact hl x
  · rintro σ F es x ⟨_, h, _⟩; rw [h]; exact ho x

/-! ### Growing lists -/
def OAcc (w0 : World) (ety n : Nat) (O : Vw → List Nat → List Value → α → Prop) (σ : Vw) (F : List Nat) (v : Value) (xs : List α) : Prop :=
  xs.length ≤ 9223372036854775807 ∧ F.Nodup ∧ ((v = .slice none 0 0 ∧ xs = [] ∧ F = []) ∨
  ∃ (b cap : Nat) (css : List (List Value)) (Fs : List (List Nat)), v = .slice (some ⟨b, 0, none⟩) xs.length cap ∧ (xs.length ≤ cap ∧ cap ≤ 9223372036854775807) ∧ w0.heap.size ≤ b ∧ σ b = some ⟨ety, css.flatten, cap * n, (0, 0)⟩ ∧
    css.length = xs.length ∧ Fs.length = xs.length ∧ F = b :: Fs.flatten ∧ ∀ (j : Nat) (c : List Value) (x : α) (f : List Nat), css[j]? = some c → xs[j]? = some x → Fs[j]? = some f → O σ f c x)

theorem OAcc.osl {ety n : Nat} {O : Vw → List Nat → List Value → α → Prop} {F : List Nat} {v : Value} {xs : List α} (h : OAcc w0 ety n O σ F v xs) : OSl w0 n O σ F v xs := by
  obtain ⟨h1, h2, h3 | ⟨b, cap, css, Fs, g1, g2, g3, g4, g5, g6, g7, g8⟩⟩ := h
  · exact ⟨h1, h2, .inl h3⟩
  · exact ⟨h1, h2, .inr ⟨b, 0, cap, _, [], [], css, Fs, g1, g2, g3, g4, by simp, rfl, g5, g6, g7, g8⟩⟩
theorem OAcc.frame {ety n : Nat} {Rel : (Addr → Option Value) → List Value → α → Prop} {O : Vw → List Nat → List Value → α → Prop} (ok : OOk w0 n Rel O) {F : List Nat} {v : Value} {xs : List α} (h : OAcc w0 ety n O σ F v xs) (hF : ∀ b, b ∈ F → σ' b = σ b) : OAcc w0 ety n O σ' F v xs := by
  obtain ⟨h1, h2, h3 | ⟨b, cap, css, Fs, g1, g2, g3, g4, g5, g6, g7, g8⟩⟩ := h
  · exact ⟨h1, h2, .inl h3⟩
  · refine ⟨h1, h2, .inr ⟨b, cap, css, Fs, g1, g2, g3, by rw [hF b (by rw [g7]; exact List.mem_cons_self)]; exact g4, g5, g6, g7, fun j c x f e1 e2 e3 => ?_⟩⟩
    refine ok.frame _ _ _ _ _ (g8 j c x f e1 e2 e3) fun i hi => hF i ?_
    rw [g7]
    exact List.mem_cons_of_mem _ (List.mem_flatten.2 ⟨f, List.mem_of_getElem? e3, hi⟩)
theorem OAcc.dom {ety n : Nat} {Rel : (Addr → Option Value) → List Value → α → Prop} {O : Vw → List Nat → List Value → α → Prop} (ok : OOk w0 n Rel O) {F : List Nat} {v : Value} {xs : List α} (h : OAcc w0 ety n O σ F v xs) : ∀ b, b ∈ F → w0.heap.size ≤ b ∧ σ b ≠ none := h.osl.dom ok
theorem OAcc.nil {ety n : Nat} {O : Vw → List Nat → List Value → α → Prop} : OAcc w0 ety n O σ [] (.slice none 0 0) [] := ⟨by simp, by simp, .inl ⟨rfl, rfl, rfl⟩⟩
theorem OAcc.new {ety n b : Nat} {O : Vw → List Nat → List Value → α → Prop} (hb : w0.heap.size ≤ b) : OAcc w0 ety n O (σ.put b ⟨ety, [], 0, (0, 0)⟩) [b] (.slice (some ⟨b, 0, none⟩) 0 0) [] :=
  ⟨by simp, by simp, .inr ⟨b, 0, [], [], rfl, by simp, hb, by rw [put_at]; simp, rfl, rfl, rfl, fun j c x f h => by simp at h⟩⟩

theorem Keeps.but_at {F : List Nat} (h : Keeps σ σ') (hF : ∀ b, b ∈ F → σ b ≠ none) : ∀ b, b ∈ F → σ' b = σ b := fun b hb => by
  cases hs : σ b with
  | none => exact absurd hs (hF b hb)
  | some r => exact h b r hs

/-- Elements are appended, each with rows of its own. -/
theorem OAcc.pushX {ety n bytes m : Nat} {Rel : (Addr → Option Value) → List Value → α → Prop} {O : Vw → List Nat → List Value → α → Prop} (ok : OOk w0 n Rel O) {F : List Nat} {v : Value} {xs ys : List α} {nss : List (List Value)} {Gs : List (List Nat)} {new : List Value}
    (h : OAcc w0 ety n O σ F v xs) (hm : ys.length = m) (hnl : nss.length = m) (hGl : Gs.length = m) (hnew : new = nss.flatten) (hO : ∀ (j : Nat) (c : List Value) (y : α) (g : List Nat), nss[j]? = some c → ys[j]? = some y → Gs[j]? = some g → O σ g c y)
    (hG : Gs.flatten.Nodup) (hGF : ∀ i, i ∈ Gs.flatten → i ∉ F) (hlen : xs.length + m ≤ 1000000000000) (hbytes : bytes ≤ 140) {K : Value → Vw → Prop}
    (hK : ∀ v' F' σ', Ext σ σ' → KeepsBut F σ σ' → OAcc w0 ety n O σ' F' v' (xs ++ ys) → (∀ i, i ∈ F' → i ∈ F ∨ i ∈ Gs.flatten ∨ σ i = none) → K v' σ') : pAppend w0 ety n bytes v m new σ K := by
  have hb47 : (xs.length + m) * bytes ≤ 2 ^ 47 := by
    have h1 : (xs.length + m) * bytes ≤ 1000000000000 * 140 := Nat.mul_le_mul hlen hbytes
    have h2 : (2 : Nat) ^ 47 = 140737488355328 := by decide
    omega
  have hn2 : ∀ c, c ∈ nss → c.length = n := fun c hc => by
    obtain ⟨i, hi⟩ := List.getElem?_of_mem hc
    have hil : i < nss.length := (List.getElem?_eq_some_iff.1 hi).1
    exact ok.len _ _ _ _ (hO i c _ _ hi (List.getElem?_eq_getElem (by omega)) (List.getElem?_eq_getElem (by omega)))
  have hnewl : new.length = m * n := by rw [hnew, flat_len _ hn2, hnl]
  have hGdom : ∀ i, i ∈ Gs.flatten → σ i ≠ none := fun i hi => by
    obtain ⟨j, f, e1, e2⟩ := mem_flat hi
    have hj : j < Gs.length := (List.getElem?_eq_some_iff.1 e1).1
    exact (ok.dom _ _ _ _ (hO j _ _ f (List.getElem?_eq_getElem (by omega)) (List.getElem?_eq_getElem (by omega)) e1) i e2).2
  obtain ⟨h1, h2, ⟨rfl, rfl, rfl⟩ | ⟨b, cap, css, Fs, rfl, g2, g3, g4, g5, g6, g7, g8⟩⟩ := h
  · refine .inr ⟨0, [], ⟨by simp, .inl ⟨rfl, rfl⟩⟩, hnewl, by simpa using (by omega : m ≤ 9223372036854775807), by simpa using hb47, fun v' σ' hg => ?_⟩
    rcases hg with ⟨rfl, rfl, _, h0, _⟩ | ⟨b', c', rfl, g1, g2, rfl, g3, g4⟩
    · have : m = 0 := by omega
      subst this
      have hy : ys = [] := List.length_eq_zero_iff.1 hm
      subst hy
      exact hK _ [] _ (Ext.refl _) (KeepsBut.refl _ _) (by simpa using OAcc.nil) (fun i hi => by cases hi)
    · have hb' : σ b' = none := by
        rcases g4 with h | ⟨n0, c0, h⟩
        · exact h
        · cases h
      have hbG : b' ∉ Gs.flatten := fun hi => hGdom b' hi hb'
      refine hK _ (b' :: Gs.flatten) _ (Keeps.put hb').ext (Keeps.put hb').but ?_ fun i hi => ?_
      · refine ⟨by simp; omega, List.nodup_cons.2 ⟨hbG, hG⟩, .inr ⟨b', c', nss, Gs, by simp [hm], by simp [hm]; omega, g3, by rw [put_at]; simp [hnew], by simp [hm, hnl], by simp [hm, hGl], rfl, fun j c x f e1 e2 e3 => ?_⟩⟩
        simp only [List.nil_append] at e2
        refine ok.frame _ _ _ _ _ (hO j c x f e1 e2 e3) fun i hi => ?_
        have : i ≠ b' := fun e => hbG (e ▸ List.mem_flatten.2 ⟨f, List.mem_of_getElem? e3, hi⟩)
        simp [Vw.put, this]
      · rcases List.mem_cons.1 hi with e | e
        · rw [e]; exact .inr (.inr hb')
        · exact .inr (.inl e)
  · have hn1 : ∀ c, c ∈ css → c.length = n := fun c hc => by
      obtain ⟨i, hi⟩ := List.getElem?_of_mem hc
      have hil : i < css.length := (List.getElem?_eq_some_iff.1 hi).1
      exact ok.len _ _ _ _ (g8 i c _ _ hi (List.getElem?_eq_getElem (by omega)) (List.getElem?_eq_getElem (by omega)))
    have g4' := g4
    rw [g7] at h2
    have hbFs : b ∉ Fs.flatten := (List.nodup_cons.1 h2).1
    have hbG : b ∉ Gs.flatten := fun hi => hGF b hi (by rw [g7]; exact List.mem_cons_self)
    have hFsdom : ∀ i, i ∈ Fs.flatten → σ i ≠ none := fun i hi => by
      obtain ⟨j, f, e1, e2⟩ := mem_flat hi
      have hj : j < Fs.length := (List.getElem?_eq_some_iff.1 e1).1
      exact (ok.dom _ _ _ _ (g8 j _ _ f (List.getElem?_eq_getElem (by omega)) (List.getElem?_eq_getElem (by omega)) e1) i e2).2
    refine .inr ⟨xs.length, css.flatten, ⟨by rw [flat_len _ hn1, g5], .inr ⟨b, cap, rfl, g4, g2.1, g2.2⟩⟩, hnewl, by omega, hb47, fun v' σ' hg => ?_⟩
    rcases hg with ⟨rfl, rfl, h, _⟩ | ⟨b', c', rfl, k1, k2, rfl, k3, k4⟩
    · cases h
    · have hb' : b' ∉ Fs.flatten ∧ b' ∉ Gs.flatten ∧ (b' = b ∨ σ b' = none) := by
        rcases k4 with h | ⟨n0, c0, h⟩
        · exact ⟨fun hi => hFsdom b' hi h, fun hi => hGdom b' hi h, .inr h⟩
        · cases h; exact ⟨hbFs, hbG, .inl rfl⟩
      refine hK _ (b' :: (Fs ++ Gs).flatten) _ ?_ ?_ ?_ fun i hi => ?_
      · rcases hb'.2.2 with rfl | h
        · intro i r hi
          by_cases e : i = b'
          · subst e
            rw [g4'] at hi; cases hi
            exact ⟨_, put_at, List.prefix_append _ _⟩
          · exact ⟨r, by simp [Vw.put, e, hi], List.prefix_refl _⟩
        · exact (Keeps.put h).ext
      · rcases hb'.2.2 with rfl | h
        · exact KeepsBut.put (by rw [g7]; exact List.mem_cons_self)
        · exact (Keeps.put h).but
      · refine ⟨by simp; omega, ?_, .inr ⟨b', c', css ++ nss, Fs ++ Gs, by simp [hm], by simp [hm]; omega, k3, by rw [put_at, hnew]; simp, by simp [hm, hnl, g5], by simp [hm, hGl, g6], rfl, fun j c x f e1 e2 e3 => ?_⟩⟩
        · rw [List.flatten_append, List.nodup_cons]
          refine ⟨fun hi => ?_, List.nodup_append.2 ⟨(List.nodup_cons.1 h2).2, hG, fun a ha d hd e => hGF d hd (by rw [g7, ← e]; exact List.mem_cons_of_mem _ ha)⟩⟩
          rcases List.mem_append.1 hi with h | h
          · exact hb'.1 h
          · exact hb'.2.1 h
        · have hput : ∀ i, i ≠ b' → (σ.put b' ⟨ety, css.flatten ++ new, c' * n, (0, 0)⟩) i = σ i := fun i hi => by simp [Vw.put, hi]
          by_cases hj : j < xs.length
          · rw [List.getElem?_append_left (by omega)] at e1 e2 e3
            exact ok.frame _ _ _ _ _ (g8 j c x f e1 e2 e3) fun i hi => hput i fun e => hb'.1 (e ▸ List.mem_flatten.2 ⟨f, List.mem_of_getElem? e3, hi⟩)
          · rw [List.getElem?_append_right (by omega)] at e1 e2 e3
            rw [g5] at e1; rw [g6] at e3
            exact ok.frame _ _ _ _ _ (hO _ c x f e1 e2 e3) fun i hi => hput i fun e => hb'.2.1 (e ▸ List.mem_flatten.2 ⟨f, List.mem_of_getElem? e3, hi⟩)
      · rw [g7]
        rcases List.mem_cons.1 hi with e | e
        · rw [e]
          rcases hb'.2.2 with rfl | h
          · exact .inl List.mem_cons_self
          · exact .inr (.inr h)
        · rw [List.flatten_append] at e
          rcases List.mem_append.1 e with h | h
          · exact .inl (List.mem_cons_of_mem _ h)
          · exact .inr (.inl h)

/-- One element is appended. -/
theorem OAcc.oneX {ety n bytes : Nat} {Rel : (Addr → Option Value) → List Value → α → Prop} {O : Vw → List Nat → List Value → α → Prop} (ok : OOk w0 n Rel O) {F f : List Nat} {v : Value} {xs : List α} {y : α} {es : List Value}
    (h : OAcc w0 ety n O σ F v xs) (hy : O σ f es y) (hf : ∀ i, i ∈ f → i ∉ F) (hlen : xs.length + 1 ≤ 1000000000000) (hbytes : bytes ≤ 140) {K : Value → Vw → Prop}
    (hK : ∀ v' F' σ', Ext σ σ' → KeepsBut F σ σ' → OAcc w0 ety n O σ' F' v' (xs ++ [y]) → (∀ i, i ∈ F' → i ∈ F ∨ i ∈ f ∨ σ i = none) → K v' σ') : allOne es ∧ pAppend w0 ety n bytes v 1 es σ K := by
  refine ⟨ok.one _ _ _ _ hy, ?_⟩
  refine h.pushX ok (ys := [y]) (nss := [es]) (Gs := [f]) rfl rfl rfl (by simp) (fun j c z g e1 e2 e3 => ?_) (by simpa using ok.nodup _ _ _ _ hy) (by simpa using hf) hlen hbytes (by simpa using hK)
  cases j with
  | zero => simp at e1 e2 e3; subst e1 e2 e3; exact hy
  | succ j => simp at e1

/-- All elements of a list that is read are appended; they need no rows of their own. -/
theorem OAcc.allX {ety n bytes : Nat} {Rel Rel0 : (Addr → Option Value) → List Value → α → Prop} {O : Vw → List Nat → List Value → α → Prop} (ok : OOk w0 n Rel O) {rd0 : Addr → Option Value} {F : List Nat} {v s : Value} {xs ys : List α}
    (h : OAcc w0 ety n O σ F v xs) (hs : RSl n Rel0 rd0 s ys) (hle : Le rd0 (Av.get w0 σ)) (hO : ∀ es y, Rel0 rd0 es y → O σ [] es y) (hlen : xs.length + ys.length ≤ 1000000000000) (hbytes : bytes ≤ 140) {K : Value → Vw → Prop}
    (hK : ∀ v' F' σ', Ext σ σ' → KeepsBut F σ σ' → OAcc w0 ety n O σ' F' v' (xs ++ ys) → (∀ i, i ∈ F' → i ∈ F ∨ σ i = none) → K v' σ') : pAppendS w0 ety n bytes v s σ K := by
  obtain ⟨A, cap, rfl, hc, hel⟩ := hs
  obtain ⟨css, hcl, hcs⟩ := listOf (fun i (c : List Value) => ∃ a y, A = some a ∧ ys[i]? = some y ∧ c.length = n ∧ (∀ k, k < n → rd0 (a.add (i * n + k)) = c[k]?) ∧ Rel0 rd0 c y) ys.length (fun i hi => by
    obtain ⟨a, es, h1, h2, h3, h4⟩ := hel i _ (List.getElem?_eq_getElem hi)
    exact ⟨es, a, _, h1, List.getElem?_eq_getElem hi, h2, h3, h4⟩)
  have hn : ∀ c, c ∈ css → c.length = n := fun c hc => by
    obtain ⟨i, hi⟩ := List.getElem?_of_mem hc
    obtain ⟨_, _, _, _, h, _⟩ := hcs i c hi
    exact h
  refine ⟨A, ys.length, cap, css.flatten, rfl, by rw [flat_len _ hn, hcl], ?_, ?_, ?_⟩
  · intro c hc
    obtain ⟨es, he, hce⟩ := List.mem_flatten.1 hc
    obtain ⟨i, hi⟩ := List.getElem?_of_mem he
    obtain ⟨a, y, _, _, _, _, hR⟩ := hcs i es hi
    exact ok.one _ _ _ _ (hO _ _ hR) c hce
  · intro j hj
    rw [flat_len _ hn, hcl] at hj
    have hn0 : 0 < n := by
      rcases Nat.eq_zero_or_pos n with e | e
      · subst e; omega
      · exact e
    have hq : j / n < css.length := by rw [hcl]; exact (Nat.div_lt_iff_lt_mul hn0).2 hj
    obtain ⟨a, y, hA, hy, hl, hk, hR⟩ := hcs (j / n) _ (List.getElem?_eq_getElem hq)
    have hr : j % n < n := Nat.mod_lt _ hn0
    have hdm : j / n * n + j % n = j := by rw [Nat.mul_comm]; exact Nat.div_add_mod j n
    refine ⟨a, hA, ?_⟩
    have e1 := flat_get css hn (j / n) _ (List.getElem?_eq_getElem hq) (j % n) hr
    rw [hdm] at e1
    have e2 := hk (j % n) hr
    rw [hdm, ← e1] at e2
    have hj' : j < css.flatten.length := by rw [flat_len _ hn, hcl]; exact hj
    rw [List.getElem?_eq_getElem hj'] at e2
    exact hle _ _ e2
  · refine h.pushX ok (ys := ys) (nss := css) (Gs := List.replicate ys.length []) rfl hcl (by simp) rfl (fun j c y g e1 e2 e3 => ?_) (by simp) (by simp) hlen hbytes (by simpa using hK)
    obtain ⟨a, y', _, hy, _, _, hR⟩ := hcs j c e1
    rw [e2] at hy; cases hy
    rw [List.getElem?_replicate] at e3
    split at e3
    · cases e3; exact hO _ _ hR
    · cases e3

/-- All elements of a list of our own are appended, with their rows. -/
theorem OAcc.allOwnX {ety n bytes : Nat} {Rel : (Addr → Option Value) → List Value → α → Prop} {O : Vw → List Nat → List Value → α → Prop} (ok : OOk w0 n Rel O) {F G : List Nat} {v s : Value} {xs ys : List α}
    (h : OAcc w0 ety n O σ F v xs) (hs : OSl w0 n O σ G s ys) (hGF : ∀ i, i ∈ G → i ∉ F) (hlen : xs.length + ys.length ≤ 1000000000000) (hbytes : bytes ≤ 140) {K : Value → Vw → Prop}
    (hK : ∀ v' F' σ', Ext σ σ' → KeepsBut F σ σ' → OAcc w0 ety n O σ' F' v' (xs ++ ys) → (∀ i, i ∈ F' → i ∈ F ∨ i ∈ G ∨ σ i = none) → K v' σ') : pAppendS w0 ety n bytes v s σ K := by
  obtain ⟨s1, s2, ⟨rfl, rfl, rfl⟩ | ⟨b, off, cap, r, pre, post, css, Gs, rfl, gc, g2, g3, g4, g5, g6, g7, g8, g9⟩⟩ := hs
  · refine ⟨none, 0, 0, [], rfl, by simp, by simp, fun j hj => by simp at hj, ?_⟩
    exact h.pushX ok (ys := []) (nss := []) (Gs := []) rfl rfl rfl rfl (fun j c y g e1 => by simp at e1) (by simp) (by simp) (by simpa using hlen) hbytes (by simpa using hK)
  · have hn : ∀ c, c ∈ css → c.length = n := fun c hc => by
      obtain ⟨i, hi⟩ := List.getElem?_of_mem hc
      have hil : i < css.length := (List.getElem?_eq_some_iff.1 hi).1
      exact ok.len _ _ _ _ (g9 i c _ _ hi (List.getElem?_eq_getElem (by omega)) (List.getElem?_eq_getElem (by omega)))
    rw [g8] at s2
    refine ⟨_, ys.length, cap, css.flatten, rfl, by rw [flat_len _ hn, g6], ?_, ?_, ?_⟩
    · intro c hc
      obtain ⟨es, he, hce⟩ := List.mem_flatten.1 hc
      obtain ⟨i, hi⟩ := List.getElem?_of_mem he
      have hil : i < css.length := (List.getElem?_eq_some_iff.1 hi).1
      exact ok.one _ _ _ _ (g9 i es _ _ hi (List.getElem?_eq_getElem (by omega)) (List.getElem?_eq_getElem (by omega))) c hce
    · intro j hj
      refine ⟨_, rfl, ?_⟩
      rw [addr_add, get_row g2 g3, g4, List.getElem?_append_right (by omega), List.getElem?_append_left (by omega), ← List.getElem?_eq_getElem hj]
      congr 1; omega
    · refine h.pushX ok (ys := ys) (nss := css) (Gs := Gs) rfl g6 g7 rfl g9 (List.nodup_cons.1 s2).2 (fun i hi => hGF i (by rw [g8]; exact List.mem_cons_of_mem _ hi)) hlen hbytes fun v' F' σ' k0 k1 k2 k3 => hK v' F' σ' k0 k1 k2 fun i hi => ?_
      rcases k3 i hi with h | h | h
      · exact .inl h
      · exact .inr (.inl (by rw [g8]; exact List.mem_cons_of_mem _ h))
      · exact .inr (.inr h)
theorem OAcc.push {ety n bytes m : Nat} {Rel : (Addr → Option Value) → List Value → α → Prop} {O : Vw → List Nat → List Value → α → Prop} (ok : OOk w0 n Rel O) {F : List Nat} {v : Value} {xs ys : List α} {nss : List (List Value)} {Gs : List (List Nat)} {new : List Value}
    (h : OAcc w0 ety n O σ F v xs) (hm : ys.length = m) (hnl : nss.length = m) (hGl : Gs.length = m) (hnew : new = nss.flatten) (hO : ∀ (j : Nat) (c : List Value) (y : α) (g : List Nat), nss[j]? = some c → ys[j]? = some y → Gs[j]? = some g → O σ g c y)
    (hG : Gs.flatten.Nodup) (hGF : ∀ i, i ∈ Gs.flatten → i ∉ F) (hlen : xs.length + m ≤ 1000000000000) (hbytes : bytes ≤ 140) {K : Value → Vw → Prop}
    (hK : ∀ v' F' σ', KeepsBut F σ σ' → OAcc w0 ety n O σ' F' v' (xs ++ ys) → (∀ i, i ∈ F' → i ∈ F ∨ i ∈ Gs.flatten ∨ σ i = none) → K v' σ') : pAppend w0 ety n bytes v m new σ K :=
  OAcc.pushX ok h hm hnl hGl hnew hO hG hGF hlen hbytes fun v' F' σ' _ => hK v' F' σ'
theorem OAcc.one {ety n bytes : Nat} {Rel : (Addr → Option Value) → List Value → α → Prop} {O : Vw → List Nat → List Value → α → Prop} (ok : OOk w0 n Rel O) {F f : List Nat} {v : Value} {xs : List α} {y : α} {es : List Value}
    (h : OAcc w0 ety n O σ F v xs) (hy : O σ f es y) (hf : ∀ i, i ∈ f → i ∉ F) (hlen : xs.length + 1 ≤ 1000000000000) (hbytes : bytes ≤ 140) {K : Value → Vw → Prop}
    (hK : ∀ v' F' σ', KeepsBut F σ σ' → OAcc w0 ety n O σ' F' v' (xs ++ [y]) → (∀ i, i ∈ F' → i ∈ F ∨ i ∈ f ∨ σ i = none) → K v' σ') : allOne es ∧ pAppend w0 ety n bytes v 1 es σ K :=
  OAcc.oneX ok h hy hf hlen hbytes fun v' F' σ' _ => hK v' F' σ'
theorem OAcc.all {ety n bytes : Nat} {Rel Rel0 : (Addr → Option Value) → List Value → α → Prop} {O : Vw → List Nat → List Value → α → Prop} (ok : OOk w0 n Rel O) {rd0 : Addr → Option Value} {F : List Nat} {v s : Value} {xs ys : List α}
    (h : OAcc w0 ety n O σ F v xs) (hs : RSl n Rel0 rd0 s ys) (hle : Le rd0 (Av.get w0 σ)) (hO : ∀ es y, Rel0 rd0 es y → O σ [] es y) (hlen : xs.length + ys.length ≤ 1000000000000) (hbytes : bytes ≤ 140) {K : Value → Vw → Prop}
    (hK : ∀ v' F' σ', KeepsBut F σ σ' → OAcc w0 ety n O σ' F' v' (xs ++ ys) → (∀ i, i ∈ F' → i ∈ F ∨ σ i = none) → K v' σ') : pAppendS w0 ety n bytes v s σ K :=
  OAcc.allX ok h hs hle hO hlen hbytes fun v' F' σ' _ => hK v' F' σ'
theorem OAcc.allOwn {ety n bytes : Nat} {Rel : (Addr → Option Value) → List Value → α → Prop} {O : Vw → List Nat → List Value → α → Prop} (ok : OOk w0 n Rel O) {F G : List Nat} {v s : Value} {xs ys : List α}
    (h : OAcc w0 ety n O σ F v xs) (hs : OSl w0 n O σ G s ys) (hGF : ∀ i, i ∈ G → i ∉ F) (hlen : xs.length + ys.length ≤ 1000000000000) (hbytes : bytes ≤ 140) {K : Value → Vw → Prop}
    (hK : ∀ v' F' σ', KeepsBut F σ σ' → OAcc w0 ety n O σ' F' v' (xs ++ ys) → (∀ i, i ∈ F' → i ∈ F ∨ i ∈ G ∨ σ i = none) → K v' σ') : pAppendS w0 ety n bytes v s σ K :=
  OAcc.allOwnX ok h hs hGF hlen hbytes fun v' F' σ' _ => hK v' F' σ'
end
end Go.Av

/- A part of a list that is read; slices of texts. -/
set_option linter.unusedVariables false
set_option linter.unusedSimpArgs false
namespace Go.Av
open Go Go.RowKit

section
variable {P : Program} {w0 : World} {σ σ' : Vw} {α : Type}

theorem RSl.slice {n : Nat} {R : (Addr → Option Value) → List Value → α → Prop} {rd : Addr → Option Value} {v : Value} {xs : List α} (h : RSl n R rd v xs) {lo hi : Option Value} {l u : Nat} (hl : boundOf 0 lo = some (l : Int)) (hu : boundOf xs.length hi = some (u : Int)) (hlu : l ≤ u) (hux : u ≤ xs.length) {K : Value → Prop}
    (hK : ∀ v', RSl n R rd v' ((xs.take u).drop l) → K v') : pSlice n v lo hi K := by
  obtain ⟨A, cap, rfl, h2, h3⟩ := h
  refine ⟨A, xs.length, cap, l, u, rfl, hl, hu, by omega, by omega, by omega, hK _ ?_⟩
  have hlen : ((xs.take u).drop l).length = u - l := by rw [List.length_drop, List.length_take]; omega
  simp only [Int.toNat_natCast]
  refine ⟨if cap = l then A else Option.map (fun x => x.add (l * n)) A, cap - l, by rw [hlen], by rw [hlen]; omega, fun j x hj => ?_⟩
  rw [List.getElem?_drop] at hj
  have hlt : l + j < u := by
    rcases Nat.lt_or_ge (l + j) u with h | h
    · exact h
    · rw [List.getElem?_eq_none (by rw [List.length_take]; omega)] at hj; cases hj
  rw [List.getElem?_take_of_lt hlt] at hj
  obtain ⟨a, es, rfl, g1, g2, g3⟩ := h3 _ x hj
  refine ⟨a.add (l * n), es, ?_, g1, fun i hi => ?_, g3⟩
  · rw [if_neg (by omega)]; rfl
  · rw [add_add, ← g2 i hi]
    congr 2
    rw [Nat.add_mul]; omega

/-- A field of an element is read. -/
theorem RSl.atfp {n : Nat} {R : (Addr → Option Value) → List Value → α → Prop} {v : Value} {xs : List α} (h : RSl n R (Av.get w0 σ) v xs) {j : Nat} {x : α} (hj : xs[j]? = some x) (o : Nat) (ho : o < n) {K : Value → (Nat → Value) → Prop} (hK : ∀ (q : Value) (es : List Value) (g : Nat → Value), R (Av.get w0 σ) es x → es[o]? = some (g 0) → K q g) :
    pIndexAddr n v (.int .i64 j) fun p => pField o p fun q => pLoad w0 1 q σ (K q) := by
  obtain ⟨A, cap, rfl, _, h3⟩ := h
  obtain ⟨a, es, rfl, h5, h6, h7⟩ := h3 j x hj
  have hlt : j < xs.length := (List.getElem?_eq_some_iff.1 hj).1
  refine ⟨a, xs.length, cap, .i64, j, rfl, rfl, by omega, by omega, a.add (j * n), rfl, (a.add (j * n)).add o, fun _ => es.getD o undef, rfl, fun i hi => ?_, hK _ es _ h7 ?_⟩
  · have e : i = 0 := by omega
    subst e
    have := h6 o ho
    rw [add_add, add_add, Nat.add_zero, this, List.getElem?_eq_getElem (by omega)]
    simp only [List.getD_eq_getElem?_getD, List.getElem?_eq_getElem (show o < es.length by omega), Option.getD_some]
  · simp only [List.getD_eq_getElem?_getD, List.getElem?_eq_getElem (show o < es.length by omega), Option.getD_some]

theorem RSl.atf {n : Nat} {R : (Addr → Option Value) → List Value → α → Prop} {v : Value} {xs : List α} (h : RSl n R (Av.get w0 σ) v xs) {j : Nat} {x : α} (hj : xs[j]? = some x) (o : Nat) (ho : o < n) {K : (Nat → Value) → Prop} (hK : ∀ (es : List Value) (g : Nat → Value), R (Av.get w0 σ) es x → es[o]? = some (g 0) → K g) :
    pIndexAddr n v (.int .i64 j) fun p => pField o p fun q => pLoad w0 1 q σ K :=
  h.atfp hj o ho fun q => hK

/-- A run of rounds over a list. -/
theorem foldl_take {β : Type} {f : β → α → β} {b : β} {xs : List α} {j : Nat} {x : α} (hj : xs[j]? = some x) : (xs.take (j + 1)).foldl f b = f ((xs.take j).foldl f b) x := by
  rw [List.take_add_one, hj, Option.toList_some, List.foldl_append]; rfl
end
end Go.Av

/- Pages: what is read of them; the chain of a text, by either reading. -/
set_option linter.unusedVariables false
set_option linter.unusedSimpArgs false
namespace Go.Proofs.Ytkndffhcncmbjaa
open Go Go.Av

structure Pg where
  used : Bool
  data : ByteArray
  next : Int
structure Pn where
  name : ByteArray
  first : Int
  size : Int
noncomputable instance : DecidableEq Pg := fun _ _ => Classical.propDecidable _
noncomputable instance : DecidableEq Pn := fun _ _ => Classical.propDecidable _
def rng (n : Int) : Prop := -9223372036854775808 ≤ n ∧ n ≤ 9223372036854775807
def encPg (x : Pg) : List Value := [.bool x.used, .string x.data, .int .i64 x.next]
def goodPg (x : Pg) : Prop := x.data.size ≤ 9223372036854775807 ∧ rng x.next
def encPn (x : Pn) : List Value := [.string x.name, .int .i64 x.first, .int .i64 x.size]
def goodPn (x : Pn) : Prop := x.name.size ≤ 9223372036854775807 ∧ rng x.first ∧ rng x.size
abbrev RPg := RFl encPg goodPg
abbrev OPg := OFl encPg goodPg
abbrev RPn := RFl encPn goodPn
abbrev OPn := OFl encPn goodPn
theorem rok_pg : ROk 3 RPg := rok_fl (n := 3) (enc := encPg) (good := goodPg) (fun _ => rfl) (fun x c h => by simp [encPg] at h; rcases h with rfl | rfl | rfl <;> rfl)
theorem ok_pg (w0 : World) : OOk w0 3 RPg OPg := ok_fl (n := 3) (enc := encPg) (good := goodPg) (fun _ => rfl) (fun x c h => by simp [encPg] at h; rcases h with rfl | rfl | rfl <;> rfl) w0
theorem rok_pn : ROk 3 RPn := rok_fl (n := 3) (enc := encPn) (good := goodPn) (fun _ => rfl) (fun x c h => by simp [encPn] at h; rcases h with rfl | rfl | rfl <;> rfl)
theorem ok_pn (w0 : World) : OOk w0 3 RPn OPn := ok_fl (n := 3) (enc := encPn) (good := goodPn) (fun _ => rfl) (fun x c h => by simp [encPn] at h; rcases h with rfl | rfl | rfl <;> rfl) w0
/-- Pages and names. -/
abbrev Pgs := List Pg × List Pn
def RPgs (rd : Addr → Option Value) (es : List Value) (x : Pgs) : Prop := ∃ u v, es = [u, v] ∧ RSl 3 RPg rd u x.1 ∧ RSl 3 RPn rd v x.2
def OPgs (w0 : World) (σ : Vw) (F : List Nat) (es : List Value) (x : Pgs) : Prop := ∃ u v F1 F2, es = [u, v] ∧ OSl w0 3 OPg σ F1 u x.1 ∧ OSl w0 3 OPn σ F2 v x.2 ∧ F = F1 ++ F2 ∧ F.Nodup
theorem mono_pgs {rd rd' : Addr → Option Value} {es : List Value} {x : Pgs} (hl : Le rd rd') (h : RPgs rd es x) : RPgs rd' es x := by
  obtain ⟨u, v, h1, h2, h3⟩ := h
  exact ⟨u, v, h1, h2.mono hl fun _ _ h => h, h3.mono hl fun _ _ h => h⟩
/-- Places. -/
def encN (n : Nat) : List Value := [.int .i64 n]
def goodN (n : Nat) : Prop := n ≤ 9223372036854775807
abbrev RN := RFl encN goodN
abbrev ON := OFl encN goodN
theorem ok_n (w0 : World) : OOk w0 1 RN ON := ok_fl (n := 1) (enc := encN) (good := goodN) (fun _ => rfl) (fun x c h => by simp [encN] at h; rw [h]; rfl) w0
/-- Bools. -/
def encB (b : Bool) : List Value := [.bool b]
abbrev RBo := RFl encB fun _ => True
abbrev OBo := OFl encB fun _ => True
theorem ok_bo (w0 : World) : OOk w0 1 RBo OBo := ok_fl (n := 1) (enc := encB) (good := fun _ => True) (fun _ => rfl) (fun x c h => by simp [encB] at h; rw [h]; rfl) w0

/-- A chain of pages from a place on, with so many bytes left; the last says what ends it. -/
def Ch (e : Int → Prop) (ps : List Pg) : List Nat → Int → Int → Prop
  | [], a, l => e a ∧ l = 0
  | i :: r, a, l => a = i ∧ 0 < l ∧ ∃ p, ps[i]? = some p ∧ p.used = true ∧ (p.data.size : Int) = min 40 l ∧ Ch e ps r p.next (l - min 40 l)
theorem Ch.uniq {e : Int → Prop} (he : ∀ a, e a → a < 0) {ps : List Pg} : ∀ {r s : List Nat} {a l : Int}, Ch e ps r a l → Ch e ps s a l → r = s
  | [], [], _, _, _, _ => rfl
  | [], i :: s, a, l, h, h' => by have := h.2; have := h'.2.1; omega
  | i :: r, [], a, l, h, h' => by have := h.2.1; have := h'.2; omega
  | i :: r, j :: s, a, l, h, h' => by
    obtain ⟨h1, h2, p, h3, h4, h5, h6⟩ := h
    obtain ⟨g1, g2, q, g3, g4, g5, g6⟩ := h'
    have : i = j := by omega
    subst this
    rw [h3] at g3; cases g3
    rw [Ch.uniq he h6 g6]

open Classical in
/-- The chain, if there is one that is good. -/
noncomputable def chOf (e : Int → Prop) (g : List Nat → Prop) (ps : List Pg) (a l : Int) : Option (List Nat) := if h : ∃ r, Ch e ps r a l ∧ g r then some (Classical.choose h) else none
theorem chOf_some {e : Int → Prop} (he : ∀ a, e a → a < 0) {g : List Nat → Prop} {ps : List Pg} {a l : Int} {r : List Nat} (h : Ch e ps r a l) (hg : g r) : chOf e g ps a l = some r := by
  have hx : ∃ r, Ch e ps r a l ∧ g r := ⟨r, h, hg⟩
  unfold chOf
  rw [dif_pos hx, Ch.uniq he (Classical.choose_spec hx).1 h]
theorem chOf_none {e : Int → Prop} {g : List Nat → Prop} {ps : List Pg} {a l : Int} (h : ∀ r, Ch e ps r a l → g r → False) : chOf e g ps a l = none := by
  unfold chOf
  rw [dif_neg]
  rintro ⟨r, h1, h2⟩; exact h r h1 h2
theorem chOf_spec {e : Int → Prop} {g : List Nat → Prop} {ps : List Pg} {a l : Int} {r : List Nat} (h : chOf e g ps a l = some r) : Ch e ps r a l ∧ g r := by
  unfold chOf at h
  split at h
  · rename_i hx; cases h; exact Classical.choose_spec hx
  · cases h
noncomputable abbrev chS (ps : List Pg) (n : Pn) : Option (List Nat) := chOf (fun a => a < 0) (fun _ => True) ps n.first n.size
noncomputable abbrev chI (ps : List Pg) (n : Pn) : Option (List Nat) := chOf (fun a => a = -1) (fun r => r.Nodup) ps n.first n.size
/-- Where one stands in a chain. -/
def At (e : Int → Prop) (ps : List Pg) (a0 l0 : Int) (out : List Nat) (a l : Int) : Prop := ∀ r, Ch e ps r a0 l0 ↔ ∃ s, r = out ++ s ∧ Ch e ps s a l
theorem At.start {e : Int → Prop} {ps : List Pg} {a l : Int} : At e ps a l [] a l := fun r => ⟨fun h => ⟨r, rfl, h⟩, fun ⟨s, h, h'⟩ => by rw [h]; exact h'⟩
theorem At.step {e : Int → Prop} (he : ∀ a, e a → a < 0) {ps : List Pg} {a0 l0 a l : Int} {out : List Nat} (h : At e ps a0 l0 out a l) {i : Nat} {p : Pg} (hi : a = i) (hl : 0 < l) (hp : ps[i]? = some p) (hu : p.used = true) (hs : (p.data.size : Int) = min 40 l) : At e ps a0 l0 (out ++ [i]) p.next (l - min 40 l) := fun r => by
  rw [h r]
  constructor
  · rintro ⟨s, rfl, hs'⟩
    cases s with
    | nil => have := he a hs'.1; omega
    | cons j s =>
      obtain ⟨h1, h2, q, h3, h4, h5, h6⟩ := hs'
      have : j = i := by omega
      subst this
      rw [hp] at h3; cases h3
      exact ⟨s, by simp, h6⟩
  · rintro ⟨s, rfl, hs'⟩
    exact ⟨i :: s, by simp, hi, hl, p, hp, hu, hs, hs'⟩
theorem At.fail {e : Int → Prop} {g : List Nat → Prop} {ps : List Pg} {a0 l0 a l : Int} {out : List Nat} (h : At e ps a0 l0 out a l) (hn : ∀ s, Ch e ps s a l → g (out ++ s) → False) : chOf e g ps a0 l0 = none :=
  chOf_none fun r hr hg => by obtain ⟨s, rfl, hs⟩ := (h r).1 hr; exact hn s hs hg
theorem At.done {e : Int → Prop} (he : ∀ a, e a → a < 0) {g : List Nat → Prop} {ps : List Pg} {a0 l0 a : Int} {out : List Nat} (h : At e ps a0 l0 out a 0) (ha : e a) (hg : g out) : chOf e g ps a0 l0 = some out :=
  chOf_some he ((h out).2 ⟨[], by simp, ha, rfl⟩) hg

section
variable {w0 : World} {σ : Vw}

theorem fl_at {α : Type} {n : Nat} {enc : α → List Value} {good : α → Prop} {v : Value} {xs : List α} (h : RSl n (RFl enc good) (Av.get w0 σ) v xs) {j : Nat} {x : α} (hj : xs[j]? = some x) (o : Nat) (ho : o < n) {y : Value} (hy : (enc x)[o]? = some y) {K : (Nat → Value) → Prop} (hK : ∀ g : Nat → Value, g 0 = y → good x → K g) :
    pIndexAddr n v (.int .i64 j) fun p => pField o p fun q => pLoad w0 1 q σ K :=
  h.atf hj o ho fun es g ⟨h1, h2⟩ hg => hK g (by rw [h1, hy] at hg; cases hg; rfl) h2

/-- A part of two slices. -/
theorem RPgs.two {rd : Addr → Option Value} {es : List Value} {x : Pgs} (h : RPgs rd es x) {A : Prop} : pVal true 2 (.agg ⟨es⟩) A ↔ A := by
  obtain ⟨u, v, rfl, h1, h2⟩ := h
  exact pVal_2 h1.one h2.one
theorem pn_three {x : Pn} {A : Prop} : pVal true 3 (.agg ⟨encPn x⟩) A ↔ A := pVal_3 rfl rfl rfl
theorem pg_three {x : Pg} {A : Prop} : pVal true 3 (.agg ⟨encPg x⟩) A ↔ A := pVal_3 rfl rfl rfl

theorem spec_Chain {es : List Value} {x : Pgs} {n : Pn} (h : RPgs (Av.get w0 σ) es x) (hn : goodPn n) (h96 : x.1.length = 96) (hsz : 0 ≤ n.size ∧ n.size ≤ 3000) {R : Value → Vw → Prop}
    (hR : ∀ v F σ', Keeps σ σ' → OSl w0 1 ON σ' F v ((chS x.1 n).getD []) ∨ chS x.1 n = none → (∀ i, i ∈ F → σ i = none) → R (.tuple ⟨[v, .bool (chS x.1 n).isSome]⟩) σ') : AC Try.prog w0 n_spec_l32Chain [.agg ⟨es⟩, .agg ⟨encPn n⟩] σ R := by
  refine ac_spec_l32Chain ?_
  unfold vc_spec_l32Chain
  have he : ∀ a : Int, (fun a : Int => a < 0) a → a < 0 := fun a h => h
  rw [h.two, pn_three]
  obtain ⟨u, w, rfl, hu, hw⟩ := h
  simp only [cellOf_agg, List.getD_cons_zero, List.getD_cons_succ, encPn]
  intro b h1 h2
  have ha := OAcc.new (w0 := w0) (σ := σ) (ety := t_int) (n := 1) (O := ON) h1
  have bad : ∀ (v : Value) (F : List Nat) (s : Vw), Keeps σ s → (∀ i, i ∈ F → σ i = none) → chS x.1 n = none → R (.tuple ⟨[v, .bool false]⟩) s := fun v F s hk hF hc => by
    have := hR v F s hk (.inr hc) hF
    rw [hc] at this; exact this
  refine loop_rule (m := n.size.toNat + 1) (fun c l s => ∃ (out : List Nat) (v : Value) (F : List Nat) (a lf : Int) (v0 : Value), 0 ≤ lf ∧ lf < c ∧ lf + 40 * out.length ≤ 3040 ∧ (lf = 0 ∨ lf + 40 * out.length ≤ 3000) ∧ rng a ∧ Keeps σ s ∧ (∀ i, i ∈ F → σ i = none) ∧ OAcc w0 t_int 1 ON s F v out ∧ At (fun a => a < 0) x.1 n.first n.size out a lf ∧ l = [v0, .bool false, v, .int .i64 a, .int .i64 lf, u, w]) ?_
    ⟨[], _, [b], n.first, n.size, _, hsz.1, by omega, by simp; omega, by simp; omega, hn.2.1, Keeps.put h2, fun i hi => by rw [List.mem_singleton.1 hi]; exact h2, ha, At.start, rfl⟩
  rintro c l s L ⟨out, v, F, a, lf, v0, hl0, hlc, hl1, hl2, hra, hk, hF, ho, hat, rfl⟩ hL
  simp only [vget, List.getD_cons_zero, List.getD_cons_succ]
  have hus := hu.mono hk.le fun _ _ h => h
  rw [pBin_ge, pIf_d]
  refine ⟨fun hge => ?_, fun hlt => ?_⟩
  · obtain ⟨i, hi⟩ : ∃ i : Nat, a = i := ⟨a.toNat, by omega⟩
    subst hi
    rw [hus.len, h96, pBin_ge, pIf_d]
    refine ⟨fun hbig => bad v F s hk hF (hat.fail fun r hr _ => ?_), fun hsm => ?_⟩
    · cases r with
      | nil => have := hr.1; omega
      | cons j r =>
        obtain ⟨g1, g2, p, g3, _⟩ := hr
        have := (List.getElem?_eq_some_iff.1 g3).1
        omega
    have hx := List.getElem?_eq_getElem (show i < x.1.length by omega)
    generalize hxi : x.1[i]'(by omega) = p at hx
    have nop : ∀ (P : Prop), (0 < lf → p.used = true → (p.data.size : Int) = min 40 lf → False) → chS x.1 n = none := fun P hP => hat.fail fun r hr _ => by
      cases r with
      | nil => have := hr.1; omega
      | cons j r =>
        obtain ⟨g1, g2, q, g3, g4, g5, _⟩ := hr
        have : i = j := by omega
        subst this
        rw [hx] at g3; cases g3
        exact hP g2 g4 g5
    refine fl_at hus hx 0 (by omega) rfl fun g hg hgood => ?_
    rw [hg, pUn_not, pIf_b]
    refine ⟨fun hb => bad v F s hk hF (nop True fun _ h _ => by rw [h] at hb; cases hb), fun hb => ?_⟩
    have hused : p.used = true := by simpa using hb
    have hov := ho.osl.rel (ok_n w0)
    rw [hov.len, pBin_gt, pIf_d]
    refine ⟨fun h => by omega, fun _ => ?_⟩
    rw [pBin_gt, pIf_d]
    have next : ∀ (sz : Int), sz = min 40 lf → 0 < lf → (p.data.size : Int) = sz → pVal false 1 (Value.int .i64 (i : Nat)) ((allOne [Value.int .i64 (i : Nat)]) ∧ (pAppend w0 3 1 8 v 1 [Value.int .i64 (i : Nat)] s (fun v21 s22 => pBin Try.prog 3 .sub (.int .i64 lf) (.int .i64 sz) (fun v23 => pIndexAddr 3 u (.int .i64 (i : Nat)) (fun v24 => pField 2 v24 (fun v25 => pLoad w0 1 v25 s22 (fun g26 => L [v0, .bool false, v21, g26 0, v23, u, w] s22))))))) := by
      rintro sz rfl hpos hds
      rw [pVal1 rfl]
      refine ho.one (ok_n w0) (f := []) (y := i) ⟨rfl, rfl, show i ≤ _ by omega⟩ (by simp) (by omega) (by omega) fun v' F' s' k' o' f' => ?_
      have hk' : Keeps σ s' := k'.old hk hF
      rw [pBin_sub (by omega)]
      refine fl_at (hu.mono hk'.le fun _ _ h => h) hx 2 (by omega) rfl fun g hg hgood => ?_
      rw [hg]
      refine hL _ _ (c - 1) (by omega) ⟨out ++ [i], v', F', p.next, lf - min 40 lf, v0, by omega, by omega, ?_, ?_, hgood.2, hk', fun j hj => ?_, o', hat.step he rfl hpos hx hused hds, rfl⟩
      · simp only [List.length_append, List.length_singleton]; omega
      · simp only [List.length_append, List.length_singleton]; omega
      · rcases f' j hj with h | h | h
        · exact hF j h
        · cases h
        · cases hs : σ j with
          | none => rfl
          | some r => rw [hk j r hs] at h; cases h
    refine ⟨fun h40 => ?_, fun h40 => ?_⟩
    · refine fl_at hus hx 1 (by omega) rfl fun g hg hgood => ?_
      rw [hg, pLenS_s, pBin_ne, pIf_d]
      refine ⟨fun hne => bad v F s hk hF (nop True fun _ _ h => by omega), fun heq => ?_⟩
      rw [pBin_eq, pIf_d]
      refine ⟨fun h => by omega, fun _ => ?_⟩
      exact next 40 (by omega) (by omega) (by omega)
    · refine fl_at hus hx 1 (by omega) rfl fun g hg hgood => ?_
      rw [hg, pLenS_s, pBin_ne, pIf_d]
      refine ⟨fun hne => bad v F s hk hF (nop True fun _ _ h => by omega), fun heq => ?_⟩
      rw [pBin_eq, pIf_d]
      refine ⟨fun h0 => bad v F s hk hF (nop True fun h _ _ => by omega), fun h0 => ?_⟩
      exact next lf (by omega) (by omega) (by omega)
  · show pBin Try.prog 3 .eql (.int .i64 lf) (.int .i64 0) _
    rw [pBin_eq]
    by_cases h0 : lf = 0
    · subst h0
      have hc : chS x.1 n = some out := hat.done he (show a < 0 by omega) trivial
      have := hR v F s hk (.inl (by rw [hc]; exact ho.osl)) hF
      rw [hc] at this
      simpa using this
    · have hc : chS x.1 n = none := hat.fail fun r hr _ => by
        cases r with
        | nil => exact h0 hr.2
        | cons j r => have := hr.1; omega
      have := bad v F s hk hF hc
      simpa [h0] using this
end
end Go.Proofs.Ytkndffhcncmbjaa

/- Pages: the chain of a text by the program's own reading. -/
set_option linter.unusedVariables false
set_option linter.unusedSimpArgs false
namespace Go.Proofs.Ytkndffhcncmbjaa
open Go Go.Av

section
variable {w0 : World} {σ : Vw}

theorem impl_pieces {n s : Int} (h : 0 ≤ n ∧ n ≤ 1000000000000 ∧ 0 < s ∧ s ≤ 1000000) {R : Value → Vw → Prop} (hR : R (.int .i64 ((n + s - 1) / s)) σ) : AC Try.prog w0 n_impl_pieces [.int .i64 n, .int .i64 s] σ R := by
  refine ac_impl_pieces ?_
  unfold vc_impl_pieces
  rw [pBin_add (by omega), pBin_sub (by omega), pBin_quo (by omega)]
  exact hR

theorem has_int {v : Value} {xs : List Nat} {a : Int} (h : RSl 1 RN (Av.get w0 σ) v xs) {R : Value → Vw → Prop} (hR : ∀ b : Bool, (b = true ↔ ∃ i : Nat, i ∈ xs ∧ a = i) → R (.bool b) σ) : AC Try.prog w0 n_slices_Contains_int_int [v, .int .i64 a] σ R := by
  refine ac_slices_Contains_int_int ?_
  unfold vc_slices_Contains_int_int
  refine ac_slices_Index_int_int ?_
  unfold vc_slices_Index_int_int
  have hl := h.le
  rw [h.len]
  refine loop_rule (m := xs.length) (fun c l s => ∃ j, s = σ ∧ c + j = xs.length ∧ (∀ (i y : Nat), i < j → xs[i]? = some y → a ≠ y) ∧ l = [v, .int .i64 a, .int .i64 0, .int .i64 xs.length, .int .i64 (j : Nat)]) ?_ ⟨0, rfl, by omega, fun i y h => by omega, rfl⟩
  rintro c l s L ⟨j, rfl, hc, ht, rfl⟩ hL
  simp only [vget, List.getD_cons_zero, List.getD_cons_succ]
  rw [pBin_lt, pIf_d]
  refine ⟨fun hj => ?_, fun hj => ?_⟩
  · have hx := List.getElem?_eq_getElem (show j < xs.length by omega)
    generalize hxj : xs[j] = y at hx
    refine h.at hx fun g hg => ?_
    obtain ⟨hg, hs⟩ := hg
    simp only [expl, encN, List.cons.injEq, and_true] at hg
    rw [hg, pBin_eq, pIf_d]
    refine ⟨fun he => ?_, fun hne => ?_⟩
    · rw [pBin_ge]
      have e : decide ((0 : Int) ≤ (j : Nat)) = true := by simp
      rw [e]
      exact hR true ⟨fun _ => ⟨y, List.mem_of_getElem? hx, he⟩, fun _ => rfl⟩
    · rw [pBin_add (by omega)]
      refine hL _ _ (c - 1) (by omega) ⟨j + 1, rfl, by omega, fun i z hi hz => ?_, rfl⟩
      by_cases e : i = j
      · subst e; rw [hx] at hz; cases hz; exact hne
      · exact ht i z (by omega) hz
  · show pBin Try.prog 3 .geq (.int .i64 (-1)) (.int .i64 0) _
    rw [pBin_ge]
    have e : decide ((0 : Int) ≤ -1) = false := by decide
    rw [e]
    refine hR false ⟨fun h => (by cases h), fun ⟨i, hi, he⟩ => ?_⟩
    obtain ⟨k, hk⟩ := List.getElem?_of_mem hi
    exact absurd he (ht k i (by have := (List.getElem?_eq_some_iff.1 hk).1; omega) hk)

theorem impl_Chain {es : List Value} {x : Pgs} {n : Pn} (h : RPgs (Av.get w0 σ) es x) (hn : goodPn n) (h96 : x.1.length = 96) (hsz : 0 ≤ n.size ∧ n.size ≤ 3000) {R : Value → Vw → Prop}
    (hR : ∀ v F σ', Keeps σ σ' → OSl w0 1 ON σ' F v ((chI x.1 n).getD []) ∨ chI x.1 n = none → (∀ i, i ∈ F → σ i = none) → R (.tuple ⟨[v, .bool (chI x.1 n).isSome]⟩) σ') : AC Try.prog w0 n_impl_Pages_chain [.agg ⟨es⟩, .agg ⟨encPn n⟩] σ R := by
  refine ac_impl_Pages_chain ?_
  unfold vc_impl_Pages_chain
  have he : ∀ a : Int, (fun a : Int => a = -1) a → a < 0 := fun a (h : a = -1) => by omega
  rw [h.two, pn_three]
  obtain ⟨u, w, rfl, hu, hw⟩ := h
  simp only [cellOf_agg, List.getD_cons_zero, List.getD_cons_succ, encPn]
  intro b h1 h2
  have ha := OAcc.new (w0 := w0) (σ := σ) (ety := t_int) (n := 1) (O := ON) h1
  have bad : ∀ (v : Value) (F : List Nat) (s : Vw), Keeps σ s → (∀ i, i ∈ F → σ i = none) → chI x.1 n = none → R (.tuple ⟨[v, .bool false]⟩) s := fun v F s hk hF hc => by
    have := hR v F s hk (.inr hc) hF
    rw [hc] at this; exact this
  refine impl_pieces (by omega) ?_
  obtain ⟨q, hq⟩ : ∃ q : Nat, (n.size + 40 - 1) / 40 = q := ⟨((n.size + 40 - 1) / 40).toNat, by omega⟩
  rw [hq]
  refine loop_rule (m := q) (fun c l s => ∃ (k : Nat) (out : List Nat) (v : Value) (F : List Nat) (a : Int), c + k = q ∧ out.length = k ∧ out.Nodup ∧ rng a ∧ Keeps σ s ∧ (∀ i, i ∈ F → σ i = none) ∧ OAcc w0 t_int 1 ON s F v out ∧ At (fun a => a = -1) x.1 n.first n.size out a (if n.size - k * 40 < 0 then 0 else n.size - k * 40) ∧
      l = [.slice none 0 0, .bool false, v, .int .i64 a, .int .i64 q, .int .i64 (k : Nat), u, w, .string n.name, .int .i64 n.first, .int .i64 n.size]) ?_
    ⟨0, [], _, [b], n.first, by omega, rfl, by simp, hn.2.1, Keeps.put h2, fun i hi => by rw [List.mem_singleton.1 hi]; exact h2, ha, by
      rw [show (if n.size - (0 : Nat) * 40 < 0 then 0 else n.size - (0 : Nat) * 40) = n.size by split <;> omega]; exact At.start, rfl⟩
  rintro c l s L ⟨k, out, v, F, a, hc, hol, hnd, hra, hk, hF, ho, hat, rfl⟩ hL
  simp only [vget, List.getD_cons_zero, List.getD_cons_succ]
  have hus := hu.mono hk.le fun _ _ h => h
  rw [pBin_lt, pIf_d]
  refine ⟨fun hlt => ?_, fun hge => ?_⟩
  · have hpos : 0 < n.size - (k : Int) * 40 := by omega
    rw [if_neg (by omega)] at hat
    rw [pBin_mul (by omega), pBin_sub (by omega), pMin_s]
    refine impl_within ?_
    rw [pUn_not, pIf_b]
    have nop : ∀ (P : Prop), (∀ (i : Nat) (p : Pg), a = i → x.1[i]? = some p → (out ++ [i]).Nodup → p.used = true → (p.data.size : Int) = min 40 (n.size - k * 40) → False) → chI x.1 n = none := fun P hP => hat.fail fun r hr hg => by
      cases r with
      | nil => have := hr.2; omega
      | cons j r =>
        obtain ⟨g1, g2, q, g3, g4, g5, _⟩ := hr
        refine hP j q g1 g3 ?_ g4 g5
        rw [show out ++ j :: r = (out ++ [j]) ++ r by simp] at hg
        exact (List.nodup_append.1 hg).1
    refine ⟨fun hin => bad _ F s hk hF (nop True fun i p h1 h2 _ _ _ => ?_), fun hin => ?_⟩
    · have := (List.getElem?_eq_some_iff.1 h2).1
      simp [inB] at hin; omega
    have hin' : 0 ≤ a ∧ a ≤ 95 := by simpa [inB] using hin
    obtain ⟨i, hi⟩ : ∃ i : Nat, a = i := ⟨a.toNat, by omega⟩
    subst hi
    have hx := List.getElem?_eq_getElem (show i < x.1.length by omega)
    generalize hxi : x.1[i]'(by omega) = p at hx
    refine has_int (ho.osl.rel (ok_n w0)) fun bb hbb => ?_
    rw [pIf_b]
    refine ⟨fun hb => bad _ F s hk hF (nop True fun j q h1 h2 h3 _ _ => ?_), fun hb => ?_⟩
    · obtain ⟨i', hi', he'⟩ := hbb.1 hb
      have : j = i' := by omega
      subst this
      exact (List.nodup_append.1 h3).2.2 j hi' j (by simp) rfl
    have hni : i ∉ out := fun hm => by rw [hbb.2 ⟨i, hm, rfl⟩] at hb; cases hb
    have same : ∀ (j : Nat) (q : Pg), ((i : Nat) : Int) = j → x.1[j]? = some q → q = p := fun j q h1 h2 => by
      have : i = j := by omega
      subst this
      rw [hx] at h2; cases h2; rfl
    refine fl_at hus hx 0 (by omega) rfl fun g hg hgood => ?_
    rw [hg, pUn_not, pIf_b]
    refine ⟨fun hb => bad _ F s hk hF (nop True fun j q h1 h2 _ h4 _ => by rw [same j q h1 h2] at h4; rw [h4] at hb; cases hb), fun hb => ?_⟩
    have hused : p.used = true := by simpa using hb
    refine fl_at hus hx 1 (by omega) rfl fun g hg hgood => ?_
    rw [hg, pLenS_s, pBin_ne, pIf_d]
    refine ⟨fun hne => bad _ F s hk hF (nop True fun j q h1 h2 _ _ h5 => by rw [same j q h1 h2] at h5; exact hne h5), fun heq => ?_⟩
    have hds : (p.data.size : Int) = min 40 (n.size - k * 40) := Decidable.not_not.1 heq
    rw [pVal1 rfl]
    refine ho.one (ok_n w0) (f := []) (y := i) ⟨rfl, rfl, show i ≤ _ by omega⟩ (by simp) (by omega) (by omega) fun v' F' s' k' o' f' => ?_
    have hk' : Keeps σ s' := k'.old hk hF
    refine fl_at (hu.mono hk'.le fun _ _ h => h) hx 2 (by omega) rfl fun g hg hgood => ?_
    rw [hg, pBin_add (by omega)]
    refine hL _ _ (c - 1) (by omega) ⟨k + 1, out ++ [i], v', F', p.next, by omega, by simp [hol], ?_, hgood.2, hk', fun j hj => ?_, o', ?_, rfl⟩
    · exact List.nodup_append.2 ⟨hnd, by simp, fun a ha b hb e => by rw [List.mem_singleton.1 hb] at e; exact hni (e ▸ ha)⟩
    · rcases f' j hj with h | h | h
      · exact hF j h
      · cases h
      · cases hs : σ j with
        | none => rfl
        | some r => rw [hk j r hs] at h; cases h
    · have := hat.step he rfl hpos hx hused hds
      rw [show (if n.size - ((k + 1 : Nat) : Int) * 40 < 0 then 0 else n.size - ((k + 1 : Nat) : Int) * 40) = n.size - k * 40 - min 40 (n.size - k * 40) by split <;> omega]
      exact this
  · have hk0 : n.size - (k : Int) * 40 ≤ 0 := by omega
    have e0 : (if n.size - (k : Int) * 40 < 0 then 0 else n.size - (k : Int) * 40) = 0 := by split <;> omega
    rw [e0] at hat
    show pBin Try.prog 3 .eql (.int .i64 a) (.int .i64 (-1)) _
    rw [pBin_eq]
    by_cases h1 : a = -1
    · have hc : chI x.1 n = some out := hat.done he h1 hnd
      have := hR v F s hk (.inl (by rw [hc]; exact ho.osl)) hF
      rw [hc] at this
      simpa [h1] using this
    · have hc : chI x.1 n = none := hat.fail fun r hr _ => by
        cases r with
        | nil => exact h1 hr.1
        | cons j r => have := hr.2.1; omega
      have := bad v F s hk hF hc
      simpa [h1] using this
end
end Go.Proofs.Ytkndffhcncmbjaa

/- Paths: their names, their order, what lies within what. -/
set_option linter.unusedVariables false
set_option linter.unusedSimpArgs false
namespace Go.Proofs.Ytkndffhcncmbjaa
open Go Go.Av

def strLt (a b : ByteArray) : Bool := Op.bytesLess a.toList b.toList
theorem bl_irrefl : ∀ (a : List UInt8), Op.bytesLess a a = false
  | [] => rfl
  | x :: r => by simp [Op.bytesLess, bl_irrefl r]
theorem bl_total : ∀ (a b : List UInt8), Op.bytesLess a b = false → Op.bytesLess b a = false → a = b
  | [], [], _, _ => rfl
  | [], _ :: _, h, _ => by simp [Op.bytesLess] at h
  | _ :: _, [], _, h => by simp [Op.bytesLess] at h
  | x :: r, y :: q, h, h' => by
    simp only [Op.bytesLess] at h h'
    by_cases e : x = y
    · subst e
      simp at h h'
      rw [bl_total r q h h']
    · exfalso
      rcases UInt8.lt_or_lt_of_ne e with h1 | h1
      · simp [h1] at h
      · simp [h1] at h'
theorem strLt_irrefl (a : ByteArray) : strLt a a = false := bl_irrefl _
theorem strLt_total {a b : ByteArray} (h : strLt a b = false) (h' : strLt b a = false) : a = b := bytes_inj (bl_total _ _ h h')

noncomputable def allNames : List ByteArray → Bool
  | [] => true
  | s :: r => nameOk s && allNames r
theorem allNames_iff {xs : List ByteArray} : allNames xs = true ↔ ∀ (j : Nat) (x : ByteArray), xs[j]? = some x → nameOk x = true := by
  induction xs with
  | nil => simp [allNames]
  | cons a r ih =>
    simp only [allNames, Bool.and_eq_true, ih]
    constructor
    · rintro ⟨h1, h2⟩ j x hj
      cases j with
      | zero => simp at hj; subst hj; exact h1
      | succ j => exact h2 j x (by simpa using hj)
    · intro h
      exact ⟨h 0 a rfl, fun j x hj => h (j + 1) x (by simpa using hj)⟩
theorem allNames_bad {xs : List ByteArray} {j : Nat} {x : ByteArray} (hj : xs[j]? = some x) (h : nameOk x = false) : allNames xs = false := by
  cases hc : allNames xs with
  | false => rfl
  | true => have := allNames_iff.1 hc j x hj; rw [h] at this; cases this

def lexLt : List ByteArray → List ByteArray → Bool
  | _, [] => false
  | [], _ :: _ => true
  | a :: r, b :: q => if a = b then lexLt r q else strLt a b

theorem lexLt_at : ∀ {j : Nat} {xs ys : List ByteArray} {a b : ByteArray}, xs.take j = ys.take j → xs[j]? = some a → ys[j]? = some b → a ≠ b → lexLt xs ys = strLt a b
  | 0, x :: xs, y :: ys, a, b, _, h1, h2, h3 => by simp at h1 h2; subst h1 h2; simp [lexLt, h3]
  | j + 1, x :: xs, y :: ys, a, b, h, h1, h2, h3 => by
    simp only [List.take_succ_cons, List.cons.injEq] at h
    obtain ⟨rfl, h⟩ := h
    simp only [lexLt, if_true]
    exact lexLt_at h (by simpa using h1) (by simpa using h2) h3
  | _, [], _, a, b, _, h1, _, _ => by simp at h1
  | _, _ :: _, [], a, b, _, _, h2, _ => by simp at h2
theorem lexLt_end : ∀ {j : Nat} {xs ys : List ByteArray}, xs.take j = ys.take j → (j = xs.length ∧ j ≤ ys.length ∨ j = ys.length ∧ j ≤ xs.length) → lexLt xs ys = decide (xs.length < ys.length)
  | 0, xs, ys, _, h => by
    rcases h with ⟨h, _⟩ | ⟨h, _⟩
    · have : xs = [] := List.length_eq_zero_iff.1 h.symm
      subst this
      cases ys <;> simp [lexLt]
    · have : ys = [] := List.length_eq_zero_iff.1 h.symm
      subst this
      simp [lexLt]
  | j + 1, x :: xs, y :: ys, h, hl => by
    simp only [List.take_succ_cons, List.cons.injEq] at h
    obtain ⟨rfl, h⟩ := h
    simp only [lexLt, if_true, List.length_cons]
    rw [lexLt_end h (by simp at hl; omega)]
    simp
  | j + 1, [], ys, _, hl => by simp at hl
  | j + 1, _ :: _, [], _, hl => by simp at hl

/-- The path b lies at or under a. -/
def within (b a : List ByteArray) : Bool := decide (a.length ≤ b.length ∧ b.take a.length = a)


section
variable {w0 : World} {σ : Vw}

theorem pBin_slt {P : Program} {T : Nat} {a b : ByteArray} {K : Value → Prop} : pBin P T .lss (.string a) (.string b) K ↔ K (.bool (strLt a b)) := pBin_s rfl
theorem pBin_sgt {P : Program} {T : Nat} {a b : ByteArray} {K : Value → Prop} : pBin P T .gtr (.string a) (.string b) K ↔ K (.bool (!(strLt a b || decide (a = b)))) := pBin_s (by simp only [astr, toList_eq]; rfl)

theorem RSl.at1 {v : Value} {xs : List ByteArray} (h : RSl 1 RS (Av.get w0 σ) v xs) {j : Nat} {x : ByteArray} (hj : xs[j]? = some x) {K : (Nat → Value) → Prop} (hK : ∀ g : Nat → Value, g 0 = .string x → x.size ≤ 9223372036854775807 → K g) :
    pIndexAddr 1 v (.int .i64 j) fun p => pLoad w0 1 p σ K := by
  refine h.at hj fun g hg => ?_
  obtain ⟨hg, hs⟩ := hg
  simp only [expl, List.cons.injEq, and_true] at hg
  exact hK g hg hs

end
end Go.Proofs.Ytkndffhcncmbjaa

/- Paths: their order, what lies within what; marks. -/
set_option linter.unusedVariables false
set_option linter.unusedSimpArgs false
namespace Go.Proofs.Ytkndffhcncmbjaa
open Go Go.Av

section
variable {w0 : World} {σ : Vw}

/-- What Go's comparison of texts gives. -/
def cmpS (a b : ByteArray) : Int := if strLt a b then -1 else if a = b then 0 else 1
theorem within_false {xs ys : List ByteArray} {j : Nat} {a b : ByteArray} (hx : xs[j]? = some a) (hy : ys[j]? = some b) (h : a ≠ b) : within xs ys = false := by
  unfold within
  simp only [decide_eq_false_iff_not]
  rintro ⟨h1, h2⟩
  have hlt := (List.getElem?_eq_some_iff.1 hy).1
  rw [← h2, List.getElem?_take_of_lt hlt, hx] at hy
  cases hy; exact h rfl

noncomputable def markOkB (x : Mk) : Bool := if x.1 = [] then x.2 else allNames x.1 && inB x.1.length 1 4

end
end Go.Proofs.Ytkndffhcncmbjaa

/- Trails: when one is sound; the law 'TrailOk', of the functions alone. -/
set_option linter.unusedVariables false
set_option linter.unusedSimpArgs false
namespace Go.Proofs.Ytkndffhcncmbjaa
open Go Go.Av

def underB (ms : List Mk) (p : List ByteArray) : Bool := ms.any fun m => m.2 && within p m.1
def afterB (ms : List Mk) (j : Nat) (x : Mk) : Bool :=
  match j with
  | 0 => true
  | i + 1 => match ms[i]? with
    | some y => lexLt y.1 x.1
    | none => true
noncomputable def goodAt (ms : List Mk) (j : Nat) (x : Mk) : Bool := markOkB x && (afterB ms j x && !underB (ms.take j) x.1)
def allGood (ms : List Mk) : Prop := ∀ (j : Nat) (x : Mk), ms[j]? = some x → goodAt ms j x = true
open Classical in
noncomputable def trailOk (ms : List Mk) : Bool := decide (allGood ms) && decide ((ms.length : Int) ≤ 6)
theorem trail_bad {ms : List Mk} {j : Nat} {x : Mk} (h : ms[j]? = some x) (hb : goodAt ms j x = false) : trailOk ms = false := by
  have : ¬ allGood ms := fun h' => by rw [h' j x h] at hb; cases hb
  simp [trailOk, this]
theorem trail_good {ms : List Mk} (h : allGood ms) : trailOk ms = decide ((ms.length : Int) ≤ 6) := by simp [trailOk, h]

section
variable {w0 : World} {σ : Vw}

theorem RSl.fld {α : Type} {n : Nat} {Rl : (Addr → Option Value) → List Value → α → Prop} {v : Value} {xs : List α} (h : RSl n Rl (Av.get w0 σ) v xs) {j : Nat} {x : α} (hj : xs[j]? = some x) {off : Nat} (ho : off < n) {K : (Nat → Value) → Prop} (hK : ∀ (g : Nat → Value) (es : List Value), Rl (Av.get w0 σ) es x → es[off]? = some (g 0) → K g) :
    pIndexAddr n v (.int .i64 j) fun p => pField off p fun q => pLoad w0 1 q σ K := by
  obtain ⟨A, cap, rfl, _, h3⟩ := h
  obtain ⟨a, es, rfl, h5, h6, h7⟩ := h3 j x hj
  have hlt : j < xs.length := (List.getElem?_eq_some_iff.1 hj).1
  have he : es[off]? = some (es.getD off undef) := by
    rw [List.getD_eq_getElem?_getD, List.getElem?_eq_getElem (by omega)]; rfl
  refine ⟨a, xs.length, cap, .i64, j, rfl, rfl, by omega, by omega, _, rfl, (a.add (j * n)).add off, fun _ => es.getD off undef, rfl, fun i hi => ?_, hK _ es h7 he⟩
  have : i = 0 := by omega
  subst this
  rw [add_add, add_add, Nat.add_zero]
  rw [h6 off ho]; exact he

theorem RSl.take {α : Type} {n : Nat} {Rl : (Addr → Option Value) → List Value → α → Prop} {v : Value} {xs : List α} (h : RSl n Rl (Av.get w0 σ) v xs) {j : Nat} (hj : j ≤ xs.length) {K : Value → Prop} (hK : ∀ v', RSl n Rl (Av.get w0 σ) v' (xs.take j) → K v') : pSlice n v none (some (.int .i64 j)) K := by
  obtain ⟨A, cap, rfl, hc, h3⟩ := h
  refine ⟨A, xs.length, cap, 0, j, rfl, rfl, rfl, by omega, by omega, by omega, hK _ ?_⟩
  have hl : (xs.take j).length = j := by simp; omega
  refine ⟨if cap = (0 : Int).toNat then A else A.map (·.add ((0 : Int).toNat * n)), cap - (0 : Int).toNat, by rw [hl]; simp, ⟨by rw [hl]; simp; omega, by simp; omega⟩, fun i x hi => ?_⟩
  have hij : i < j := by have := (List.getElem?_eq_some_iff.1 hi).1; rw [hl] at this; exact this
  rw [List.getElem?_take_of_lt hij] at hi
  obtain ⟨a, es, rfl, h5, h6, h7⟩ := h3 i x hi
  refine ⟨a, es, ?_, h5, h6, h7⟩
  split
  · rfl
  · simp [Addr.add]

theorem underB_take {ms : List Mk} {p : List ByteArray} {j : Nat} {x : Mk} (h : ms[j]? = some x) : underB (ms.take (j + 1)) p = (underB (ms.take j) p || (x.2 && within p x.1)) := by
  rw [List.take_add_one, h]
  simp [underB, List.any_append]
theorem under_hit {ms : List Mk} {p : List ByteArray} {j : Nat} {x : Mk} (h : ms[j]? = some x) (h1 : x.2 = true) (h2 : within p x.1 = true) : underB ms p = true := by
  simp only [underB, List.any_eq_true]
  exact ⟨x, List.mem_of_getElem? h, by simp [h1, h2]⟩

end
end Go.Proofs.Ytkndffhcncmbjaa
