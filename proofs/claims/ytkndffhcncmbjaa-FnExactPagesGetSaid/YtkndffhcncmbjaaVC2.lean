/- What each function owes, reckoned out, part 2. MADE BY PROGRAM (emit.py). -/
import Derived.Test.YtkndffhcncmbjaaVC0
set_option linter.unusedVariables false
namespace Go.Proofs.Ytkndffhcncmbjaa
open Go Go.Av

/-- (*spec.l1Rd).pick -/
def kp_p_spec_l1Rd_pick : Nat → Keep
  | 7 => ⟨[], [], [], .step 0 (.step 1 (.step 2 (.step 3 (.step 4 (.step 5 (.step 6 (.step 7 (.step 8 (.step 9 (.step 10 (.step 11 (.step 12 (.step 13 (.step 14 (.step 15 (.step 16 (.step 17 (.step 18 (.step 19 (.step 20 (.step 21 (.step 22 (.step 23 (.step 24 (.step 25 (.step 26 (.step 27 (.step 28 (.step 29 (.step 30 (.step 31 (.step 32 (.step 33 (.step 34 (.step 35 (.step 36 (.step 37 (.step 38 (.step 39 (.step 40 (.step 41 (.step 42 (.step 43 (.step 44 (.step 45 (.done)))))))))))))))))))))))))))))))))))))))))))))), [(1, [0]), (2, [0, 1]), (3, [0, 1, 2]), (6, [5]), (7, [5, 6]), (8, [5, 6, 7]), (9, [5, 6, 7, 8]), (10, [4, 5, 6, 7, 8, 9]), (11, [0, 1, 2, 3, 4, 5, 6, 7, 8, 9, 10]), (12, [0, 1, 2, 3, 4, 5, 6, 7, 8, 9, 10, 11]), (13, [0, 1, 2, 3, 4, 5, 6, 7, 8, 9, 10, 11, 12]), (14, [0, 1, 2, 3, 4, 5, 6, 7, 8, 9, 10, 11, 12, 13]), (16, [15]), (17, [15, 16]), (18, [15, 16, 17]), (20, [19]), (21, [19, 20]), (23, [22]), (24, [22, 23]), (25, [22, 23, 24]), (26, [22, 23, 24, 25]), (27, [19, 20, 21, 22, 23, 24, 25, 26]), (28, [15, 16, 17, 18, 19, 20, 21, 22, 23, 24, 25, 26, 27]), (29, [15, 16, 17, 18, 19, 20, 21, 22, 23, 24, 25, 26, 27, 28]), (30, [15, 16, 17, 18, 19, 20, 21, 22, 23, 24, 25, 26, 27, 28, 29]), (31, [15, 16, 17, 18, 19, 20, 21, 22, 23, 24, 25, 26, 27, 28, 29, 30]), (32, [0, 1, 2, 3, 4, 5, 6, 7, 8, 9, 10, 11, 12, 13, 14, 15, 16, 17, 18, 19, 20, 21, 22, 23, 24, 25, 26, 27, 28, 29, 30, 31]), (34, [33]), (35, [0, 1, 2, 3, 4, 5, 6, 7, 8, 9, 10, 11, 12, 13, 14, 15, 16, 17, 18, 19, 20, 21, 22, 23, 24, 25, 26, 27, 28, 29, 30, 31, 32, 33, 34]), (38, [37]), (39, [37, 38]), (40, [37, 38, 39]), (41, [37, 38, 39, 40]), (42, [36, 37, 38, 39, 40, 41]), (43, [36, 37, 38, 39, 40, 41, 42]), (44, [0, 1, 2, 3, 4, 5, 6, 7, 8, 9, 10, 11, 12, 13, 14, 15, 16, 17, 18, 19, 20, 21, 22, 23, 24, 25, 26, 27, 28, 29, 30, 31, 32, 33, 34, 35, 36, 37, 38, 39, 40, 41, 42, 43]), (45, [0, 1, 2, 3, 4, 5, 6, 7, 8, 9, 10, 11, 12, 13, 14, 15, 16, 17, 18, 19, 20, 21, 22, 23, 24, 25, 26, 27, 28, 29, 30, 31, 32, 33, 34, 35, 36, 37, 38, 39, 40, 41, 42, 43, 44])]⟩
  | _ => ⟨[], [], [], .done, []⟩
def esc_p_spec_l1Rd_pick : Nat → Bool
  | _ => false
def vc_p_spec_l1Rd_pick (w0 : World) (a0 a1 : Value) (σ : Vw) (R : Value → Vw → Prop) : Prop :=
  pNil a0 (pField 1 a0 (fun v0 => pLoad w0 1 v0 σ (fun g1 => pBin Try.prog 3 BinOp.add (g1 0) (Value.int IntKind.i64 1) (fun v2 => pNil a0 (pField 1 a0 (fun v3 => pVal false 1 v2 (pStore v3 [v2] σ (fun s4 => pBin Try.prog 3 BinOp.lss a1 (Value.int IntKind.i64 1) (fun v5 => pIf v5 (R (Value.int IntKind.i64 0) s4) (pNil a0 (pField 0 a0 (fun v6 => pLoad w0 1 v6 s4 (fun g7 => pLen (g7 0) (fun v8 => pBin Try.prog 3 BinOp.eql v8 (Value.int IntKind.i64 0) (fun v9 => pIf v9 (R (Value.int IntKind.i64 0) s4) (pNil a0 (pField 1 a0 (fun v10 => pLoad w0 1 v10 s4 (fun g11 => pBin Try.prog 3 BinOp.sub (g11 0) (Value.int IntKind.i64 1) (fun v12 => pNil a0 (pField 0 a0 (fun v13 => pLoad w0 1 v13 s4 (fun g14 => pLen (g14 0) (fun v15 => pBin Try.prog 3 BinOp.lss v12 v15 (fun v16 => pIf v16 (pNil a0 (pField 0 a0 (fun v17 => pLoad w0 1 v17 s4 (fun g18 => pIndexAddr 1 (g18 0) v12 (fun v19 => pLoad w0 1 v19 s4 (fun g20 => pConvInt IntKind.i64 (g20 0) (fun v21 => pBin Try.prog 3 BinOp.rem v21 a1 (fun v22 => R v22 s4)))))))) (pNil a0 (pField 0 a0 (fun v23 => pLoad w0 1 v23 s4 (fun g24 => pNil a0 (pField 0 a0 (fun v25 => pLoad w0 1 v25 s4 (fun g26 => pLen (g26 0) (fun v27 => pBin Try.prog 3 BinOp.rem v12 v27 (fun v28 => pIndexAddr 1 (g24 0) v28 (fun v29 => pLoad w0 1 v29 s4 (fun g30 => pConvInt IntKind.i64 (g30 0) (fun v31 => pBin Try.prog 3 BinOp.mul v31 (Value.int IntKind.i64 131) (fun v32 => pNil a0 (pField 0 a0 (fun v33 => pLoad w0 1 v33 s4 (fun g34 => pBin Try.prog 3 BinOp.mul v12 (Value.int IntKind.i64 7) (fun v35 => pBin Try.prog 3 BinOp.add v35 (Value.int IntKind.i64 3) (fun v36 => pNil a0 (pField 0 a0 (fun v37 => pLoad w0 1 v37 s4 (fun g38 => pLen (g38 0) (fun v39 => pBin Try.prog 3 BinOp.rem v36 v39 (fun v40 => pIndexAddr 1 (g34 0) v40 (fun v41 => pLoad w0 1 v41 s4 (fun g42 => pConvInt IntKind.i64 (g42 0) (fun v43 => pBin Try.prog 3 BinOp.mul v43 (Value.int IntKind.i64 1117) (fun v44 => pBin Try.prog 3 BinOp.add v32 v44 (fun v45 => pBin Try.prog 3 BinOp.mul v12 (Value.int IntKind.i64 29) (fun v46 => pBin Try.prog 3 BinOp.add v45 v46 (fun v47 => pNil a0 (pField 0 a0 (fun v48 => pLoad w0 1 v48 s4 (fun g49 => pLen (g49 0) (fun v50 => pBin Try.prog 3 BinOp.quo v12 v50 (fun v51 => pBin Try.prog 3 BinOp.mul v51 (Value.int IntKind.i64 53) (fun v52 => pBin Try.prog 3 BinOp.add v47 v52 (fun v53 => pBin Try.prog 3 BinOp.quo v53 (Value.int IntKind.i64 64) (fun v54 => pBin Try.prog 3 BinOp.xor v53 v54 (fun v55 => pBin Try.prog 3 BinOp.rem v55 a1 (fun v56 => R v56 s4)))))))))))))))))))))))))))))))))))))))))))))))))))))))))))))))))
theorem vc_p_spec_l1Rd_pick_eq (w0 : World) (a0 a1 : Value) (σ : Vw) (R : Value → Vw → Prop) : vc_p_spec_l1Rd_pick w0 a0 a1 σ R = den Try.prog w0 kp_p_spec_l1Rd_pick esc_p_spec_l1Rd_pick (Try.f63.body.getD .skip) (entry Try.f63.ntmps [a0, a1]) σ (retK Try.prog Try.f63.results.toList R) := by kernel_rfl
theorem ac_p_spec_l1Rd_pick {w0 : World} {a0 a1 : Value} {σ : Vw} {R : Value → Vw → Prop} (h : vc_p_spec_l1Rd_pick w0 a0 a1 σ R) : AC Try.prog w0 n_p_spec_l1Rd_pick [a0, a1] σ R := by
  refine ac_rule (fn := Try.f63) (c := Try.f63.body.getD .skip) kp_p_spec_l1Rd_pick esc_p_spec_l1Rd_pick Try.func63 (by kernel_rfl) (by kernel_rfl) ?_
  rw [← vc_p_spec_l1Rd_pick_eq]
  exact h

/-- spec.l1Many -/
def kp_spec_l1Many : Nat → Keep
  | 2 => ⟨[0, 1, 5], [], [], .done, []⟩
  | _ => ⟨[], [], [], .done, []⟩
def esc_spec_l1Many : Nat → Bool
  | _ => false
def vc_spec_l1Many (w0 : World) (a0 a1 : Value) (σ : Vw) (R : Value → Vw → Prop) : Prop :=
  pLoop (fun l0 K1 s2 => pBin Try.prog 3 BinOp.gtr (vget l0 1) (Value.int IntKind.i64 0) (fun v3 => pIf v3 (pBin Try.prog 3 BinOp.rem (vget l0 1) (Value.int IntKind.i64 2) (fun v4 => pBin Try.prog 3 BinOp.eql v4 (Value.int IntKind.i64 1) (fun v5 => pIf v5 (pBin Try.prog 9 BinOp.add (vget l0 2) (vget l0 0) (fun v6 => pBin Try.prog 9 BinOp.add (vget l0 0) (vget l0 0) (fun v7 => pBin Try.prog 3 BinOp.quo (vget l0 1) (Value.int IntKind.i64 2) (fun v8 => K1 AX.normal [v7, v8, v6] s2)))) (pBin Try.prog 9 BinOp.add (vget l0 0) (vget l0 0) (fun v9 => pBin Try.prog 3 BinOp.quo (vget l0 1) (Value.int IntKind.i64 2) (fun v10 => K1 AX.normal [v9, v10, vget l0 2] s2)))))) (K1 (AX.exit 0) [vget l0 0, vget l0 1, vget l0 2] s2))) ([a0, a1, Value.string ({ data := #[] })]) σ (fun x11 l12 s13 => match x11 with | .normal => R (vget l12 2) s13 | .ret => False | .exit i14 => (match Nat.beq i14 0 with | true => R (vget l12 2) s13 | false => False))
theorem vc_spec_l1Many_eq (w0 : World) (a0 a1 : Value) (σ : Vw) (R : Value → Vw → Prop) : vc_spec_l1Many w0 a0 a1 σ R = den Try.prog w0 kp_spec_l1Many esc_spec_l1Many (Try.f64.body.getD .skip) (entry Try.f64.ntmps [a0, a1]) σ (retK Try.prog Try.f64.results.toList R) := by kernel_rfl
theorem ac_spec_l1Many {w0 : World} {a0 a1 : Value} {σ : Vw} {R : Value → Vw → Prop} (h : vc_spec_l1Many w0 a0 a1 σ R) : AC Try.prog w0 n_spec_l1Many [a0, a1] σ R := by
  refine ac_rule (fn := Try.f64) (c := Try.f64.body.getD .skip) kp_spec_l1Many esc_spec_l1Many Try.func64 (by kernel_rfl) (by kernel_rfl) ?_
  rw [← vc_spec_l1Many_eq]
  exact h

/-- impl.cloneDisk -/
def kp_impl_cloneDisk : Nat → Keep
  | _ => ⟨[], [], [], .done, []⟩
def esc_impl_cloneDisk : Nat → Bool
  | 3 => true
  | _ => false
def vc_impl_cloneDisk (w0 : World) (a0 : Value) (σ : Vw) (R : Value → Vw → Prop) : Prop :=
  pVal true 1 a0 (pNew w0 9 [] σ (fun n0 s1 => pAppendS w0 9 1 16 (Value.slice (Option.some (Addr.mk n0 0 Option.none)) 0 0) (cellOf a0 0) s1 (fun v2 s3 => pVal false 1 v2 (pVal true 1 (Value.agg ⟨[v2]⟩) (R (Value.agg ⟨[v2]⟩) s3)))))
theorem vc_impl_cloneDisk_eq (w0 : World) (a0 : Value) (σ : Vw) (R : Value → Vw → Prop) : vc_impl_cloneDisk w0 a0 σ R = den Try.prog w0 kp_impl_cloneDisk esc_impl_cloneDisk (Try.f65.body.getD .skip) (entry Try.f65.ntmps [a0]) σ (retK Try.prog Try.f65.results.toList R) := by kernel_rfl
theorem ac_impl_cloneDisk {w0 : World} {a0 : Value} {σ : Vw} {R : Value → Vw → Prop} (h : vc_impl_cloneDisk w0 a0 σ R) : AC Try.prog w0 n_impl_cloneDisk [a0] σ R := by
  refine ac_rule (fn := Try.f65) (c := Try.f65.body.getD .skip) kp_impl_cloneDisk esc_impl_cloneDisk Try.func65 (by kernel_rfl) (by kernel_rfl) ?_
  rw [← vc_impl_cloneDisk_eq]
  exact h

/-- spec.l21Copy -/
def kp_spec_l21Copy : Nat → Keep
  | _ => ⟨[], [], [], .done, []⟩
def esc_spec_l21Copy : Nat → Bool
  | 3 => true
  | _ => false
def vc_spec_l21Copy (w0 : World) (a0 : Value) (σ : Vw) (R : Value → Vw → Prop) : Prop :=
  pVal true 1 a0 (pNew w0 9 [] σ (fun n0 s1 => pAppendS w0 9 1 16 (Value.slice (Option.some (Addr.mk n0 0 Option.none)) 0 0) (cellOf a0 0) s1 (fun v2 s3 => pVal false 1 v2 (pVal true 1 (Value.agg ⟨[v2]⟩) (R (Value.agg ⟨[v2]⟩) s3)))))
theorem vc_spec_l21Copy_eq (w0 : World) (a0 : Value) (σ : Vw) (R : Value → Vw → Prop) : vc_spec_l21Copy w0 a0 σ R = den Try.prog w0 kp_spec_l21Copy esc_spec_l21Copy (Try.f66.body.getD .skip) (entry Try.f66.ntmps [a0]) σ (retK Try.prog Try.f66.results.toList R) := by kernel_rfl
theorem ac_spec_l21Copy {w0 : World} {a0 : Value} {σ : Vw} {R : Value → Vw → Prop} (h : vc_spec_l21Copy w0 a0 σ R) : AC Try.prog w0 n_spec_l21Copy [a0] σ R := by
  refine ac_rule (fn := Try.f66) (c := Try.f66.body.getD .skip) kp_spec_l21Copy esc_spec_l21Copy Try.func66 (by kernel_rfl) (by kernel_rfl) ?_
  rw [← vc_spec_l21Copy_eq]
  exact h

/-- spec.l21RawOk -/
def kp_spec_l21RawOk : Nat → Keep
  | _ => ⟨[], [], [], .done, []⟩
def esc_spec_l21RawOk : Nat → Bool
  | _ => false
def vc_spec_l21RawOk (w0 : World) (a0 : Value) (σ : Vw) (R : Value → Vw → Prop) : Prop :=
  pVal true 2 a0 (AC Try.prog w0 n_spec_l21In [cellOf a0 0, Value.int IntKind.i64 0, Value.int IntKind.i64 193] σ (fun v0 s1 => pIf v0 (pLenS (cellOf a0 1) (fun v2 => pBin Try.prog 3 BinOp.leq v2 (Value.int IntKind.i64 64) (fun v3 => R v3 s1))) (R (Value.bool false) s1)))
theorem vc_spec_l21RawOk_eq (w0 : World) (a0 : Value) (σ : Vw) (R : Value → Vw → Prop) : vc_spec_l21RawOk w0 a0 σ R = den Try.prog w0 kp_spec_l21RawOk esc_spec_l21RawOk (Try.f67.body.getD .skip) (entry Try.f67.ntmps [a0]) σ (retK Try.prog Try.f67.results.toList R) := by kernel_rfl
theorem ac_spec_l21RawOk {w0 : World} {a0 : Value} {σ : Vw} {R : Value → Vw → Prop} (h : vc_spec_l21RawOk w0 a0 σ R) : AC Try.prog w0 n_spec_l21RawOk [a0] σ R := by
  refine ac_rule (fn := Try.f67) (c := Try.f67.body.getD .skip) kp_spec_l21RawOk esc_spec_l21RawOk Try.func67 (by kernel_rfl) (by kernel_rfl) ?_
  rw [← vc_spec_l21RawOk_eq]
  exact h

/-- laws.szPage -/
def kp_laws_szPage : Nat → Keep
  | _ => ⟨[], [], [], .done, []⟩
def esc_laws_szPage : Nat → Bool
  | _ => false
def vc_laws_szPage (w0 : World) (a0 a1 : Value) (σ : Vw) (R : Value → Vw → Prop) : Prop :=
  pVal true 3 a0 (pLenS (cellOf a0 1) (fun v0 => pBin Try.prog 3 BinOp.sub a1 v0 (fun v1 => pBin Try.prog 3 BinOp.lss v1 (Value.int IntKind.i64 0) (fun v2 => pIf v2 (R (Value.int IntKind.i64 (-1)) σ) (R v1 σ)))))
theorem vc_laws_szPage_eq (w0 : World) (a0 a1 : Value) (σ : Vw) (R : Value → Vw → Prop) : vc_laws_szPage w0 a0 a1 σ R = den Try.prog w0 kp_laws_szPage esc_laws_szPage (Try.f68.body.getD .skip) (entry Try.f68.ntmps [a0, a1]) σ (retK Try.prog Try.f68.results.toList R) := by kernel_rfl
theorem ac_laws_szPage {w0 : World} {a0 a1 : Value} {σ : Vw} {R : Value → Vw → Prop} (h : vc_laws_szPage w0 a0 a1 σ R) : AC Try.prog w0 n_laws_szPage [a0, a1] σ R := by
  refine ac_rule (fn := Try.f68) (c := Try.f68.body.getD .skip) kp_laws_szPage esc_laws_szPage Try.func68 (by kernel_rfl) (by kernel_rfl) ?_
  rw [← vc_laws_szPage_eq]
  exact h

/-- laws.szPageName -/
def kp_laws_szPageName : Nat → Keep
  | _ => ⟨[], [], [], .done, []⟩
def esc_laws_szPageName : Nat → Bool
  | _ => false
def vc_laws_szPageName (w0 : World) (a0 a1 : Value) (σ : Vw) (R : Value → Vw → Prop) : Prop :=
  pVal true 3 a0 (pLenS (cellOf a0 0) (fun v0 => pBin Try.prog 3 BinOp.sub a1 v0 (fun v1 => pBin Try.prog 3 BinOp.lss v1 (Value.int IntKind.i64 0) (fun v2 => pIf v2 (R (Value.int IntKind.i64 (-1)) σ) (R v1 σ)))))
theorem vc_laws_szPageName_eq (w0 : World) (a0 a1 : Value) (σ : Vw) (R : Value → Vw → Prop) : vc_laws_szPageName w0 a0 a1 σ R = den Try.prog w0 kp_laws_szPageName esc_laws_szPageName (Try.f69.body.getD .skip) (entry Try.f69.ntmps [a0, a1]) σ (retK Try.prog Try.f69.results.toList R) := by kernel_rfl
theorem ac_laws_szPageName {w0 : World} {a0 a1 : Value} {σ : Vw} {R : Value → Vw → Prop} (h : vc_laws_szPageName w0 a0 a1 σ R) : AC Try.prog w0 n_laws_szPageName [a0, a1] σ R := by
  refine ac_rule (fn := Try.f69) (c := Try.f69.body.getD .skip) kp_laws_szPageName esc_laws_szPageName Try.func69 (by kernel_rfl) (by kernel_rfl) ?_
  rw [← vc_laws_szPageName_eq]
  exact h

/-- laws.toPage -/
def kp_laws_toPage : Nat → Keep
  | _ => ⟨[], [], [], .done, []⟩
def esc_laws_toPage : Nat → Bool
  | _ => false
def vc_laws_toPage (w0 : World) (a0 : Value) (σ : Vw) (R : Value → Vw → Prop) : Prop :=
  pVal true 3 a0 (pVal false 1 (cellOf a0 0) (pVal false 1 (cellOf a0 1) (pVal false 1 (cellOf a0 2) (pVal true 3 (Value.agg (⟨[cellOf a0 0, cellOf a0 1, cellOf a0 2]⟩)) (R (Value.agg (⟨[cellOf a0 0, cellOf a0 1, cellOf a0 2]⟩)) σ)))))
theorem vc_laws_toPage_eq (w0 : World) (a0 : Value) (σ : Vw) (R : Value → Vw → Prop) : vc_laws_toPage w0 a0 σ R = den Try.prog w0 kp_laws_toPage esc_laws_toPage (Try.f70.body.getD .skip) (entry Try.f70.ntmps [a0]) σ (retK Try.prog Try.f70.results.toList R) := by kernel_rfl
theorem ac_laws_toPage {w0 : World} {a0 : Value} {σ : Vw} {R : Value → Vw → Prop} (h : vc_laws_toPage w0 a0 σ R) : AC Try.prog w0 n_laws_toPage [a0] σ R := by
  refine ac_rule (fn := Try.f70) (c := Try.f70.body.getD .skip) kp_laws_toPage esc_laws_toPage Try.func70 (by kernel_rfl) (by kernel_rfl) ?_
  rw [← vc_laws_toPage_eq]
  exact h

/-- laws.toPageName -/
def kp_laws_toPageName : Nat → Keep
  | _ => ⟨[], [], [], .done, []⟩
def esc_laws_toPageName : Nat → Bool
  | _ => false
def vc_laws_toPageName (w0 : World) (a0 : Value) (σ : Vw) (R : Value → Vw → Prop) : Prop :=
  pVal true 3 a0 (pVal false 1 (cellOf a0 0) (pVal false 1 (cellOf a0 1) (pVal false 1 (cellOf a0 2) (pVal true 3 (Value.agg (⟨[cellOf a0 0, cellOf a0 1, cellOf a0 2]⟩)) (R (Value.agg (⟨[cellOf a0 0, cellOf a0 1, cellOf a0 2]⟩)) σ)))))
theorem vc_laws_toPageName_eq (w0 : World) (a0 : Value) (σ : Vw) (R : Value → Vw → Prop) : vc_laws_toPageName w0 a0 σ R = den Try.prog w0 kp_laws_toPageName esc_laws_toPageName (Try.f71.body.getD .skip) (entry Try.f71.ntmps [a0]) σ (retK Try.prog Try.f71.results.toList R) := by kernel_rfl
theorem ac_laws_toPageName {w0 : World} {a0 : Value} {σ : Vw} {R : Value → Vw → Prop} (h : vc_laws_toPageName w0 a0 σ R) : AC Try.prog w0 n_laws_toPageName [a0] σ R := by
  refine ac_rule (fn := Try.f71) (c := Try.f71.body.getD .skip) kp_laws_toPageName esc_laws_toPageName Try.func71 (by kernel_rfl) (by kernel_rfl) ?_
  rw [← vc_laws_toPageName_eq]
  exact h

/-- laws.eqPage -/
def kp_laws_eqPage : Nat → Keep
  | _ => ⟨[], [], [], .done, []⟩
def esc_laws_eqPage : Nat → Bool
  | _ => false
def vc_laws_eqPage (w0 : World) (a0 a1 : Value) (σ : Vw) (R : Value → Vw → Prop) : Prop :=
  pVal true 3 a0 (pVal true 3 a1 (pBin Try.prog 4 BinOp.neq (cellOf a0 0) (cellOf a1 0) (fun v0 => pIf v0 (R (Value.bool false) σ) (pBin Try.prog 9 BinOp.neq (cellOf a0 1) (cellOf a1 1) (fun v1 => pIf v1 (R (Value.bool false) σ) (pBin Try.prog 3 BinOp.neq (cellOf a0 2) (cellOf a1 2) (fun v2 => pIf v2 (R (Value.bool false) σ) (R (Value.bool true) σ))))))))
theorem vc_laws_eqPage_eq (w0 : World) (a0 a1 : Value) (σ : Vw) (R : Value → Vw → Prop) : vc_laws_eqPage w0 a0 a1 σ R = den Try.prog w0 kp_laws_eqPage esc_laws_eqPage (Try.f72.body.getD .skip) (entry Try.f72.ntmps [a0, a1]) σ (retK Try.prog Try.f72.results.toList R) := by kernel_rfl
theorem ac_laws_eqPage {w0 : World} {a0 a1 : Value} {σ : Vw} {R : Value → Vw → Prop} (h : vc_laws_eqPage w0 a0 a1 σ R) : AC Try.prog w0 n_laws_eqPage [a0, a1] σ R := by
  refine ac_rule (fn := Try.f72) (c := Try.f72.body.getD .skip) kp_laws_eqPage esc_laws_eqPage Try.func72 (by kernel_rfl) (by kernel_rfl) ?_
  rw [← vc_laws_eqPage_eq]
  exact h

/-- laws.eqPageName -/
def kp_laws_eqPageName : Nat → Keep
  | _ => ⟨[], [], [], .done, []⟩
def esc_laws_eqPageName : Nat → Bool
  | _ => false
def vc_laws_eqPageName (w0 : World) (a0 a1 : Value) (σ : Vw) (R : Value → Vw → Prop) : Prop :=
  pVal true 3 a0 (pVal true 3 a1 (pBin Try.prog 9 BinOp.neq (cellOf a0 0) (cellOf a1 0) (fun v0 => pIf v0 (R (Value.bool false) σ) (pBin Try.prog 3 BinOp.neq (cellOf a0 1) (cellOf a1 1) (fun v1 => pIf v1 (R (Value.bool false) σ) (pBin Try.prog 3 BinOp.neq (cellOf a0 2) (cellOf a1 2) (fun v2 => pIf v2 (R (Value.bool false) σ) (R (Value.bool true) σ))))))))
theorem vc_laws_eqPageName_eq (w0 : World) (a0 a1 : Value) (σ : Vw) (R : Value → Vw → Prop) : vc_laws_eqPageName w0 a0 a1 σ R = den Try.prog w0 kp_laws_eqPageName esc_laws_eqPageName (Try.f73.body.getD .skip) (entry Try.f73.ntmps [a0, a1]) σ (retK Try.prog Try.f73.results.toList R) := by kernel_rfl
theorem ac_laws_eqPageName {w0 : World} {a0 a1 : Value} {σ : Vw} {R : Value → Vw → Prop} (h : vc_laws_eqPageName w0 a0 a1 σ R) : AC Try.prog w0 n_laws_eqPageName [a0, a1] σ R := by
  refine ac_rule (fn := Try.f73) (c := Try.f73.body.getD .skip) kp_laws_eqPageName esc_laws_eqPageName Try.func73 (by kernel_rfl) (by kernel_rfl) ?_
  rw [← vc_laws_eqPageName_eq]
  exact h

/-- slices.IndexFunc[[]impl.PageName,impl.PageName] -/
def kp_slices_IndexFunc_impl_PageName_impl_PageName : Nat → Keep
  | 2 => ⟨[0, 1, 4, 7, 8], [], [], .done, []⟩
  | _ => ⟨[], [], [], .done, []⟩
def esc_slices_IndexFunc_impl_PageName_impl_PageName : Nat → Bool
  | _ => false
def vc_slices_IndexFunc_impl_PageName_impl_PageName (w0 : World) (a0 a1 : Value) (σ : Vw) (R : Value → Vw → Prop) : Prop :=
  pLen a0 (fun v0 => pLoop (fun l1 K2 s3 => pBin Try.prog 3 BinOp.lss (vget l1 4) (vget l1 3) (fun v4 => pIf v4 (pIndexAddr 3 (vget l1 0) (vget l1 4) (fun v5 => pLoad w0 3 v5 s3 (fun g6 => pCallV (fun n7 l8 s9 K10 => AC Try.prog w0 n7 l8 s9 K10) (vget l1 1) ([Value.agg (⟨[g6 0, g6 1, g6 2]⟩)]) s3 (fun v11 s12 => pIf v11 (K2 AX.ret [vget l1 0, vget l1 1, vget l1 4, vget l1 3, vget l1 4] s12) (pBin Try.prog 3 BinOp.add (vget l1 4) (Value.int IntKind.i64 1) (fun v13 => K2 AX.normal [vget l1 0, vget l1 1, vget l1 2, vget l1 3, v13] s12)))))) (K2 (AX.exit 0) [vget l1 0, vget l1 1, vget l1 2, vget l1 3, vget l1 4] s3))) [a0, a1, Value.int IntKind.i64 0, v0, Value.int IntKind.i64 0] σ (fun x14 l15 s16 => match x14 with | .normal => R (Value.int IntKind.i64 (-1)) s16 | .ret => R (vget l15 2) s16 | .exit i17 => (match Nat.beq i17 0 with | true => R (Value.int IntKind.i64 (-1)) s16 | false => False)))
theorem vc_slices_IndexFunc_impl_PageName_impl_PageName_eq (w0 : World) (a0 a1 : Value) (σ : Vw) (R : Value → Vw → Prop) : vc_slices_IndexFunc_impl_PageName_impl_PageName w0 a0 a1 σ R = den Try.prog w0 kp_slices_IndexFunc_impl_PageName_impl_PageName esc_slices_IndexFunc_impl_PageName_impl_PageName (Try.f74.body.getD .skip) (entry Try.f74.ntmps [a0, a1]) σ (retK Try.prog Try.f74.results.toList R) := by kernel_rfl
theorem ac_slices_IndexFunc_impl_PageName_impl_PageName {w0 : World} {a0 a1 : Value} {σ : Vw} {R : Value → Vw → Prop} (h : vc_slices_IndexFunc_impl_PageName_impl_PageName w0 a0 a1 σ R) : AC Try.prog w0 n_slices_IndexFunc_impl_PageName_impl_PageName [a0, a1] σ R := by
  refine ac_rule (fn := Try.f74) (c := Try.f74.body.getD .skip) kp_slices_IndexFunc_impl_PageName_impl_PageName esc_slices_IndexFunc_impl_PageName_impl_PageName Try.func74 (by kernel_rfl) (by kernel_rfl) ?_
  rw [← vc_slices_IndexFunc_impl_PageName_impl_PageName_eq]
  exact h

/-- (impl.Pages).find$1 -/
def kp_impl_Pages_find_c1 : Nat → Keep
  | _ => ⟨[], [], [], .done, []⟩
def esc_impl_Pages_find_c1 : Nat → Bool
  | _ => false
def vc_impl_Pages_find_c1 (w0 : World) (a0 a1 : Value) (σ : Vw) (R : Value → Vw → Prop) : Prop :=
  pVal true 3 a0 (pLoad w0 1 a1 σ (fun g0 => pBin Try.prog 9 BinOp.eql (cellOf a0 0) (g0 0) (fun v1 => R v1 σ)))
theorem vc_impl_Pages_find_c1_eq (w0 : World) (a0 a1 : Value) (σ : Vw) (R : Value → Vw → Prop) : vc_impl_Pages_find_c1 w0 a0 a1 σ R = den Try.prog w0 kp_impl_Pages_find_c1 esc_impl_Pages_find_c1 (Try.f75.body.getD .skip) (entry Try.f75.ntmps [a0, a1]) σ (retK Try.prog Try.f75.results.toList R) := by kernel_rfl
theorem ac_impl_Pages_find_c1 {w0 : World} {a0 a1 : Value} {σ : Vw} {R : Value → Vw → Prop} (h : vc_impl_Pages_find_c1 w0 a0 a1 σ R) : AC Try.prog w0 n_impl_Pages_find_c1 [a0, a1] σ R := by
  refine ac_rule (fn := Try.f75) (c := Try.f75.body.getD .skip) kp_impl_Pages_find_c1 esc_impl_Pages_find_c1 Try.func75 (by kernel_rfl) (by kernel_rfl) ?_
  rw [← vc_impl_Pages_find_c1_eq]
  exact h

/-- slices.Delete[[]impl.PageName,impl.PageName] -/
def kp_slices_Delete_impl_PageName_impl_PageName : Nat → Keep
  | 5 => ⟨[], [], [], .step 0 (.step 1 (.step 2 (.step 3 (.step 4 (.step 5 (.step 6 (.step 7 (.done)))))))), [(2, [0, 1]), (5, [3, 4]), (6, [0, 1, 2, 3, 4, 5]), (7, [0, 1, 2, 3, 4, 5, 6])]⟩
  | _ => ⟨[], [], [], .done, []⟩
def esc_slices_Delete_impl_PageName_impl_PageName : Nat → Bool
  | _ => false
def vc_slices_Delete_impl_PageName_impl_PageName (w0 : World) (a0 a1 a2 : Value) (σ : Vw) (R : Value → Vw → Prop) : Prop :=
  pLen a0 (fun v0 => pSlice3 3 a0 (Option.some a1) (Option.some a2) (Option.some v0) (fun v1 => pBin Try.prog 3 BinOp.eql a1 a2 (fun v2 => pIf v2 (R a0 σ) (pLen a0 (fun v3 => pSlice 3 a0 Option.none (Option.some a1) (fun v4 => pSlice 3 a0 (Option.some a2) Option.none (fun v5 => pAppendS w0 44 3 32 v4 v5 σ (fun v6 s7 => pLen v6 (fun v8 => pSlice 3 v6 (Option.some v8) (Option.some v3) (fun v9 => pClear 3 ([Value.string ({ data := #[] }), Value.int IntKind.i64 0, Value.int IntKind.i64 0]) v9 s7 (fun s10 => R v6 s10)))))))))))
theorem vc_slices_Delete_impl_PageName_impl_PageName_eq (w0 : World) (a0 a1 a2 : Value) (σ : Vw) (R : Value → Vw → Prop) : vc_slices_Delete_impl_PageName_impl_PageName w0 a0 a1 a2 σ R = den Try.prog w0 kp_slices_Delete_impl_PageName_impl_PageName esc_slices_Delete_impl_PageName_impl_PageName (Try.f76.body.getD .skip) (entry Try.f76.ntmps [a0, a1, a2]) σ (retK Try.prog Try.f76.results.toList R) := by kernel_rfl
theorem ac_slices_Delete_impl_PageName_impl_PageName {w0 : World} {a0 a1 a2 : Value} {σ : Vw} {R : Value → Vw → Prop} (h : vc_slices_Delete_impl_PageName_impl_PageName w0 a0 a1 a2 σ R) : AC Try.prog w0 n_slices_Delete_impl_PageName_impl_PageName [a0, a1, a2] σ R := by
  refine ac_rule (fn := Try.f76) (c := Try.f76.body.getD .skip) kp_slices_Delete_impl_PageName_impl_PageName esc_slices_Delete_impl_PageName_impl_PageName Try.func76 (by kernel_rfl) (by kernel_rfl) ?_
  rw [← vc_slices_Delete_impl_PageName_impl_PageName_eq]
  exact h

/-- laws.markText -/
def kp_laws_markText : Nat → Keep
  | 4 => ⟨[0, 3], [], [], .done, []⟩
  | _ => ⟨[], [], [], .done, []⟩
def esc_laws_markText : Nat → Bool
  | 12 => true
  | _ => false
def vc_laws_markText (w0 : World) (a0 : Value) (σ : Vw) (R : Value → Vw → Prop) : Prop :=
  pBin Try.prog 3 BinOp.leq a0 (Value.int IntKind.i64 0) (fun v0 => pIf v0 (R (Value.string ({ data := #[109, 48] })) σ) (pLoop (fun l1 K2 s3 => pBin Try.prog 3 BinOp.gtr (vget l1 0) (Value.int IntKind.i64 0) (fun v4 => pIf v4 (pBin Try.prog 3 BinOp.rem (vget l1 0) (Value.int IntKind.i64 10) (fun v5 => pBin Try.prog 3 BinOp.add (Value.int IntKind.i64 48) v5 (fun v6 => pConvInt IntKind.u8 v6 (fun v7 => pVal false 1 v7 (pNew w0 5 [v7] s3 (fun n8 s9 => pStr w0 (Value.slice (Option.some (Addr.mk n8 0 Option.none)) 1 1) s9 (fun v10 => pBin Try.prog 9 BinOp.add v10 (vget l1 1) (fun v11 => pBin Try.prog 3 BinOp.quo (vget l1 0) (Value.int IntKind.i64 10) (fun v12 => K2 AX.normal [v12, v11] s9))))))))) (K2 (AX.exit 0) [vget l1 0, vget l1 1] s3))) ([a0, Value.string ({ data := #[] })]) σ (fun x13 l14 s15 => match x13 with | .normal => pBin Try.prog 9 BinOp.add (Value.string ({ data := #[109] })) (vget l14 1) (fun v16 => R v16 s15) | .ret => False | .exit i17 => (match Nat.beq i17 0 with | true => pBin Try.prog 9 BinOp.add (Value.string ({ data := #[109] })) (vget l14 1) (fun v18 => R v18 s15) | false => False))))
theorem vc_laws_markText_eq (w0 : World) (a0 : Value) (σ : Vw) (R : Value → Vw → Prop) : vc_laws_markText w0 a0 σ R = den Try.prog w0 kp_laws_markText esc_laws_markText (Try.f77.body.getD .skip) (entry Try.f77.ntmps [a0]) σ (retK Try.prog Try.f77.results.toList R) := by kernel_rfl
theorem ac_laws_markText {w0 : World} {a0 : Value} {σ : Vw} {R : Value → Vw → Prop} (h : vc_laws_markText w0 a0 σ R) : AC Try.prog w0 n_laws_markText [a0] σ R := by
  refine ac_rule (fn := Try.f77) (c := Try.f77.body.getD .skip) kp_laws_markText esc_laws_markText Try.func77 (by kernel_rfl) (by kernel_rfl) ?_
  rw [← vc_laws_markText_eq]
  exact h

/-- spec.l61Pages -/
def kp_spec_l61Pages : Nat → Keep
  | 3 => ⟨[0, 4], [(2, 2), (3, 2)], [2, 3], .done, []⟩
  | 8 => ⟨[], [], [], .step 0 (.step 1 (.step 2 (.step 3 (.step 4 (.step 5 (.step 6 (.step 7 (.step 8 (.done))))))))), [(3, [2]), (4, [0, 1, 2, 3]), (5, [0, 1, 2, 3, 4]), (6, [0, 1, 2, 3, 4, 5]), (7, [0, 1, 2, 3, 4, 5]), (8, [0, 1, 2, 3, 4, 5, 6])]⟩
  | _ => ⟨[], [], [], .done, []⟩
def esc_spec_l61Pages : Nat → Bool
  | 14 => true
  | _ => false
def vc_spec_l61Pages (w0 : World) (a0 : Value) (σ : Vw) (R : Value → Vw → Prop) : Prop :=
  AC Try.prog w0 n_spec_PagesNew [] σ (fun v0 s1 => pVal true 2 v0 (AC Try.prog w0 n_p_spec_l1Rd_pick [a0, Value.int IntKind.i64 14] s1 (fun v2 s3 => pLoop (fun l4 K5 s6 => pBin Try.prog 3 BinOp.gtr (vget l4 1) (Value.int IntKind.i64 0) (fun v7 => pIf v7 (pVal false 1 (Value.string ({ data := #[97] })) (pVal false 1 (Value.string ({ data := #[98] })) (pVal false 1 (Value.string ({ data := #[99] })) (pVal false 1 (Value.string ({ data := #[100, 49] })) (pVal false 1 (Value.string ({ data := #[101] })) (pVal false 1 (Value.string ({ data := #[102] })) (pVal false 1 (Value.string ({ data := #[103] })) (pVal false 1 (Value.string ({ data := #[104] })) (pNew w0 9 ([Value.string ({ data := #[97] }), Value.string ({ data := #[98] }), Value.string ({ data := #[99] }), Value.string ({ data := #[100, 49] }), Value.string ({ data := #[101] }), Value.string ({ data := #[102] }), Value.string ({ data := #[103] }), Value.string ({ data := #[104] })]) s6 (fun n8 s9 => AC Try.prog w0 n_p_spec_l1Rd_of [vget l4 0, Value.slice (Option.some (Addr.mk n8 0 Option.none)) 8 8] s9 (fun v10 s11 => AC Try.prog w0 n_p_spec_l1Rd_pick [vget l4 0, Value.int IntKind.i64 3] s11 (fun v12 s13 => pBin Try.prog 3 BinOp.eql v12 (Value.int IntKind.i64 0) (fun v14 => pIf v14 (AC Try.prog w0 n_spec_PagesDrop ([Value.agg (⟨[vget l4 4, vget l4 5]⟩), v10]) s13 (fun v15 s16 => pExtract v15 0 (fun v17 => pExtract v15 1 (fun v18 => pVal true 2 v17 (pBin Try.prog 3 BinOp.sub (vget l4 1) (Value.int IntKind.i64 1) (fun v19 => K5 AX.normal [vget l4 0, v19, vget l4 2, vget l4 3, cellOf v17 0, cellOf v17 1] s16)))))) False))))))))))))) (K5 (AX.exit 0) [vget l4 0, vget l4 1, vget l4 2, vget l4 3, vget l4 4, vget l4 5] s6))) [a0, v2, Value.slice Option.none 0 0, Value.slice Option.none 0 0, cellOf v0 0, cellOf v0 1] s3 (fun x20 l21 s22 => match x20 with | .normal => pVal true 2 (Value.agg (⟨[vget l21 4, vget l21 5]⟩)) (R (Value.agg (⟨[vget l21 4, vget l21 5]⟩)) s22) | .ret => R (Value.agg (⟨[vget l21 2, vget l21 3]⟩)) s22 | .exit i23 => (match Nat.beq i23 0 with | true => pVal true 2 (Value.agg (⟨[vget l21 4, vget l21 5]⟩)) (R (Value.agg (⟨[vget l21 4, vget l21 5]⟩)) s22) | false => False)))))
theorem vc_spec_l61Pages_eq (w0 : World) (a0 : Value) (σ : Vw) (R : Value → Vw → Prop) : vc_spec_l61Pages w0 a0 σ R = den Try.prog w0 kp_spec_l61Pages esc_spec_l61Pages (Try.f78.body.getD .skip) (entry Try.f78.ntmps [a0]) σ (retK Try.prog Try.f78.results.toList R) := by kernel_rfl
theorem ac_spec_l61Pages {w0 : World} {a0 : Value} {σ : Vw} {R : Value → Vw → Prop} (h : vc_spec_l61Pages w0 a0 σ R) : AC Try.prog w0 n_spec_l61Pages [a0] σ R := by
  refine ac_rule (fn := Try.f78) (c := Try.f78.body.getD .skip) kp_spec_l61Pages esc_spec_l61Pages Try.func78 (by kernel_rfl) (by kernel_rfl) ?_
  rw [← vc_spec_l61Pages_eq]
  exact h

/-- spec.l61Spoil -/
def kp_spec_l61Spoil : Nat → Keep
  | 7 => ⟨[], [], [], .step 0 (.step 1 (.step 2 (.step 3 (.step 4 (.step 5 (.step 6 (.step 7 (.step 8 (.done))))))))), [(1, [0]), (5, [3, 4]), (6, [0, 1, 2, 3, 4, 5]), (7, [0, 1, 2, 3, 4, 5, 6]), (8, [0, 1, 2, 3, 4, 5, 6, 7])]⟩
  | 9 => ⟨[], [], [], .step 0 (.step 1 (.step 2 (.step 3 (.step 4 (.step 5 (.step 6 (.step 7 (.step 8 (.done))))))))), [(1, [0]), (4, [3]), (5, [3, 4]), (6, [0, 1, 2, 3, 4, 5]), (7, [0, 1, 2, 3, 4, 5, 6]), (8, [0, 1, 2, 3, 4, 5, 6, 7])]⟩
  | 11 => ⟨[], [], [], .step 0 (.step 1 (.step 2 (.step 3 (.step 4 (.step 5 (.step 6 (.step 7 (.step 8 (.step 9 (.step 10 (.step 11 (.step 12 (.step 13 (.step 14 (.step 15 (.done)))))))))))))))), [(1, [0]), (4, [3]), (6, [3, 4, 5]), (7, [3, 4, 5, 6]), (8, [3, 4, 5, 6, 7]), (10, [9]), (11, [3, 4, 5, 6, 7, 8, 9, 10]), (12, [3, 4, 5, 6, 7, 8, 9, 10, 11]), (13, [0, 1, 2, 3, 4, 5, 6, 7, 8, 9, 10, 11, 12]), (14, [0, 1, 2, 3, 4, 5, 6, 7, 8, 9, 10, 11, 12, 13]), (15, [0, 1, 2, 3, 4, 5, 6, 7, 8, 9, 10, 11, 12, 13, 14])]⟩
  | 13 => ⟨[], [], [], .step 0 (.step 1 (.step 2 (.step 3 (.step 4 (.step 5 (.step 6 (.step 7 (.step 8 (.step 9 (.step 10 (.step 11 (.step 12 (.done))))))))))))), [(1, [0]), (4, [3]), (6, [3, 4, 5]), (7, [3, 4, 5, 6]), (8, [3, 4, 5, 6, 7]), (9, [3, 4, 5, 6, 7, 8]), (10, [0, 1, 2, 3, 4, 5, 6, 7, 8, 9]), (11, [0, 1, 2, 3, 4, 5, 6, 7, 8, 9, 10]), (12, [0, 1, 2, 3, 4, 5, 6, 7, 8, 9, 10, 11])]⟩
  | 15 => ⟨[], [], [], .step 0 (.step 1 (.step 2 (.step 3 (.step 4 (.step 5 (.step 6 (.step 7 (.step 8 (.step 9 (.step 10 (.step 11 (.step 12 (.done))))))))))))), [(1, [0]), (4, [3]), (6, [3, 4, 5]), (7, [3, 4, 5, 6]), (8, [3, 4, 5, 6, 7]), (9, [3, 4, 5, 6, 7, 8]), (10, [0, 1, 2, 3, 4, 5, 6, 7, 8, 9]), (11, [0, 1, 2, 3, 4, 5, 6, 7, 8, 9, 10]), (12, [0, 1, 2, 3, 4, 5, 6, 7, 8, 9, 10, 11])]⟩
  | 17 => ⟨[], [], [], .step 0 (.step 1 (.step 2 (.step 3 (.step 4 (.step 5 (.step 6 (.step 7 (.step 8 (.done))))))))), [(1, [0]), (4, [3]), (5, [3, 4]), (6, [0, 1, 2, 3, 4, 5]), (7, [0, 1, 2, 3, 4, 5, 6]), (8, [0, 1, 2, 3, 4, 5, 6, 7])]⟩
  | 21 => ⟨[], [], [], .step 0 (.step 1 (.step 2 (.step 5 (.step 8 (.step 3 (.step 4 (.step 6 (.step 7 (.step 9 (.step 10 (.step 11 (.step 12 (.step 13 (.step 14 (.done))))))))))))))), [(1, [0]), (4, [2, 3]), (6, [2, 3, 4, 5]), (7, [2, 3, 4, 5, 6]), (9, [2, 3, 4, 5, 6, 8]), (10, [2, 3, 4, 5, 6, 7, 8, 9]), (11, [2, 3, 4, 5, 6, 7, 8, 9, 10]), (12, [0, 1, 2, 3, 4, 5, 6, 7, 8, 9, 10, 11]), (13, [0, 1, 2, 3, 4, 5, 6, 7, 8, 9, 10, 11, 12]), (14, [0, 1, 2, 3, 4, 5, 6, 7, 8, 9, 10, 11, 12, 13])]⟩
  | _ => ⟨[], [], [], .done, []⟩
def esc_spec_l61Spoil : Nat → Bool
  | 32 => true
  | 116 => true
  | _ => false
def vc_spec_l61Spoil (w0 : World) (a0 a1 : Value) (σ : Vw) (R : Value → Vw → Prop) : Prop :=
  pVal true 2 a1 (AC Try.prog w0 n_spec_l32Copy ([Value.agg (⟨[cellOf a1 0, cellOf a1 1]⟩)]) σ (fun v0 s1 => pVal true 2 v0 (pLen (cellOf v0 0) (fun v2 => AC Try.prog w0 n_p_spec_l1Rd_pick [a0, v2] s1 (fun v3 s4 => AC Try.prog w0 n_p_spec_l1Rd_pick [a0, Value.int IntKind.i64 8] s4 (fun v5 s6 => pBin Try.prog 3 BinOp.eql v5 (Value.int IntKind.i64 0) (fun v7 => pIf v7 (pIndexAddr 3 (cellOf v0 0) v3 (fun v8 => pField 0 v8 (fun v9 => pLoad w0 1 v9 s6 (fun g10 => pUn UnOp.not (g10 0) (fun v11 => pIndexAddr 3 (cellOf v0 0) v3 (fun v12 => pField 0 v12 (fun v13 => pVal false 1 v11 (pStore v13 [v11] s6 (fun s14 => pVal true 2 (Value.agg (⟨[cellOf v0 0, cellOf v0 1]⟩)) (R (Value.agg (⟨[cellOf v0 0, cellOf v0 1]⟩)) s14)))))))))) (pBin Try.prog 3 BinOp.eql v5 (Value.int IntKind.i64 1) (fun v15 => pIf v15 (pIndexAddr 3 (cellOf v0 0) v3 (fun v16 => pField 1 v16 (fun v17 => pLoad w0 1 v17 s6 (fun g18 => pBin Try.prog 9 BinOp.add (g18 0) (Value.string ({ data := #[120] })) (fun v19 => pIndexAddr 3 (cellOf v0 0) v3 (fun v20 => pField 1 v20 (fun v21 => pVal false 1 v19 (pStore v21 [v19] s6 (fun s22 => pVal true 2 (Value.agg (⟨[cellOf v0 0, cellOf v0 1]⟩)) (R (Value.agg (⟨[cellOf v0 0, cellOf v0 1]⟩)) s22)))))))))) (pBin Try.prog 3 BinOp.eql v5 (Value.int IntKind.i64 2) (fun v23 => pIf v23 (AC Try.prog w0 n_p_spec_l1Rd_pick [a0, Value.int IntKind.i64 8] s6 (fun v24 s25 => (Ext s6 s25) ∧ (pBin Try.prog 3 BinOp.sub v24 (Value.int IntKind.i64 2) (fun v26 => pIndexAddr 3 (cellOf v0 0) v3 (fun v27 => pField 2 v27 (fun v28 => pVal false 1 v26 (pStore v28 [v26] s25 (fun s29 => pVal true 2 (Value.agg (⟨[cellOf v0 0, cellOf v0 1]⟩)) (R (Value.agg (⟨[cellOf v0 0, cellOf v0 1]⟩)) s29))))))))) (pBin Try.prog 3 BinOp.eql v5 (Value.int IntKind.i64 3) (fun v30 => pIf v30 (pLen (cellOf v0 0) (fun v31 => pBin Try.prog 3 BinOp.sub v31 (Value.int IntKind.i64 1) (fun v32 => pSlice 3 (cellOf v0 0) Option.none (Option.some v32) (fun v33 => pVal false 1 v33 (pVal true 2 (Value.agg (⟨[v33, cellOf v0 1]⟩)) (R (Value.agg (⟨[v33, cellOf v0 1]⟩)) s6)))))) (pBin Try.prog 3 BinOp.eql v5 (Value.int IntKind.i64 4) (fun v34 => pIf v34 (pVal false 1 (Value.string ({ data := #[122, 122] })) (pVal false 1 (Value.string ({ data := #[] })) (pVal false 1 (Value.string ({ data := #[97] })) (pNew w0 9 ([Value.string ({ data := #[122, 122] }), Value.string ({ data := #[] }), Value.string ({ data := #[97] })]) s6 (fun n35 s36 => (Ext s6 s36) ∧ (AC Try.prog w0 n_p_spec_l1Rd_of [a0, Value.slice (Option.some (Addr.mk n35 0 Option.none)) 3 3] s36 (fun v37 s38 => (Ext s36 s38) ∧ (AC Try.prog w0 n_p_spec_l1Rd_pick [a0, Value.int IntKind.i64 4] s38 (fun v39 s40 => (Ext s38 s40) ∧ (pBin Try.prog 3 BinOp.sub v39 (Value.int IntKind.i64 2) (fun v41 => AC Try.prog w0 n_p_spec_l1Rd_pick [a0, Value.int IntKind.i64 3] s40 (fun v42 s43 => (Ext s40 s43) ∧ (pVal false 1 v37 (pVal false 1 v41 (pVal false 1 v42 (pVal true 3 (Value.agg (⟨[v37, v41, v42]⟩)) ((allOne [v37, v41, v42]) ∧ (pAppend w0 44 3 32 (cellOf v0 1) 1 [v37, v41, v42] s43 (fun v44 s45 => pVal false 1 v44 (pVal true 2 (Value.agg (⟨[cellOf v0 0, v44]⟩)) (R (Value.agg (⟨[cellOf v0 0, v44]⟩)) s45))))))))))))))))))))) (pLen (cellOf v0 1) (fun v46 => pBin Try.prog 3 BinOp.gtr v46 (Value.int IntKind.i64 0) (fun v47 => pIf v47 (pLen (cellOf v0 1) (fun v48 => AC Try.prog w0 n_p_spec_l1Rd_pick [a0, v48] s6 (fun v49 s50 => AC Try.prog w0 n_p_spec_l1Rd_pick [a0, Value.int IntKind.i64 3] s50 (fun v51 s52 => pBin Try.prog 3 BinOp.eql v51 (Value.int IntKind.i64 0) (fun v53 => pIf v53 (AC Try.prog w0 n_p_spec_l1Rd_pick [a0, Value.int IntKind.i64 6] s52 (fun v54 s55 => (Ext s52 s55) ∧ (pBin Try.prog 3 BinOp.sub v54 (Value.int IntKind.i64 2) (fun v56 => pIndexAddr 3 (cellOf v0 1) v49 (fun v57 => pField 1 v57 (fun v58 => pVal false 1 v56 (pStore v58 [v56] s55 (fun s59 => pVal true 2 (Value.agg (⟨[cellOf v0 0, cellOf v0 1]⟩)) (R (Value.agg (⟨[cellOf v0 0, cellOf v0 1]⟩)) s59))))))))) (pBin Try.prog 3 BinOp.eql v51 (Value.int IntKind.i64 1) (fun v60 => pIf v60 (pIndexAddr 3 (cellOf v0 1) v49 (fun v61 => pField 2 v61 (fun v62 => pLoad w0 1 v62 s52 (fun g63 => AC Try.prog w0 n_p_spec_l1Rd_pick [a0, Value.int IntKind.i64 3] s52 (fun v64 s65 => (Ext s52 s65) ∧ (pBin Try.prog 3 BinOp.add (g63 0) v64 (fun v66 => pBin Try.prog 3 BinOp.sub v66 (Value.int IntKind.i64 1) (fun v67 => pIndexAddr 3 (cellOf v0 1) v49 (fun v68 => pField 2 v68 (fun v69 => pVal false 1 v67 (pStore v69 [v67] s65 (fun s70 => pVal true 2 (Value.agg (⟨[cellOf v0 0, cellOf v0 1]⟩)) (R (Value.agg (⟨[cellOf v0 0, cellOf v0 1]⟩)) s70))))))))))))) (pVal false 1 (Value.string ({ data := #[] })) (pVal false 1 (Value.string ({ data := #[122, 122] })) (pVal false 1 (Value.string ({ data := #[65] })) (pNew w0 9 ([Value.string ({ data := #[] }), Value.string ({ data := #[122, 122] }), Value.string ({ data := #[65] })]) s52 (fun n71 s72 => (Ext s52 s72) ∧ (AC Try.prog w0 n_p_spec_l1Rd_of [a0, Value.slice (Option.some (Addr.mk n71 0 Option.none)) 3 3] s72 (fun v73 s74 => (Ext s72 s74) ∧ (pIndexAddr 3 (cellOf v0 1) v49 (fun v75 => pField 0 v75 (fun v76 => pVal false 1 v73 (pStore v76 [v73] s74 (fun s77 => pVal true 2 (Value.agg (⟨[cellOf v0 0, cellOf v0 1]⟩)) (R (Value.agg (⟨[cellOf v0 0, cellOf v0 1]⟩)) s77)))))))))))))))))))) (pVal true 2 (Value.agg (⟨[cellOf v0 0, cellOf v0 1]⟩)) (R (Value.agg (⟨[cellOf v0 0, cellOf v0 1]⟩)) s6))))))))))))))))))))
theorem vc_spec_l61Spoil_eq (w0 : World) (a0 a1 : Value) (σ : Vw) (R : Value → Vw → Prop) : vc_spec_l61Spoil w0 a0 a1 σ R = den Try.prog w0 kp_spec_l61Spoil esc_spec_l61Spoil (Try.f79.body.getD .skip) (entry Try.f79.ntmps [a0, a1]) σ (retK Try.prog Try.f79.results.toList R) := by kernel_rfl
theorem ac_spec_l61Spoil {w0 : World} {a0 a1 : Value} {σ : Vw} {R : Value → Vw → Prop} (h : vc_spec_l61Spoil w0 a0 a1 σ R) : AC Try.prog w0 n_spec_l61Spoil [a0, a1] σ R := by
  refine ac_rule (fn := Try.f79) (c := Try.f79.body.getD .skip) kp_spec_l61Spoil esc_spec_l61Spoil Try.func79 (by kernel_rfl) (by kernel_rfl) ?_
  rw [← vc_spec_l61Spoil_eq]
  exact h

/-- spec.PagesPut -/
def kp_spec_PagesPut : Nat → Keep
  | 13 => ⟨[], [], [], .step 0 (.step 2 (.step 1 (.step 3 (.step 4 (.step 5 (.done)))))), [(1, [0]), (3, [0, 1, 2]), (4, [0, 1, 2, 3]), (5, [0, 1, 2, 3, 4])]⟩
  | _ => ⟨[], [], [], .done, []⟩
def esc_spec_PagesPut : Nat → Bool
  | _ => false
def vc_spec_PagesPut (w0 : World) (a0 a1 a2 : Value) (σ : Vw) (R : Value → Vw → Prop) : Prop :=
  pVal true 2 a0 (AC Try.prog w0 n_spec_PagesOk ([Value.agg (⟨[cellOf a0 0, cellOf a0 1]⟩)]) σ (fun v0 s1 => pUn UnOp.not v0 (fun v2 => pIf v2 (pVal true 2 (Value.agg (⟨[Value.slice Option.none 0 0, Value.slice Option.none 0 0]⟩)) (R (Value.tuple (⟨[Value.agg (⟨[Value.slice Option.none 0 0, Value.slice Option.none 0 0]⟩), Value.int IntKind.i64 1]⟩)) s1)) (AC Try.prog w0 n_spec_l1NameOk [a1] s1 (fun v3 s4 => pUn UnOp.not v3 (fun v5 => pIf v5 (AC Try.prog w0 n_spec_l32Copy ([Value.agg (⟨[cellOf a0 0, cellOf a0 1]⟩)]) s4 (fun v6 s7 => pVal true 2 v6 (R (Value.tuple (⟨[Value.agg (⟨[cellOf v6 0, cellOf v6 1]⟩), Value.int IntKind.i64 2]⟩)) s7))) (AC Try.prog w0 n_spec_l32Copy ([Value.agg (⟨[cellOf a0 0, cellOf a0 1]⟩)]) s4 (fun v8 s9 => pVal true 2 v8 (AC Try.prog w0 n_spec_l32At ([Value.agg (⟨[cellOf v8 0, cellOf v8 1]⟩), a1]) s9 (fun v10 s11 => pBin Try.prog 3 BinOp.geq v10 (Value.int IntKind.i64 0) (fun v12 => pIf v12 (AC Try.prog w0 n_spec_l32Drop ([Value.agg (⟨[cellOf v8 0, cellOf v8 1]⟩), v10]) s11 (fun v13 s14 => pVal true 2 v13 (pLen (cellOf v13 1) (fun v15 => pBin Try.prog 3 BinOp.geq v15 (Value.int IntKind.i64 16) (fun v16 => pIf v16 (AC Try.prog w0 n_spec_l32Copy ([Value.agg (⟨[cellOf a0 0, cellOf a0 1]⟩)]) s14 (fun v17 s18 => pVal true 2 v17 (R (Value.tuple (⟨[Value.agg (⟨[cellOf v17 0, cellOf v17 1]⟩), Value.int IntKind.i64 4]⟩)) s18))) (pLenS a2 (fun v19 => pBin Try.prog 3 BinOp.gtr v19 (Value.int IntKind.i64 3000) (fun v20 => pIf v20 (AC Try.prog w0 n_spec_l32Copy ([Value.agg (⟨[cellOf a0 0, cellOf a0 1]⟩)]) s14 (fun v21 s22 => pVal true 2 v21 (R (Value.tuple (⟨[Value.agg (⟨[cellOf v21 0, cellOf v21 1]⟩), Value.int IntKind.i64 5]⟩)) s22))) (AC Try.prog w0 n_spec_PagesNeed [a2] s14 (fun v23 s24 => (Ext s14 s24) ∧ (AC Try.prog w0 n_spec_l32Free ([Value.agg (⟨[cellOf v13 0, cellOf v13 1]⟩)]) s24 (fun v25 s26 => pBin Try.prog 3 BinOp.gtr v23 v25 (fun v27 => pIf v27 (AC Try.prog w0 n_spec_l32Copy ([Value.agg (⟨[cellOf a0 0, cellOf a0 1]⟩)]) s26 (fun v28 s29 => pVal true 2 v28 (R (Value.tuple (⟨[Value.agg (⟨[cellOf v28 0, cellOf v28 1]⟩), Value.int IntKind.i64 6]⟩)) s29))) (AC Try.prog w0 n_spec_l32Keep ([Value.agg (⟨[cellOf v13 0, cellOf v13 1]⟩), a1, a2]) s26 (fun v30 s31 => AC Try.prog w0 n_spec_l32Copy [v30] s31 (fun v32 s33 => pVal true 2 v32 (R (Value.tuple (⟨[Value.agg (⟨[cellOf v32 0, cellOf v32 1]⟩), Value.int IntKind.i64 0]⟩)) s33))))))))))))))))) (pLen (cellOf v8 1) (fun v34 => pBin Try.prog 3 BinOp.geq v34 (Value.int IntKind.i64 16) (fun v35 => pIf v35 (AC Try.prog w0 n_spec_l32Copy ([Value.agg (⟨[cellOf a0 0, cellOf a0 1]⟩)]) s11 (fun v36 s37 => pVal true 2 v36 (R (Value.tuple (⟨[Value.agg (⟨[cellOf v36 0, cellOf v36 1]⟩), Value.int IntKind.i64 4]⟩)) s37))) (pLenS a2 (fun v38 => pBin Try.prog 3 BinOp.gtr v38 (Value.int IntKind.i64 3000) (fun v39 => pIf v39 (AC Try.prog w0 n_spec_l32Copy ([Value.agg (⟨[cellOf a0 0, cellOf a0 1]⟩)]) s11 (fun v40 s41 => pVal true 2 v40 (R (Value.tuple (⟨[Value.agg (⟨[cellOf v40 0, cellOf v40 1]⟩), Value.int IntKind.i64 5]⟩)) s41))) (AC Try.prog w0 n_spec_PagesNeed [a2] s11 (fun v42 s43 => (Ext s11 s43) ∧ (AC Try.prog w0 n_spec_l32Free ([Value.agg (⟨[cellOf v8 0, cellOf v8 1]⟩)]) s43 (fun v44 s45 => pBin Try.prog 3 BinOp.gtr v42 v44 (fun v46 => pIf v46 (AC Try.prog w0 n_spec_l32Copy ([Value.agg (⟨[cellOf a0 0, cellOf a0 1]⟩)]) s45 (fun v47 s48 => pVal true 2 v47 (R (Value.tuple (⟨[Value.agg (⟨[cellOf v47 0, cellOf v47 1]⟩), Value.int IntKind.i64 6]⟩)) s48))) (AC Try.prog w0 n_spec_l32Keep ([Value.agg (⟨[cellOf v8 0, cellOf v8 1]⟩), a1, a2]) s45 (fun v49 s50 => AC Try.prog w0 n_spec_l32Copy [v49] s50 (fun v51 s52 => pVal true 2 v51 (R (Value.tuple (⟨[Value.agg (⟨[cellOf v51 0, cellOf v51 1]⟩), Value.int IntKind.i64 0]⟩)) s52))))))))))))))))))))))))))
theorem vc_spec_PagesPut_eq (w0 : World) (a0 a1 a2 : Value) (σ : Vw) (R : Value → Vw → Prop) : vc_spec_PagesPut w0 a0 a1 a2 σ R = den Try.prog w0 kp_spec_PagesPut esc_spec_PagesPut (Try.f80.body.getD .skip) (entry Try.f80.ntmps [a0, a1, a2]) σ (retK Try.prog Try.f80.results.toList R) := by kernel_rfl
theorem ac_spec_PagesPut {w0 : World} {a0 a1 a2 : Value} {σ : Vw} {R : Value → Vw → Prop} (h : vc_spec_PagesPut w0 a0 a1 a2 σ R) : AC Try.prog w0 n_spec_PagesPut [a0, a1, a2] σ R := by
  refine ac_rule (fn := Try.f80) (c := Try.f80.body.getD .skip) kp_spec_PagesPut esc_spec_PagesPut Try.func80 (by kernel_rfl) (by kernel_rfl) ?_
  rw [← vc_spec_PagesPut_eq]
  exact h

/-- spec.l1Dec -/
def kp_spec_l1Dec : Nat → Keep
  | 7 => ⟨[], [], [], .step 0 (.step 1 (.step 3 (.step 4 (.step 5 (.step 6 (.both (.step 2 (.step 7 (.step 8 (.step 9 (.step 10 (.done)))))) (.step 7 (.step 8 (.step 2 (.step 9 (.step 10 (.done)))))))))))), [(1, [0]), (2, [0, 1]), (4, [3]), (5, [3, 4]), (6, [3, 4, 5]), (7, [3, 4, 5, 6]), (8, [3, 4, 5, 6, 7]), (9, [0, 1, 2, 3, 4, 5, 6, 7, 8]), (10, [0, 1, 2, 3, 4, 5, 6, 7, 8, 9])]⟩
  | _ => ⟨[], [], [], .done, []⟩
def esc_spec_l1Dec : Nat → Bool
  | 16 => true
  | 25 => true
  | _ => false
def vc_spec_l1Dec (w0 : World) (a0 : Value) (σ : Vw) (R : Value → Vw → Prop) : Prop :=
  pBin Try.prog 3 BinOp.lss a0 (Value.int IntKind.i64 (-9223372036854775807)) (fun v0 => pIf v0 (R (Value.string ({ data := #[45, 57, 50, 50, 51, 51, 55, 50, 48, 51, 54, 56, 53, 52, 55, 55, 53, 56, 48, 56] })) σ) (pBin Try.prog 3 BinOp.lss a0 (Value.int IntKind.i64 0) (fun v1 => pIf v1 (pUn UnOp.neg a0 (fun v2 => AC Try.prog w0 n_spec_l1Dec [v2] σ (fun v3 s4 => pBin Try.prog 9 BinOp.add (Value.string ({ data := #[45] })) v3 (fun v5 => R v5 s4)))) (pBin Try.prog 3 BinOp.lss a0 (Value.int IntKind.i64 10) (fun v6 => pIf v6 (pBin Try.prog 3 BinOp.add (Value.int IntKind.i64 48) a0 (fun v7 => pConvInt IntKind.u8 v7 (fun v8 => pVal false 1 v8 (pNew w0 5 [v8] σ (fun n9 s10 => pStr w0 (Value.slice (Option.some (Addr.mk n9 0 Option.none)) 1 1) s10 (fun v11 => R v11 s10)))))) (pBin Try.prog 3 BinOp.quo a0 (Value.int IntKind.i64 10) (fun v12 => pBin Try.prog 3 BinOp.rem a0 (Value.int IntKind.i64 10) (fun v13 => pBin Try.prog 3 BinOp.add (Value.int IntKind.i64 48) v13 (fun v14 => pConvInt IntKind.u8 v14 (fun v15 => (AC Try.prog w0 n_spec_l1Dec [v12] σ (fun v16 s17 => (Ext σ s17) ∧ (pVal false 1 v15 (pNew w0 5 [v15] s17 (fun n18 s19 => (Ext s17 s19) ∧ (pStr w0 (Value.slice (Option.some (Addr.mk n18 0 Option.none)) 1 1) s19 (fun v20 => pBin Try.prog 9 BinOp.add v16 v20 (fun v21 => R v21 s19)))))))) ∧ (pVal false 1 v15 (pNew w0 5 [v15] σ (fun n22 s23 => (Ext σ s23) ∧ (pStr w0 (Value.slice (Option.some (Addr.mk n22 0 Option.none)) 1 1) s23 (fun v24 => AC Try.prog w0 n_spec_l1Dec [v12] s23 (fun v25 s26 => (Ext s23 s26) ∧ (pBin Try.prog 9 BinOp.add v25 v24 (fun v27 => R v27 s26))))))))))))))))))
theorem vc_spec_l1Dec_eq (w0 : World) (a0 : Value) (σ : Vw) (R : Value → Vw → Prop) : vc_spec_l1Dec w0 a0 σ R = den Try.prog w0 kp_spec_l1Dec esc_spec_l1Dec (Try.f81.body.getD .skip) (entry Try.f81.ntmps [a0]) σ (retK Try.prog Try.f81.results.toList R) := by kernel_rfl
theorem ac_spec_l1Dec {w0 : World} {a0 : Value} {σ : Vw} {R : Value → Vw → Prop} (h : vc_spec_l1Dec w0 a0 σ R) : AC Try.prog w0 n_spec_l1Dec [a0] σ R := by
  refine ac_rule (fn := Try.f81) (c := Try.f81.body.getD .skip) kp_spec_l1Dec esc_spec_l1Dec Try.func81 (by kernel_rfl) (by kernel_rfl) ?_
  rw [← vc_spec_l1Dec_eq]
  exact h

/-- (*spec.l1Rd).of -/
def kp_p_spec_l1Rd_of : Nat → Keep
  | _ => ⟨[], [], [], .done, []⟩
def esc_p_spec_l1Rd_of : Nat → Bool
  | _ => false
def vc_p_spec_l1Rd_of (w0 : World) (a0 a1 : Value) (σ : Vw) (R : Value → Vw → Prop) : Prop :=
  pLen a1 (fun v0 => AC Try.prog w0 n_p_spec_l1Rd_pick [a0, v0] σ (fun v1 s2 => pIndexAddr 1 a1 v1 (fun v3 => pLoad w0 1 v3 s2 (fun g4 => R (g4 0) s2))))
theorem vc_p_spec_l1Rd_of_eq (w0 : World) (a0 a1 : Value) (σ : Vw) (R : Value → Vw → Prop) : vc_p_spec_l1Rd_of w0 a0 a1 σ R = den Try.prog w0 kp_p_spec_l1Rd_of esc_p_spec_l1Rd_of (Try.f82.body.getD .skip) (entry Try.f82.ntmps [a0, a1]) σ (retK Try.prog Try.f82.results.toList R) := by kernel_rfl
theorem ac_p_spec_l1Rd_of {w0 : World} {a0 a1 : Value} {σ : Vw} {R : Value → Vw → Prop} (h : vc_p_spec_l1Rd_of w0 a0 a1 σ R) : AC Try.prog w0 n_p_spec_l1Rd_of [a0, a1] σ R := by
  refine ac_rule (fn := Try.f82) (c := Try.f82.body.getD .skip) kp_p_spec_l1Rd_of esc_p_spec_l1Rd_of Try.func82 (by kernel_rfl) (by kernel_rfl) ?_
  rw [← vc_p_spec_l1Rd_of_eq]
  exact h

/-- slices.Contains[[]int,int] -/
def kp_slices_Contains_int_int : Nat → Keep
  | _ => ⟨[], [], [], .done, []⟩
def esc_slices_Contains_int_int : Nat → Bool
  | _ => false
def vc_slices_Contains_int_int (w0 : World) (a0 a1 : Value) (σ : Vw) (R : Value → Vw → Prop) : Prop :=
  AC Try.prog w0 n_slices_Index_int_int [a0, a1] σ (fun v0 s1 => pBin Try.prog 3 BinOp.geq v0 (Value.int IntKind.i64 0) (fun v2 => R v2 s1))
theorem vc_slices_Contains_int_int_eq (w0 : World) (a0 a1 : Value) (σ : Vw) (R : Value → Vw → Prop) : vc_slices_Contains_int_int w0 a0 a1 σ R = den Try.prog w0 kp_slices_Contains_int_int esc_slices_Contains_int_int (Try.f83.body.getD .skip) (entry Try.f83.ntmps [a0, a1]) σ (retK Try.prog Try.f83.results.toList R) := by kernel_rfl
theorem ac_slices_Contains_int_int {w0 : World} {a0 a1 : Value} {σ : Vw} {R : Value → Vw → Prop} (h : vc_slices_Contains_int_int w0 a0 a1 σ R) : AC Try.prog w0 n_slices_Contains_int_int [a0, a1] σ R := by
  refine ac_rule (fn := Try.f83) (c := Try.f83.body.getD .skip) kp_slices_Contains_int_int esc_slices_Contains_int_int Try.func83 (by kernel_rfl) (by kernel_rfl) ?_
  rw [← vc_slices_Contains_int_int_eq]
  exact h

/-- spec.l24Disk -/
def kp_spec_l24Disk : Nat → Keep
  | _ => ⟨[], [], [], .done, []⟩
def esc_spec_l24Disk : Nat → Bool
  | _ => false
def vc_spec_l24Disk (w0 : World) (a0 : Value) (σ : Vw) (R : Value → Vw → Prop) : Prop :=
  AC Try.prog w0 n_spec_l24New [a0] σ (fun v0 s1 => AC Try.prog w0 n_spec_l24Steps [a0, Value.int IntKind.i64 14] s1 (fun v2 s3 => AC Try.prog w0 n_spec_StorePlay [v0, v2] s3 (fun v4 s5 => pExtract v4 0 (fun v6 => pExtract v4 1 (fun v7 => pExtract v4 2 (fun v8 => pVal true 1 v6 (pVal true 4 v7 (pVal true 1 (Value.agg (⟨[cellOf v6 0]⟩)) (R (Value.agg (⟨[cellOf v6 0]⟩)) s5)))))))))
theorem vc_spec_l24Disk_eq (w0 : World) (a0 : Value) (σ : Vw) (R : Value → Vw → Prop) : vc_spec_l24Disk w0 a0 σ R = den Try.prog w0 kp_spec_l24Disk esc_spec_l24Disk (Try.f84.body.getD .skip) (entry Try.f84.ntmps [a0]) σ (retK Try.prog Try.f84.results.toList R) := by kernel_rfl
theorem ac_spec_l24Disk {w0 : World} {a0 : Value} {σ : Vw} {R : Value → Vw → Prop} (h : vc_spec_l24Disk w0 a0 σ R) : AC Try.prog w0 n_spec_l24Disk [a0] σ R := by
  refine ac_rule (fn := Try.f84) (c := Try.f84.body.getD .skip) kp_spec_l24Disk esc_spec_l24Disk Try.func84 (by kernel_rfl) (by kernel_rfl) ?_
  rw [← vc_spec_l24Disk_eq]
  exact h

/-- spec.l24Spoil -/
def kp_spec_l24Spoil : Nat → Keep
  | 3 => ⟨[], [], [], .step 0 (.step 1 (.step 2 (.step 3 (.step 4 (.step 5 (.step 6 (.step 7 (.step 8 (.done))))))))), [(1, [0]), (4, [3]), (5, [3, 4]), (6, [2, 3, 4, 5]), (7, [0, 1, 2, 3, 4, 5, 6]), (8, [0, 1, 2, 3, 4, 5, 6, 7])]⟩
  | 7 => ⟨[], [], [], .step 0 (.step 1 (.step 2 (.step 3 (.step 4 (.step 5 (.step 7 (.step 6 (.step 8 (.step 9 (.step 10 (.step 11 (.step 12 (.done))))))))))))), [(1, [0]), (4, [3]), (5, [3, 4]), (6, [2, 3, 4, 5]), (8, [2, 3, 4, 5, 6, 7]), (9, [2, 3, 4, 5, 6, 7, 8]), (10, [2, 3, 4, 5, 6, 7, 8, 9]), (11, [0, 1, 2, 3, 4, 5, 6, 7, 8, 9, 10]), (12, [0, 1, 2, 3, 4, 5, 6, 7, 8, 9, 10, 11])]⟩
  | 9 => ⟨[], [], [], .step 0 (.step 1 (.step 2 (.step 4 (.both (.step 3 (.step 5 (.step 6 (.step 7 (.step 8 (.done)))))) (.step 5 (.step 3 (.step 6 (.step 7 (.step 8 (.done)))))))))), [(1, [0]), (3, [2]), (6, [2, 3, 4, 5]), (7, [0, 1, 2, 3, 4, 5, 6]), (8, [0, 1, 2, 3, 4, 5, 6, 7])]⟩
  | 11 => ⟨[], [], [], .step 0 (.step 1 (.step 2 (.step 5 (.both (.step 3 (.step 4 (.step 6 (.step 7 (.step 8 (.step 9 (.done))))))) (.step 6 (.step 3 (.step 4 (.step 7 (.step 8 (.step 9 (.done))))))))))), [(1, [0]), (3, [2]), (4, [2, 3]), (7, [2, 3, 5, 6]), (8, [0, 1, 2, 3, 4, 5, 6, 7]), (9, [0, 1, 2, 3, 4, 5, 6, 7, 8])]⟩
  | _ => ⟨[], [], [], .done, []⟩
def esc_spec_l24Spoil : Nat → Bool
  | 49 => true
  | 60 => true
  | _ => false
def vc_spec_l24Spoil (w0 : World) (a0 a1 : Value) (σ : Vw) (R : Value → Vw → Prop) : Prop :=
  pVal true 1 a1 (AC Try.prog w0 n_spec_l21Copy ([Value.agg (⟨[cellOf a1 0]⟩)]) σ (fun v0 s1 => pVal true 1 v0 (AC Try.prog w0 n_p_spec_l1Rd_pick [a0, Value.int IntKind.i64 5] s1 (fun v2 s3 => pBin Try.prog 3 BinOp.eql v2 (Value.int IntKind.i64 0) (fun v4 => pIf v4 (pLen (cellOf v0 0) (fun v5 => pBin Try.prog 3 BinOp.sub v5 (Value.int IntKind.i64 1) (fun v6 => pSlice 1 (cellOf v0 0) Option.none (Option.some v6) (fun v7 => pVal false 1 v7 (pVal true 1 (Value.agg ⟨[v7]⟩) (R (Value.agg ⟨[v7]⟩) s3)))))) (pBin Try.prog 3 BinOp.eql v2 (Value.int IntKind.i64 1) (fun v8 => pIf v8 (pLen (cellOf v0 0) (fun v9 => AC Try.prog w0 n_p_spec_l1Rd_pick [a0, v9] s3 (fun v10 s11 => (Ext s3 s11) ∧ (AC Try.prog w0 n_p_spec_l1Rd_pick [a0, Value.int IntKind.i64 2] s11 (fun v12 s13 => (Ext s11 s13) ∧ (pBin Try.prog 3 BinOp.add (Value.int IntKind.i64 64) v12 (fun v14 => AC Try.prog w0 n_spec_l1Many ([Value.string ({ data := #[113] }), v14]) s13 (fun v15 s16 => (Ext s13 s16) ∧ (pIndexAddr 1 (cellOf v0 0) v10 (fun v17 => pVal false 1 v15 (pStore v17 [v15] s16 (fun s18 => pVal true 1 (Value.agg (⟨[cellOf v0 0]⟩)) (R (Value.agg (⟨[cellOf v0 0]⟩)) s18))))))))))))) (pBin Try.prog 3 BinOp.eql v2 (Value.int IntKind.i64 2) (fun v19 => pIf v19 ((AC Try.prog w0 n_p_spec_l1Rd_pick [a0, Value.int IntKind.i64 2] s3 (fun v20 s21 => (Ext s3 s21) ∧ (pVal false 1 (Value.string ({ data := #[] })) (pVal false 1 (Value.string ({ data := #[67, 32, 49, 32, 48] })) (pVal false 1 (Value.string ({ data := #[67, 32, 50, 32, 57] })) (pVal false 1 (Value.string ({ data := #[67, 32, 50, 32, 53, 48, 48, 48] })) (pVal false 1 (Value.string ({ data := #[67, 32, 51, 32, 51, 50, 48, 48] })) (pVal false 1 (Value.string ({ data := #[67, 32, 48, 32, 48] })) (pVal false 1 (Value.string ({ data := #[67, 32, 49] })) (pVal false 1 (Value.string ({ data := #[88, 32, 49, 32, 49] })) (pVal false 1 (Value.string ({ data := #[67, 32, 48, 49, 32, 48] })) (pVal false 1 (Value.string ({ data := #[67, 32, 57, 57, 57, 57, 57, 32, 48] })) (pVal false 1 (Value.string ({ data := #[67, 32, 57, 57, 57, 57, 56, 32, 49] })) (pNew w0 9 ([Value.string ({ data := #[] }), Value.string ({ data := #[67, 32, 49, 32, 48] }), Value.string ({ data := #[67, 32, 50, 32, 57] }), Value.string ({ data := #[67, 32, 50, 32, 53, 48, 48, 48] }), Value.string ({ data := #[67, 32, 51, 32, 51, 50, 48, 48] }), Value.string ({ data := #[67, 32, 48, 32, 48] }), Value.string ({ data := #[67, 32, 49] }), Value.string ({ data := #[88, 32, 49, 32, 49] }), Value.string ({ data := #[67, 32, 48, 49, 32, 48] }), Value.string ({ data := #[67, 32, 57, 57, 57, 57, 57, 32, 48] }), Value.string ({ data := #[67, 32, 57, 57, 57, 57, 56, 32, 49] })]) s21 (fun n22 s23 => (Ext s21 s23) ∧ (AC Try.prog w0 n_p_spec_l1Rd_of [a0, Value.slice (Option.some (Addr.mk n22 0 Option.none)) 11 11] s23 (fun v24 s25 => (Ext s23 s25) ∧ (pIndexAddr 1 (cellOf v0 0) v20 (fun v26 => pVal false 1 v24 (pStore v26 [v24] s25 (fun s27 => pVal true 1 (Value.agg (⟨[cellOf v0 0]⟩)) (R (Value.agg (⟨[cellOf v0 0]⟩)) s27)))))))))))))))))))))) ∧ (pVal false 1 (Value.string ({ data := #[] })) (pVal false 1 (Value.string ({ data := #[67, 32, 49, 32, 48] })) (pVal false 1 (Value.string ({ data := #[67, 32, 50, 32, 57] })) (pVal false 1 (Value.string ({ data := #[67, 32, 50, 32, 53, 48, 48, 48] })) (pVal false 1 (Value.string ({ data := #[67, 32, 51, 32, 51, 50, 48, 48] })) (pVal false 1 (Value.string ({ data := #[67, 32, 48, 32, 48] })) (pVal false 1 (Value.string ({ data := #[67, 32, 49] })) (pVal false 1 (Value.string ({ data := #[88, 32, 49, 32, 49] })) (pVal false 1 (Value.string ({ data := #[67, 32, 48, 49, 32, 48] })) (pVal false 1 (Value.string ({ data := #[67, 32, 57, 57, 57, 57, 57, 32, 48] })) (pVal false 1 (Value.string ({ data := #[67, 32, 57, 57, 57, 57, 56, 32, 49] })) (pNew w0 9 ([Value.string ({ data := #[] }), Value.string ({ data := #[67, 32, 49, 32, 48] }), Value.string ({ data := #[67, 32, 50, 32, 57] }), Value.string ({ data := #[67, 32, 50, 32, 53, 48, 48, 48] }), Value.string ({ data := #[67, 32, 51, 32, 51, 50, 48, 48] }), Value.string ({ data := #[67, 32, 48, 32, 48] }), Value.string ({ data := #[67, 32, 49] }), Value.string ({ data := #[88, 32, 49, 32, 49] }), Value.string ({ data := #[67, 32, 48, 49, 32, 48] }), Value.string ({ data := #[67, 32, 57, 57, 57, 57, 57, 32, 48] }), Value.string ({ data := #[67, 32, 57, 57, 57, 57, 56, 32, 49] })]) s3 (fun n28 s29 => (Ext s3 s29) ∧ (AC Try.prog w0 n_p_spec_l1Rd_pick [a0, Value.int IntKind.i64 2] s29 (fun v30 s31 => (Ext s29 s31) ∧ (AC Try.prog w0 n_p_spec_l1Rd_of [a0, Value.slice (Option.some (Addr.mk n28 0 Option.none)) 11 11] s31 (fun v32 s33 => (Ext s31 s33) ∧ (pIndexAddr 1 (cellOf v0 0) v30 (fun v34 => pVal false 1 v32 (pStore v34 [v32] s33 (fun s35 => pVal true 1 (Value.agg (⟨[cellOf v0 0]⟩)) (R (Value.agg (⟨[cellOf v0 0]⟩)) s35))))))))))))))))))))))) (pBin Try.prog 3 BinOp.eql v2 (Value.int IntKind.i64 3) (fun v36 => pIf v36 ((AC Try.prog w0 n_p_spec_l1Rd_pick [a0, Value.int IntKind.i64 12] s3 (fun v37 s38 => (Ext s3 s38) ∧ (pBin Try.prog 3 BinOp.add (Value.int IntKind.i64 2) v37 (fun v39 => pVal false 1 (Value.string ({ data := #[] })) (pVal false 1 (Value.string ({ data := #[68] })) (pVal false 1 (Value.string ({ data := #[72, 32, 49, 32, 48, 32, 48] })) (pVal false 1 (Value.string ({ data := #[72, 32, 50, 32, 48, 32, 53] })) (pVal false 1 (Value.string ({ data := #[72, 32, 49, 32, 49, 32, 54, 48, 48] })) (pVal false 1 (Value.string ({ data := #[72, 32, 49, 32, 48, 32, 54, 48, 49] })) (pVal false 1 (Value.string ({ data := #[68, 97, 98, 99] })) (pNew w0 9 ([Value.string ({ data := #[] }), Value.string ({ data := #[68] }), Value.string ({ data := #[72, 32, 49, 32, 48, 32, 48] }), Value.string ({ data := #[72, 32, 50, 32, 48, 32, 53] }), Value.string ({ data := #[72, 32, 49, 32, 49, 32, 54, 48, 48] }), Value.string ({ data := #[72, 32, 49, 32, 48, 32, 54, 48, 49] }), Value.string ({ data := #[68, 97, 98, 99] })]) s38 (fun n40 s41 => (Ext s38 s41) ∧ (AC Try.prog w0 n_p_spec_l1Rd_of [a0, Value.slice (Option.some (Addr.mk n40 0 Option.none)) 7 7] s41 (fun v42 s43 => (Ext s41 s43) ∧ (pIndexAddr 1 (cellOf v0 0) v39 (fun v44 => pVal false 1 v42 (pStore v44 [v42] s43 (fun s45 => pVal true 1 (Value.agg (⟨[cellOf v0 0]⟩)) (R (Value.agg (⟨[cellOf v0 0]⟩)) s45))))))))))))))))))) ∧ (pVal false 1 (Value.string ({ data := #[] })) (pVal false 1 (Value.string ({ data := #[68] })) (pVal false 1 (Value.string ({ data := #[72, 32, 49, 32, 48, 32, 48] })) (pVal false 1 (Value.string ({ data := #[72, 32, 50, 32, 48, 32, 53] })) (pVal false 1 (Value.string ({ data := #[72, 32, 49, 32, 49, 32, 54, 48, 48] })) (pVal false 1 (Value.string ({ data := #[72, 32, 49, 32, 48, 32, 54, 48, 49] })) (pVal false 1 (Value.string ({ data := #[68, 97, 98, 99] })) (pNew w0 9 ([Value.string ({ data := #[] }), Value.string ({ data := #[68] }), Value.string ({ data := #[72, 32, 49, 32, 48, 32, 48] }), Value.string ({ data := #[72, 32, 50, 32, 48, 32, 53] }), Value.string ({ data := #[72, 32, 49, 32, 49, 32, 54, 48, 48] }), Value.string ({ data := #[72, 32, 49, 32, 48, 32, 54, 48, 49] }), Value.string ({ data := #[68, 97, 98, 99] })]) s3 (fun n46 s47 => (Ext s3 s47) ∧ (AC Try.prog w0 n_p_spec_l1Rd_pick [a0, Value.int IntKind.i64 12] s47 (fun v48 s49 => (Ext s47 s49) ∧ (pBin Try.prog 3 BinOp.add (Value.int IntKind.i64 2) v48 (fun v50 => AC Try.prog w0 n_p_spec_l1Rd_of [a0, Value.slice (Option.some (Addr.mk n46 0 Option.none)) 7 7] s49 (fun v51 s52 => (Ext s49 s52) ∧ (pIndexAddr 1 (cellOf v0 0) v50 (fun v53 => pVal false 1 v51 (pStore v53 [v51] s52 (fun s54 => pVal true 1 (Value.agg (⟨[cellOf v0 0]⟩)) (R (Value.agg (⟨[cellOf v0 0]⟩)) s54)))))))))))))))))))) (pLen (cellOf v0 0) (fun v55 => AC Try.prog w0 n_p_spec_l1Rd_pick [a0, v55] s3 (fun v56 s57 => (Ext s3 s57) ∧ (pIndexAddr 1 (cellOf v0 0) v56 (fun v58 => pVal false 1 (Value.string ({ data := #[] })) (pStore v58 ([Value.string ({ data := #[] })]) s57 (fun s59 => pVal true 1 (Value.agg (⟨[cellOf v0 0]⟩)) (R (Value.agg (⟨[cellOf v0 0]⟩)) s59)))))))))))))))))))
theorem vc_spec_l24Spoil_eq (w0 : World) (a0 a1 : Value) (σ : Vw) (R : Value → Vw → Prop) : vc_spec_l24Spoil w0 a0 a1 σ R = den Try.prog w0 kp_spec_l24Spoil esc_spec_l24Spoil (Try.f85.body.getD .skip) (entry Try.f85.ntmps [a0, a1]) σ (retK Try.prog Try.f85.results.toList R) := by kernel_rfl
theorem ac_spec_l24Spoil {w0 : World} {a0 a1 : Value} {σ : Vw} {R : Value → Vw → Prop} (h : vc_spec_l24Spoil w0 a0 a1 σ R) : AC Try.prog w0 n_spec_l24Spoil [a0, a1] σ R := by
  refine ac_rule (fn := Try.f85) (c := Try.f85.body.getD .skip) kp_spec_l24Spoil esc_spec_l24Spoil Try.func85 (by kernel_rfl) (by kernel_rfl) ?_
  rw [← vc_spec_l24Spoil_eq]
  exact h

/-- spec.l21In -/
def kp_spec_l21In : Nat → Keep
  | _ => ⟨[], [], [], .done, []⟩
def esc_spec_l21In : Nat → Bool
  | _ => false
def vc_spec_l21In (w0 : World) (a0 a1 a2 : Value) (σ : Vw) (R : Value → Vw → Prop) : Prop :=
  pBin Try.prog 3 BinOp.geq a0 a1 (fun v0 => pIf v0 (pBin Try.prog 3 BinOp.leq a0 a2 (fun v1 => R v1 σ)) (R (Value.bool false) σ))
theorem vc_spec_l21In_eq (w0 : World) (a0 a1 a2 : Value) (σ : Vw) (R : Value → Vw → Prop) : vc_spec_l21In w0 a0 a1 a2 σ R = den Try.prog w0 kp_spec_l21In esc_spec_l21In (Try.f86.body.getD .skip) (entry Try.f86.ntmps [a0, a1, a2]) σ (retK Try.prog Try.f86.results.toList R) := by kernel_rfl
theorem ac_spec_l21In {w0 : World} {a0 a1 a2 : Value} {σ : Vw} {R : Value → Vw → Prop} (h : vc_spec_l21In w0 a0 a1 a2 σ R) : AC Try.prog w0 n_spec_l21In [a0, a1, a2] σ R := by
  refine ac_rule (fn := Try.f86) (c := Try.f86.body.getD .skip) kp_spec_l21In esc_spec_l21In Try.func86 (by kernel_rfl) (by kernel_rfl) ?_
  rw [← vc_spec_l21In_eq]
  exact h

/-- spec.PagesNew -/
def kp_spec_PagesNew : Nat → Keep
  | 3 => ⟨[2], [(0, 2), (1, 2)], [0, 1], .done, []⟩
  | _ => ⟨[], [], [], .done, []⟩
def esc_spec_PagesNew : Nat → Bool
  | _ => false
def vc_spec_PagesNew (w0 : World) (σ : Vw) (R : Value → Vw → Prop) : Prop :=
  pVal true 2 (Value.agg (⟨[Value.slice Option.none 0 0, Value.slice Option.none 0 0]⟩)) (pLoop (fun l0 K1 s2 => pBin Try.prog 3 BinOp.lss (vget l0 0) (Value.int IntKind.i64 96) (fun v3 => pIf v3 (pVal false 1 (Value.int IntKind.i64 (-1)) (pVal true 3 (Value.agg (⟨[Value.bool false, Value.string ({ data := #[] }), Value.int IntKind.i64 (-1)]⟩)) ((allOne ([Value.bool false, Value.string ({ data := #[] }), Value.int IntKind.i64 (-1)])) ∧ (pAppend w0 85 3 32 (vget l0 3) 1 ([Value.bool false, Value.string ({ data := #[] }), Value.int IntKind.i64 (-1)]) s2 (fun v4 s5 => pVal false 1 v4 (pBin Try.prog 3 BinOp.add (vget l0 0) (Value.int IntKind.i64 1) (fun v6 => K1 AX.normal [v6, vget l0 1, vget l0 2, v4, vget l0 4] s5))))))) (K1 (AX.exit 0) [vget l0 0, vget l0 1, vget l0 2, vget l0 3, vget l0 4] s2))) [Value.int IntKind.i64 0, Value.slice Option.none 0 0, Value.slice Option.none 0 0, Value.slice Option.none 0 0, Value.slice Option.none 0 0] σ (fun x7 l8 s9 => match x7 with | .normal => pVal true 2 (Value.agg (⟨[vget l8 3, vget l8 4]⟩)) (R (Value.agg (⟨[vget l8 3, vget l8 4]⟩)) s9) | .ret => R (Value.agg (⟨[vget l8 1, vget l8 2]⟩)) s9 | .exit i10 => (match Nat.beq i10 0 with | true => pVal true 2 (Value.agg (⟨[vget l8 3, vget l8 4]⟩)) (R (Value.agg (⟨[vget l8 3, vget l8 4]⟩)) s9) | false => False)))
theorem vc_spec_PagesNew_eq (w0 : World) (σ : Vw) (R : Value → Vw → Prop) : vc_spec_PagesNew w0 σ R = den Try.prog w0 kp_spec_PagesNew esc_spec_PagesNew (Try.f87.body.getD .skip) (entry Try.f87.ntmps []) σ (retK Try.prog Try.f87.results.toList R) := by kernel_rfl
theorem ac_spec_PagesNew {w0 : World} {σ : Vw} {R : Value → Vw → Prop} (h : vc_spec_PagesNew w0 σ R) : AC Try.prog w0 n_spec_PagesNew [] σ R := by
  refine ac_rule (fn := Try.f87) (c := Try.f87.body.getD .skip) kp_spec_PagesNew esc_spec_PagesNew Try.func87 (by kernel_rfl) (by kernel_rfl) ?_
  rw [← vc_spec_PagesNew_eq]
  exact h

/-- spec.l61Text -/
def kp_spec_l61Text : Nat → Keep
  | _ => ⟨[], [], [], .done, []⟩
def esc_spec_l61Text : Nat → Bool
  | 23 => true
  | _ => false
def vc_spec_l61Text (w0 : World) (a0 : Value) (σ : Vw) (R : Value → Vw → Prop) : Prop :=
  AC Try.prog w0 n_p_spec_l1Rd_pick [a0, Value.int IntKind.i64 8] σ (fun v0 s1 => pBin Try.prog 3 BinOp.eql v0 (Value.int IntKind.i64 0) (fun v2 => pIf v2 (AC Try.prog w0 n_p_spec_l1Rd_pick [a0, Value.int IntKind.i64 5] s1 (fun v3 s4 => pBin Try.prog 3 BinOp.mul (Value.int IntKind.i64 40) v3 (fun v5 => AC Try.prog w0 n_spec_l1Many ([Value.string ({ data := #[112] }), v5]) s4 (fun v6 s7 => R v6 s7)))) (pBin Try.prog 3 BinOp.eql v0 (Value.int IntKind.i64 1) (fun v8 => pIf v8 (AC Try.prog w0 n_p_spec_l1Rd_pick [a0, Value.int IntKind.i64 2] s1 (fun v9 s10 => pBin Try.prog 3 BinOp.sub (Value.int IntKind.i64 3000) v9 (fun v11 => AC Try.prog w0 n_p_spec_l1Rd_pick [a0, Value.int IntKind.i64 3] s10 (fun v12 s13 => pBin Try.prog 3 BinOp.add v11 v12 (fun v14 => AC Try.prog w0 n_spec_l1Many ([Value.string ({ data := #[113] }), v14]) s13 (fun v15 s16 => R v15 s16)))))) (pBin Try.prog 3 BinOp.eql v0 (Value.int IntKind.i64 2) (fun v17 => pIf v17 (R (Value.string ({ data := #[] })) s1) (pVal false 1 (Value.string ({ data := #[97] })) (pVal false 1 (Value.string ({ data := #[104, 101, 108, 108, 111, 10] })) (pVal false 1 (Value.string ({ data := #[101, 110, 100, 10] })) (pVal false 1 (Value.string ({ data := #[97, 32, 49, 10] })) (pVal false 1 (Value.string ({ data := #[0] })) (pNew w0 9 ([Value.string ({ data := #[97] }), Value.string ({ data := #[104, 101, 108, 108, 111, 10] }), Value.string ({ data := #[101, 110, 100, 10] }), Value.string ({ data := #[97, 32, 49, 10] }), Value.string ({ data := #[0] })]) s1 (fun n18 s19 => AC Try.prog w0 n_p_spec_l1Rd_of [a0, Value.slice (Option.some (Addr.mk n18 0 Option.none)) 5 5] s19 (fun v20 s21 => AC Try.prog w0 n_p_spec_l1Rd_pick [a0, Value.int IntKind.i64 60] s21 (fun v22 s23 => AC Try.prog w0 n_spec_l1Many [v20, v22] s23 (fun v24 s25 => R v24 s25))))))))))))))))
theorem vc_spec_l61Text_eq (w0 : World) (a0 : Value) (σ : Vw) (R : Value → Vw → Prop) : vc_spec_l61Text w0 a0 σ R = den Try.prog w0 kp_spec_l61Text esc_spec_l61Text (Try.f88.body.getD .skip) (entry Try.f88.ntmps [a0]) σ (retK Try.prog Try.f88.results.toList R) := by kernel_rfl
theorem ac_spec_l61Text {w0 : World} {a0 : Value} {σ : Vw} {R : Value → Vw → Prop} (h : vc_spec_l61Text w0 a0 σ R) : AC Try.prog w0 n_spec_l61Text [a0] σ R := by
  refine ac_rule (fn := Try.f88) (c := Try.f88.body.getD .skip) kp_spec_l61Text esc_spec_l61Text Try.func88 (by kernel_rfl) (by kernel_rfl) ?_
  rw [← vc_spec_l61Text_eq]
  exact h

/-- spec.PagesNeed -/
def kp_spec_PagesNeed : Nat → Keep
  | _ => ⟨[], [], [], .done, []⟩
def esc_spec_PagesNeed : Nat → Bool
  | _ => false
def vc_spec_PagesNeed (w0 : World) (a0 : Value) (σ : Vw) (R : Value → Vw → Prop) : Prop :=
  pLenS a0 (fun v0 => pBin Try.prog 3 BinOp.add v0 (Value.int IntKind.i64 40) (fun v1 => pBin Try.prog 3 BinOp.sub v1 (Value.int IntKind.i64 1) (fun v2 => pBin Try.prog 3 BinOp.quo v2 (Value.int IntKind.i64 40) (fun v3 => R v3 σ))))
theorem vc_spec_PagesNeed_eq (w0 : World) (a0 : Value) (σ : Vw) (R : Value → Vw → Prop) : vc_spec_PagesNeed w0 a0 σ R = den Try.prog w0 kp_spec_PagesNeed esc_spec_PagesNeed (Try.f89.body.getD .skip) (entry Try.f89.ntmps [a0]) σ (retK Try.prog Try.f89.results.toList R) := by kernel_rfl
theorem ac_spec_PagesNeed {w0 : World} {a0 : Value} {σ : Vw} {R : Value → Vw → Prop} (h : vc_spec_PagesNeed w0 a0 σ R) : AC Try.prog w0 n_spec_PagesNeed [a0] σ R := by
  refine ac_rule (fn := Try.f89) (c := Try.f89.body.getD .skip) kp_spec_PagesNeed esc_spec_PagesNeed Try.func89 (by kernel_rfl) (by kernel_rfl) ?_
  rw [← vc_spec_PagesNeed_eq]
  exact h

/-- spec.l32Keep -/
def kp_spec_l32Keep : Nat → Keep
  | 5 => ⟨[1, 2, 7, 8, 9, 10], [(3, 2), (6, 2)], [3, 6], .done, []⟩
  | 11 => ⟨[], [], [], .step 0 (.step 1 (.step 2 (.step 3 (.step 4 (.step 5 (.step 6 (.step 7 (.step 8 (.done))))))))), [(1, [0]), (5, [3, 4]), (6, [3, 4, 5]), (7, [0, 1, 2, 3, 4, 5, 6]), (8, [0, 1, 2, 3, 4, 5, 6, 7])]⟩
  | 18 => ⟨[1, 2, 7, 12], [(3, 2), (6, 2)], [3, 6], .done, []⟩
  | 21 => ⟨[], [], [], .step 1 (.step 2 (.step 3 (.step 4 (.step 6 (.step 7 (.step 9 (.step 10 (.step 11 (.step 12 (.step 0 (.step 5 (.step 8 (.step 13 (.step 14 (.step 15 (.done)))))))))))))))), [(2, [1]), (4, [1, 2, 3]), (5, [0, 1, 2, 3, 4]), (7, [6]), (8, [0, 1, 2, 3, 4, 5, 6, 7]), (10, [9]), (12, [9, 10, 11]), (13, [0, 1, 2, 3, 4, 5, 6, 7, 8, 9, 10, 11, 12]), (14, [0, 1, 2, 3, 4, 5, 6, 7, 8, 9, 10, 11, 12, 13]), (15, [0, 1, 2, 3, 4, 5, 6, 7, 8, 9, 10, 11, 12, 13, 14])]⟩
  | _ => ⟨[], [], [], .done, []⟩
def esc_spec_l32Keep : Nat → Bool
  | 79 => true
  | _ => false
def vc_spec_l32Keep (w0 : World) (a0 a1 a2 : Value) (σ : Vw) (R : Value → Vw → Prop) : Prop :=
  pVal true 2 a0 (pLoop (fun l0 K1 s2 => pLen (vget l0 6) (fun v3 => pBin Try.prog 3 BinOp.lss (vget l0 5) v3 (fun v4 => pIf v4 (pBin Try.prog 9 BinOp.neq (vget l0 4) (Value.string ({ data := #[] })) (fun v5 => pIf v5 (pIndexAddr 3 (vget l0 6) (vget l0 5) (fun v6 => pField 0 v6 (fun v7 => pLoad w0 1 v7 s2 (fun g8 => pIf (g8 0) (pBin Try.prog 3 BinOp.add (vget l0 5) (Value.int IntKind.i64 1) (fun v9 => K1 AX.normal [vget l0 0, vget l0 1, vget l0 2, vget l0 3, vget l0 4, v9, vget l0 6, vget l0 7, vget l0 8, vget l0 9] s2)) (pLenS (vget l0 4) (fun v10 => pBin Try.prog 3 BinOp.gtr v10 (Value.int IntKind.i64 40) (fun v11 => pIf v11 (pSliceStr (vget l0 4) Option.none (Option.some (Value.int IntKind.i64 40)) (fun v12 => pVal false 1 (Value.bool true) (pVal false 1 v12 (pVal false 1 (Value.int IntKind.i64 (-1)) (pIndexAddr 3 (vget l0 6) (vget l0 5) (fun v13 => pVal true 3 (Value.agg (⟨[Value.bool true, v12, Value.int IntKind.i64 (-1)]⟩)) (pStore v13 [Value.bool true, v12, Value.int IntKind.i64 (-1)] s2 (fun s14 => pSliceStr (vget l0 4) (Option.some (Value.int IntKind.i64 40)) Option.none (fun v15 => pBin Try.prog 3 BinOp.geq (vget l0 3) (Value.int IntKind.i64 0) (fun v16 => pIf v16 (pIndexAddr 3 (vget l0 6) (vget l0 3) (fun v17 => pField 2 v17 (fun v18 => pVal false 1 (vget l0 5) (pStore v18 [vget l0 5] s14 (fun s19 => pBin Try.prog 3 BinOp.add (vget l0 5) (Value.int IntKind.i64 1) (fun v20 => K1 AX.normal [vget l0 0, vget l0 1, vget l0 2, vget l0 5, v15, v20, vget l0 6, vget l0 7, vget l0 8, vget l0 9] s19)))))) (pBin Try.prog 3 BinOp.add (vget l0 5) (Value.int IntKind.i64 1) (fun v21 => K1 AX.normal [vget l0 0, vget l0 1, vget l0 5, vget l0 5, v15, v21, vget l0 6, vget l0 7, vget l0 8, vget l0 9] s14)))))))))))) (pSliceStr (vget l0 4) Option.none (Option.some v10) (fun v22 => pVal false 1 (Value.bool true) (pVal false 1 v22 (pVal false 1 (Value.int IntKind.i64 (-1)) (pIndexAddr 3 (vget l0 6) (vget l0 5) (fun v23 => pVal true 3 (Value.agg (⟨[Value.bool true, v22, Value.int IntKind.i64 (-1)]⟩)) (pStore v23 [Value.bool true, v22, Value.int IntKind.i64 (-1)] s2 (fun s24 => pSliceStr (vget l0 4) (Option.some v10) Option.none (fun v25 => pBin Try.prog 3 BinOp.geq (vget l0 3) (Value.int IntKind.i64 0) (fun v26 => pIf v26 (pIndexAddr 3 (vget l0 6) (vget l0 3) (fun v27 => pField 2 v27 (fun v28 => pVal false 1 (vget l0 5) (pStore v28 [vget l0 5] s24 (fun s29 => pBin Try.prog 3 BinOp.add (vget l0 5) (Value.int IntKind.i64 1) (fun v30 => K1 AX.normal [vget l0 0, vget l0 1, vget l0 2, vget l0 5, v25, v30, vget l0 6, vget l0 7, vget l0 8, vget l0 9] s29)))))) (pBin Try.prog 3 BinOp.add (vget l0 5) (Value.int IntKind.i64 1) (fun v31 => K1 AX.normal [vget l0 0, vget l0 1, vget l0 5, vget l0 5, v25, v31, vget l0 6, vget l0 7, vget l0 8, vget l0 9] s24))))))))))))))))))) (K1 (AX.exit 0) [vget l0 0, vget l0 1, vget l0 2, vget l0 3, vget l0 4, vget l0 5, vget l0 6, vget l0 7, vget l0 8, vget l0 9] s2))) (K1 (AX.exit 0) [vget l0 0, vget l0 1, vget l0 2, vget l0 3, vget l0 4, vget l0 5, vget l0 6, vget l0 7, vget l0 8, vget l0 9] s2)))) [a1, a2, Value.int IntKind.i64 (-1), Value.int IntKind.i64 (-1), a2, Value.int IntKind.i64 0, cellOf a0 0, cellOf a0 1, Value.slice Option.none 0 0, Value.slice Option.none 0 0] σ (fun x32 l33 s34 => match x32 with | .normal => pLoop (fun l35 K36 s37 => pLen (vget l35 5) (fun v38 => pBin Try.prog 3 BinOp.lss (vget l35 3) v38 (fun v39 => pIf v39 (pIndexAddr 3 (vget l35 5) (vget l35 3) (fun v40 => pField 0 v40 (fun v41 => pLoad w0 1 v41 s37 (fun g42 => pBin Try.prog 9 BinOp.lss (g42 0) (vget l35 0) (fun v43 => pIf v43 (pBin Try.prog 3 BinOp.add (vget l35 3) (Value.int IntKind.i64 1) (fun v44 => K36 AX.normal [vget l35 0, vget l35 1, vget l35 2, v44, vget l35 4, vget l35 5, vget l35 6, vget l35 7] s37)) (K36 (AX.exit 2) [vget l35 0, vget l35 1, vget l35 2, vget l35 3, vget l35 4, vget l35 5, vget l35 6, vget l35 7] s37)))))) (K36 (AX.exit 2) [vget l35 0, vget l35 1, vget l35 2, vget l35 3, vget l35 4, vget l35 5, vget l35 6, vget l35 7] s37)))) [vget l33 0, vget l33 1, vget l33 2, Value.int IntKind.i64 0, vget l33 6, vget l33 7, vget l33 8, vget l33 9] s34 (fun x45 l46 s47 => match x45 with | .normal => pLenS (vget l46 1) (fun v48 => pVal false 1 (vget l46 0) (pVal false 1 (vget l46 2) (pVal false 1 v48 (pVal true 3 (Value.agg (⟨[vget l46 0, vget l46 2, v48]⟩)) (pSlice 3 (vget l46 5) Option.none (Option.some (vget l46 3)) (fun v49 => pVal true 3 (Value.agg (⟨[vget l46 0, vget l46 2, v48]⟩)) (pSlice 3 (vget l46 5) (Option.some (vget l46 3)) Option.none (fun v50 => pNew w0 44 [] s47 (fun n51 s52 => (Ext s47 s52) ∧ (pAppendS w0 44 3 32 (Value.slice (Option.some (Addr.mk n51 0 Option.none)) 0 0) v49 s52 (fun v53 s54 => (Ext s52 s54) ∧ ((allOne [vget l46 0, vget l46 2, v48]) ∧ (pAppend w0 44 3 32 v53 1 [vget l46 0, vget l46 2, v48] s54 (fun v55 s56 => (Ext s54 s56) ∧ (pAppendS w0 44 3 32 v55 v50 s56 (fun v57 s58 => pVal false 1 v57 (pVal true 2 (Value.agg (⟨[vget l46 4, v57]⟩)) (R (Value.agg (⟨[vget l46 4, v57]⟩)) s58)))))))))))))))))) | .ret => R (Value.agg (⟨[vget l46 6, vget l46 7]⟩)) s47 | .exit i59 => (match Nat.beq i59 2 with | true => pLenS (vget l46 1) (fun v60 => pVal false 1 (vget l46 0) (pVal false 1 (vget l46 2) (pVal false 1 v60 (pVal true 3 (Value.agg (⟨[vget l46 0, vget l46 2, v60]⟩)) (pSlice 3 (vget l46 5) Option.none (Option.some (vget l46 3)) (fun v61 => pVal true 3 (Value.agg (⟨[vget l46 0, vget l46 2, v60]⟩)) (pSlice 3 (vget l46 5) (Option.some (vget l46 3)) Option.none (fun v62 => pNew w0 44 [] s47 (fun n63 s64 => (Ext s47 s64) ∧ (pAppendS w0 44 3 32 (Value.slice (Option.some (Addr.mk n63 0 Option.none)) 0 0) v61 s64 (fun v65 s66 => (Ext s64 s66) ∧ ((allOne [vget l46 0, vget l46 2, v60]) ∧ (pAppend w0 44 3 32 v65 1 [vget l46 0, vget l46 2, v60] s66 (fun v67 s68 => (Ext s66 s68) ∧ (pAppendS w0 44 3 32 v67 v62 s68 (fun v69 s70 => pVal false 1 v69 (pVal true 2 (Value.agg (⟨[vget l46 4, v69]⟩)) (R (Value.agg (⟨[vget l46 4, v69]⟩)) s70)))))))))))))))))) | false => False)) | .ret => R (Value.agg (⟨[vget l33 8, vget l33 9]⟩)) s34 | .exit i71 => (match Nat.beq i71 0 with | true => pLoop (fun l72 K73 s74 => pLen (vget l72 5) (fun v75 => pBin Try.prog 3 BinOp.lss (vget l72 3) v75 (fun v76 => pIf v76 (pIndexAddr 3 (vget l72 5) (vget l72 3) (fun v77 => pField 0 v77 (fun v78 => pLoad w0 1 v78 s74 (fun g79 => pBin Try.prog 9 BinOp.lss (g79 0) (vget l72 0) (fun v80 => pIf v80 (pBin Try.prog 3 BinOp.add (vget l72 3) (Value.int IntKind.i64 1) (fun v81 => K73 AX.normal [vget l72 0, vget l72 1, vget l72 2, v81, vget l72 4, vget l72 5, vget l72 6, vget l72 7] s74)) (K73 (AX.exit 2) [vget l72 0, vget l72 1, vget l72 2, vget l72 3, vget l72 4, vget l72 5, vget l72 6, vget l72 7] s74)))))) (K73 (AX.exit 2) [vget l72 0, vget l72 1, vget l72 2, vget l72 3, vget l72 4, vget l72 5, vget l72 6, vget l72 7] s74)))) [vget l33 0, vget l33 1, vget l33 2, Value.int IntKind.i64 0, vget l33 6, vget l33 7, vget l33 8, vget l33 9] s34 (fun x82 l83 s84 => match x82 with | .normal => pLenS (vget l83 1) (fun v85 => pVal false 1 (vget l83 0) (pVal false 1 (vget l83 2) (pVal false 1 v85 (pVal true 3 (Value.agg (⟨[vget l83 0, vget l83 2, v85]⟩)) (pSlice 3 (vget l83 5) Option.none (Option.some (vget l83 3)) (fun v86 => pVal true 3 (Value.agg (⟨[vget l83 0, vget l83 2, v85]⟩)) (pSlice 3 (vget l83 5) (Option.some (vget l83 3)) Option.none (fun v87 => pNew w0 44 [] s84 (fun n88 s89 => (Ext s84 s89) ∧ (pAppendS w0 44 3 32 (Value.slice (Option.some (Addr.mk n88 0 Option.none)) 0 0) v86 s89 (fun v90 s91 => (Ext s89 s91) ∧ ((allOne [vget l83 0, vget l83 2, v85]) ∧ (pAppend w0 44 3 32 v90 1 [vget l83 0, vget l83 2, v85] s91 (fun v92 s93 => (Ext s91 s93) ∧ (pAppendS w0 44 3 32 v92 v87 s93 (fun v94 s95 => pVal false 1 v94 (pVal true 2 (Value.agg (⟨[vget l83 4, v94]⟩)) (R (Value.agg (⟨[vget l83 4, v94]⟩)) s95)))))))))))))))))) | .ret => R (Value.agg (⟨[vget l83 6, vget l83 7]⟩)) s84 | .exit i96 => (match Nat.beq i96 2 with | true => pLenS (vget l83 1) (fun v97 => pVal false 1 (vget l83 0) (pVal false 1 (vget l83 2) (pVal false 1 v97 (pVal true 3 (Value.agg (⟨[vget l83 0, vget l83 2, v97]⟩)) (pSlice 3 (vget l83 5) Option.none (Option.some (vget l83 3)) (fun v98 => pVal true 3 (Value.agg (⟨[vget l83 0, vget l83 2, v97]⟩)) (pSlice 3 (vget l83 5) (Option.some (vget l83 3)) Option.none (fun v99 => pNew w0 44 [] s84 (fun n100 s101 => (Ext s84 s101) ∧ (pAppendS w0 44 3 32 (Value.slice (Option.some (Addr.mk n100 0 Option.none)) 0 0) v98 s101 (fun v102 s103 => (Ext s101 s103) ∧ ((allOne [vget l83 0, vget l83 2, v97]) ∧ (pAppend w0 44 3 32 v102 1 [vget l83 0, vget l83 2, v97] s103 (fun v104 s105 => (Ext s103 s105) ∧ (pAppendS w0 44 3 32 v104 v99 s105 (fun v106 s107 => pVal false 1 v106 (pVal true 2 (Value.agg (⟨[vget l83 4, v106]⟩)) (R (Value.agg (⟨[vget l83 4, v106]⟩)) s107)))))))))))))))))) | false => False)) | false => False)))
theorem vc_spec_l32Keep_eq (w0 : World) (a0 a1 a2 : Value) (σ : Vw) (R : Value → Vw → Prop) : vc_spec_l32Keep w0 a0 a1 a2 σ R = den Try.prog w0 kp_spec_l32Keep esc_spec_l32Keep (Try.f90.body.getD .skip) (entry Try.f90.ntmps [a0, a1, a2]) σ (retK Try.prog Try.f90.results.toList R) := by kernel_rfl
theorem ac_spec_l32Keep {w0 : World} {a0 a1 a2 : Value} {σ : Vw} {R : Value → Vw → Prop} (h : vc_spec_l32Keep w0 a0 a1 a2 σ R) : AC Try.prog w0 n_spec_l32Keep [a0, a1, a2] σ R := by
  refine ac_rule (fn := Try.f90) (c := Try.f90.body.getD .skip) kp_spec_l32Keep esc_spec_l32Keep Try.func90 (by kernel_rfl) (by kernel_rfl) ?_
  rw [← vc_spec_l32Keep_eq]
  exact h

/-- slices.Index[[]int,int] -/
def kp_slices_Index_int_int : Nat → Keep
  | 2 => ⟨[0, 1, 4, 7, 8], [], [], .done, []⟩
  | _ => ⟨[], [], [], .done, []⟩
def esc_slices_Index_int_int : Nat → Bool
  | _ => false
def vc_slices_Index_int_int (w0 : World) (a0 a1 : Value) (σ : Vw) (R : Value → Vw → Prop) : Prop :=
  pLen a0 (fun v0 => pLoop (fun l1 K2 s3 => pBin Try.prog 3 BinOp.lss (vget l1 4) (vget l1 3) (fun v4 => pIf v4 (pIndexAddr 1 (vget l1 0) (vget l1 4) (fun v5 => pLoad w0 1 v5 s3 (fun g6 => pBin Try.prog 3 BinOp.eql (vget l1 1) (g6 0) (fun v7 => pIf v7 (K2 AX.ret [vget l1 0, vget l1 1, vget l1 4, vget l1 3, vget l1 4] s3) (pBin Try.prog 3 BinOp.add (vget l1 4) (Value.int IntKind.i64 1) (fun v8 => K2 AX.normal [vget l1 0, vget l1 1, vget l1 2, vget l1 3, v8] s3)))))) (K2 (AX.exit 0) [vget l1 0, vget l1 1, vget l1 2, vget l1 3, vget l1 4] s3))) [a0, a1, Value.int IntKind.i64 0, v0, Value.int IntKind.i64 0] σ (fun x9 l10 s11 => match x9 with | .normal => R (Value.int IntKind.i64 (-1)) s11 | .ret => R (vget l10 2) s11 | .exit i12 => (match Nat.beq i12 0 with | true => R (Value.int IntKind.i64 (-1)) s11 | false => False)))
theorem vc_slices_Index_int_int_eq (w0 : World) (a0 a1 : Value) (σ : Vw) (R : Value → Vw → Prop) : vc_slices_Index_int_int w0 a0 a1 σ R = den Try.prog w0 kp_slices_Index_int_int esc_slices_Index_int_int (Try.f91.body.getD .skip) (entry Try.f91.ntmps [a0, a1]) σ (retK Try.prog Try.f91.results.toList R) := by kernel_rfl
theorem ac_slices_Index_int_int {w0 : World} {a0 a1 : Value} {σ : Vw} {R : Value → Vw → Prop} (h : vc_slices_Index_int_int w0 a0 a1 σ R) : AC Try.prog w0 n_slices_Index_int_int [a0, a1] σ R := by
  refine ac_rule (fn := Try.f91) (c := Try.f91.body.getD .skip) kp_slices_Index_int_int esc_slices_Index_int_int Try.func91 (by kernel_rfl) (by kernel_rfl) ?_
  rw [← vc_slices_Index_int_int_eq]
  exact h

/-- spec.StorePlay -/
def kp_spec_StorePlay : Nat → Keep
  | 6 => ⟨[1, 6, 10], [(4, 1), (5, 4), (7, 4), (9, 1)], [4, 5, 7, 9], .done, []⟩
  | 8 => ⟨[], [], [], .step 0 (.step 1 (.step 2 (.step 3 (.step 4 (.step 5 (.step 11 (.step 12 (.step 6 (.step 7 (.step 8 (.step 9 (.step 10 (.step 13 (.step 14 (.step 15 (.done)))))))))))))))), [(4, [2, 3]), (5, [2, 3, 4]), (6, [0, 1, 2, 3, 4, 5]), (7, [0, 1, 2, 3, 4, 5, 6]), (8, [0, 1, 2, 3, 4, 5, 6, 7]), (9, [0, 1, 2, 3, 4, 5, 6, 7]), (10, [0, 1, 2, 3, 4, 5, 6, 7]), (13, [0, 1, 2, 3, 4, 5, 6, 7, 8, 11, 12]), (14, [0, 1, 2, 3, 4, 5, 6, 7, 8, 9, 11, 12, 13]), (15, [0, 1, 2, 3, 4, 5, 6, 7, 8, 9, 10, 11, 12, 13, 14])]⟩
  | 13 => ⟨[], [], [], .step 0 (.step 2 (.step 1 (.step 3 (.step 4 (.step 5 (.step 6 (.done))))))), [(1, [0]), (3, [0, 1, 2]), (4, [0, 1, 2, 3]), (5, [0, 1, 2, 3, 4]), (6, [0, 1, 2, 3, 4, 5])]⟩
  | _ => ⟨[], [], [], .done, []⟩
def esc_spec_StorePlay : Nat → Bool
  | _ => false
def vc_spec_StorePlay (w0 : World) (a0 a1 : Value) (σ : Vw) (R : Value → Vw → Prop) : Prop :=
  pVal true 1 a0 (AC Try.prog w0 n_spec_StoreOpen ([Value.agg (⟨[cellOf a0 0]⟩)]) σ (fun v0 s1 => pExtract v0 0 (fun v2 => pExtract v0 1 (fun v3 => pVal true 4 v2 (pUn UnOp.not v3 (fun v4 => pIf v4 (pVal true 1 (Value.agg (⟨[Value.slice Option.none 0 0]⟩)) (pVal true 4 (Value.agg (⟨[Value.int IntKind.i64 0, Value.string ({ data := #[] }), Value.slice Option.none 0 0, Value.int IntKind.i64 0]⟩)) (R (Value.tuple (⟨[Value.agg (⟨[Value.slice Option.none 0 0]⟩), Value.agg (⟨[Value.int IntKind.i64 0, Value.string ({ data := #[] }), Value.slice Option.none 0 0, Value.int IntKind.i64 0]⟩), Value.bool false]⟩)) s1))) (AC Try.prog w0 n_spec_l21Copy ([Value.agg (⟨[cellOf a0 0]⟩)]) s1 (fun v5 s6 => pVal true 1 v5 (pLoop (fun l7 K8 s9 => pLen (vget l7 0) (fun v10 => pBin Try.prog 3 BinOp.lss (vget l7 2) v10 (fun v11 => pIf v11 False (K8 (AX.exit 0) [vget l7 0, vget l7 1, vget l7 2, vget l7 3, vget l7 4, vget l7 5, vget l7 6, vget l7 7, vget l7 8, vget l7 9, vget l7 10, vget l7 11, vget l7 12] s9)))) ([a1, Value.bool false, Value.int IntKind.i64 0, Value.slice Option.none 0 0, Value.int IntKind.i64 0, Value.string ({ data := #[] }), Value.slice Option.none 0 0, Value.int IntKind.i64 0, cellOf v2 0, cellOf v2 1, cellOf v2 2, cellOf v2 3, cellOf v5 0]) s6 (fun x12 l13 s14 => match x12 with | .normal => AC Try.prog w0 n_spec_l21Copy ([Value.agg (⟨[vget l13 12]⟩)]) s14 (fun v15 s16 => (Ext s14 s16) ∧ (AC Try.prog w0 n_spec_l22Copy ([Value.agg (⟨[vget l13 8, vget l13 9, vget l13 10, vget l13 11]⟩)]) s16 (fun v17 s18 => pVal true 1 v15 (pVal true 4 v17 (R (Value.tuple (⟨[Value.agg (⟨[cellOf v15 0]⟩), Value.agg (⟨[cellOf v17 0, cellOf v17 1, cellOf v17 2, cellOf v17 3]⟩), Value.bool true]⟩)) s18))))) | .ret => R (Value.tuple (⟨[Value.agg (⟨[vget l13 3]⟩), Value.agg (⟨[vget l13 4, vget l13 5, vget l13 6, vget l13 7]⟩), vget l13 1]⟩)) s14 | .exit i19 => (match Nat.beq i19 0 with | true => AC Try.prog w0 n_spec_l21Copy ([Value.agg (⟨[vget l13 12]⟩)]) s14 (fun v20 s21 => (Ext s14 s21) ∧ (AC Try.prog w0 n_spec_l22Copy ([Value.agg (⟨[vget l13 8, vget l13 9, vget l13 10, vget l13 11]⟩)]) s21 (fun v22 s23 => pVal true 1 v20 (pVal true 4 v22 (R (Value.tuple (⟨[Value.agg (⟨[cellOf v20 0]⟩), Value.agg (⟨[cellOf v22 0, cellOf v22 1, cellOf v22 2, cellOf v22 3]⟩), Value.bool true]⟩)) s23))))) | false => False)))))))))))
theorem vc_spec_StorePlay_eq (w0 : World) (a0 a1 : Value) (σ : Vw) (R : Value → Vw → Prop) : vc_spec_StorePlay w0 a0 a1 σ R = den Try.prog w0 kp_spec_StorePlay esc_spec_StorePlay (Try.f92.body.getD .skip) (entry Try.f92.ntmps [a0, a1]) σ (retK Try.prog Try.f92.results.toList R) := by kernel_rfl
theorem ac_spec_StorePlay {w0 : World} {a0 a1 : Value} {σ : Vw} {R : Value → Vw → Prop} (h : vc_spec_StorePlay w0 a0 a1 σ R) : AC Try.prog w0 n_spec_StorePlay [a0, a1] σ R := by
  refine ac_rule (fn := Try.f92) (c := Try.f92.body.getD .skip) kp_spec_StorePlay esc_spec_StorePlay Try.func92 (by kernel_rfl) (by kernel_rfl) ?_
  rw [← vc_spec_StorePlay_eq]
  exact h

/-- spec.l24New -/
def kp_spec_l24New : Nat → Keep
  | _ => ⟨[], [], [], .done, []⟩
def esc_spec_l24New : Nat → Bool
  | _ => false
def vc_spec_l24New (w0 : World) (a0 : Value) (σ : Vw) (R : Value → Vw → Prop) : Prop :=
  AC Try.prog w0 n_p_spec_l1Rd_pick [a0, Value.int IntKind.i64 200] σ (fun v0 s1 => AC Try.prog w0 n_spec_l1Many ([Value.string ({ data := #[116] }), v0]) s1 (fun v2 s3 => AC Try.prog w0 n_spec_StoreNew [v2] s3 (fun v4 s5 => pExtract v4 0 (fun v6 => pExtract v4 1 (fun v7 => AC Try.prog w0 n_spec_l24Blank [] s5 (fun v8 s9 => pLen v6 (fun v10 => AC Try.prog w0 n_spec_DiskWrite [v8, v6, v10] s9 (fun v11 s12 => pVal true 1 v11 (R (Value.agg (⟨[cellOf v11 0]⟩)) s12)))))))))
theorem vc_spec_l24New_eq (w0 : World) (a0 : Value) (σ : Vw) (R : Value → Vw → Prop) : vc_spec_l24New w0 a0 σ R = den Try.prog w0 kp_spec_l24New esc_spec_l24New (Try.f93.body.getD .skip) (entry Try.f93.ntmps [a0]) σ (retK Try.prog Try.f93.results.toList R) := by kernel_rfl
theorem ac_spec_l24New {w0 : World} {a0 : Value} {σ : Vw} {R : Value → Vw → Prop} (h : vc_spec_l24New w0 a0 σ R) : AC Try.prog w0 n_spec_l24New [a0] σ R := by
  refine ac_rule (fn := Try.f93) (c := Try.f93.body.getD .skip) kp_spec_l24New esc_spec_l24New Try.func93 (by kernel_rfl) (by kernel_rfl) ?_
  rw [← vc_spec_l24New_eq]
  exact h

/-- spec.l24Steps -/
def kp_spec_l24Steps : Nat → Keep
  | 3 => ⟨[0, 5, 6], [], [], .done, []⟩
  | _ => ⟨[], [], [], .done, []⟩
def esc_spec_l24Steps : Nat → Bool
  | 8 => true
  | _ => false
def vc_spec_l24Steps (w0 : World) (a0 a1 : Value) (σ : Vw) (R : Value → Vw → Prop) : Prop :=
  pNew w0 127 [] σ (fun n0 s1 => AC Try.prog w0 n_p_spec_l1Rd_pick [a0, a1] s1 (fun v2 s3 => pLoop (fun l4 K5 s6 => pBin Try.prog 3 BinOp.gtr (vget l4 2) (Value.int IntKind.i64 0) (fun v7 => pIf v7 (AC Try.prog w0 n_spec_l24Group [vget l4 0] s6 (fun v8 s9 => pVal false 1 v8 (pVal false 1 (Value.int IntKind.i64 (-1)) (pVal true 3 (Value.agg (⟨[Value.bool false, v8, Value.int IntKind.i64 (-1)]⟩)) (AC Try.prog w0 n_p_spec_l1Rd_pick [vget l4 0, Value.int IntKind.i64 4] s9 (fun v10 s11 => pBin Try.prog 3 BinOp.eql v10 (Value.int IntKind.i64 0) (fun v12 => pIf v12 (pVal false 1 (Value.bool true) (AC Try.prog w0 n_spec_l24Text [vget l4 0] s11 (fun v13 s14 => pVal false 1 v13 (AC Try.prog w0 n_p_spec_l1Rd_pick [vget l4 0, Value.int IntKind.i64 3] s14 (fun v15 s16 => pBin Try.prog 3 BinOp.eql v15 (Value.int IntKind.i64 0) (fun v17 => pIf v17 (AC Try.prog w0 n_p_spec_l1Rd_pick [vget l4 0, Value.int IntKind.i64 12] s16 (fun v18 s19 => AC Try.prog w0 n_p_spec_l1Rd_pick [vget l4 0, Value.int IntKind.i64 2] s19 (fun v20 s21 => pBin Try.prog 3 BinOp.mul v18 v20 (fun v22 => pVal false 1 v22 (AC Try.prog w0 n_p_spec_l1Rd_pick [vget l4 0, Value.int IntKind.i64 4] s21 (fun v23 s24 => pBin Try.prog 3 BinOp.eql v23 (Value.int IntKind.i64 0) (fun v25 => pIf v25 (AC Try.prog w0 n_p_spec_l1Rd_pick [vget l4 0, Value.int IntKind.i64 70] s24 (fun v26 s27 => pVal false 1 v26 (pVal true 3 (Value.agg (⟨[Value.bool true, v13, v26]⟩)) ((allOne [Value.bool true, v13, v26]) ∧ (pAppend w0 127 3 32 (vget l4 1) 1 [Value.bool true, v13, v26] s27 (fun v28 s29 => pBin Try.prog 3 BinOp.sub (vget l4 2) (Value.int IntKind.i64 1) (fun v30 => K5 AX.normal [vget l4 0, v28, v30] s29))))))) (pVal true 3 (Value.agg (⟨[Value.bool true, v13, v22]⟩)) ((allOne [Value.bool true, v13, v22]) ∧ (pAppend w0 127 3 32 (vget l4 1) 1 [Value.bool true, v13, v22] s24 (fun v31 s32 => pBin Try.prog 3 BinOp.sub (vget l4 2) (Value.int IntKind.i64 1) (fun v33 => K5 AX.normal [vget l4 0, v31, v33] s32)))))))))))) (pVal true 3 (Value.agg (⟨[Value.bool true, v13, Value.int IntKind.i64 (-1)]⟩)) ((allOne [Value.bool true, v13, Value.int IntKind.i64 (-1)]) ∧ (pAppend w0 127 3 32 (vget l4 1) 1 [Value.bool true, v13, Value.int IntKind.i64 (-1)] s16 (fun v34 s35 => pBin Try.prog 3 BinOp.sub (vget l4 2) (Value.int IntKind.i64 1) (fun v36 => K5 AX.normal [vget l4 0, v34, v36] s35))))))))))) (AC Try.prog w0 n_p_spec_l1Rd_pick [vget l4 0, Value.int IntKind.i64 3] s11 (fun v37 s38 => pBin Try.prog 3 BinOp.eql v37 (Value.int IntKind.i64 0) (fun v39 => pIf v39 (AC Try.prog w0 n_p_spec_l1Rd_pick [vget l4 0, Value.int IntKind.i64 12] s38 (fun v40 s41 => AC Try.prog w0 n_p_spec_l1Rd_pick [vget l4 0, Value.int IntKind.i64 2] s41 (fun v42 s43 => pBin Try.prog 3 BinOp.mul v40 v42 (fun v44 => pVal false 1 v44 (AC Try.prog w0 n_p_spec_l1Rd_pick [vget l4 0, Value.int IntKind.i64 4] s43 (fun v45 s46 => pBin Try.prog 3 BinOp.eql v45 (Value.int IntKind.i64 0) (fun v47 => pIf v47 (AC Try.prog w0 n_p_spec_l1Rd_pick [vget l4 0, Value.int IntKind.i64 70] s46 (fun v48 s49 => pVal false 1 v48 (pVal true 3 (Value.agg (⟨[Value.bool false, v8, v48]⟩)) ((allOne [Value.bool false, v8, v48]) ∧ (pAppend w0 127 3 32 (vget l4 1) 1 [Value.bool false, v8, v48] s49 (fun v50 s51 => pBin Try.prog 3 BinOp.sub (vget l4 2) (Value.int IntKind.i64 1) (fun v52 => K5 AX.normal [vget l4 0, v50, v52] s51))))))) (pVal true 3 (Value.agg (⟨[Value.bool false, v8, v44]⟩)) ((allOne [Value.bool false, v8, v44]) ∧ (pAppend w0 127 3 32 (vget l4 1) 1 [Value.bool false, v8, v44] s46 (fun v53 s54 => pBin Try.prog 3 BinOp.sub (vget l4 2) (Value.int IntKind.i64 1) (fun v55 => K5 AX.normal [vget l4 0, v53, v55] s54)))))))))))) (pVal true 3 (Value.agg (⟨[Value.bool false, v8, Value.int IntKind.i64 (-1)]⟩)) ((allOne [Value.bool false, v8, Value.int IntKind.i64 (-1)]) ∧ (pAppend w0 127 3 32 (vget l4 1) 1 [Value.bool false, v8, Value.int IntKind.i64 (-1)] s38 (fun v56 s57 => pBin Try.prog 3 BinOp.sub (vget l4 2) (Value.int IntKind.i64 1) (fun v58 => K5 AX.normal [vget l4 0, v56, v58] s57))))))))))))))) (K5 (AX.exit 0) [vget l4 0, vget l4 1, vget l4 2] s6))) [a0, Value.slice (Option.some (Addr.mk n0 0 Option.none)) 0 0, v2] s3 (fun x59 l60 s61 => match x59 with | .normal => R (vget l60 1) s61 | .ret => False | .exit i62 => (match Nat.beq i62 0 with | true => R (vget l60 1) s61 | false => False))))
theorem vc_spec_l24Steps_eq (w0 : World) (a0 a1 : Value) (σ : Vw) (R : Value → Vw → Prop) : vc_spec_l24Steps w0 a0 a1 σ R = den Try.prog w0 kp_spec_l24Steps esc_spec_l24Steps (Try.f94.body.getD .skip) (entry Try.f94.ntmps [a0, a1]) σ (retK Try.prog Try.f94.results.toList R) := by kernel_rfl
theorem ac_spec_l24Steps {w0 : World} {a0 a1 : Value} {σ : Vw} {R : Value → Vw → Prop} (h : vc_spec_l24Steps w0 a0 a1 σ R) : AC Try.prog w0 n_spec_l24Steps [a0, a1] σ R := by
  refine ac_rule (fn := Try.f94) (c := Try.f94.body.getD .skip) kp_spec_l24Steps esc_spec_l24Steps Try.func94 (by kernel_rfl) (by kernel_rfl) ?_
  rw [← vc_spec_l24Steps_eq]
  exact h

/-- spec.StoreOpen -/
def kp_spec_StoreOpen : Nat → Keep
  | 10 => ⟨[], [], [], .step 0 (.step 1 (.step 3 (.step 2 (.step 4 (.step 5 (.step 6 (.step 7 (.step 8 (.step 9 (.done)))))))))), [(2, [1]), (4, [0, 1, 2, 3]), (5, [0, 1, 2, 3, 4]), (6, [0, 1, 2, 3, 4, 5]), (7, [0, 1, 2, 3, 4, 5]), (8, [0, 1, 2, 3, 4, 5, 6]), (9, [0, 1, 2, 3, 4, 5, 6, 7, 8])]⟩
  | 14 => ⟨[3, 4], [(1, 1), (2, 4), (10, 4)], [1, 2, 10], .done, []⟩
  | _ => ⟨[], [], [], .done, []⟩
def esc_spec_StoreOpen : Nat → Bool
  | _ => false
def vc_spec_StoreOpen (w0 : World) (a0 : Value) (σ : Vw) (R : Value → Vw → Prop) : Prop :=
  pVal true 1 a0 (AC Try.prog w0 n_spec_DiskOk ([Value.agg (⟨[cellOf a0 0]⟩)]) σ (fun v0 s1 => pUn UnOp.not v0 (fun v2 => pIf v2 (pVal true 4 (Value.agg (⟨[Value.int IntKind.i64 0, Value.string ({ data := #[] }), Value.slice Option.none 0 0, Value.int IntKind.i64 0]⟩)) (R (Value.tuple (⟨[Value.agg (⟨[Value.int IntKind.i64 0, Value.string ({ data := #[] }), Value.slice Option.none 0 0, Value.int IntKind.i64 0]⟩), Value.bool false]⟩)) s1)) (AC Try.prog w0 n_spec_l22Found ([Value.agg (⟨[cellOf a0 0]⟩), Value.int IntKind.i64 0]) s1 (fun v3 s4 => pExtract v3 0 (fun v5 => pExtract v3 1 (fun v6 => AC Try.prog w0 n_spec_l22Found ([Value.agg (⟨[cellOf a0 0]⟩), Value.int IntKind.i64 1]) s4 (fun v7 s8 => pExtract v7 0 (fun v9 => pExtract v7 1 (fun v10 => pBin Try.prog 3 BinOp.gtr v9 v5 (fun v11 => pIf v11 (pBin Try.prog 3 BinOp.eql v9 (Value.int IntKind.i64 0) (fun v12 => pIf v12 (pVal true 4 (Value.agg (⟨[Value.int IntKind.i64 0, Value.string ({ data := #[] }), Value.slice Option.none 0 0, Value.int IntKind.i64 0]⟩)) (R (Value.tuple (⟨[Value.agg (⟨[Value.int IntKind.i64 0, Value.string ({ data := #[] }), Value.slice Option.none 0 0, Value.int IntKind.i64 0]⟩), Value.bool false]⟩)) s8)) (AC Try.prog w0 n_spec_l22Area [v9] s8 (fun v13 s14 => (Ext s8 s14) ∧ (AC Try.prog w0 n_spec_l22Text ([Value.agg (⟨[cellOf a0 0]⟩), v13, Value.int IntKind.i64 90, v10, Value.int IntKind.i64 0]) s14 (fun v15 s16 => pExtract v15 0 (fun v17 => pExtract v15 1 (fun v18 => pUn UnOp.not v18 (fun v19 => pIf v19 (pVal true 4 (Value.agg (⟨[Value.int IntKind.i64 0, Value.string ({ data := #[] }), Value.slice Option.none 0 0, Value.int IntKind.i64 0]⟩)) (R (Value.tuple (⟨[Value.agg (⟨[Value.int IntKind.i64 0, Value.string ({ data := #[] }), Value.slice Option.none 0 0, Value.int IntKind.i64 0]⟩), Value.bool false]⟩)) s16)) (pVal false 1 v9 (pVal false 1 v17 (pVal true 4 (Value.agg (⟨[v9, v17, Value.slice Option.none 0 0, Value.int IntKind.i64 0]⟩)) (pLoop (fun l20 K21 s22 => pLen (vget l20 9) (fun v23 => AC Try.prog w0 n_spec_l22Group ([Value.agg (⟨[vget l20 2]⟩), vget l20 1, v23, vget l20 10]) s22 (fun v24 s25 => pExtract v24 0 (fun v26 => pExtract v24 1 (fun v27 => pBin Try.prog 3 BinOp.eql v27 (Value.int IntKind.i64 0) (fun v28 => pIf v28 (AC Try.prog w0 n_spec_l22Clean ([Value.agg (⟨[vget l20 2]⟩), Value.agg (⟨[vget l20 7, vget l20 8, vget l20 9, vget l20 10]⟩)]) s25 (fun v29 s30 => pExtract v29 0 (fun v31 => pExtract v29 1 (fun v32 => pVal true 4 v31 (K21 AX.ret [v32, vget l20 1, vget l20 2, cellOf v31 0, cellOf v31 1, cellOf v31 2, cellOf v31 3, vget l20 7, vget l20 8, vget l20 9, vget l20 10] s30))))) (pVal false 1 v26 ((allOne [v26]) ∧ (pAppend w0 9 1 16 (vget l20 9) 1 [v26] s25 (fun v33 s34 => pVal false 1 v33 (pBin Try.prog 3 BinOp.add (vget l20 10) v27 (fun v35 => pVal false 1 v35 (K21 AX.normal [vget l20 0, vget l20 1, vget l20 2, vget l20 3, vget l20 4, vget l20 5, vget l20 6, vget l20 7, vget l20 8, v33, v35] s34))))))))))))) ([Value.bool false, v9, cellOf a0 0, Value.int IntKind.i64 0, Value.string ({ data := #[] }), Value.slice Option.none 0 0, Value.int IntKind.i64 0, v9, v17, Value.slice Option.none 0 0, Value.int IntKind.i64 0]) s16 (fun x36 l37 s38 => match x36 with | .normal => R (Value.tuple (⟨[Value.agg (⟨[vget l37 3, vget l37 4, vget l37 5, vget l37 6]⟩), vget l37 0]⟩)) s38 | .ret => R (Value.tuple (⟨[Value.agg (⟨[vget l37 3, vget l37 4, vget l37 5, vget l37 6]⟩), vget l37 0]⟩)) s38 | .exit i39 => (match Nat.beq i39 0 with | true => R (Value.tuple (⟨[Value.agg (⟨[vget l37 3, vget l37 4, vget l37 5, vget l37 6]⟩), vget l37 0]⟩)) s38 | false => False))))))))))))))) (pBin Try.prog 3 BinOp.eql v5 (Value.int IntKind.i64 0) (fun v40 => pIf v40 (pVal true 4 (Value.agg (⟨[Value.int IntKind.i64 0, Value.string ({ data := #[] }), Value.slice Option.none 0 0, Value.int IntKind.i64 0]⟩)) (R (Value.tuple (⟨[Value.agg (⟨[Value.int IntKind.i64 0, Value.string ({ data := #[] }), Value.slice Option.none 0 0, Value.int IntKind.i64 0]⟩), Value.bool false]⟩)) s8)) (AC Try.prog w0 n_spec_l22Area [v5] s8 (fun v41 s42 => (Ext s8 s42) ∧ (AC Try.prog w0 n_spec_l22Text ([Value.agg (⟨[cellOf a0 0]⟩), v41, Value.int IntKind.i64 90, v6, Value.int IntKind.i64 0]) s42 (fun v43 s44 => pExtract v43 0 (fun v45 => pExtract v43 1 (fun v46 => pUn UnOp.not v46 (fun v47 => pIf v47 (pVal true 4 (Value.agg (⟨[Value.int IntKind.i64 0, Value.string ({ data := #[] }), Value.slice Option.none 0 0, Value.int IntKind.i64 0]⟩)) (R (Value.tuple (⟨[Value.agg (⟨[Value.int IntKind.i64 0, Value.string ({ data := #[] }), Value.slice Option.none 0 0, Value.int IntKind.i64 0]⟩), Value.bool false]⟩)) s44)) (pVal false 1 v5 (pVal false 1 v45 (pVal true 4 (Value.agg (⟨[v5, v45, Value.slice Option.none 0 0, Value.int IntKind.i64 0]⟩)) (pLoop (fun l48 K49 s50 => pLen (vget l48 9) (fun v51 => AC Try.prog w0 n_spec_l22Group ([Value.agg (⟨[vget l48 2]⟩), vget l48 1, v51, vget l48 10]) s50 (fun v52 s53 => pExtract v52 0 (fun v54 => pExtract v52 1 (fun v55 => pBin Try.prog 3 BinOp.eql v55 (Value.int IntKind.i64 0) (fun v56 => pIf v56 (AC Try.prog w0 n_spec_l22Clean ([Value.agg (⟨[vget l48 2]⟩), Value.agg (⟨[vget l48 7, vget l48 8, vget l48 9, vget l48 10]⟩)]) s53 (fun v57 s58 => pExtract v57 0 (fun v59 => pExtract v57 1 (fun v60 => pVal true 4 v59 (K49 AX.ret [v60, vget l48 1, vget l48 2, cellOf v59 0, cellOf v59 1, cellOf v59 2, cellOf v59 3, vget l48 7, vget l48 8, vget l48 9, vget l48 10] s58))))) (pVal false 1 v54 ((allOne [v54]) ∧ (pAppend w0 9 1 16 (vget l48 9) 1 [v54] s53 (fun v61 s62 => pVal false 1 v61 (pBin Try.prog 3 BinOp.add (vget l48 10) v55 (fun v63 => pVal false 1 v63 (K49 AX.normal [vget l48 0, vget l48 1, vget l48 2, vget l48 3, vget l48 4, vget l48 5, vget l48 6, vget l48 7, vget l48 8, v61, v63] s62))))))))))))) ([Value.bool false, v5, cellOf a0 0, Value.int IntKind.i64 0, Value.string ({ data := #[] }), Value.slice Option.none 0 0, Value.int IntKind.i64 0, v5, v45, Value.slice Option.none 0 0, Value.int IntKind.i64 0]) s44 (fun x64 l65 s66 => match x64 with | .normal => R (Value.tuple (⟨[Value.agg (⟨[vget l65 3, vget l65 4, vget l65 5, vget l65 6]⟩), vget l65 0]⟩)) s66 | .ret => R (Value.tuple (⟨[Value.agg (⟨[vget l65 3, vget l65 4, vget l65 5, vget l65 6]⟩), vget l65 0]⟩)) s66 | .exit i67 => (match Nat.beq i67 0 with | true => R (Value.tuple (⟨[Value.agg (⟨[vget l65 3, vget l65 4, vget l65 5, vget l65 6]⟩), vget l65 0]⟩)) s66 | false => False))))))))))))))))))))))))))
theorem vc_spec_StoreOpen_eq (w0 : World) (a0 : Value) (σ : Vw) (R : Value → Vw → Prop) : vc_spec_StoreOpen w0 a0 σ R = den Try.prog w0 kp_spec_StoreOpen esc_spec_StoreOpen (Try.f95.body.getD .skip) (entry Try.f95.ntmps [a0]) σ (retK Try.prog Try.f95.results.toList R) := by kernel_rfl
theorem ac_spec_StoreOpen {w0 : World} {a0 : Value} {σ : Vw} {R : Value → Vw → Prop} (h : vc_spec_StoreOpen w0 a0 σ R) : AC Try.prog w0 n_spec_StoreOpen [a0] σ R := by
  refine ac_rule (fn := Try.f95) (c := Try.f95.body.getD .skip) kp_spec_StoreOpen esc_spec_StoreOpen Try.func95 (by kernel_rfl) (by kernel_rfl) ?_
  rw [← vc_spec_StoreOpen_eq]
  exact h

/-- spec.l23Step -/
def kp_spec_l23Step : Nat → Keep
  | 5 => ⟨[], [], [], .step 0 (.step 1 (.step 2 (.step 3 (.step 4 (.done))))), [(2, [0]), (3, [0, 1, 2]), (4, [0, 1, 2, 3])]⟩
  | 7 => ⟨[], [], [], .step 0 (.step 1 (.step 2 (.step 3 (.step 5 (.step 4 (.step 6 (.step 7 (.step 8 (.done))))))))), [(3, [2]), (4, [0, 1, 2, 3]), (6, [0, 1, 2, 3, 4]), (7, [0, 1, 2, 3, 4, 5, 6]), (8, [0, 1, 2, 3, 4, 5, 6, 7])]⟩
  | 10 => ⟨[], [], [], .step 0 (.step 1 (.step 2 (.step 3 (.step 4 (.step 5 (.done)))))), [(3, [0]), (4, [0, 1, 3]), (5, [0, 1, 2, 3, 4])]⟩
  | _ => ⟨[], [], [], .done, []⟩
def esc_spec_l23Step : Nat → Bool
  | _ => false
def vc_spec_l23Step (w0 : World) (a0 a1 a2 : Value) (σ : Vw) (R : Value → Vw → Prop) : Prop :=
  pVal true 1 a0 (pVal true 4 a1 (pVal true 3 a2 (AC Try.prog w0 n_spec_StoreAppend ([Value.agg (⟨[cellOf a1 0, cellOf a1 1, cellOf a1 2, cellOf a1 3]⟩), cellOf a2 1]) σ (fun v0 s1 => pExtract v0 0 (fun v2 => pExtract v0 1 (fun v3 => pExtract v0 2 (fun v4 => pVal true 4 v3 (pIf (cellOf a2 0) (AC Try.prog w0 n_spec_StoreSave ([Value.agg (⟨[cellOf a1 0, cellOf a1 1, cellOf a1 2, cellOf a1 3]⟩), cellOf a2 1]) s1 (fun v5 s6 => pExtract v5 0 (fun v7 => pExtract v5 1 (fun v8 => pExtract v5 2 (fun v9 => pVal true 4 v8 (pBin Try.prog 3 BinOp.neq v9 (Value.int IntKind.i64 0) (fun v10 => pIf v10 False (pBin Try.prog 3 BinOp.lss (cellOf a2 2) (Value.int IntKind.i64 0) (fun v11 => pIf v11 False (AC Try.prog w0 n_spec_DiskWrite ([Value.agg (⟨[cellOf a0 0]⟩), v7, cellOf a2 2]) s6 (fun v12 s13 => pVal true 1 v12 (AC Try.prog w0 n_spec_StoreOpen ([Value.agg (⟨[cellOf v12 0]⟩)]) s13 (fun v14 s15 => pExtract v14 0 (fun v16 => pExtract v14 1 (fun v17 => pVal true 4 v16 False))))))))))))))) (pBin Try.prog 3 BinOp.neq v4 (Value.int IntKind.i64 0) (fun v18 => pIf v18 False (pBin Try.prog 3 BinOp.lss (cellOf a2 2) (Value.int IntKind.i64 0) (fun v19 => pIf v19 False (AC Try.prog w0 n_spec_DiskWrite ([Value.agg (⟨[cellOf a0 0]⟩), v2, cellOf a2 2]) s1 (fun v20 s21 => pVal true 1 v20 (AC Try.prog w0 n_spec_StoreOpen ([Value.agg (⟨[cellOf v20 0]⟩)]) s21 (fun v22 s23 => pExtract v22 0 (fun v24 => pExtract v22 1 (fun v25 => pVal true 4 v24 False))))))))))))))))))
theorem vc_spec_l23Step_eq (w0 : World) (a0 a1 a2 : Value) (σ : Vw) (R : Value → Vw → Prop) : vc_spec_l23Step w0 a0 a1 a2 σ R = den Try.prog w0 kp_spec_l23Step esc_spec_l23Step (Try.f96.body.getD .skip) (entry Try.f96.ntmps [a0, a1, a2]) σ (retK Try.prog Try.f96.results.toList R) := by kernel_rfl
theorem ac_spec_l23Step {w0 : World} {a0 a1 a2 : Value} {σ : Vw} {R : Value → Vw → Prop} (h : vc_spec_l23Step w0 a0 a1 a2 σ R) : AC Try.prog w0 n_spec_l23Step [a0, a1, a2] σ R := by
  refine ac_rule (fn := Try.f96) (c := Try.f96.body.getD .skip) kp_spec_l23Step esc_spec_l23Step Try.func96 (by kernel_rfl) (by kernel_rfl) ?_
  rw [← vc_spec_l23Step_eq]
  exact h

/-- spec.l22Copy -/
def kp_spec_l22Copy : Nat → Keep
  | _ => ⟨[], [], [], .done, []⟩
def esc_spec_l22Copy : Nat → Bool
  | 3 => true
  | _ => false
def vc_spec_l22Copy (w0 : World) (a0 : Value) (σ : Vw) (R : Value → Vw → Prop) : Prop :=
  pVal true 4 a0 (pNew w0 9 [] σ (fun n0 s1 => pAppendS w0 9 1 16 (Value.slice (Option.some (Addr.mk n0 0 Option.none)) 0 0) (cellOf a0 2) s1 (fun v2 s3 => pVal false 1 v2 (pVal true 4 (Value.agg (⟨[cellOf a0 0, cellOf a0 1, v2, cellOf a0 3]⟩)) (R (Value.agg (⟨[cellOf a0 0, cellOf a0 1, v2, cellOf a0 3]⟩)) s3)))))
theorem vc_spec_l22Copy_eq (w0 : World) (a0 : Value) (σ : Vw) (R : Value → Vw → Prop) : vc_spec_l22Copy w0 a0 σ R = den Try.prog w0 kp_spec_l22Copy esc_spec_l22Copy (Try.f97.body.getD .skip) (entry Try.f97.ntmps [a0]) σ (retK Try.prog Try.f97.results.toList R) := by kernel_rfl
theorem ac_spec_l22Copy {w0 : World} {a0 : Value} {σ : Vw} {R : Value → Vw → Prop} (h : vc_spec_l22Copy w0 a0 σ R) : AC Try.prog w0 n_spec_l22Copy [a0] σ R := by
  refine ac_rule (fn := Try.f97) (c := Try.f97.body.getD .skip) kp_spec_l22Copy esc_spec_l22Copy Try.func97 (by kernel_rfl) (by kernel_rfl) ?_
  rw [← vc_spec_l22Copy_eq]
  exact h

/-- spec.StoreNew -/
def kp_spec_StoreNew : Nat → Keep
  | _ => ⟨[], [], [], .done, []⟩
def esc_spec_StoreNew : Nat → Bool
  | 7 => true
  | _ => false
def vc_spec_StoreNew (w0 : World) (a0 : Value) (σ : Vw) (R : Value → Vw → Prop) : Prop :=
  AC Try.prog w0 n_spec_l22TextOk [a0] σ (fun v0 s1 => pUn UnOp.not v0 (fun v2 => pIf v2 (pNew w0 58 [] s1 (fun n3 s4 => R (Value.tuple (⟨[Value.slice (Option.some (Addr.mk n3 0 Option.none)) 0 0, Value.bool false]⟩)) s4)) (AC Try.prog w0 n_spec_l22Saved [Value.int IntKind.i64 1, a0] s1 (fun v5 s6 => R (Value.tuple (⟨[v5, Value.bool true]⟩)) s6))))
theorem vc_spec_StoreNew_eq (w0 : World) (a0 : Value) (σ : Vw) (R : Value → Vw → Prop) : vc_spec_StoreNew w0 a0 σ R = den Try.prog w0 kp_spec_StoreNew esc_spec_StoreNew (Try.f98.body.getD .skip) (entry Try.f98.ntmps [a0]) σ (retK Try.prog Try.f98.results.toList R) := by kernel_rfl
theorem ac_spec_StoreNew {w0 : World} {a0 : Value} {σ : Vw} {R : Value → Vw → Prop} (h : vc_spec_StoreNew w0 a0 σ R) : AC Try.prog w0 n_spec_StoreNew [a0] σ R := by
  refine ac_rule (fn := Try.f98) (c := Try.f98.body.getD .skip) kp_spec_StoreNew esc_spec_StoreNew Try.func98 (by kernel_rfl) (by kernel_rfl) ?_
  rw [← vc_spec_StoreNew_eq]
  exact h

/-- spec.l24Blank -/
def kp_spec_l24Blank : Nat → Keep
  | 3 => ⟨[2], [(0, 1), (1, 1)], [0, 1], .done, []⟩
  | _ => ⟨[], [], [], .done, []⟩
def esc_spec_l24Blank : Nat → Bool
  | _ => false
def vc_spec_l24Blank (w0 : World) (σ : Vw) (R : Value → Vw → Prop) : Prop :=
  pVal true 1 (Value.agg (⟨[Value.slice Option.none 0 0]⟩)) (pLoop (fun l0 K1 s2 => pBin Try.prog 3 BinOp.lss (vget l0 0) (Value.int IntKind.i64 194) (fun v3 => pIf v3 (pVal false 1 (Value.string ({ data := #[] })) ((allOne ([Value.string ({ data := #[] })])) ∧ (pAppend w0 9 1 16 (vget l0 2) 1 ([Value.string ({ data := #[] })]) s2 (fun v4 s5 => pVal false 1 v4 (pBin Try.prog 3 BinOp.add (vget l0 0) (Value.int IntKind.i64 1) (fun v6 => K1 AX.normal [v6, vget l0 1, v4] s5)))))) (K1 (AX.exit 0) [vget l0 0, vget l0 1, vget l0 2] s2))) [Value.int IntKind.i64 0, Value.slice Option.none 0 0, Value.slice Option.none 0 0] σ (fun x7 l8 s9 => match x7 with | .normal => pVal true 1 (Value.agg (⟨[vget l8 2]⟩)) (R (Value.agg (⟨[vget l8 2]⟩)) s9) | .ret => R (Value.agg (⟨[vget l8 1]⟩)) s9 | .exit i10 => (match Nat.beq i10 0 with | true => pVal true 1 (Value.agg (⟨[vget l8 2]⟩)) (R (Value.agg (⟨[vget l8 2]⟩)) s9) | false => False)))
theorem vc_spec_l24Blank_eq (w0 : World) (σ : Vw) (R : Value → Vw → Prop) : vc_spec_l24Blank w0 σ R = den Try.prog w0 kp_spec_l24Blank esc_spec_l24Blank (Try.f99.body.getD .skip) (entry Try.f99.ntmps []) σ (retK Try.prog Try.f99.results.toList R) := by kernel_rfl
theorem ac_spec_l24Blank {w0 : World} {σ : Vw} {R : Value → Vw → Prop} (h : vc_spec_l24Blank w0 σ R) : AC Try.prog w0 n_spec_l24Blank [] σ R := by
  refine ac_rule (fn := Try.f99) (c := Try.f99.body.getD .skip) kp_spec_l24Blank esc_spec_l24Blank Try.func99 (by kernel_rfl) (by kernel_rfl) ?_
  rw [← vc_spec_l24Blank_eq]
  exact h

/-- spec.l24Group -/
def kp_spec_l24Group : Nat → Keep
  | _ => ⟨[], [], [], .done, []⟩
def esc_spec_l24Group : Nat → Bool
  | 29 => true
  | _ => false
def vc_spec_l24Group (w0 : World) (a0 : Value) (σ : Vw) (R : Value → Vw → Prop) : Prop :=
  AC Try.prog w0 n_p_spec_l1Rd_pick [a0, Value.int IntKind.i64 10] σ (fun v0 s1 => pBin Try.prog 3 BinOp.eql v0 (Value.int IntKind.i64 0) (fun v2 => pIf v2 (AC Try.prog w0 n_p_spec_l1Rd_pick [a0, Value.int IntKind.i64 2] s1 (fun v3 s4 => pBin Try.prog 3 BinOp.sub (Value.int IntKind.i64 600) v3 (fun v5 => AC Try.prog w0 n_p_spec_l1Rd_pick [a0, Value.int IntKind.i64 3] s4 (fun v6 s7 => pBin Try.prog 3 BinOp.add v5 v6 (fun v8 => AC Try.prog w0 n_spec_l1Many ([Value.string ({ data := #[103] }), v8]) s7 (fun v9 s10 => R v9 s10)))))) (pBin Try.prog 3 BinOp.eql v0 (Value.int IntKind.i64 1) (fun v11 => pIf v11 (AC Try.prog w0 n_p_spec_l1Rd_pick [a0, Value.int IntKind.i64 30] s1 (fun v12 s13 => AC Try.prog w0 n_spec_l1Many ([Value.string ({ data := #[72, 32, 49, 32, 49, 32, 48] }), v12]) s13 (fun v14 s15 => R v14 s15))) (pBin Try.prog 3 BinOp.eql v0 (Value.int IntKind.i64 2) (fun v16 => pIf v16 (AC Try.prog w0 n_p_spec_l1Rd_pick [a0, Value.int IntKind.i64 4] s1 (fun v17 s18 => pBin Try.prog 3 BinOp.mul (Value.int IntKind.i64 63) v17 (fun v19 => AC Try.prog w0 n_p_spec_l1Rd_pick [a0, Value.int IntKind.i64 2] s18 (fun v20 s21 => pBin Try.prog 3 BinOp.add v19 v20 (fun v22 => AC Try.prog w0 n_spec_l1Many ([Value.string ({ data := #[100] }), v22]) s21 (fun v23 s24 => R v23 s24)))))) (pVal false 1 (Value.string ({ data := #[] })) (pVal false 1 (Value.string ({ data := #[98] })) (pVal false 1 (Value.string ({ data := #[112, 117, 116, 32, 120, 32] })) (pVal false 1 (Value.string ({ data := #[72, 32, 50, 32, 49, 32, 48] })) (pNew w0 9 ([Value.string ({ data := #[] }), Value.string ({ data := #[98] }), Value.string ({ data := #[112, 117, 116, 32, 120, 32] }), Value.string ({ data := #[72, 32, 50, 32, 49, 32, 48] })]) s1 (fun n25 s26 => AC Try.prog w0 n_p_spec_l1Rd_of [a0, Value.slice (Option.some (Addr.mk n25 0 Option.none)) 4 4] s26 (fun v27 s28 => AC Try.prog w0 n_p_spec_l1Rd_pick [a0, Value.int IntKind.i64 16] s28 (fun v29 s30 => AC Try.prog w0 n_spec_l1Many [v27, v29] s30 (fun v31 s32 => R v31 s32)))))))))))))))
theorem vc_spec_l24Group_eq (w0 : World) (a0 : Value) (σ : Vw) (R : Value → Vw → Prop) : vc_spec_l24Group w0 a0 σ R = den Try.prog w0 kp_spec_l24Group esc_spec_l24Group (Try.f100.body.getD .skip) (entry Try.f100.ntmps [a0]) σ (retK Try.prog Try.f100.results.toList R) := by kernel_rfl
theorem ac_spec_l24Group {w0 : World} {a0 : Value} {σ : Vw} {R : Value → Vw → Prop} (h : vc_spec_l24Group w0 a0 σ R) : AC Try.prog w0 n_spec_l24Group [a0] σ R := by
  refine ac_rule (fn := Try.f100) (c := Try.f100.body.getD .skip) kp_spec_l24Group esc_spec_l24Group Try.func100 (by kernel_rfl) (by kernel_rfl) ?_
  rw [← vc_spec_l24Group_eq]
  exact h

/-- spec.l24Text -/
def kp_spec_l24Text : Nat → Keep
  | _ => ⟨[], [], [], .done, []⟩
def esc_spec_l24Text : Nat → Bool
  | 27 => true
  | _ => false
def vc_spec_l24Text (w0 : World) (a0 : Value) (σ : Vw) (R : Value → Vw → Prop) : Prop :=
  AC Try.prog w0 n_p_spec_l1Rd_pick [a0, Value.int IntKind.i64 12] σ (fun v0 s1 => pBin Try.prog 3 BinOp.eql v0 (Value.int IntKind.i64 0) (fun v2 => pIf v2 (AC Try.prog w0 n_p_spec_l1Rd_pick [a0, Value.int IntKind.i64 2] s1 (fun v3 s4 => pBin Try.prog 3 BinOp.sub (Value.int IntKind.i64 5760) v3 (fun v5 => AC Try.prog w0 n_p_spec_l1Rd_pick [a0, Value.int IntKind.i64 2] s4 (fun v6 s7 => pBin Try.prog 3 BinOp.add v5 v6 (fun v8 => AC Try.prog w0 n_spec_l1Many ([Value.string ({ data := #[121] }), v8]) s7 (fun v9 s10 => R v9 s10)))))) (pBin Try.prog 3 BinOp.eql v0 (Value.int IntKind.i64 1) (fun v11 => pIf v11 (AC Try.prog w0 n_p_spec_l1Rd_pick [a0, Value.int IntKind.i64 20] s1 (fun v12 s13 => AC Try.prog w0 n_spec_l1Many ([Value.string ({ data := #[72, 32, 49, 32, 48, 32, 51, 32] }), v12]) s13 (fun v14 s15 => pBin Try.prog 9 BinOp.add v14 (Value.string ({ data := #[67, 32, 57, 32, 48] })) (fun v16 => R v16 s15)))) (pBin Try.prog 3 BinOp.eql v0 (Value.int IntKind.i64 2) (fun v17 => pIf v17 (AC Try.prog w0 n_p_spec_l1Rd_pick [a0, Value.int IntKind.i64 4] s1 (fun v18 s19 => pBin Try.prog 3 BinOp.mul (Value.int IntKind.i64 64) v18 (fun v20 => AC Try.prog w0 n_spec_l1Many ([Value.string ({ data := #[122] }), v20]) s19 (fun v21 s22 => R v21 s22)))) (pVal false 1 (Value.string ({ data := #[] })) (pVal false 1 (Value.string ({ data := #[97] })) (pVal false 1 (Value.string ({ data := #[104, 101, 108, 108, 111, 32] })) (pVal false 1 (Value.string ({ data := #[67, 32, 51, 32, 49] })) (pVal false 1 (Value.string ({ data := #[72, 32, 50, 32, 48, 32, 49] })) (pVal false 1 (Value.string ({ data := #[0] })) (pNew w0 9 ([Value.string ({ data := #[] }), Value.string ({ data := #[97] }), Value.string ({ data := #[104, 101, 108, 108, 111, 32] }), Value.string ({ data := #[67, 32, 51, 32, 49] }), Value.string ({ data := #[72, 32, 50, 32, 48, 32, 49] }), Value.string ({ data := #[0] })]) s1 (fun n23 s24 => AC Try.prog w0 n_p_spec_l1Rd_of [a0, Value.slice (Option.some (Addr.mk n23 0 Option.none)) 6 6] s24 (fun v25 s26 => AC Try.prog w0 n_p_spec_l1Rd_pick [a0, Value.int IntKind.i64 30] s26 (fun v27 s28 => AC Try.prog w0 n_spec_l1Many [v25, v27] s28 (fun v29 s30 => R v29 s30)))))))))))))))))
theorem vc_spec_l24Text_eq (w0 : World) (a0 : Value) (σ : Vw) (R : Value → Vw → Prop) : vc_spec_l24Text w0 a0 σ R = den Try.prog w0 kp_spec_l24Text esc_spec_l24Text (Try.f101.body.getD .skip) (entry Try.f101.ntmps [a0]) σ (retK Try.prog Try.f101.results.toList R) := by kernel_rfl
theorem ac_spec_l24Text {w0 : World} {a0 : Value} {σ : Vw} {R : Value → Vw → Prop} (h : vc_spec_l24Text w0 a0 σ R) : AC Try.prog w0 n_spec_l24Text [a0] σ R := by
  refine ac_rule (fn := Try.f101) (c := Try.f101.body.getD .skip) kp_spec_l24Text esc_spec_l24Text Try.func101 (by kernel_rfl) (by kernel_rfl) ?_
  rw [← vc_spec_l24Text_eq]
  exact h

/-- spec.l22Found -/
def kp_spec_l22Found : Nat → Keep
  | _ => ⟨[], [], [], .done, []⟩
def esc_spec_l22Found : Nat → Bool
  | _ => false
def vc_spec_l22Found (w0 : World) (a0 a1 : Value) (σ : Vw) (R : Value → Vw → Prop) : Prop :=
  pVal true 1 a0 (pIndexAddr 1 (cellOf a0 0) a1 (fun v0 => pLoad w0 1 v0 σ (fun g1 => AC Try.prog w0 n_spec_l22Cut [g1 0, Value.int IntKind.u8 32] σ (fun v2 s3 => pLen v2 (fun v4 => pBin Try.prog 3 BinOp.neq v4 (Value.int IntKind.i64 3) (fun v5 => pIf v5 (R (Value.tuple (⟨[Value.int IntKind.i64 0, Value.int IntKind.i64 0]⟩)) s3) (pIndexAddr 1 v2 (Value.int IntKind.i64 0) (fun v6 => pLoad w0 1 v6 s3 (fun g7 => pBin Try.prog 9 BinOp.neq (g7 0) (Value.string ({ data := #[67] })) (fun v8 => pIf v8 (R (Value.tuple (⟨[Value.int IntKind.i64 0, Value.int IntKind.i64 0]⟩)) s3) (pIndexAddr 1 v2 (Value.int IntKind.i64 1) (fun v9 => pLoad w0 1 v9 s3 (fun g10 => AC Try.prog w0 n_spec_l22Num [g10 0] s3 (fun v11 s12 => pIndexAddr 1 v2 (Value.int IntKind.i64 2) (fun v13 => pLoad w0 1 v13 s12 (fun g14 => AC Try.prog w0 n_spec_l22Num [g14 0] s12 (fun v15 s16 => AC Try.prog w0 n_spec_l21In [v11, Value.int IntKind.i64 1, Value.int IntKind.i64 99999] s16 (fun v17 s18 => pUn UnOp.not v17 (fun v19 => pIf v19 (R (Value.tuple (⟨[Value.int IntKind.i64 0, Value.int IntKind.i64 0]⟩)) s18) (pBin Try.prog 3 BinOp.rem v11 (Value.int IntKind.i64 2) (fun v20 => pBin Try.prog 3 BinOp.neq v20 a1 (fun v21 => pIf v21 (R (Value.tuple (⟨[Value.int IntKind.i64 0, Value.int IntKind.i64 0]⟩)) s18) (AC Try.prog w0 n_spec_l21In [v15, Value.int IntKind.i64 0, Value.int IntKind.i64 5760] s18 (fun v22 s23 => pUn UnOp.not v22 (fun v24 => pIf v24 (R (Value.tuple (⟨[Value.int IntKind.i64 0, Value.int IntKind.i64 0]⟩)) s23) (R (Value.tuple (⟨[v11, v15]⟩)) s23))))))))))))))))))))))))))
theorem vc_spec_l22Found_eq (w0 : World) (a0 a1 : Value) (σ : Vw) (R : Value → Vw → Prop) : vc_spec_l22Found w0 a0 a1 σ R = den Try.prog w0 kp_spec_l22Found esc_spec_l22Found (Try.f102.body.getD .skip) (entry Try.f102.ntmps [a0, a1]) σ (retK Try.prog Try.f102.results.toList R) := by kernel_rfl
theorem ac_spec_l22Found {w0 : World} {a0 a1 : Value} {σ : Vw} {R : Value → Vw → Prop} (h : vc_spec_l22Found w0 a0 a1 σ R) : AC Try.prog w0 n_spec_l22Found [a0, a1] σ R := by
  refine ac_rule (fn := Try.f102) (c := Try.f102.body.getD .skip) kp_spec_l22Found esc_spec_l22Found Try.func102 (by kernel_rfl) (by kernel_rfl) ?_
  rw [← vc_spec_l22Found_eq]
  exact h

/-- spec.l22Text -/
def kp_spec_l22Text : Nat → Keep
  | 3 => ⟨[1, 2, 3, 4, 10, 11, 12, 13], [(5, 1)], [5], .done, []⟩
  | _ => ⟨[], [], [], .done, []⟩
def esc_spec_l22Text : Nat → Bool
  | _ => false
def vc_spec_l22Text (w0 : World) (a0 a1 a2 a3 a4 : Value) (σ : Vw) (R : Value → Vw → Prop) : Prop :=
  pVal true 1 a0 (pLoop (fun l0 K1 s2 => pLenS (vget l0 6) (fun v3 => pBin Try.prog 3 BinOp.lss v3 (vget l0 2) (fun v4 => pIf v4 (pBin Try.prog 3 BinOp.geq (vget l0 7) (vget l0 1) (fun v5 => pIf v5 (K1 AX.ret ([vget l0 0, vget l0 1, vget l0 2, vget l0 3, Value.string ({ data := #[] }), Value.bool false, vget l0 6, vget l0 7, vget l0 8]) s2) (pBin Try.prog 3 BinOp.add (vget l0 0) (vget l0 7) (fun v6 => pIndexAddr 1 (vget l0 8) v6 (fun v7 => pLoad w0 1 v7 s2 (fun g8 => pLenS (g8 0) (fun v9 => pBin Try.prog 3 BinOp.leq v9 (vget l0 3) (fun v10 => pIf v10 (K1 AX.ret ([vget l0 0, vget l0 1, vget l0 2, vget l0 3, Value.string ({ data := #[] }), Value.bool false, vget l0 6, vget l0 7, vget l0 8]) s2) (pBin Try.prog 3 BinOp.eql (vget l0 3) (Value.int IntKind.i64 1) (fun v11 => pIf v11 (pBin Try.prog 3 BinOp.add (vget l0 0) (vget l0 7) (fun v12 => pIndexAddr 1 (vget l0 8) v12 (fun v13 => pLoad w0 1 v13 s2 (fun g14 => pIndexStr (g14 0) (Value.int IntKind.i64 0) (fun v15 => pBin Try.prog 5 BinOp.neq v15 (Value.int IntKind.u8 68) (fun v16 => pIf v16 (K1 AX.ret ([vget l0 0, vget l0 1, vget l0 2, vget l0 3, Value.string ({ data := #[] }), Value.bool false, vget l0 6, vget l0 7, vget l0 8]) s2) (pBin Try.prog 3 BinOp.add (vget l0 0) (vget l0 7) (fun v17 => pIndexAddr 1 (vget l0 8) v17 (fun v18 => pLoad w0 1 v18 s2 (fun g19 => pSliceStr (g19 0) (Option.some (vget l0 3)) Option.none (fun v20 => pBin Try.prog 9 BinOp.add (vget l0 6) v20 (fun v21 => pBin Try.prog 3 BinOp.add (vget l0 7) (Value.int IntKind.i64 1) (fun v22 => K1 AX.normal [vget l0 0, vget l0 1, vget l0 2, vget l0 3, vget l0 4, vget l0 5, v21, v22, vget l0 8] s2))))))))))))) (pBin Try.prog 3 BinOp.add (vget l0 0) (vget l0 7) (fun v23 => pIndexAddr 1 (vget l0 8) v23 (fun v24 => pLoad w0 1 v24 s2 (fun g25 => pSliceStr (g25 0) (Option.some (vget l0 3)) Option.none (fun v26 => pBin Try.prog 9 BinOp.add (vget l0 6) v26 (fun v27 => pBin Try.prog 3 BinOp.add (vget l0 7) (Value.int IntKind.i64 1) (fun v28 => K1 AX.normal [vget l0 0, vget l0 1, vget l0 2, vget l0 3, vget l0 4, vget l0 5, v27, v28, vget l0 8] s2))))))))))))))))) (K1 (AX.exit 0) [vget l0 0, vget l0 1, vget l0 2, vget l0 3, vget l0 4, vget l0 5, vget l0 6, vget l0 7, vget l0 8] s2)))) ([a1, a2, a3, a4, Value.string ({ data := #[] }), Value.bool false, Value.string ({ data := #[] }), Value.int IntKind.i64 0, cellOf a0 0]) σ (fun x29 l30 s31 => match x29 with | .normal => pLenS (vget l30 6) (fun v32 => pBin Try.prog 3 BinOp.eql v32 (vget l30 2) (fun v33 => R (Value.tuple (⟨[vget l30 6, v33]⟩)) s31)) | .ret => R (Value.tuple (⟨[vget l30 4, vget l30 5]⟩)) s31 | .exit i34 => (match Nat.beq i34 0 with | true => pLenS (vget l30 6) (fun v35 => pBin Try.prog 3 BinOp.eql v35 (vget l30 2) (fun v36 => R (Value.tuple (⟨[vget l30 6, v36]⟩)) s31)) | false => False)))
theorem vc_spec_l22Text_eq (w0 : World) (a0 a1 a2 a3 a4 : Value) (σ : Vw) (R : Value → Vw → Prop) : vc_spec_l22Text w0 a0 a1 a2 a3 a4 σ R = den Try.prog w0 kp_spec_l22Text esc_spec_l22Text (Try.f103.body.getD .skip) (entry Try.f103.ntmps [a0, a1, a2, a3, a4]) σ (retK Try.prog Try.f103.results.toList R) := by kernel_rfl
theorem ac_spec_l22Text {w0 : World} {a0 a1 a2 a3 a4 : Value} {σ : Vw} {R : Value → Vw → Prop} (h : vc_spec_l22Text w0 a0 a1 a2 a3 a4 σ R) : AC Try.prog w0 n_spec_l22Text [a0, a1, a2, a3, a4] σ R := by
  refine ac_rule (fn := Try.f103) (c := Try.f103.body.getD .skip) kp_spec_l22Text esc_spec_l22Text Try.func103 (by kernel_rfl) (by kernel_rfl) ?_
  rw [← vc_spec_l22Text_eq]
  exact h

/-- spec.l22Area -/
def kp_spec_l22Area : Nat → Keep
  | _ => ⟨[], [], [], .done, []⟩
def esc_spec_l22Area : Nat → Bool
  | _ => false
def vc_spec_l22Area (w0 : World) (a0 : Value) (σ : Vw) (R : Value → Vw → Prop) : Prop :=
  pBin Try.prog 3 BinOp.rem a0 (Value.int IntKind.i64 2) (fun v0 => pBin Try.prog 3 BinOp.mul v0 (Value.int IntKind.i64 90) (fun v1 => pBin Try.prog 3 BinOp.add (Value.int IntKind.i64 14) v1 (fun v2 => R v2 σ)))
theorem vc_spec_l22Area_eq (w0 : World) (a0 : Value) (σ : Vw) (R : Value → Vw → Prop) : vc_spec_l22Area w0 a0 σ R = den Try.prog w0 kp_spec_l22Area esc_spec_l22Area (Try.f104.body.getD .skip) (entry Try.f104.ntmps [a0]) σ (retK Try.prog Try.f104.results.toList R) := by kernel_rfl
theorem ac_spec_l22Area {w0 : World} {a0 : Value} {σ : Vw} {R : Value → Vw → Prop} (h : vc_spec_l22Area w0 a0 σ R) : AC Try.prog w0 n_spec_l22Area [a0] σ R := by
  refine ac_rule (fn := Try.f104) (c := Try.f104.body.getD .skip) kp_spec_l22Area esc_spec_l22Area Try.func104 (by kernel_rfl) (by kernel_rfl) ?_
  rw [← vc_spec_l22Area_eq]
  exact h

/-- spec.l22Group -/
def kp_spec_l22Group : Nat → Keep
  | _ => ⟨[], [], [], .done, []⟩
def esc_spec_l22Group : Nat → Bool
  | _ => false
def vc_spec_l22Group (w0 : World) (a0 a1 a2 a3 : Value) (σ : Vw) (R : Value → Vw → Prop) : Prop :=
  pVal true 1 a0 (pBin Try.prog 3 BinOp.geq a3 (Value.int IntKind.i64 12) (fun v0 => pIf v0 (R (Value.tuple (⟨[Value.string ({ data := #[] }), Value.int IntKind.i64 0]⟩)) σ) (pBin Try.prog 3 BinOp.add (Value.int IntKind.i64 2) a3 (fun v1 => pIndexAddr 1 (cellOf a0 0) v1 (fun v2 => pLoad w0 1 v2 σ (fun g3 => AC Try.prog w0 n_spec_l22Cut [g3 0, Value.int IntKind.u8 32] σ (fun v4 s5 => pLen v4 (fun v6 => pBin Try.prog 3 BinOp.neq v6 (Value.int IntKind.i64 4) (fun v7 => pIf v7 (R (Value.tuple (⟨[Value.string ({ data := #[] }), Value.int IntKind.i64 0]⟩)) s5) (pIndexAddr 1 v4 (Value.int IntKind.i64 0) (fun v8 => pLoad w0 1 v8 s5 (fun g9 => pBin Try.prog 9 BinOp.neq (g9 0) (Value.string ({ data := #[72] })) (fun v10 => pIf v10 (R (Value.tuple (⟨[Value.string ({ data := #[] }), Value.int IntKind.i64 0]⟩)) s5) (pIndexAddr 1 v4 (Value.int IntKind.i64 1) (fun v11 => pLoad w0 1 v11 s5 (fun g12 => AC Try.prog w0 n_spec_l22Num [g12 0] s5 (fun v13 s14 => pBin Try.prog 3 BinOp.neq v13 a1 (fun v15 => pIf v15 (R (Value.tuple (⟨[Value.string ({ data := #[] }), Value.int IntKind.i64 0]⟩)) s14) (pIndexAddr 1 v4 (Value.int IntKind.i64 2) (fun v16 => pLoad w0 1 v16 s14 (fun g17 => AC Try.prog w0 n_spec_l22Num [g17 0] s14 (fun v18 s19 => pBin Try.prog 3 BinOp.neq v18 a2 (fun v20 => pIf v20 (R (Value.tuple (⟨[Value.string ({ data := #[] }), Value.int IntKind.i64 0]⟩)) s19) (pIndexAddr 1 v4 (Value.int IntKind.i64 3) (fun v21 => pLoad w0 1 v21 s19 (fun g22 => AC Try.prog w0 n_spec_l22Num [g22 0] s19 (fun v23 s24 => pBin Try.prog 3 BinOp.add v23 (Value.int IntKind.i64 64) (fun v25 => pBin Try.prog 3 BinOp.sub v25 (Value.int IntKind.i64 2) (fun v26 => pBin Try.prog 3 BinOp.quo v26 (Value.int IntKind.i64 63) (fun v27 => pBin Try.prog 3 BinOp.add (Value.int IntKind.i64 1) v27 (fun v28 => AC Try.prog w0 n_spec_l21In [v23, Value.int IntKind.i64 0, Value.int IntKind.i64 600] s24 (fun v29 s30 => pUn UnOp.not v29 (fun v31 => pIf v31 (R (Value.tuple (⟨[Value.string ({ data := #[] }), Value.int IntKind.i64 0]⟩)) s30) (pBin Try.prog 3 BinOp.add a3 v28 (fun v32 => pBin Try.prog 3 BinOp.gtr v32 (Value.int IntKind.i64 12) (fun v33 => pIf v33 (R (Value.tuple (⟨[Value.string ({ data := #[] }), Value.int IntKind.i64 0]⟩)) s30) (pBin Try.prog 3 BinOp.add (Value.int IntKind.i64 2) a3 (fun v34 => pBin Try.prog 3 BinOp.add v34 (Value.int IntKind.i64 1) (fun v35 => pBin Try.prog 3 BinOp.sub v28 (Value.int IntKind.i64 1) (fun v36 => AC Try.prog w0 n_spec_l22Text ([Value.agg (⟨[cellOf a0 0]⟩), v35, v36, v23, Value.int IntKind.i64 1]) s30 (fun v37 s38 => pExtract v37 0 (fun v39 => pExtract v37 1 (fun v40 => pUn UnOp.not v40 (fun v41 => pIf v41 (R (Value.tuple (⟨[Value.string ({ data := #[] }), Value.int IntKind.i64 0]⟩)) s38) (R (Value.tuple (⟨[v39, v28]⟩)) s38)))))))))))))))))))))))))))))))))))))))))))))
theorem vc_spec_l22Group_eq (w0 : World) (a0 a1 a2 a3 : Value) (σ : Vw) (R : Value → Vw → Prop) : vc_spec_l22Group w0 a0 a1 a2 a3 σ R = den Try.prog w0 kp_spec_l22Group esc_spec_l22Group (Try.f105.body.getD .skip) (entry Try.f105.ntmps [a0, a1, a2, a3]) σ (retK Try.prog Try.f105.results.toList R) := by kernel_rfl
theorem ac_spec_l22Group {w0 : World} {a0 a1 a2 a3 : Value} {σ : Vw} {R : Value → Vw → Prop} (h : vc_spec_l22Group w0 a0 a1 a2 a3 σ R) : AC Try.prog w0 n_spec_l22Group [a0, a1, a2, a3] σ R := by
  refine ac_rule (fn := Try.f105) (c := Try.f105.body.getD .skip) kp_spec_l22Group esc_spec_l22Group Try.func105 (by kernel_rfl) (by kernel_rfl) ?_
  rw [← vc_spec_l22Group_eq]
  exact h

/-- spec.l22Clean -/
def kp_spec_l22Clean : Nat → Keep
  | 2 => ⟨[5, 6], [(2, 1), (3, 4), (4, 4)], [2, 3, 4], .done, []⟩
  | 5 => ⟨[], [], [], .step 0 (.step 1 (.step 2 (.step 3 (.step 4 (.step 5 (.step 6 (.step 7 (.step 8 (.step 9 (.step 10 (.step 11 (.step 12 (.step 14 (.step 15 (.step 13 (.step 16 (.step 17 (.done)))))))))))))))))), [(1, [0]), (2, [0, 1]), (3, [0, 1, 2]), (4, [0, 1, 2, 3]), (5, [0, 1, 2, 3, 4]), (6, [0, 1, 2, 3, 4, 5]), (7, [0, 1, 2, 3, 4, 5, 6]), (8, [0, 1, 2, 3, 4, 5, 6, 7]), (9, [0, 1, 2, 3, 4, 5, 6, 7, 8]), (10, [0, 1, 2, 3, 4, 5, 6, 7, 8, 9]), (11, [0, 1, 2, 3, 4, 5, 6, 7, 8, 9, 10]), (12, [0, 1, 2, 3, 4, 5, 6, 7, 8, 9, 10, 11]), (13, [0, 1, 2, 3, 4, 5, 6, 7, 8, 9, 10, 11, 12]), (14, [0, 1, 2, 3, 4, 5, 6, 7, 8, 9]), (15, [0, 1, 2, 3, 4, 5, 6, 7, 8, 9, 14]), (16, [0, 1, 2, 3, 4, 5, 6, 7, 8, 9, 10, 11, 12, 13, 14, 15]), (17, [0, 1, 2, 3, 4, 5, 6, 7, 8, 9, 10, 11, 12, 13, 14, 15, 16])]⟩
  | _ => ⟨[], [], [], .done, []⟩
def esc_spec_l22Clean : Nat → Bool
  | _ => false
def vc_spec_l22Clean (w0 : World) (a0 a1 : Value) (σ : Vw) (R : Value → Vw → Prop) : Prop :=
  pVal true 1 a0 (pVal true 4 a1 (pLoop (fun l0 K1 s2 => pBin Try.prog 3 BinOp.lss (vget l0 1) (Value.int IntKind.i64 12) (fun v3 => pIf v3 (pBin Try.prog 3 BinOp.add (Value.int IntKind.i64 2) (vget l0 1) (fun v4 => pIndexAddr 1 (vget l0 2) v4 (fun v5 => pLoad w0 1 v5 s2 (fun g6 => AC Try.prog w0 n_spec_l22Cut [g6 0, Value.int IntKind.u8 32] s2 (fun v7 s8 => pLen v7 (fun v9 => pBin Try.prog 3 BinOp.eql v9 (Value.int IntKind.i64 4) (fun v10 => pIf v10 (pIndexAddr 1 v7 (Value.int IntKind.i64 0) (fun v11 => pLoad w0 1 v11 s8 (fun g12 => pBin Try.prog 9 BinOp.eql (g12 0) (Value.string ({ data := #[72] })) (fun v13 => pIf v13 (pIndexAddr 1 v7 (Value.int IntKind.i64 1) (fun v14 => pLoad w0 1 v14 s8 (fun g15 => AC Try.prog w0 n_spec_l22Num [g15 0] s8 (fun v16 s17 => (Ext s8 s17) ∧ (pBin Try.prog 3 BinOp.geq v16 (vget l0 3) (fun v18 => pIf v18 (pVal true 4 (Value.agg (⟨[Value.int IntKind.i64 0, Value.string ({ data := #[] }), Value.slice Option.none 0 0, Value.int IntKind.i64 0]⟩)) (K1 AX.ret ([Value.bool false, vget l0 1, vget l0 2, vget l0 3, vget l0 4, vget l0 5, vget l0 6, Value.int IntKind.i64 0, Value.string ({ data := #[] }), Value.slice Option.none 0 0, Value.int IntKind.i64 0]) s17)) (pBin Try.prog 3 BinOp.add (vget l0 1) (Value.int IntKind.i64 1) (fun v19 => K1 AX.normal [vget l0 0, v19, vget l0 2, vget l0 3, vget l0 4, vget l0 5, vget l0 6, vget l0 7, vget l0 8, vget l0 9, vget l0 10] s17)))))))) ((Ext s8 s8) ∧ (pBin Try.prog 3 BinOp.add (vget l0 1) (Value.int IntKind.i64 1) (fun v20 => K1 AX.normal [vget l0 0, v20, vget l0 2, vget l0 3, vget l0 4, vget l0 5, vget l0 6, vget l0 7, vget l0 8, vget l0 9, vget l0 10] s8))))))) ((Ext s8 s8) ∧ (pBin Try.prog 3 BinOp.add (vget l0 1) (Value.int IntKind.i64 1) (fun v21 => K1 AX.normal [vget l0 0, v21, vget l0 2, vget l0 3, vget l0 4, vget l0 5, vget l0 6, vget l0 7, vget l0 8, vget l0 9, vget l0 10] s8)))))))))) (K1 (AX.exit 0) [vget l0 0, vget l0 1, vget l0 2, vget l0 3, vget l0 4, vget l0 5, vget l0 6, vget l0 7, vget l0 8, vget l0 9, vget l0 10] s2))) ([Value.bool false, cellOf a1 3, cellOf a0 0, cellOf a1 0, cellOf a1 1, cellOf a1 2, cellOf a1 3, Value.int IntKind.i64 0, Value.string ({ data := #[] }), Value.slice Option.none 0 0, Value.int IntKind.i64 0]) σ (fun x22 l23 s24 => match x22 with | .normal => pVal true 4 (Value.agg (⟨[vget l23 3, vget l23 4, vget l23 5, vget l23 6]⟩)) (R (Value.tuple (⟨[Value.agg (⟨[vget l23 3, vget l23 4, vget l23 5, vget l23 6]⟩), Value.bool true]⟩)) s24) | .ret => R (Value.tuple (⟨[Value.agg (⟨[vget l23 7, vget l23 8, vget l23 9, vget l23 10]⟩), vget l23 0]⟩)) s24 | .exit i25 => (match Nat.beq i25 0 with | true => pVal true 4 (Value.agg (⟨[vget l23 3, vget l23 4, vget l23 5, vget l23 6]⟩)) (R (Value.tuple (⟨[Value.agg (⟨[vget l23 3, vget l23 4, vget l23 5, vget l23 6]⟩), Value.bool true]⟩)) s24) | false => False))))
theorem vc_spec_l22Clean_eq (w0 : World) (a0 a1 : Value) (σ : Vw) (R : Value → Vw → Prop) : vc_spec_l22Clean w0 a0 a1 σ R = den Try.prog w0 kp_spec_l22Clean esc_spec_l22Clean (Try.f106.body.getD .skip) (entry Try.f106.ntmps [a0, a1]) σ (retK Try.prog Try.f106.results.toList R) := by kernel_rfl
theorem ac_spec_l22Clean {w0 : World} {a0 a1 : Value} {σ : Vw} {R : Value → Vw → Prop} (h : vc_spec_l22Clean w0 a0 a1 σ R) : AC Try.prog w0 n_spec_l22Clean [a0, a1] σ R := by
  refine ac_rule (fn := Try.f106) (c := Try.f106.body.getD .skip) kp_spec_l22Clean esc_spec_l22Clean Try.func106 (by kernel_rfl) (by kernel_rfl) ?_
  rw [← vc_spec_l22Clean_eq]
  exact h

/-- spec.StoreAppend -/
def kp_spec_StoreAppend : Nat → Keep
  | 6 => ⟨[], [], [], .step 0 (.step 1 (.step 2 (.step 3 (.step 4 (.step 5 (.done)))))), [(1, [0]), (3, [2]), (4, [0, 1, 2, 3]), (5, [0, 1, 2, 3, 4])]⟩
  | 10 => ⟨[1, 8, 9], [(2, 4), (5, 4)], [2, 5], .done, []⟩
  | 12 => ⟨[], [], [], .step 0 (.step 1 (.step 2 (.step 3 (.step 4 (.step 5 (.step 6 (.step 7 (.step 8 (.step 9 (.step 10 (.step 11 (.step 12 (.step 13 (.step 14 (.done))))))))))))))), [(2, [1]), (3, [1, 2]), (4, [1, 2, 3]), (6, [1, 2, 3, 4, 5]), (9, [7, 8]), (10, [7, 8, 9]), (11, [1, 2, 3, 4, 5, 6, 7, 8, 9, 10]), (12, [1, 2, 3, 4, 5, 6, 7, 8, 9, 10, 11]), (13, [0, 1, 2, 3, 4, 5, 6, 7, 8, 9, 10, 11, 12]), (14, [0, 1, 2, 3, 4, 5, 6, 7, 8, 9, 10, 11, 12, 13])]⟩
  | 13 => ⟨[], [], [], .step 0 (.step 1 (.step 2 (.step 3 (.step 4 (.step 5 (.step 9 (.step 10 (.step 11 (.step 15 (.step 16 (.step 6 (.step 7 (.step 8 (.step 12 (.step 13 (.step 14 (.step 17 (.step 18 (.step 19 (.step 20 (.step 21 (.step 22 (.done))))))))))))))))))))))), [(2, [1]), (3, [1, 2]), (5, [4]), (6, [4, 5]), (7, [4, 5, 6]), (8, [4, 5, 6, 7]), (10, [9]), (11, [9, 10]), (12, [4, 5, 6, 9, 10, 11]), (13, [4, 5, 6, 7, 8, 9, 10, 11, 12]), (14, [4, 5, 6, 7, 8, 9, 10, 11, 12, 13]), (16, [15]), (17, [4, 5, 6, 9, 10, 11, 12, 15, 16]), (18, [4, 5, 6, 7, 8, 9, 10, 11, 12, 13, 14, 15, 16, 17]), (19, [1, 2, 3, 4, 5, 6, 7, 8, 9, 10, 11, 12, 13, 14, 15, 16, 17, 18]), (20, [1, 2, 3, 4, 5, 6, 7, 8, 9, 10, 11, 12, 13, 14, 15, 16, 17, 18, 19]), (21, [0, 1, 2, 3, 4, 5, 6, 7, 8, 9, 10, 11, 12, 13, 14, 15, 16, 17, 18, 19, 20]), (22, [0, 1, 2, 3, 4, 5, 6, 7, 8, 9, 10, 11, 12, 13, 14, 15, 16, 17, 18, 19, 20, 21])]⟩
  | 16 => ⟨[], [], [], .step 0 (.step 1 (.step 2 (.step 3 (.step 4 (.step 5 (.step 6 (.done))))))), [(1, [0]), (3, [2]), (4, [0, 1, 2, 3]), (5, [0, 1, 2, 3, 4]), (6, [0, 1, 2, 3, 4, 5])]⟩
  | 17 => ⟨[], [], [], .step 0 (.step 1 (.step 2 (.step 3 (.step 4 (.done))))), [(2, [0]), (3, [0, 1, 2]), (4, [0, 1, 2, 3])]⟩
  | _ => ⟨[], [], [], .done, []⟩
def esc_spec_StoreAppend : Nat → Bool
  | 11 => true
  | 32 => true
  | _ => false
def vc_spec_StoreAppend (w0 : World) (a0 a1 : Value) (σ : Vw) (R : Value → Vw → Prop) : Prop :=
  pVal true 4 a0 (pNew w0 58 [] σ (fun n0 s1 => AC Try.prog w0 n_spec_l22Ok ([Value.agg (⟨[cellOf a0 0, cellOf a0 1, cellOf a0 2, cellOf a0 3]⟩)]) s1 (fun v2 s3 => pUn UnOp.not v2 (fun v4 => pIf v4 (pVal true 4 (Value.agg (⟨[Value.int IntKind.i64 0, Value.string ({ data := #[] }), Value.slice Option.none 0 0, Value.int IntKind.i64 0]⟩)) (R (Value.tuple (⟨[Value.slice (Option.some (Addr.mk n0 0 Option.none)) 0 0, Value.agg (⟨[Value.int IntKind.i64 0, Value.string ({ data := #[] }), Value.slice Option.none 0 0, Value.int IntKind.i64 0]⟩), Value.int IntKind.i64 1]⟩)) s3)) (pLenS a1 (fun v5 => pBin Try.prog 3 BinOp.gtr v5 (Value.int IntKind.i64 600) (fun v6 => pIf v6 (AC Try.prog w0 n_spec_l22Copy ([Value.agg (⟨[cellOf a0 0, cellOf a0 1, cellOf a0 2, cellOf a0 3]⟩)]) s3 (fun v7 s8 => pVal true 4 v7 (R (Value.tuple (⟨[Value.slice (Option.some (Addr.mk n0 0 Option.none)) 0 0, Value.agg (⟨[cellOf v7 0, cellOf v7 1, cellOf v7 2, cellOf v7 3]⟩), Value.int IntKind.i64 6]⟩)) s8))) (AC Try.prog w0 n_spec_l22Blocks [a1] s3 (fun v9 s10 => (Ext s3 s10) ∧ (pBin Try.prog 3 BinOp.add (cellOf a0 3) v9 (fun v11 => pBin Try.prog 3 BinOp.gtr v11 (Value.int IntKind.i64 12) (fun v12 => pIf v12 (AC Try.prog w0 n_spec_l22Copy ([Value.agg (⟨[cellOf a0 0, cellOf a0 1, cellOf a0 2, cellOf a0 3]⟩)]) s10 (fun v13 s14 => pVal true 4 v13 (R (Value.tuple (⟨[Value.slice (Option.some (Addr.mk n0 0 Option.none)) 0 0, Value.agg (⟨[cellOf v13 0, cellOf v13 1, cellOf v13 2, cellOf v13 3]⟩), Value.int IntKind.i64 4]⟩)) s14))) (pNew w0 58 [] s10 (fun n15 s16 => pLoop (fun l17 K18 s19 => AC Try.prog w0 n_spec_l22Blocks [vget l17 0] s19 (fun v20 s21 => pBin Try.prog 3 BinOp.sub v20 (Value.int IntKind.i64 1) (fun v22 => pBin Try.prog 3 BinOp.lss (vget l17 2) v22 (fun v23 => pIf v23 (pBin Try.prog 3 BinOp.add (Value.int IntKind.i64 2) (vget l17 6) (fun v24 => pBin Try.prog 3 BinOp.add v24 (Value.int IntKind.i64 1) (fun v25 => pBin Try.prog 3 BinOp.add v25 (vget l17 2) (fun v26 => AC Try.prog w0 n_spec_l22Piece [vget l17 0, vget l17 2, Value.int IntKind.i64 63] s21 (fun v27 s28 => (Ext s21 s28) ∧ (pBin Try.prog 9 BinOp.add (Value.string ({ data := #[68] })) v27 (fun v29 => pVal false 1 v26 (pVal false 1 v29 (pVal true 2 (Value.agg (⟨[v26, v29]⟩)) ((allOne [v26, v29]) ∧ (pAppend w0 58 2 24 (vget l17 1) 1 [v26, v29] s28 (fun v30 s31 => pBin Try.prog 3 BinOp.add (vget l17 2) (Value.int IntKind.i64 1) (fun v32 => K18 AX.normal [vget l17 0, v30, v32, vget l17 3, vget l17 4, vget l17 5, vget l17 6, vget l17 7, vget l17 8, vget l17 9, vget l17 10] s31))))))))))))) (K18 (AX.exit 0) [vget l17 0, vget l17 1, vget l17 2, vget l17 3, vget l17 4, vget l17 5, vget l17 6, vget l17 7, vget l17 8, vget l17 9, vget l17 10] s21))))) ([a1, Value.slice (Option.some (Addr.mk n15 0 Option.none)) 0 0, Value.int IntKind.i64 0, cellOf a0 0, cellOf a0 1, cellOf a0 2, cellOf a0 3, Value.int IntKind.i64 0, Value.string ({ data := #[] }), Value.slice Option.none 0 0, Value.int IntKind.i64 0]) s16 (fun x33 l34 s35 => match x33 with | .normal => pBin Try.prog 3 BinOp.add (Value.int IntKind.i64 2) (vget l34 6) (fun v36 => pLen (vget l34 5) (fun v37 => pLenS (vget l34 0) (fun v38 => AC Try.prog w0 n_spec_l22Dec [vget l34 3] s35 (fun v39 s40 => (Ext s35 s40) ∧ (pBin Try.prog 9 BinOp.add (Value.string ({ data := #[72, 32] })) v39 (fun v41 => pBin Try.prog 9 BinOp.add v41 (Value.string ({ data := #[32] })) (fun v42 => AC Try.prog w0 n_spec_l22Dec [v37] s40 (fun v43 s44 => (Ext s40 s44) ∧ (pBin Try.prog 9 BinOp.add v42 v43 (fun v45 => pBin Try.prog 9 BinOp.add v45 (Value.string ({ data := #[32] })) (fun v46 => AC Try.prog w0 n_spec_l22Dec [v38] s44 (fun v47 s48 => (Ext s44 s48) ∧ (pBin Try.prog 9 BinOp.add v46 v47 (fun v49 => pVal false 1 v36 (pVal false 1 v49 (pVal true 2 (Value.agg (⟨[v36, v49]⟩)) ((allOne [v36, v49]) ∧ (pAppend w0 58 2 24 (vget l34 1) 1 [v36, v49] s48 (fun v50 s51 => AC Try.prog w0 n_spec_l22Copy ([Value.agg (⟨[vget l34 3, vget l34 4, vget l34 5, vget l34 6]⟩)]) s51 (fun v52 s53 => pVal true 4 v52 (pVal false 1 (vget l34 0) ((allOne [vget l34 0]) ∧ (pAppend w0 9 1 16 (cellOf v52 2) 1 [vget l34 0] s53 (fun v54 s55 => pVal false 1 v54 (AC Try.prog w0 n_spec_l22Blocks [vget l34 0] s55 (fun v56 s57 => (Ext s55 s57) ∧ (pBin Try.prog 3 BinOp.add (vget l34 6) v56 (fun v58 => pVal false 1 v58 (pVal true 4 (Value.agg (⟨[cellOf v52 0, cellOf v52 1, v54, v58]⟩)) (R (Value.tuple (⟨[v50, Value.agg (⟨[cellOf v52 0, cellOf v52 1, v54, v58]⟩), Value.int IntKind.i64 0]⟩)) s57)))))))))))))))))))))))))))))) | .ret => False | .exit i59 => (match Nat.beq i59 0 with | true => pBin Try.prog 3 BinOp.add (Value.int IntKind.i64 2) (vget l34 6) (fun v60 => pLen (vget l34 5) (fun v61 => pLenS (vget l34 0) (fun v62 => AC Try.prog w0 n_spec_l22Dec [vget l34 3] s35 (fun v63 s64 => (Ext s35 s64) ∧ (pBin Try.prog 9 BinOp.add (Value.string ({ data := #[72, 32] })) v63 (fun v65 => pBin Try.prog 9 BinOp.add v65 (Value.string ({ data := #[32] })) (fun v66 => AC Try.prog w0 n_spec_l22Dec [v61] s64 (fun v67 s68 => (Ext s64 s68) ∧ (pBin Try.prog 9 BinOp.add v66 v67 (fun v69 => pBin Try.prog 9 BinOp.add v69 (Value.string ({ data := #[32] })) (fun v70 => AC Try.prog w0 n_spec_l22Dec [v62] s68 (fun v71 s72 => (Ext s68 s72) ∧ (pBin Try.prog 9 BinOp.add v70 v71 (fun v73 => pVal false 1 v60 (pVal false 1 v73 (pVal true 2 (Value.agg (⟨[v60, v73]⟩)) ((allOne [v60, v73]) ∧ (pAppend w0 58 2 24 (vget l34 1) 1 [v60, v73] s72 (fun v74 s75 => AC Try.prog w0 n_spec_l22Copy ([Value.agg (⟨[vget l34 3, vget l34 4, vget l34 5, vget l34 6]⟩)]) s75 (fun v76 s77 => pVal true 4 v76 (pVal false 1 (vget l34 0) ((allOne [vget l34 0]) ∧ (pAppend w0 9 1 16 (cellOf v76 2) 1 [vget l34 0] s77 (fun v78 s79 => pVal false 1 v78 (AC Try.prog w0 n_spec_l22Blocks [vget l34 0] s79 (fun v80 s81 => (Ext s79 s81) ∧ (pBin Try.prog 3 BinOp.add (vget l34 6) v80 (fun v82 => pVal false 1 v82 (pVal true 4 (Value.agg (⟨[cellOf v76 0, cellOf v76 1, v78, v82]⟩)) (R (Value.tuple (⟨[v74, Value.agg (⟨[cellOf v76 0, cellOf v76 1, v78, v82]⟩), Value.int IntKind.i64 0]⟩)) s81)))))))))))))))))))))))))))))) | false => False))))))))))))))))
theorem vc_spec_StoreAppend_eq (w0 : World) (a0 a1 : Value) (σ : Vw) (R : Value → Vw → Prop) : vc_spec_StoreAppend w0 a0 a1 σ R = den Try.prog w0 kp_spec_StoreAppend esc_spec_StoreAppend (Try.f107.body.getD .skip) (entry Try.f107.ntmps [a0, a1]) σ (retK Try.prog Try.f107.results.toList R) := by kernel_rfl
theorem ac_spec_StoreAppend {w0 : World} {a0 a1 : Value} {σ : Vw} {R : Value → Vw → Prop} (h : vc_spec_StoreAppend w0 a0 a1 σ R) : AC Try.prog w0 n_spec_StoreAppend [a0, a1] σ R := by
  refine ac_rule (fn := Try.f107) (c := Try.f107.body.getD .skip) kp_spec_StoreAppend esc_spec_StoreAppend Try.func107 (by kernel_rfl) (by kernel_rfl) ?_
  rw [← vc_spec_StoreAppend_eq]
  exact h

/-- spec.StoreSave -/
def kp_spec_StoreSave : Nat → Keep
  | 8 => ⟨[], [], [], .step 0 (.step 1 (.step 2 (.step 3 (.step 5 (.step 6 (.step 7 (.step 8 (.step 9 (.step 4 (.step 10 (.step 11 (.step 12 (.done))))))))))))), [(1, [0]), (2, [0, 1]), (4, [0, 1, 2, 3]), (6, [5]), (7, [5, 6]), (9, [5, 6, 7, 8]), (10, [0, 1, 2, 3, 4]), (11, [0, 1, 2, 3, 4, 5, 6, 7, 8, 9, 10]), (12, [0, 1, 2, 3, 4, 5, 6, 7, 8, 9, 10, 11])]⟩
  | _ => ⟨[], [], [], .done, []⟩
def esc_spec_StoreSave : Nat → Bool
  | 8 => true
  | _ => false
def vc_spec_StoreSave (w0 : World) (a0 a1 : Value) (σ : Vw) (R : Value → Vw → Prop) : Prop :=
  pVal true 4 a0 (pNew w0 58 [] σ (fun n0 s1 => AC Try.prog w0 n_spec_l22Ok ([Value.agg (⟨[cellOf a0 0, cellOf a0 1, cellOf a0 2, cellOf a0 3]⟩)]) s1 (fun v2 s3 => pUn UnOp.not v2 (fun v4 => pIf v4 (pVal true 4 (Value.agg (⟨[Value.int IntKind.i64 0, Value.string ({ data := #[] }), Value.slice Option.none 0 0, Value.int IntKind.i64 0]⟩)) (R (Value.tuple (⟨[Value.slice (Option.some (Addr.mk n0 0 Option.none)) 0 0, Value.agg (⟨[Value.int IntKind.i64 0, Value.string ({ data := #[] }), Value.slice Option.none 0 0, Value.int IntKind.i64 0]⟩), Value.int IntKind.i64 1]⟩)) s3)) (AC Try.prog w0 n_spec_l22TextOk [a1] s3 (fun v5 s6 => pUn UnOp.not v5 (fun v7 => pIf v7 (AC Try.prog w0 n_spec_l22Copy ([Value.agg (⟨[cellOf a0 0, cellOf a0 1, cellOf a0 2, cellOf a0 3]⟩)]) s6 (fun v8 s9 => pVal true 4 v8 (R (Value.tuple (⟨[Value.slice (Option.some (Addr.mk n0 0 Option.none)) 0 0, Value.agg (⟨[cellOf v8 0, cellOf v8 1, cellOf v8 2, cellOf v8 3]⟩), Value.int IntKind.i64 4]⟩)) s9))) (pBin Try.prog 3 BinOp.geq (cellOf a0 0) (Value.int IntKind.i64 99999) (fun v10 => pIf v10 (AC Try.prog w0 n_spec_l22Copy ([Value.agg (⟨[cellOf a0 0, cellOf a0 1, cellOf a0 2, cellOf a0 3]⟩)]) s6 (fun v11 s12 => pVal true 4 v11 (R (Value.tuple (⟨[Value.slice (Option.some (Addr.mk n0 0 Option.none)) 0 0, Value.agg (⟨[cellOf v11 0, cellOf v11 1, cellOf v11 2, cellOf v11 3]⟩), Value.int IntKind.i64 5]⟩)) s12))) (pBin Try.prog 3 BinOp.add (cellOf a0 0) (Value.int IntKind.i64 1) (fun v13 => pBin Try.prog 3 BinOp.add (cellOf a0 0) (Value.int IntKind.i64 1) (fun v14 => pVal false 1 v14 (pVal false 1 a1 (AC Try.prog w0 n_spec_l22Saved [v13, a1] s6 (fun v15 s16 => (Ext s6 s16) ∧ (pVal true 4 (Value.agg (⟨[v14, a1, Value.slice Option.none 0 0, Value.int IntKind.i64 0]⟩)) (R (Value.tuple (⟨[v15, Value.agg (⟨[v14, a1, Value.slice Option.none 0 0, Value.int IntKind.i64 0]⟩), Value.int IntKind.i64 0]⟩)) s16)))))))))))))))))
theorem vc_spec_StoreSave_eq (w0 : World) (a0 a1 : Value) (σ : Vw) (R : Value → Vw → Prop) : vc_spec_StoreSave w0 a0 a1 σ R = den Try.prog w0 kp_spec_StoreSave esc_spec_StoreSave (Try.f108.body.getD .skip) (entry Try.f108.ntmps [a0, a1]) σ (retK Try.prog Try.f108.results.toList R) := by kernel_rfl
theorem ac_spec_StoreSave {w0 : World} {a0 a1 : Value} {σ : Vw} {R : Value → Vw → Prop} (h : vc_spec_StoreSave w0 a0 a1 σ R) : AC Try.prog w0 n_spec_StoreSave [a0, a1] σ R := by
  refine ac_rule (fn := Try.f108) (c := Try.f108.body.getD .skip) kp_spec_StoreSave esc_spec_StoreSave Try.func108 (by kernel_rfl) (by kernel_rfl) ?_
  rw [← vc_spec_StoreSave_eq]
  exact h

/-- spec.l22TextOk -/
def kp_spec_l22TextOk : Nat → Keep
  | _ => ⟨[], [], [], .done, []⟩
def esc_spec_l22TextOk : Nat → Bool
  | _ => false
def vc_spec_l22TextOk (w0 : World) (a0 : Value) (σ : Vw) (R : Value → Vw → Prop) : Prop :=
  pLenS a0 (fun v0 => pBin Try.prog 3 BinOp.leq v0 (Value.int IntKind.i64 5760) (fun v1 => R v1 σ))
theorem vc_spec_l22TextOk_eq (w0 : World) (a0 : Value) (σ : Vw) (R : Value → Vw → Prop) : vc_spec_l22TextOk w0 a0 σ R = den Try.prog w0 kp_spec_l22TextOk esc_spec_l22TextOk (Try.f109.body.getD .skip) (entry Try.f109.ntmps [a0]) σ (retK Try.prog Try.f109.results.toList R) := by kernel_rfl
theorem ac_spec_l22TextOk {w0 : World} {a0 : Value} {σ : Vw} {R : Value → Vw → Prop} (h : vc_spec_l22TextOk w0 a0 σ R) : AC Try.prog w0 n_spec_l22TextOk [a0] σ R := by
  refine ac_rule (fn := Try.f109) (c := Try.f109.body.getD .skip) kp_spec_l22TextOk esc_spec_l22TextOk Try.func109 (by kernel_rfl) (by kernel_rfl) ?_
  rw [← vc_spec_l22TextOk_eq]
  exact h

/-- spec.l22Saved -/
def kp_spec_l22Saved : Nat → Keep
  | 3 => ⟨[0, 1, 5, 6], [], [], .done, []⟩
  | _ => ⟨[], [], [], .done, []⟩
def esc_spec_l22Saved : Nat → Bool
  | 7 => true
  | _ => false
def vc_spec_l22Saved (w0 : World) (a0 a1 : Value) (σ : Vw) (R : Value → Vw → Prop) : Prop :=
  pNew w0 58 [] σ (fun n0 s1 => pLoop (fun l2 K3 s4 => AC Try.prog w0 n_spec_l22Many [vget l2 1, Value.int IntKind.i64 64] s4 (fun v5 s6 => pBin Try.prog 3 BinOp.lss (vget l2 3) v5 (fun v7 => pIf v7 (AC Try.prog w0 n_spec_l22Area [vget l2 0] s6 (fun v8 s9 => pBin Try.prog 3 BinOp.add v8 (vget l2 3) (fun v10 => AC Try.prog w0 n_spec_l22Piece [vget l2 1, vget l2 3, Value.int IntKind.i64 64] s9 (fun v11 s12 => pVal false 1 v10 (pVal false 1 v11 (pVal true 2 (Value.agg (⟨[v10, v11]⟩)) ((allOne [v10, v11]) ∧ (pAppend w0 58 2 24 (vget l2 2) 1 [v10, v11] s12 (fun v13 s14 => pBin Try.prog 3 BinOp.add (vget l2 3) (Value.int IntKind.i64 1) (fun v15 => K3 AX.normal [vget l2 0, vget l2 1, v13, v15] s14)))))))))) (K3 (AX.exit 0) [vget l2 0, vget l2 1, vget l2 2, vget l2 3] s6)))) [a0, a1, Value.slice (Option.some (Addr.mk n0 0 Option.none)) 0 0, Value.int IntKind.i64 0] s1 (fun x16 l17 s18 => match x16 with | .normal => pBin Try.prog 3 BinOp.rem (vget l17 0) (Value.int IntKind.i64 2) (fun v19 => AC Try.prog w0 n_spec_l22Head [vget l17 0, vget l17 1] s18 (fun v20 s21 => pVal false 1 v19 (pVal false 1 v20 (pVal true 2 (Value.agg (⟨[v19, v20]⟩)) ((allOne [v19, v20]) ∧ (pAppend w0 58 2 24 (vget l17 2) 1 [v19, v20] s21 (fun v22 s23 => R v22 s23))))))) | .ret => False | .exit i24 => (match Nat.beq i24 0 with | true => pBin Try.prog 3 BinOp.rem (vget l17 0) (Value.int IntKind.i64 2) (fun v25 => AC Try.prog w0 n_spec_l22Head [vget l17 0, vget l17 1] s18 (fun v26 s27 => pVal false 1 v25 (pVal false 1 v26 (pVal true 2 (Value.agg (⟨[v25, v26]⟩)) ((allOne [v25, v26]) ∧ (pAppend w0 58 2 24 (vget l17 2) 1 [v25, v26] s27 (fun v28 s29 => R v28 s29))))))) | false => False)))
theorem vc_spec_l22Saved_eq (w0 : World) (a0 a1 : Value) (σ : Vw) (R : Value → Vw → Prop) : vc_spec_l22Saved w0 a0 a1 σ R = den Try.prog w0 kp_spec_l22Saved esc_spec_l22Saved (Try.f110.body.getD .skip) (entry Try.f110.ntmps [a0, a1]) σ (retK Try.prog Try.f110.results.toList R) := by kernel_rfl
theorem ac_spec_l22Saved {w0 : World} {a0 a1 : Value} {σ : Vw} {R : Value → Vw → Prop} (h : vc_spec_l22Saved w0 a0 a1 σ R) : AC Try.prog w0 n_spec_l22Saved [a0, a1] σ R := by
  refine ac_rule (fn := Try.f110) (c := Try.f110.body.getD .skip) kp_spec_l22Saved esc_spec_l22Saved Try.func110 (by kernel_rfl) (by kernel_rfl) ?_
  rw [← vc_spec_l22Saved_eq]
  exact h

/-- spec.l22Cut -/
def kp_spec_l22Cut : Nat → Keep
  | 4 => ⟨[0, 1, 5, 6, 7], [], [], .done, []⟩
  | _ => ⟨[], [], [], .done, []⟩
def esc_spec_l22Cut : Nat → Bool
  | 8 => true
  | _ => false
def vc_spec_l22Cut (w0 : World) (a0 a1 : Value) (σ : Vw) (R : Value → Vw → Prop) : Prop :=
  pNew w0 9 [] σ (fun n0 s1 => pLoop (fun l2 K3 s4 => pLenS (vget l2 0) (fun v5 => pBin Try.prog 3 BinOp.lss (vget l2 4) v5 (fun v6 => pIf v6 (pIndexStr (vget l2 0) (vget l2 4) (fun v7 => pBin Try.prog 5 BinOp.eql v7 (vget l2 1) (fun v8 => pIf v8 (pSliceStr (vget l2 0) (Option.some (vget l2 3)) (Option.some (vget l2 4)) (fun v9 => pVal false 1 v9 ((allOne [v9]) ∧ (pAppend w0 9 1 16 (vget l2 2) 1 [v9] s4 (fun v10 s11 => pBin Try.prog 3 BinOp.add (vget l2 4) (Value.int IntKind.i64 1) (fun v12 => pBin Try.prog 3 BinOp.add (vget l2 4) (Value.int IntKind.i64 1) (fun v13 => K3 AX.normal [vget l2 0, vget l2 1, v10, v12, v13] s11))))))) (pBin Try.prog 3 BinOp.add (vget l2 4) (Value.int IntKind.i64 1) (fun v14 => K3 AX.normal [vget l2 0, vget l2 1, vget l2 2, vget l2 3, v14] s4))))) (K3 (AX.exit 0) [vget l2 0, vget l2 1, vget l2 2, vget l2 3, vget l2 4] s4)))) [a0, a1, Value.slice (Option.some (Addr.mk n0 0 Option.none)) 0 0, Value.int IntKind.i64 0, Value.int IntKind.i64 0] s1 (fun x15 l16 s17 => match x15 with | .normal => pSliceStr (vget l16 0) (Option.some (vget l16 3)) Option.none (fun v18 => pVal false 1 v18 ((allOne [v18]) ∧ (pAppend w0 9 1 16 (vget l16 2) 1 [v18] s17 (fun v19 s20 => R v19 s20)))) | .ret => False | .exit i21 => (match Nat.beq i21 0 with | true => pSliceStr (vget l16 0) (Option.some (vget l16 3)) Option.none (fun v22 => pVal false 1 v22 ((allOne [v22]) ∧ (pAppend w0 9 1 16 (vget l16 2) 1 [v22] s17 (fun v23 s24 => R v23 s24)))) | false => False)))
theorem vc_spec_l22Cut_eq (w0 : World) (a0 a1 : Value) (σ : Vw) (R : Value → Vw → Prop) : vc_spec_l22Cut w0 a0 a1 σ R = den Try.prog w0 kp_spec_l22Cut esc_spec_l22Cut (Try.f111.body.getD .skip) (entry Try.f111.ntmps [a0, a1]) σ (retK Try.prog Try.f111.results.toList R) := by kernel_rfl
theorem ac_spec_l22Cut {w0 : World} {a0 a1 : Value} {σ : Vw} {R : Value → Vw → Prop} (h : vc_spec_l22Cut w0 a0 a1 σ R) : AC Try.prog w0 n_spec_l22Cut [a0, a1] σ R := by
  refine ac_rule (fn := Try.f111) (c := Try.f111.body.getD .skip) kp_spec_l22Cut esc_spec_l22Cut Try.func111 (by kernel_rfl) (by kernel_rfl) ?_
  rw [← vc_spec_l22Cut_eq]
  exact h

/-- spec.l22Num -/
def kp_spec_l22Num : Nat → Keep
  | 5 => ⟨[0, 2, 3, 4], [], [], .done, []⟩
  | _ => ⟨[], [], [], .done, []⟩
def esc_spec_l22Num : Nat → Bool
  | _ => false
def vc_spec_l22Num (w0 : World) (a0 : Value) (σ : Vw) (R : Value → Vw → Prop) : Prop :=
  pLenS a0 (fun v0 => AC Try.prog w0 n_spec_l21In [v0, Value.int IntKind.i64 1, Value.int IntKind.i64 5] σ (fun v1 s2 => pUn UnOp.not v1 (fun v3 => pIf v3 (R (Value.int IntKind.i64 (-1)) s2) (pLenS a0 (fun v4 => pBin Try.prog 3 BinOp.gtr v4 (Value.int IntKind.i64 1) (fun v5 => pIf v5 (pIndexStr a0 (Value.int IntKind.i64 0) (fun v6 => pBin Try.prog 5 BinOp.eql v6 (Value.int IntKind.u8 48) (fun v7 => pIf v7 (R (Value.int IntKind.i64 (-1)) s2) (pLoop (fun l8 K9 s10 => pLenS (vget l8 0) (fun v11 => pBin Try.prog 3 BinOp.lss (vget l8 3) v11 (fun v12 => pIf v12 (pIndexStr (vget l8 0) (vget l8 3) (fun v13 => pBin Try.prog 5 BinOp.lss v13 (Value.int IntKind.u8 48) (fun v14 => pIf v14 (K9 AX.ret [vget l8 0, Value.int IntKind.i64 (-1), vget l8 2, vget l8 3] s10) (pIndexStr (vget l8 0) (vget l8 3) (fun v15 => pBin Try.prog 5 BinOp.gtr v15 (Value.int IntKind.u8 57) (fun v16 => pIf v16 (K9 AX.ret [vget l8 0, Value.int IntKind.i64 (-1), vget l8 2, vget l8 3] s10) (pBin Try.prog 3 BinOp.mul (vget l8 2) (Value.int IntKind.i64 10) (fun v17 => pIndexStr (vget l8 0) (vget l8 3) (fun v18 => pBin Try.prog 5 BinOp.sub v18 (Value.int IntKind.u8 48) (fun v19 => pConvInt IntKind.i64 v19 (fun v20 => pBin Try.prog 3 BinOp.add v17 v20 (fun v21 => pBin Try.prog 3 BinOp.add (vget l8 3) (Value.int IntKind.i64 1) (fun v22 => K9 AX.normal [vget l8 0, vget l8 1, v21, v22] s10))))))))))))) (K9 (AX.exit 0) [vget l8 0, vget l8 1, vget l8 2, vget l8 3] s10)))) [a0, Value.int IntKind.i64 0, Value.int IntKind.i64 0, Value.int IntKind.i64 0] s2 (fun x23 l24 s25 => match x23 with | .normal => R (vget l24 2) s25 | .ret => R (vget l24 1) s25 | .exit i26 => (match Nat.beq i26 0 with | true => R (vget l24 2) s25 | false => False)))))) (pLoop (fun l27 K28 s29 => pLenS (vget l27 0) (fun v30 => pBin Try.prog 3 BinOp.lss (vget l27 3) v30 (fun v31 => pIf v31 (pIndexStr (vget l27 0) (vget l27 3) (fun v32 => pBin Try.prog 5 BinOp.lss v32 (Value.int IntKind.u8 48) (fun v33 => pIf v33 (K28 AX.ret [vget l27 0, Value.int IntKind.i64 (-1), vget l27 2, vget l27 3] s29) (pIndexStr (vget l27 0) (vget l27 3) (fun v34 => pBin Try.prog 5 BinOp.gtr v34 (Value.int IntKind.u8 57) (fun v35 => pIf v35 (K28 AX.ret [vget l27 0, Value.int IntKind.i64 (-1), vget l27 2, vget l27 3] s29) (pBin Try.prog 3 BinOp.mul (vget l27 2) (Value.int IntKind.i64 10) (fun v36 => pIndexStr (vget l27 0) (vget l27 3) (fun v37 => pBin Try.prog 5 BinOp.sub v37 (Value.int IntKind.u8 48) (fun v38 => pConvInt IntKind.i64 v38 (fun v39 => pBin Try.prog 3 BinOp.add v36 v39 (fun v40 => pBin Try.prog 3 BinOp.add (vget l27 3) (Value.int IntKind.i64 1) (fun v41 => K28 AX.normal [vget l27 0, vget l27 1, v40, v41] s29))))))))))))) (K28 (AX.exit 0) [vget l27 0, vget l27 1, vget l27 2, vget l27 3] s29)))) [a0, Value.int IntKind.i64 0, Value.int IntKind.i64 0, Value.int IntKind.i64 0] s2 (fun x42 l43 s44 => match x42 with | .normal => R (vget l43 2) s44 | .ret => R (vget l43 1) s44 | .exit i45 => (match Nat.beq i45 0 with | true => R (vget l43 2) s44 | false => False)))))))))
theorem vc_spec_l22Num_eq (w0 : World) (a0 : Value) (σ : Vw) (R : Value → Vw → Prop) : vc_spec_l22Num w0 a0 σ R = den Try.prog w0 kp_spec_l22Num esc_spec_l22Num (Try.f112.body.getD .skip) (entry Try.f112.ntmps [a0]) σ (retK Try.prog Try.f112.results.toList R) := by kernel_rfl
theorem ac_spec_l22Num {w0 : World} {a0 : Value} {σ : Vw} {R : Value → Vw → Prop} (h : vc_spec_l22Num w0 a0 σ R) : AC Try.prog w0 n_spec_l22Num [a0] σ R := by
  refine ac_rule (fn := Try.f112) (c := Try.f112.body.getD .skip) kp_spec_l22Num esc_spec_l22Num Try.func112 (by kernel_rfl) (by kernel_rfl) ?_
  rw [← vc_spec_l22Num_eq]
  exact h

/-- spec.l22Ok -/
def kp_spec_l22Ok : Nat → Keep
  | 3 => ⟨[2, 3, 4], [(1, 4)], [1], .done, []⟩
  | _ => ⟨[], [], [], .done, []⟩
def esc_spec_l22Ok : Nat → Bool
  | _ => false
def vc_spec_l22Ok (w0 : World) (a0 : Value) (σ : Vw) (R : Value → Vw → Prop) : Prop :=
  pVal true 4 a0 (pLoop (fun l0 K1 s2 => pLen (vget l0 5) (fun v3 => pBin Try.prog 3 BinOp.lss (vget l0 2) v3 (fun v4 => pIf v4 (pIndexAddr 1 (vget l0 5) (vget l0 2) (fun v5 => pLoad w0 1 v5 s2 (fun g6 => pLenS (g6 0) (fun v7 => pBin Try.prog 3 BinOp.gtr v7 (Value.int IntKind.i64 600) (fun v8 => pIf v8 (K1 AX.ret [Value.bool false, vget l0 1, vget l0 2, vget l0 3, vget l0 4, vget l0 5, vget l0 6] s2) (pIndexAddr 1 (vget l0 5) (vget l0 2) (fun v9 => pLoad w0 1 v9 s2 (fun g10 => AC Try.prog w0 n_spec_l22Blocks [g10 0] s2 (fun v11 s12 => pBin Try.prog 3 BinOp.add (vget l0 1) v11 (fun v13 => pBin Try.prog 3 BinOp.add (vget l0 2) (Value.int IntKind.i64 1) (fun v14 => K1 AX.normal [vget l0 0, v13, v14, vget l0 3, vget l0 4, vget l0 5, vget l0 6] s12))))))))))) (K1 (AX.exit 0) [vget l0 0, vget l0 1, vget l0 2, vget l0 3, vget l0 4, vget l0 5, vget l0 6] s2)))) [Value.bool false, Value.int IntKind.i64 0, Value.int IntKind.i64 0, cellOf a0 0, cellOf a0 1, cellOf a0 2, cellOf a0 3] σ (fun x15 l16 s17 => match x15 with | .normal => AC Try.prog w0 n_spec_l21In [vget l16 3, Value.int IntKind.i64 1, Value.int IntKind.i64 99999] s17 (fun v18 s19 => pIf v18 (AC Try.prog w0 n_spec_l22TextOk [vget l16 4] s19 (fun v20 s21 => pIf v20 (pBin Try.prog 3 BinOp.eql (vget l16 1) (vget l16 6) (fun v22 => pIf v22 (pBin Try.prog 3 BinOp.leq (vget l16 1) (Value.int IntKind.i64 12) (fun v23 => R v23 s21)) (R (Value.bool false) s21))) (R (Value.bool false) s21))) (R (Value.bool false) s19)) | .ret => R (vget l16 0) s17 | .exit i24 => (match Nat.beq i24 0 with | true => AC Try.prog w0 n_spec_l21In [vget l16 3, Value.int IntKind.i64 1, Value.int IntKind.i64 99999] s17 (fun v25 s26 => pIf v25 (AC Try.prog w0 n_spec_l22TextOk [vget l16 4] s26 (fun v27 s28 => pIf v27 (pBin Try.prog 3 BinOp.eql (vget l16 1) (vget l16 6) (fun v29 => pIf v29 (pBin Try.prog 3 BinOp.leq (vget l16 1) (Value.int IntKind.i64 12) (fun v30 => R v30 s28)) (R (Value.bool false) s28))) (R (Value.bool false) s28))) (R (Value.bool false) s26)) | false => False)))
theorem vc_spec_l22Ok_eq (w0 : World) (a0 : Value) (σ : Vw) (R : Value → Vw → Prop) : vc_spec_l22Ok w0 a0 σ R = den Try.prog w0 kp_spec_l22Ok esc_spec_l22Ok (Try.f113.body.getD .skip) (entry Try.f113.ntmps [a0]) σ (retK Try.prog Try.f113.results.toList R) := by kernel_rfl
theorem ac_spec_l22Ok {w0 : World} {a0 : Value} {σ : Vw} {R : Value → Vw → Prop} (h : vc_spec_l22Ok w0 a0 σ R) : AC Try.prog w0 n_spec_l22Ok [a0] σ R := by
  refine ac_rule (fn := Try.f113) (c := Try.f113.body.getD .skip) kp_spec_l22Ok esc_spec_l22Ok Try.func113 (by kernel_rfl) (by kernel_rfl) ?_
  rw [← vc_spec_l22Ok_eq]
  exact h

/-- spec.l22Blocks -/
def kp_spec_l22Blocks : Nat → Keep
  | _ => ⟨[], [], [], .done, []⟩
def esc_spec_l22Blocks : Nat → Bool
  | _ => false
def vc_spec_l22Blocks (w0 : World) (a0 : Value) (σ : Vw) (R : Value → Vw → Prop) : Prop :=
  AC Try.prog w0 n_spec_l22Many [a0, Value.int IntKind.i64 63] σ (fun v0 s1 => pBin Try.prog 3 BinOp.add (Value.int IntKind.i64 1) v0 (fun v2 => R v2 s1))
theorem vc_spec_l22Blocks_eq (w0 : World) (a0 : Value) (σ : Vw) (R : Value → Vw → Prop) : vc_spec_l22Blocks w0 a0 σ R = den Try.prog w0 kp_spec_l22Blocks esc_spec_l22Blocks (Try.f114.body.getD .skip) (entry Try.f114.ntmps [a0]) σ (retK Try.prog Try.f114.results.toList R) := by kernel_rfl
theorem ac_spec_l22Blocks {w0 : World} {a0 : Value} {σ : Vw} {R : Value → Vw → Prop} (h : vc_spec_l22Blocks w0 a0 σ R) : AC Try.prog w0 n_spec_l22Blocks [a0] σ R := by
  refine ac_rule (fn := Try.f114) (c := Try.f114.body.getD .skip) kp_spec_l22Blocks esc_spec_l22Blocks Try.func114 (by kernel_rfl) (by kernel_rfl) ?_
  rw [← vc_spec_l22Blocks_eq]
  exact h

/-- spec.l22Piece -/
def kp_spec_l22Piece : Nat → Keep
  | _ => ⟨[], [], [], .done, []⟩
def esc_spec_l22Piece : Nat → Bool
  | _ => false
def vc_spec_l22Piece (w0 : World) (a0 a1 a2 : Value) (σ : Vw) (R : Value → Vw → Prop) : Prop :=
  pBin Try.prog 3 BinOp.mul a1 a2 (fun v0 => pLenS a0 (fun v1 => pBin Try.prog 3 BinOp.geq v0 v1 (fun v2 => pIf v2 (R (Value.string ({ data := #[] })) σ) (pBin Try.prog 3 BinOp.add v0 a2 (fun v3 => pLenS a0 (fun v4 => pBin Try.prog 3 BinOp.gtr v3 v4 (fun v5 => pIf v5 (pSliceStr a0 (Option.some v0) Option.none (fun v6 => R v6 σ)) (pBin Try.prog 3 BinOp.add v0 a2 (fun v7 => pSliceStr a0 (Option.some v0) (Option.some v7) (fun v8 => R v8 σ))))))))))
theorem vc_spec_l22Piece_eq (w0 : World) (a0 a1 a2 : Value) (σ : Vw) (R : Value → Vw → Prop) : vc_spec_l22Piece w0 a0 a1 a2 σ R = den Try.prog w0 kp_spec_l22Piece esc_spec_l22Piece (Try.f115.body.getD .skip) (entry Try.f115.ntmps [a0, a1, a2]) σ (retK Try.prog Try.f115.results.toList R) := by kernel_rfl
theorem ac_spec_l22Piece {w0 : World} {a0 a1 a2 : Value} {σ : Vw} {R : Value → Vw → Prop} (h : vc_spec_l22Piece w0 a0 a1 a2 σ R) : AC Try.prog w0 n_spec_l22Piece [a0, a1, a2] σ R := by
  refine ac_rule (fn := Try.f115) (c := Try.f115.body.getD .skip) kp_spec_l22Piece esc_spec_l22Piece Try.func115 (by kernel_rfl) (by kernel_rfl) ?_
  rw [← vc_spec_l22Piece_eq]
  exact h

/-- spec.l22Dec -/
def kp_spec_l22Dec : Nat → Keep
  | 7 => ⟨[], [], [], .step 0 (.step 1 (.step 3 (.step 4 (.step 5 (.step 6 (.both (.step 2 (.step 7 (.step 8 (.step 9 (.step 10 (.done)))))) (.step 7 (.step 8 (.step 2 (.step 9 (.step 10 (.done)))))))))))), [(1, [0]), (2, [0, 1]), (4, [3]), (5, [3, 4]), (6, [3, 4, 5]), (7, [3, 4, 5, 6]), (8, [3, 4, 5, 6, 7]), (9, [0, 1, 2, 3, 4, 5, 6, 7, 8]), (10, [0, 1, 2, 3, 4, 5, 6, 7, 8, 9])]⟩
  | _ => ⟨[], [], [], .done, []⟩
def esc_spec_l22Dec : Nat → Bool
  | 16 => true
  | 25 => true
  | _ => false
def vc_spec_l22Dec (w0 : World) (a0 : Value) (σ : Vw) (R : Value → Vw → Prop) : Prop :=
  pBin Try.prog 3 BinOp.lss a0 (Value.int IntKind.i64 (-9223372036854775807)) (fun v0 => pIf v0 (R (Value.string ({ data := #[45, 57, 50, 50, 51, 51, 55, 50, 48, 51, 54, 56, 53, 52, 55, 55, 53, 56, 48, 56] })) σ) (pBin Try.prog 3 BinOp.lss a0 (Value.int IntKind.i64 0) (fun v1 => pIf v1 (pUn UnOp.neg a0 (fun v2 => AC Try.prog w0 n_spec_l22Dec [v2] σ (fun v3 s4 => pBin Try.prog 9 BinOp.add (Value.string ({ data := #[45] })) v3 (fun v5 => R v5 s4)))) (pBin Try.prog 3 BinOp.lss a0 (Value.int IntKind.i64 10) (fun v6 => pIf v6 (pBin Try.prog 3 BinOp.add (Value.int IntKind.i64 48) a0 (fun v7 => pConvInt IntKind.u8 v7 (fun v8 => pVal false 1 v8 (pNew w0 5 [v8] σ (fun n9 s10 => pStr w0 (Value.slice (Option.some (Addr.mk n9 0 Option.none)) 1 1) s10 (fun v11 => R v11 s10)))))) (pBin Try.prog 3 BinOp.quo a0 (Value.int IntKind.i64 10) (fun v12 => pBin Try.prog 3 BinOp.rem a0 (Value.int IntKind.i64 10) (fun v13 => pBin Try.prog 3 BinOp.add (Value.int IntKind.i64 48) v13 (fun v14 => pConvInt IntKind.u8 v14 (fun v15 => (AC Try.prog w0 n_spec_l22Dec [v12] σ (fun v16 s17 => (Ext σ s17) ∧ (pVal false 1 v15 (pNew w0 5 [v15] s17 (fun n18 s19 => (Ext s17 s19) ∧ (pStr w0 (Value.slice (Option.some (Addr.mk n18 0 Option.none)) 1 1) s19 (fun v20 => pBin Try.prog 9 BinOp.add v16 v20 (fun v21 => R v21 s19)))))))) ∧ (pVal false 1 v15 (pNew w0 5 [v15] σ (fun n22 s23 => (Ext σ s23) ∧ (pStr w0 (Value.slice (Option.some (Addr.mk n22 0 Option.none)) 1 1) s23 (fun v24 => AC Try.prog w0 n_spec_l22Dec [v12] s23 (fun v25 s26 => (Ext s23 s26) ∧ (pBin Try.prog 9 BinOp.add v25 v24 (fun v27 => R v27 s26))))))))))))))))))
theorem vc_spec_l22Dec_eq (w0 : World) (a0 : Value) (σ : Vw) (R : Value → Vw → Prop) : vc_spec_l22Dec w0 a0 σ R = den Try.prog w0 kp_spec_l22Dec esc_spec_l22Dec (Try.f116.body.getD .skip) (entry Try.f116.ntmps [a0]) σ (retK Try.prog Try.f116.results.toList R) := by kernel_rfl
theorem ac_spec_l22Dec {w0 : World} {a0 : Value} {σ : Vw} {R : Value → Vw → Prop} (h : vc_spec_l22Dec w0 a0 σ R) : AC Try.prog w0 n_spec_l22Dec [a0] σ R := by
  refine ac_rule (fn := Try.f116) (c := Try.f116.body.getD .skip) kp_spec_l22Dec esc_spec_l22Dec Try.func116 (by kernel_rfl) (by kernel_rfl) ?_
  rw [← vc_spec_l22Dec_eq]
  exact h

/-- spec.l22Many -/
def kp_spec_l22Many : Nat → Keep
  | _ => ⟨[], [], [], .done, []⟩
def esc_spec_l22Many : Nat → Bool
  | _ => false
def vc_spec_l22Many (w0 : World) (a0 a1 : Value) (σ : Vw) (R : Value → Vw → Prop) : Prop :=
  pLenS a0 (fun v0 => pBin Try.prog 3 BinOp.add v0 a1 (fun v1 => pBin Try.prog 3 BinOp.sub v1 (Value.int IntKind.i64 1) (fun v2 => pBin Try.prog 3 BinOp.quo v2 a1 (fun v3 => R v3 σ))))
theorem vc_spec_l22Many_eq (w0 : World) (a0 a1 : Value) (σ : Vw) (R : Value → Vw → Prop) : vc_spec_l22Many w0 a0 a1 σ R = den Try.prog w0 kp_spec_l22Many esc_spec_l22Many (Try.f117.body.getD .skip) (entry Try.f117.ntmps [a0, a1]) σ (retK Try.prog Try.f117.results.toList R) := by kernel_rfl
theorem ac_spec_l22Many {w0 : World} {a0 a1 : Value} {σ : Vw} {R : Value → Vw → Prop} (h : vc_spec_l22Many w0 a0 a1 σ R) : AC Try.prog w0 n_spec_l22Many [a0, a1] σ R := by
  refine ac_rule (fn := Try.f117) (c := Try.f117.body.getD .skip) kp_spec_l22Many esc_spec_l22Many Try.func117 (by kernel_rfl) (by kernel_rfl) ?_
  rw [← vc_spec_l22Many_eq]
  exact h

/-- spec.l22Head -/
def kp_spec_l22Head : Nat → Keep
  | _ => ⟨[], [], [], .done, []⟩
def esc_spec_l22Head : Nat → Bool
  | _ => false
def vc_spec_l22Head (w0 : World) (a0 a1 : Value) (σ : Vw) (R : Value → Vw → Prop) : Prop :=
  AC Try.prog w0 n_spec_l22Dec [a0] σ (fun v0 s1 => pBin Try.prog 9 BinOp.add (Value.string ({ data := #[67, 32] })) v0 (fun v2 => pBin Try.prog 9 BinOp.add v2 (Value.string ({ data := #[32] })) (fun v3 => pLenS a1 (fun v4 => AC Try.prog w0 n_spec_l22Dec [v4] s1 (fun v5 s6 => pBin Try.prog 9 BinOp.add v3 v5 (fun v7 => R v7 s6))))))
theorem vc_spec_l22Head_eq (w0 : World) (a0 a1 : Value) (σ : Vw) (R : Value → Vw → Prop) : vc_spec_l22Head w0 a0 a1 σ R = den Try.prog w0 kp_spec_l22Head esc_spec_l22Head (Try.f118.body.getD .skip) (entry Try.f118.ntmps [a0, a1]) σ (retK Try.prog Try.f118.results.toList R) := by kernel_rfl
theorem ac_spec_l22Head {w0 : World} {a0 a1 : Value} {σ : Vw} {R : Value → Vw → Prop} (h : vc_spec_l22Head w0 a0 a1 σ R) : AC Try.prog w0 n_spec_l22Head [a0, a1] σ R := by
  refine ac_rule (fn := Try.f118) (c := Try.f118.body.getD .skip) kp_spec_l22Head esc_spec_l22Head Try.func118 (by kernel_rfl) (by kernel_rfl) ?_
  rw [← vc_spec_l22Head_eq]
  exact h

end Go.Proofs.Ytkndffhcncmbjaa
