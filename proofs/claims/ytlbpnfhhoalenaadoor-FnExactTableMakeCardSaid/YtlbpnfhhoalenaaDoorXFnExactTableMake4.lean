/- The law FnExactTableMake holds: it returns true, and the input reads as it did. No condition. This is part 4 of 6 of its proof. -/
import Derived.Test.YtlbpnfhhoalenaaDoorXFnExactTableMake3
import Derived.WideShapes
import Derived.ProofKit
import Derived.Below

/- What each function owes, reckoned out, part 3. MADE BY PROGRAM (emit.py). -/
set_option linter.unusedVariables false
namespace Go.Proofs.YtlbpnfhhoalenaaDoor
open Go Go.Av

/-- unicode/utf8.RuneCountInString -/
def kp_unicode_utf8_RuneCountInString : Nat → Keep
  | 2 => ⟨[2, 4], [], [], .done, []⟩
  | _ => ⟨[], [], [], .done, []⟩
def esc_unicode_utf8_RuneCountInString : Nat → Bool
  | _ => false
def vc_unicode_utf8_RuneCountInString (w0 : World) (a0 : Value) (σ : Vw) (R : Value → Vw → Prop) : Prop :=
  False
theorem vc_unicode_utf8_RuneCountInString_eq (w0 : World) (a0 : Value) (σ : Vw) (R : Value → Vw → Prop) : vc_unicode_utf8_RuneCountInString w0 a0 σ R = den Tryd.prog w0 kp_unicode_utf8_RuneCountInString esc_unicode_utf8_RuneCountInString (Tryd.f143.body.getD .skip) (entry Tryd.f143.ntmps [a0]) σ (retK Tryd.prog Tryd.f143.results.toList R) := by kernel_rfl
theorem ac_unicode_utf8_RuneCountInString {w0 : World} {a0 : Value} {σ : Vw} {R : Value → Vw → Prop} (h : vc_unicode_utf8_RuneCountInString w0 a0 σ R) : AC Tryd.prog w0 n_unicode_utf8_RuneCountInString [a0] σ R := by
  refine ac_rule (fn := Tryd.f143) (c := Tryd.f143.body.getD .skip) kp_unicode_utf8_RuneCountInString esc_unicode_utf8_RuneCountInString Tryd.func143 (by kernel_rfl) (by kernel_rfl) ?_
  rw [← vc_unicode_utf8_RuneCountInString_eq]
  exact h

/-- unicode/utf8.DecodeRuneInString -/
def kp_unicode_utf8_DecodeRuneInString : Nat → Keep
  | _ => ⟨[], [], [], .done, []⟩
def esc_unicode_utf8_DecodeRuneInString : Nat → Bool
  | _ => false
def vc_unicode_utf8_DecodeRuneInString (w0 : World) (a0 : Value) (σ : Vw) (R : Value → Vw → Prop) : Prop :=
  pBin Tryd.prog 9 BinOp.neq a0 (Value.string ({ data := #[] })) (fun v0 => pIf v0 (pIndexStr a0 (Value.int IntKind.i64 0) (fun v1 => pBin Tryd.prog 5 BinOp.lss v1 (Value.int IntKind.u8 128) (fun v2 => pIf v2 (pIndexStr a0 (Value.int IntKind.i64 0) (fun v3 => pConvInt IntKind.i32 v3 (fun v4 => R (Value.tuple (⟨[v4, Value.int IntKind.i64 1]⟩)) σ))) (AC Tryd.prog w0 n_unicode_utf8_decodeRuneInStringSlow [a0] σ (fun v5 s6 => pExtract v5 0 (fun v7 => pExtract v5 1 (fun v8 => R (Value.tuple (⟨[v7, v8]⟩)) s6))))))) (AC Tryd.prog w0 n_unicode_utf8_decodeRuneInStringSlow [a0] σ (fun v9 s10 => pExtract v9 0 (fun v11 => pExtract v9 1 (fun v12 => R (Value.tuple (⟨[v11, v12]⟩)) s10)))))
theorem vc_unicode_utf8_DecodeRuneInString_eq (w0 : World) (a0 : Value) (σ : Vw) (R : Value → Vw → Prop) : vc_unicode_utf8_DecodeRuneInString w0 a0 σ R = den Tryd.prog w0 kp_unicode_utf8_DecodeRuneInString esc_unicode_utf8_DecodeRuneInString (Tryd.f144.body.getD .skip) (entry Tryd.f144.ntmps [a0]) σ (retK Tryd.prog Tryd.f144.results.toList R) := by kernel_rfl
theorem ac_unicode_utf8_DecodeRuneInString {w0 : World} {a0 : Value} {σ : Vw} {R : Value → Vw → Prop} (h : vc_unicode_utf8_DecodeRuneInString w0 a0 σ R) : AC Tryd.prog w0 n_unicode_utf8_DecodeRuneInString [a0] σ R := by
  refine ac_rule (fn := Tryd.f144) (c := Tryd.f144.body.getD .skip) kp_unicode_utf8_DecodeRuneInString esc_unicode_utf8_DecodeRuneInString Tryd.func144 (by kernel_rfl) (by kernel_rfl) ?_
  rw [← vc_unicode_utf8_DecodeRuneInString_eq]
  exact h

/-- internal/strconv.ParseInt -/
def kp_internal_strconv_ParseInt : Nat → Keep
  | _ => ⟨[], [], [], .done, []⟩
def esc_internal_strconv_ParseInt : Nat → Bool
  | _ => false
def vc_internal_strconv_ParseInt (w0 : World) (a0 a1 a2 : Value) (σ : Vw) (R : Value → Vw → Prop) : Prop :=
  pBin Tryd.prog 9 BinOp.eql a0 (Value.string ({ data := #[] })) (fun v0 => pIf v0 False (pIndexStr a0 (Value.int IntKind.i64 0) (fun v1 => pBin Tryd.prog 5 BinOp.eql v1 (Value.int IntKind.u8 43) (fun v2 => pIf v2 (pSliceStr a0 (Option.some (Value.int IntKind.i64 1)) Option.none (fun v3 => AC Tryd.prog w0 n_internal_strconv_ParseUint [v3, a1, a2] σ (fun v4 s5 => pExtract v4 0 (fun v6 => pExtract v4 1 (fun v7 => pBin Tryd.prog 77 BinOp.neq v7 Value.nilIface (fun v8 => pIf v8 False (pBin Tryd.prog 3 BinOp.eql a2 (Value.int IntKind.i64 0) (fun v9 => pIf v9 (pBin Tryd.prog 3 BinOp.sub (Value.int IntKind.i64 64) (Value.int IntKind.i64 1) (fun v10 => pConvInt IntKind.u64 v10 (fun v11 => pBin Tryd.prog 144 BinOp.shl (Value.int IntKind.u64 1) v11 (fun v12 => pUn UnOp.not (Value.bool false) (fun v13 => pIf v13 (pBin Tryd.prog 144 BinOp.geq v6 v12 (fun v14 => pIf v14 (pBin Tryd.prog 144 BinOp.sub v12 (Value.int IntKind.u64 1) (fun v15 => pConvInt IntKind.i64 v15 (fun v16 => False))) (pConvInt IntKind.i64 v6 (fun v17 => R (Value.tuple (⟨[v17, Value.nilIface]⟩)) s5)))) (pConvInt IntKind.i64 v6 (fun v18 => R (Value.tuple (⟨[v18, Value.nilIface]⟩)) s5))))))) (pBin Tryd.prog 3 BinOp.sub a2 (Value.int IntKind.i64 1) (fun v19 => pConvInt IntKind.u64 v19 (fun v20 => pBin Tryd.prog 144 BinOp.shl (Value.int IntKind.u64 1) v20 (fun v21 => pUn UnOp.not (Value.bool false) (fun v22 => pIf v22 (pBin Tryd.prog 144 BinOp.geq v6 v21 (fun v23 => pIf v23 (pBin Tryd.prog 144 BinOp.sub v21 (Value.int IntKind.u64 1) (fun v24 => pConvInt IntKind.i64 v24 (fun v25 => False))) (pConvInt IntKind.i64 v6 (fun v26 => R (Value.tuple (⟨[v26, Value.nilIface]⟩)) s5)))) (pConvInt IntKind.i64 v6 (fun v27 => R (Value.tuple (⟨[v27, Value.nilIface]⟩)) s5))))))))))))))) (pBin Tryd.prog 5 BinOp.eql v1 (Value.int IntKind.u8 45) (fun v28 => pIf v28 (pSliceStr a0 (Option.some (Value.int IntKind.i64 1)) Option.none (fun v29 => AC Tryd.prog w0 n_internal_strconv_ParseUint [v29, a1, a2] σ (fun v30 s31 => pExtract v30 0 (fun v32 => pExtract v30 1 (fun v33 => pBin Tryd.prog 77 BinOp.neq v33 Value.nilIface (fun v34 => pIf v34 False (pBin Tryd.prog 3 BinOp.eql a2 (Value.int IntKind.i64 0) (fun v35 => pIf v35 (pBin Tryd.prog 3 BinOp.sub (Value.int IntKind.i64 64) (Value.int IntKind.i64 1) (fun v36 => pConvInt IntKind.u64 v36 (fun v37 => pBin Tryd.prog 144 BinOp.shl (Value.int IntKind.u64 1) v37 (fun v38 => pUn UnOp.not (Value.bool true) (fun v39 => pIf v39 (pBin Tryd.prog 144 BinOp.geq v32 v38 (fun v40 => pIf v40 (pBin Tryd.prog 144 BinOp.sub v38 (Value.int IntKind.u64 1) (fun v41 => pConvInt IntKind.i64 v41 (fun v42 => False))) (pBin Tryd.prog 144 BinOp.gtr v32 v38 (fun v43 => pIf v43 (pConvInt IntKind.i64 v38 (fun v44 => pUn UnOp.neg v44 (fun v45 => False))) (pConvInt IntKind.i64 v32 (fun v46 => pUn UnOp.neg v46 (fun v47 => R (Value.tuple (⟨[v47, Value.nilIface]⟩)) s31))))))) (pBin Tryd.prog 144 BinOp.gtr v32 v38 (fun v48 => pIf v48 (pConvInt IntKind.i64 v38 (fun v49 => pUn UnOp.neg v49 (fun v50 => False))) (pConvInt IntKind.i64 v32 (fun v51 => pUn UnOp.neg v51 (fun v52 => R (Value.tuple (⟨[v52, Value.nilIface]⟩)) s31)))))))))) (pBin Tryd.prog 3 BinOp.sub a2 (Value.int IntKind.i64 1) (fun v53 => pConvInt IntKind.u64 v53 (fun v54 => pBin Tryd.prog 144 BinOp.shl (Value.int IntKind.u64 1) v54 (fun v55 => pUn UnOp.not (Value.bool true) (fun v56 => pIf v56 (pBin Tryd.prog 144 BinOp.geq v32 v55 (fun v57 => pIf v57 (pBin Tryd.prog 144 BinOp.sub v55 (Value.int IntKind.u64 1) (fun v58 => pConvInt IntKind.i64 v58 (fun v59 => False))) (pBin Tryd.prog 144 BinOp.gtr v32 v55 (fun v60 => pIf v60 (pConvInt IntKind.i64 v55 (fun v61 => pUn UnOp.neg v61 (fun v62 => False))) (pConvInt IntKind.i64 v32 (fun v63 => pUn UnOp.neg v63 (fun v64 => R (Value.tuple (⟨[v64, Value.nilIface]⟩)) s31))))))) (pBin Tryd.prog 144 BinOp.gtr v32 v55 (fun v65 => pIf v65 (pConvInt IntKind.i64 v55 (fun v66 => pUn UnOp.neg v66 (fun v67 => False))) (pConvInt IntKind.i64 v32 (fun v68 => pUn UnOp.neg v68 (fun v69 => R (Value.tuple (⟨[v69, Value.nilIface]⟩)) s31)))))))))))))))))) (AC Tryd.prog w0 n_internal_strconv_ParseUint [a0, a1, a2] σ (fun v70 s71 => pExtract v70 0 (fun v72 => pExtract v70 1 (fun v73 => pBin Tryd.prog 77 BinOp.neq v73 Value.nilIface (fun v74 => pIf v74 False (pBin Tryd.prog 3 BinOp.eql a2 (Value.int IntKind.i64 0) (fun v75 => pIf v75 (pBin Tryd.prog 3 BinOp.sub (Value.int IntKind.i64 64) (Value.int IntKind.i64 1) (fun v76 => pConvInt IntKind.u64 v76 (fun v77 => pBin Tryd.prog 144 BinOp.shl (Value.int IntKind.u64 1) v77 (fun v78 => pUn UnOp.not (Value.bool false) (fun v79 => pIf v79 (pBin Tryd.prog 144 BinOp.geq v72 v78 (fun v80 => pIf v80 (pBin Tryd.prog 144 BinOp.sub v78 (Value.int IntKind.u64 1) (fun v81 => pConvInt IntKind.i64 v81 (fun v82 => False))) (pConvInt IntKind.i64 v72 (fun v83 => R (Value.tuple (⟨[v83, Value.nilIface]⟩)) s71)))) (pConvInt IntKind.i64 v72 (fun v84 => R (Value.tuple (⟨[v84, Value.nilIface]⟩)) s71))))))) (pBin Tryd.prog 3 BinOp.sub a2 (Value.int IntKind.i64 1) (fun v85 => pConvInt IntKind.u64 v85 (fun v86 => pBin Tryd.prog 144 BinOp.shl (Value.int IntKind.u64 1) v86 (fun v87 => pUn UnOp.not (Value.bool false) (fun v88 => pIf v88 (pBin Tryd.prog 144 BinOp.geq v72 v87 (fun v89 => pIf v89 (pBin Tryd.prog 144 BinOp.sub v87 (Value.int IntKind.u64 1) (fun v90 => pConvInt IntKind.i64 v90 (fun v91 => False))) (pConvInt IntKind.i64 v72 (fun v92 => R (Value.tuple (⟨[v92, Value.nilIface]⟩)) s71)))) (pConvInt IntKind.i64 v72 (fun v93 => R (Value.tuple (⟨[v93, Value.nilIface]⟩)) s71))))))))))))))))))))
theorem vc_internal_strconv_ParseInt_eq (w0 : World) (a0 a1 a2 : Value) (σ : Vw) (R : Value → Vw → Prop) : vc_internal_strconv_ParseInt w0 a0 a1 a2 σ R = den Tryd.prog w0 kp_internal_strconv_ParseInt esc_internal_strconv_ParseInt (Tryd.f146.body.getD .skip) (entry Tryd.f146.ntmps [a0, a1, a2]) σ (retK Tryd.prog Tryd.f146.results.toList R) := by kernel_rfl
theorem ac_internal_strconv_ParseInt {w0 : World} {a0 a1 a2 : Value} {σ : Vw} {R : Value → Vw → Prop} (h : vc_internal_strconv_ParseInt w0 a0 a1 a2 σ R) : AC Tryd.prog w0 n_internal_strconv_ParseInt [a0, a1, a2] σ R := by
  refine ac_rule (fn := Tryd.f146) (c := Tryd.f146.body.getD .skip) kp_internal_strconv_ParseInt esc_internal_strconv_ParseInt Tryd.func146 (by kernel_rfl) (by kernel_rfl) ?_
  rw [← vc_internal_strconv_ParseInt_eq]
  exact h

/-- strconv.syntaxError -/
def kp_strconv_syntaxError : Nat → Keep
  | 1 => ⟨[], [], [], .step 0 (.step 1 (.step 3 (.step 2 (.step 4 (.step 5 (.step 6 (.done))))))), [(2, [1]), (4, [0, 1, 2, 3]), (5, [0, 1, 2, 3, 4]), (6, [0, 1, 2, 3, 4, 5])]⟩
  | _ => ⟨[], [], [], .done, []⟩
def esc_strconv_syntaxError : Nat → Bool
  | 10 => true
  | _ => false
def vc_strconv_syntaxError (w0 : World) (a0 a1 : Value) (σ : Vw) (R : Value → Vw → Prop) : Prop :=
  pLoad w0 1 (Value.pointer (Option.some (Addr.mk 1 0 Option.none))) σ (fun g0 => AC Tryd.prog w0 n_internal_stringslite_Clone [a1] σ (fun v1 s2 => (Stay w0 σ s2 (Value.pointer (Option.some (Addr.mk 1 0 Option.none))) 1) ∧ (pVal false 1 a0 (pVal false 1 v1 (pVal false 1 (g0 0) (pVal true 3 (Value.agg (⟨[a0, v1, g0 0]⟩)) (pNew w0 155 [a0, v1, g0 0] s2 (fun n3 s4 => R (Value.pointer (Option.some (Addr.mk n3 0 Option.none))) s4))))))))
theorem vc_strconv_syntaxError_eq (w0 : World) (a0 a1 : Value) (σ : Vw) (R : Value → Vw → Prop) : vc_strconv_syntaxError w0 a0 a1 σ R = den Tryd.prog w0 kp_strconv_syntaxError esc_strconv_syntaxError (Tryd.f147.body.getD .skip) (entry Tryd.f147.ntmps [a0, a1]) σ (retK Tryd.prog Tryd.f147.results.toList R) := by kernel_rfl
theorem ac_strconv_syntaxError {w0 : World} {a0 a1 : Value} {σ : Vw} {R : Value → Vw → Prop} (h : vc_strconv_syntaxError w0 a0 a1 σ R) : AC Tryd.prog w0 n_strconv_syntaxError [a0, a1] σ R := by
  refine ac_rule (fn := Tryd.f147) (c := Tryd.f147.body.getD .skip) kp_strconv_syntaxError esc_strconv_syntaxError Tryd.func147 (by kernel_rfl) (by kernel_rfl) ?_
  rw [← vc_strconv_syntaxError_eq]
  exact h

/-- strconv.rangeError -/
def kp_strconv_rangeError : Nat → Keep
  | 1 => ⟨[], [], [], .step 0 (.step 1 (.step 3 (.step 2 (.step 4 (.step 5 (.step 6 (.done))))))), [(2, [1]), (4, [0, 1, 2, 3]), (5, [0, 1, 2, 3, 4]), (6, [0, 1, 2, 3, 4, 5])]⟩
  | _ => ⟨[], [], [], .done, []⟩
def esc_strconv_rangeError : Nat → Bool
  | 10 => true
  | _ => false
def vc_strconv_rangeError (w0 : World) (a0 a1 : Value) (σ : Vw) (R : Value → Vw → Prop) : Prop :=
  pLoad w0 1 (Value.pointer (Option.some (Addr.mk 2 0 Option.none))) σ (fun g0 => AC Tryd.prog w0 n_internal_stringslite_Clone [a1] σ (fun v1 s2 => (Stay w0 σ s2 (Value.pointer (Option.some (Addr.mk 2 0 Option.none))) 1) ∧ (pVal false 1 a0 (pVal false 1 v1 (pVal false 1 (g0 0) (pVal true 3 (Value.agg (⟨[a0, v1, g0 0]⟩)) (pNew w0 155 [a0, v1, g0 0] s2 (fun n3 s4 => R (Value.pointer (Option.some (Addr.mk n3 0 Option.none))) s4))))))))
theorem vc_strconv_rangeError_eq (w0 : World) (a0 a1 : Value) (σ : Vw) (R : Value → Vw → Prop) : vc_strconv_rangeError w0 a0 a1 σ R = den Tryd.prog w0 kp_strconv_rangeError esc_strconv_rangeError (Tryd.f148.body.getD .skip) (entry Tryd.f148.ntmps [a0, a1]) σ (retK Tryd.prog Tryd.f148.results.toList R) := by kernel_rfl
theorem ac_strconv_rangeError {w0 : World} {a0 a1 : Value} {σ : Vw} {R : Value → Vw → Prop} (h : vc_strconv_rangeError w0 a0 a1 σ R) : AC Tryd.prog w0 n_strconv_rangeError [a0, a1] σ R := by
  refine ac_rule (fn := Tryd.f148) (c := Tryd.f148.body.getD .skip) kp_strconv_rangeError esc_strconv_rangeError Tryd.func148 (by kernel_rfl) (by kernel_rfl) ?_
  rw [← vc_strconv_rangeError_eq]
  exact h

/-- strconv.baseError -/
def kp_strconv_baseError : Nat → Keep
  | _ => ⟨[], [], [], .done, []⟩
def esc_strconv_baseError : Nat → Bool
  | 15 => true
  | _ => false
def vc_strconv_baseError (w0 : World) (a0 a1 a2 : Value) (σ : Vw) (R : Value → Vw → Prop) : Prop :=
  AC Tryd.prog w0 n_internal_stringslite_Clone [a1] σ (fun v0 s1 => AC Tryd.prog w0 n_strconv_Itoa [a2] s1 (fun v2 s3 => pBin Tryd.prog 9 BinOp.add (Value.string ({ data := #[105, 110, 118, 97, 108, 105, 100, 32, 98, 97, 115, 101, 32] })) v2 (fun v4 => AC Tryd.prog w0 n_errors_New [v4] s3 (fun v5 s6 => pVal false 1 a0 (pVal false 1 v0 (pVal false 1 v5 (pVal true 3 (Value.agg (⟨[a0, v0, v5]⟩)) (pNew w0 155 [a0, v0, v5] s6 (fun n7 s8 => R (Value.pointer (Option.some (Addr.mk n7 0 Option.none))) s8)))))))))
theorem vc_strconv_baseError_eq (w0 : World) (a0 a1 a2 : Value) (σ : Vw) (R : Value → Vw → Prop) : vc_strconv_baseError w0 a0 a1 a2 σ R = den Tryd.prog w0 kp_strconv_baseError esc_strconv_baseError (Tryd.f149.body.getD .skip) (entry Tryd.f149.ntmps [a0, a1, a2]) σ (retK Tryd.prog Tryd.f149.results.toList R) := by kernel_rfl
theorem ac_strconv_baseError {w0 : World} {a0 a1 a2 : Value} {σ : Vw} {R : Value → Vw → Prop} (h : vc_strconv_baseError w0 a0 a1 a2 σ R) : AC Tryd.prog w0 n_strconv_baseError [a0, a1, a2] σ R := by
  refine ac_rule (fn := Tryd.f149) (c := Tryd.f149.body.getD .skip) kp_strconv_baseError esc_strconv_baseError Tryd.func149 (by kernel_rfl) (by kernel_rfl) ?_
  rw [← vc_strconv_baseError_eq]
  exact h

/-- strconv.bitSizeError -/
def kp_strconv_bitSizeError : Nat → Keep
  | _ => ⟨[], [], [], .done, []⟩
def esc_strconv_bitSizeError : Nat → Bool
  | 15 => true
  | _ => false
def vc_strconv_bitSizeError (w0 : World) (a0 a1 a2 : Value) (σ : Vw) (R : Value → Vw → Prop) : Prop :=
  AC Tryd.prog w0 n_internal_stringslite_Clone [a1] σ (fun v0 s1 => AC Tryd.prog w0 n_strconv_Itoa [a2] s1 (fun v2 s3 => pBin Tryd.prog 9 BinOp.add (Value.string ({ data := #[105, 110, 118, 97, 108, 105, 100, 32, 98, 105, 116, 32, 115, 105, 122, 101, 32] })) v2 (fun v4 => AC Tryd.prog w0 n_errors_New [v4] s3 (fun v5 s6 => pVal false 1 a0 (pVal false 1 v0 (pVal false 1 v5 (pVal true 3 (Value.agg (⟨[a0, v0, v5]⟩)) (pNew w0 155 [a0, v0, v5] s6 (fun n7 s8 => R (Value.pointer (Option.some (Addr.mk n7 0 Option.none))) s8)))))))))
theorem vc_strconv_bitSizeError_eq (w0 : World) (a0 a1 a2 : Value) (σ : Vw) (R : Value → Vw → Prop) : vc_strconv_bitSizeError w0 a0 a1 a2 σ R = den Tryd.prog w0 kp_strconv_bitSizeError esc_strconv_bitSizeError (Tryd.f150.body.getD .skip) (entry Tryd.f150.ntmps [a0, a1, a2]) σ (retK Tryd.prog Tryd.f150.results.toList R) := by kernel_rfl
theorem ac_strconv_bitSizeError {w0 : World} {a0 a1 a2 : Value} {σ : Vw} {R : Value → Vw → Prop} (h : vc_strconv_bitSizeError w0 a0 a1 a2 σ R) : AC Tryd.prog w0 n_strconv_bitSizeError [a0, a1, a2] σ R := by
  refine ac_rule (fn := Tryd.f150) (c := Tryd.f150.body.getD .skip) kp_strconv_bitSizeError esc_strconv_bitSizeError Tryd.func150 (by kernel_rfl) (by kernel_rfl) ?_
  rw [← vc_strconv_bitSizeError_eq]
  exact h

/-- (*strings.Builder).grow -/
def kp_p_strings_Builder_grow : Nat → Keep
  | 0 => ⟨[], [], [], .step 0 (.step 1 (.step 2 (.step 3 (.step 6 (.step 9 (.step 10 (.step 11 (.step 12 (.step 13 (.step 4 (.step 5 (.step 7 (.step 8 (.step 14 (.step 15 (.done)))))))))))))))), [(1, [0]), (2, [0, 1]), (3, [0, 1, 2]), (4, [0, 1, 2, 3]), (5, [0, 1, 2, 3, 4]), (7, [0, 1, 2, 3, 4, 5, 6]), (8, [0, 1, 2, 3, 4, 5, 6, 7]), (10, [9]), (11, [9, 10]), (12, [9, 10, 11]), (13, [9, 10, 11, 12]), (14, [0, 1, 2, 3, 4, 5, 6, 7, 8, 9, 10, 11, 12, 13]), (15, [0, 1, 2, 3, 4, 5, 6, 7, 8, 9, 10, 11, 12, 13, 14])]⟩
  | _ => ⟨[], [], [], .done, []⟩
def esc_p_strings_Builder_grow : Nat → Bool
  | _ => false
def vc_p_strings_Builder_grow (w0 : World) (a0 a1 : Value) (σ : Vw) (R : Value → Vw → Prop) : Prop :=
  pNil a0 (pField 1 a0 (fun v0 => pLoad w0 1 v0 σ (fun g1 => pNil a0 (pField 1 a0 (fun v2 => pLoad w0 1 v2 σ (fun g3 => pLen (g3 0) (fun v4 => False)))))))
theorem vc_p_strings_Builder_grow_eq (w0 : World) (a0 a1 : Value) (σ : Vw) (R : Value → Vw → Prop) : vc_p_strings_Builder_grow w0 a0 a1 σ R = den Tryd.prog w0 kp_p_strings_Builder_grow esc_p_strings_Builder_grow (Tryd.f151.body.getD .skip) (entry Tryd.f151.ntmps [a0, a1]) σ (retK Tryd.prog Tryd.f151.results.toList R) := by kernel_rfl
theorem ac_p_strings_Builder_grow {w0 : World} {a0 a1 : Value} {σ : Vw} {R : Value → Vw → Prop} (h : vc_p_strings_Builder_grow w0 a0 a1 σ R) : AC Tryd.prog w0 n_p_strings_Builder_grow [a0, a1] σ R := by
  refine ac_rule (fn := Tryd.f151) (c := Tryd.f151.body.getD .skip) kp_p_strings_Builder_grow esc_p_strings_Builder_grow Tryd.func151 (by kernel_rfl) (by kernel_rfl) ?_
  rw [← vc_p_strings_Builder_grow_eq]
  exact h

/-- internal/strconv.small -/
def kp_internal_strconv_small : Nat → Keep
  | _ => ⟨[], [], [], .done, []⟩
def esc_internal_strconv_small : Nat → Bool
  | _ => false
def vc_internal_strconv_small (w0 : World) (a0 : Value) (σ : Vw) (R : Value → Vw → Prop) : Prop :=
  pBin Tryd.prog 3 BinOp.lss a0 (Value.int IntKind.i64 10) (fun v0 => pIf v0 (pBin Tryd.prog 3 BinOp.add a0 (Value.int IntKind.i64 1) (fun v1 => pSliceStr (Value.string ({ data := #[48, 49, 50, 51, 52, 53, 54, 55, 56, 57, 97, 98, 99, 100, 101, 102, 103, 104, 105, 106, 107, 108, 109, 110, 111, 112, 113, 114, 115, 116, 117, 118, 119, 120, 121, 122] })) (Option.some a0) (Option.some v1) (fun v2 => R v2 σ))) (pBin Tryd.prog 3 BinOp.mul a0 (Value.int IntKind.i64 2) (fun v3 => pBin Tryd.prog 3 BinOp.mul a0 (Value.int IntKind.i64 2) (fun v4 => pBin Tryd.prog 3 BinOp.add v4 (Value.int IntKind.i64 2) (fun v5 => pSliceStr (Value.string ({ data := (([48, 48, 48, 49, 48, 50, 48, 51, 48, 52, 48, 53, 48, 54, 48, 55, 48, 56, 48, 57, 49, 48, 49, 49, 49, 50, 49, 51, 49, 52, 49, 53, 49, 54, 49, 55, 49, 56, 49, 57, 50, 48, 50, 49, 50, 50, 50, 51, 50, 52].append [50, 53, 50, 54, 50, 55, 50, 56, 50, 57, 51, 48, 51, 49, 51, 50, 51, 51, 51, 52, 51, 53, 51, 54, 51, 55, 51, 56, 51, 57, 52, 48, 52, 49, 52, 50, 52, 51, 52, 52, 52, 53, 52, 54, 52, 55, 52, 56, 52, 57]).append ([53, 48, 53, 49, 53, 50, 53, 51, 53, 52, 53, 53, 53, 54, 53, 55, 53, 56, 53, 57, 54, 48, 54, 49, 54, 50, 54, 51, 54, 52, 54, 53, 54, 54, 54, 55, 54, 56, 54, 57, 55, 48, 55, 49, 55, 50, 55, 51, 55, 52].append [55, 53, 55, 54, 55, 55, 55, 56, 55, 57, 56, 48, 56, 49, 56, 50, 56, 51, 56, 52, 56, 53, 56, 54, 56, 55, 56, 56, 56, 57, 57, 48, 57, 49, 57, 50, 57, 51, 57, 52, 57, 53, 57, 54, 57, 55, 57, 56, 57, 57])).toArray })) (Option.some v3) (Option.some v5) (fun v6 => R v6 σ))))))
theorem vc_internal_strconv_small_eq (w0 : World) (a0 : Value) (σ : Vw) (R : Value → Vw → Prop) : vc_internal_strconv_small w0 a0 σ R = den Tryd.prog w0 kp_internal_strconv_small esc_internal_strconv_small (Tryd.f152.body.getD .skip) (entry Tryd.f152.ntmps [a0]) σ (retK Tryd.prog Tryd.f152.results.toList R) := by kernel_rfl
theorem ac_internal_strconv_small {w0 : World} {a0 : Value} {σ : Vw} {R : Value → Vw → Prop} (h : vc_internal_strconv_small w0 a0 σ R) : AC Tryd.prog w0 n_internal_strconv_small [a0] σ R := by
  refine ac_rule (fn := Tryd.f152) (c := Tryd.f152.body.getD .skip) kp_internal_strconv_small esc_internal_strconv_small Tryd.func152 (by kernel_rfl) (by kernel_rfl) ?_
  rw [← vc_internal_strconv_small_eq]
  exact h

/-- internal/strconv.numDigits -/
def kp_internal_strconv_numDigits : Nat → Keep
  | _ => ⟨[], [], [], .done, []⟩
def esc_internal_strconv_numDigits : Nat → Bool
  | _ => false
def vc_internal_strconv_numDigits (w0 : World) (a0 : Value) (σ : Vw) (R : Value → Vw → Prop) : Prop :=
  AC Tryd.prog w0 n_math_bits_Len64 [a0] σ (fun v0 s1 => AC Tryd.prog w0 n_internal_strconv_log10Pow2 [v0] s1 (fun v2 s3 => pIndexArr 20 1 (Value.pointer (Option.some (Addr.mk 3 0 Option.none))) v2 (fun v4 => pLoad w0 1 v4 s3 (fun g5 => pBin Tryd.prog 144 BinOp.geq a0 (g5 0) (fun v6 => AC Tryd.prog w0 n_internal_strconv_bool2_int [v6] s3 (fun v7 s8 => pBin Tryd.prog 3 BinOp.add v2 v7 (fun v9 => R v9 s8)))))))
theorem vc_internal_strconv_numDigits_eq (w0 : World) (a0 : Value) (σ : Vw) (R : Value → Vw → Prop) : vc_internal_strconv_numDigits w0 a0 σ R = den Tryd.prog w0 kp_internal_strconv_numDigits esc_internal_strconv_numDigits (Tryd.f153.body.getD .skip) (entry Tryd.f153.ntmps [a0]) σ (retK Tryd.prog Tryd.f153.results.toList R) := by kernel_rfl
theorem ac_internal_strconv_numDigits {w0 : World} {a0 : Value} {σ : Vw} {R : Value → Vw → Prop} (h : vc_internal_strconv_numDigits w0 a0 σ R) : AC Tryd.prog w0 n_internal_strconv_numDigits [a0] σ R := by
  refine ac_rule (fn := Tryd.f153) (c := Tryd.f153.body.getD .skip) kp_internal_strconv_numDigits esc_internal_strconv_numDigits Tryd.func153 (by kernel_rfl) (by kernel_rfl) ?_
  rw [← vc_internal_strconv_numDigits_eq]
  exact h

/-- internal/strconv.formatBase10 -/
def kp_internal_strconv_formatBase10 : Nat → Keep
  | 1 => ⟨[0, 1, 4], [], [], .done, []⟩
  | 7 => ⟨[], [], [], .step 0 (.step 1 (.step 2 (.step 3 (.step 4 (.step 5 (.step 6 (.step 7 (.step 8 (.step 9 (.step 10 (.step 11 (.step 12 (.step 13 (.step 14 (.done))))))))))))))), [(2, [1]), (5, [4]), (7, [6]), (8, [6, 7]), (10, [9]), (11, [0, 1, 2, 6, 7, 8]), (12, [0, 1, 2, 6, 7, 8, 11]), (13, [0, 1, 2, 3, 4, 5, 6, 7, 8, 9, 10, 11, 12]), (14, [0, 1, 2, 3, 4, 5, 6, 7, 8, 9, 10, 11, 12, 13])]⟩
  | 8 => ⟨[], [], [], .step 0 (.step 1 (.step 2 (.step 3 (.step 4 (.step 5 (.step 6 (.step 7 (.step 8 (.step 9 (.step 10 (.step 11 (.step 12 (.step 13 (.step 14 (.done))))))))))))))), [(2, [1]), (5, [4]), (7, [6]), (8, [6, 7]), (10, [9]), (11, [0, 1, 2, 6, 7, 8]), (12, [0, 1, 2, 6, 7, 8, 11]), (13, [0, 1, 2, 3, 4, 5, 6, 7, 8, 9, 10, 11, 12]), (14, [0, 1, 2, 3, 4, 5, 6, 7, 8, 9, 10, 11, 12, 13])]⟩
  | 9 => ⟨[], [], [], .step 0 (.step 1 (.step 2 (.step 3 (.step 4 (.step 5 (.step 6 (.step 7 (.step 8 (.step 9 (.step 10 (.step 11 (.step 12 (.step 13 (.step 14 (.done))))))))))))))), [(2, [1]), (5, [4]), (7, [6]), (8, [6, 7]), (10, [9]), (11, [0, 1, 2, 6, 7, 8]), (12, [0, 1, 2, 6, 7, 8, 11]), (13, [0, 1, 2, 3, 4, 5, 6, 7, 8, 9, 10, 11, 12]), (14, [0, 1, 2, 3, 4, 5, 6, 7, 8, 9, 10, 11, 12, 13])]⟩
  | 10 => ⟨[], [], [], .step 0 (.step 1 (.step 2 (.step 3 (.step 4 (.step 5 (.step 6 (.step 7 (.step 8 (.step 9 (.step 10 (.step 11 (.step 12 (.step 13 (.step 14 (.done))))))))))))))), [(2, [1]), (5, [4]), (7, [6]), (8, [6, 7]), (10, [9]), (11, [0, 1, 2, 6, 7, 8]), (12, [0, 1, 2, 6, 7, 8, 11]), (13, [0, 1, 2, 3, 4, 5, 6, 7, 8, 9, 10, 11, 12]), (14, [0, 1, 2, 3, 4, 5, 6, 7, 8, 9, 10, 11, 12, 13])]⟩
  | 17 => ⟨[], [], [], .step 0 (.step 1 (.step 2 (.step 3 (.step 4 (.step 5 (.step 6 (.step 7 (.step 8 (.step 9 (.step 10 (.step 11 (.step 12 (.step 13 (.step 14 (.done))))))))))))))), [(2, [1]), (5, [4]), (7, [6]), (8, [6, 7]), (10, [9]), (11, [0, 1, 2, 6, 7, 8]), (12, [0, 1, 2, 6, 7, 8, 11]), (13, [0, 1, 2, 3, 4, 5, 6, 7, 8, 9, 10, 11, 12]), (14, [0, 1, 2, 3, 4, 5, 6, 7, 8, 9, 10, 11, 12, 13])]⟩
  | 18 => ⟨[], [], [], .step 0 (.step 1 (.step 2 (.step 3 (.step 4 (.step 5 (.step 6 (.step 7 (.step 8 (.step 9 (.step 10 (.step 11 (.step 12 (.step 13 (.step 14 (.done))))))))))))))), [(2, [1]), (5, [4]), (7, [6]), (8, [6, 7]), (10, [9]), (11, [0, 1, 2, 6, 7, 8]), (12, [0, 1, 2, 6, 7, 8, 11]), (13, [0, 1, 2, 3, 4, 5, 6, 7, 8, 9, 10, 11, 12]), (14, [0, 1, 2, 3, 4, 5, 6, 7, 8, 9, 10, 11, 12, 13])]⟩
  | 23 => ⟨[], [], [], .step 0 (.step 1 (.step 2 (.step 3 (.step 4 (.step 5 (.step 6 (.step 7 (.step 8 (.step 9 (.step 10 (.step 11 (.step 12 (.step 13 (.step 14 (.done))))))))))))))), [(2, [1]), (5, [4]), (7, [6]), (8, [6, 7]), (10, [9]), (11, [0, 1, 2, 6, 7, 8]), (12, [0, 1, 2, 6, 7, 8, 11]), (13, [0, 1, 2, 3, 4, 5, 6, 7, 8, 9, 10, 11, 12]), (14, [0, 1, 2, 3, 4, 5, 6, 7, 8, 9, 10, 11, 12, 13])]⟩
  | _ => ⟨[], [], [], .done, []⟩
def esc_internal_strconv_formatBase10 : Nat → Bool
  | _ => false
def vc_internal_strconv_formatBase10 (w0 : World) (a0 a1 : Value) (σ : Vw) (R : Value → Vw → Prop) : Prop :=
  pLen a0 (fun v0 => pLoop (fun l1 K2 s3 => pBin Tryd.prog 3 BinOp.geq (vget l1 2) (Value.int IntKind.i64 8) (fun v4 => pIf v4 (pBin Tryd.prog 144 BinOp.rem (vget l1 1) (Value.int IntKind.u64 100000000) (fun v5 => pConvInt IntKind.u32 v5 (fun v6 => pBin Tryd.prog 144 BinOp.quo (vget l1 1) (Value.int IntKind.u64 100000000) (fun v7 => pBin Tryd.prog 149 BinOp.quo v6 (Value.int IntKind.u32 10000) (fun v8 => pBin Tryd.prog 149 BinOp.rem v6 (Value.int IntKind.u32 10000) (fun v9 => pBin Tryd.prog 149 BinOp.quo v9 (Value.int IntKind.u32 100) (fun v10 => pBin Tryd.prog 149 BinOp.mul v10 (Value.int IntKind.u32 2) (fun v11 => pBin Tryd.prog 149 BinOp.rem v9 (Value.int IntKind.u32 100) (fun v12 => pBin Tryd.prog 149 BinOp.mul v12 (Value.int IntKind.u32 2) (fun v13 => pBin Tryd.prog 149 BinOp.quo v8 (Value.int IntKind.u32 100) (fun v14 => pBin Tryd.prog 149 BinOp.mul v14 (Value.int IntKind.u32 2) (fun v15 => pBin Tryd.prog 149 BinOp.rem v8 (Value.int IntKind.u32 100) (fun v16 => pBin Tryd.prog 149 BinOp.mul v16 (Value.int IntKind.u32 2) (fun v17 => pBin Tryd.prog 3 BinOp.sub (vget l1 2) (Value.int IntKind.i64 1) (fun v18 => pBin Tryd.prog 3 BinOp.sub (vget l1 2) (Value.int IntKind.i64 2) (fun v19 => pBin Tryd.prog 149 BinOp.add v13 (Value.int IntKind.u32 1) (fun v20 => pIndexStr (Value.string ({ data := (([48, 48, 48, 49, 48, 50, 48, 51, 48, 52, 48, 53, 48, 54, 48, 55, 48, 56, 48, 57, 49, 48, 49, 49, 49, 50, 49, 51, 49, 52, 49, 53, 49, 54, 49, 55, 49, 56, 49, 57, 50, 48, 50, 49, 50, 50, 50, 51, 50, 52].append [50, 53, 50, 54, 50, 55, 50, 56, 50, 57, 51, 48, 51, 49, 51, 50, 51, 51, 51, 52, 51, 53, 51, 54, 51, 55, 51, 56, 51, 57, 52, 48, 52, 49, 52, 50, 52, 51, 52, 52, 52, 53, 52, 54, 52, 55, 52, 56, 52, 57]).append ([53, 48, 53, 49, 53, 50, 53, 51, 53, 52, 53, 53, 53, 54, 53, 55, 53, 56, 53, 57, 54, 48, 54, 49, 54, 50, 54, 51, 54, 52, 54, 53, 54, 54, 54, 55, 54, 56, 54, 57, 55, 48, 55, 49, 55, 50, 55, 51, 55, 52].append [55, 53, 55, 54, 55, 55, 55, 56, 55, 57, 56, 48, 56, 49, 56, 50, 56, 51, 56, 52, 56, 53, 56, 54, 56, 55, 56, 56, 56, 57, 57, 48, 57, 49, 57, 50, 57, 51, 57, 52, 57, 53, 57, 54, 57, 55, 57, 56, 57, 57])).toArray })) v20 (fun v21 => pIndexStr (Value.string ({ data := (([48, 48, 48, 49, 48, 50, 48, 51, 48, 52, 48, 53, 48, 54, 48, 55, 48, 56, 48, 57, 49, 48, 49, 49, 49, 50, 49, 51, 49, 52, 49, 53, 49, 54, 49, 55, 49, 56, 49, 57, 50, 48, 50, 49, 50, 50, 50, 51, 50, 52].append [50, 53, 50, 54, 50, 55, 50, 56, 50, 57, 51, 48, 51, 49, 51, 50, 51, 51, 51, 52, 51, 53, 51, 54, 51, 55, 51, 56, 51, 57, 52, 48, 52, 49, 52, 50, 52, 51, 52, 52, 52, 53, 52, 54, 52, 55, 52, 56, 52, 57]).append ([53, 48, 53, 49, 53, 50, 53, 51, 53, 52, 53, 53, 53, 54, 53, 55, 53, 56, 53, 57, 54, 48, 54, 49, 54, 50, 54, 51, 54, 52, 54, 53, 54, 54, 54, 55, 54, 56, 54, 57, 55, 48, 55, 49, 55, 50, 55, 51, 55, 52].append [55, 53, 55, 54, 55, 55, 55, 56, 55, 57, 56, 48, 56, 49, 56, 50, 56, 51, 56, 52, 56, 53, 56, 54, 56, 55, 56, 56, 56, 57, 57, 48, 57, 49, 57, 50, 57, 51, 57, 52, 57, 53, 57, 54, 57, 55, 57, 56, 57, 57])).toArray })) v13 (fun v22 => pIndexAddr 1 (vget l1 0) v18 (fun v23 => pVal false 1 v21 (pStore v23 [v21] s3 (fun s24 => pIndexAddr 1 (vget l1 0) v19 (fun v25 => pVal false 1 v22 (pStore v25 [v22] s24 (fun s26 => pBin Tryd.prog 3 BinOp.sub (vget l1 2) (Value.int IntKind.i64 3) (fun v27 => pBin Tryd.prog 3 BinOp.sub (vget l1 2) (Value.int IntKind.i64 4) (fun v28 => pBin Tryd.prog 149 BinOp.add v11 (Value.int IntKind.u32 1) (fun v29 => pIndexStr (Value.string ({ data := (([48, 48, 48, 49, 48, 50, 48, 51, 48, 52, 48, 53, 48, 54, 48, 55, 48, 56, 48, 57, 49, 48, 49, 49, 49, 50, 49, 51, 49, 52, 49, 53, 49, 54, 49, 55, 49, 56, 49, 57, 50, 48, 50, 49, 50, 50, 50, 51, 50, 52].append [50, 53, 50, 54, 50, 55, 50, 56, 50, 57, 51, 48, 51, 49, 51, 50, 51, 51, 51, 52, 51, 53, 51, 54, 51, 55, 51, 56, 51, 57, 52, 48, 52, 49, 52, 50, 52, 51, 52, 52, 52, 53, 52, 54, 52, 55, 52, 56, 52, 57]).append ([53, 48, 53, 49, 53, 50, 53, 51, 53, 52, 53, 53, 53, 54, 53, 55, 53, 56, 53, 57, 54, 48, 54, 49, 54, 50, 54, 51, 54, 52, 54, 53, 54, 54, 54, 55, 54, 56, 54, 57, 55, 48, 55, 49, 55, 50, 55, 51, 55, 52].append [55, 53, 55, 54, 55, 55, 55, 56, 55, 57, 56, 48, 56, 49, 56, 50, 56, 51, 56, 52, 56, 53, 56, 54, 56, 55, 56, 56, 56, 57, 57, 48, 57, 49, 57, 50, 57, 51, 57, 52, 57, 53, 57, 54, 57, 55, 57, 56, 57, 57])).toArray })) v29 (fun v30 => pIndexStr (Value.string ({ data := (([48, 48, 48, 49, 48, 50, 48, 51, 48, 52, 48, 53, 48, 54, 48, 55, 48, 56, 48, 57, 49, 48, 49, 49, 49, 50, 49, 51, 49, 52, 49, 53, 49, 54, 49, 55, 49, 56, 49, 57, 50, 48, 50, 49, 50, 50, 50, 51, 50, 52].append [50, 53, 50, 54, 50, 55, 50, 56, 50, 57, 51, 48, 51, 49, 51, 50, 51, 51, 51, 52, 51, 53, 51, 54, 51, 55, 51, 56, 51, 57, 52, 48, 52, 49, 52, 50, 52, 51, 52, 52, 52, 53, 52, 54, 52, 55, 52, 56, 52, 57]).append ([53, 48, 53, 49, 53, 50, 53, 51, 53, 52, 53, 53, 53, 54, 53, 55, 53, 56, 53, 57, 54, 48, 54, 49, 54, 50, 54, 51, 54, 52, 54, 53, 54, 54, 54, 55, 54, 56, 54, 57, 55, 48, 55, 49, 55, 50, 55, 51, 55, 52].append [55, 53, 55, 54, 55, 55, 55, 56, 55, 57, 56, 48, 56, 49, 56, 50, 56, 51, 56, 52, 56, 53, 56, 54, 56, 55, 56, 56, 56, 57, 57, 48, 57, 49, 57, 50, 57, 51, 57, 52, 57, 53, 57, 54, 57, 55, 57, 56, 57, 57])).toArray })) v11 (fun v31 => pIndexAddr 1 (vget l1 0) v27 (fun v32 => pVal false 1 v30 (pStore v32 [v30] s26 (fun s33 => pIndexAddr 1 (vget l1 0) v28 (fun v34 => pVal false 1 v31 (pStore v34 [v31] s33 (fun s35 => pBin Tryd.prog 3 BinOp.sub (vget l1 2) (Value.int IntKind.i64 5) (fun v36 => pBin Tryd.prog 3 BinOp.sub (vget l1 2) (Value.int IntKind.i64 6) (fun v37 => pBin Tryd.prog 149 BinOp.add v17 (Value.int IntKind.u32 1) (fun v38 => pIndexStr (Value.string ({ data := (([48, 48, 48, 49, 48, 50, 48, 51, 48, 52, 48, 53, 48, 54, 48, 55, 48, 56, 48, 57, 49, 48, 49, 49, 49, 50, 49, 51, 49, 52, 49, 53, 49, 54, 49, 55, 49, 56, 49, 57, 50, 48, 50, 49, 50, 50, 50, 51, 50, 52].append [50, 53, 50, 54, 50, 55, 50, 56, 50, 57, 51, 48, 51, 49, 51, 50, 51, 51, 51, 52, 51, 53, 51, 54, 51, 55, 51, 56, 51, 57, 52, 48, 52, 49, 52, 50, 52, 51, 52, 52, 52, 53, 52, 54, 52, 55, 52, 56, 52, 57]).append ([53, 48, 53, 49, 53, 50, 53, 51, 53, 52, 53, 53, 53, 54, 53, 55, 53, 56, 53, 57, 54, 48, 54, 49, 54, 50, 54, 51, 54, 52, 54, 53, 54, 54, 54, 55, 54, 56, 54, 57, 55, 48, 55, 49, 55, 50, 55, 51, 55, 52].append [55, 53, 55, 54, 55, 55, 55, 56, 55, 57, 56, 48, 56, 49, 56, 50, 56, 51, 56, 52, 56, 53, 56, 54, 56, 55, 56, 56, 56, 57, 57, 48, 57, 49, 57, 50, 57, 51, 57, 52, 57, 53, 57, 54, 57, 55, 57, 56, 57, 57])).toArray })) v38 (fun v39 => pIndexStr (Value.string ({ data := (([48, 48, 48, 49, 48, 50, 48, 51, 48, 52, 48, 53, 48, 54, 48, 55, 48, 56, 48, 57, 49, 48, 49, 49, 49, 50, 49, 51, 49, 52, 49, 53, 49, 54, 49, 55, 49, 56, 49, 57, 50, 48, 50, 49, 50, 50, 50, 51, 50, 52].append [50, 53, 50, 54, 50, 55, 50, 56, 50, 57, 51, 48, 51, 49, 51, 50, 51, 51, 51, 52, 51, 53, 51, 54, 51, 55, 51, 56, 51, 57, 52, 48, 52, 49, 52, 50, 52, 51, 52, 52, 52, 53, 52, 54, 52, 55, 52, 56, 52, 57]).append ([53, 48, 53, 49, 53, 50, 53, 51, 53, 52, 53, 53, 53, 54, 53, 55, 53, 56, 53, 57, 54, 48, 54, 49, 54, 50, 54, 51, 54, 52, 54, 53, 54, 54, 54, 55, 54, 56, 54, 57, 55, 48, 55, 49, 55, 50, 55, 51, 55, 52].append [55, 53, 55, 54, 55, 55, 55, 56, 55, 57, 56, 48, 56, 49, 56, 50, 56, 51, 56, 52, 56, 53, 56, 54, 56, 55, 56, 56, 56, 57, 57, 48, 57, 49, 57, 50, 57, 51, 57, 52, 57, 53, 57, 54, 57, 55, 57, 56, 57, 57])).toArray })) v17 (fun v40 => pIndexAddr 1 (vget l1 0) v36 (fun v41 => pVal false 1 v39 (pStore v41 [v39] s35 (fun s42 => pIndexAddr 1 (vget l1 0) v37 (fun v43 => pVal false 1 v40 (pStore v43 [v40] s42 (fun s44 => pBin Tryd.prog 3 BinOp.sub (vget l1 2) (Value.int IntKind.i64 7) (fun v45 => pBin Tryd.prog 3 BinOp.sub (vget l1 2) (Value.int IntKind.i64 8) (fun v46 => pBin Tryd.prog 149 BinOp.add v15 (Value.int IntKind.u32 1) (fun v47 => pIndexStr (Value.string ({ data := (([48, 48, 48, 49, 48, 50, 48, 51, 48, 52, 48, 53, 48, 54, 48, 55, 48, 56, 48, 57, 49, 48, 49, 49, 49, 50, 49, 51, 49, 52, 49, 53, 49, 54, 49, 55, 49, 56, 49, 57, 50, 48, 50, 49, 50, 50, 50, 51, 50, 52].append [50, 53, 50, 54, 50, 55, 50, 56, 50, 57, 51, 48, 51, 49, 51, 50, 51, 51, 51, 52, 51, 53, 51, 54, 51, 55, 51, 56, 51, 57, 52, 48, 52, 49, 52, 50, 52, 51, 52, 52, 52, 53, 52, 54, 52, 55, 52, 56, 52, 57]).append ([53, 48, 53, 49, 53, 50, 53, 51, 53, 52, 53, 53, 53, 54, 53, 55, 53, 56, 53, 57, 54, 48, 54, 49, 54, 50, 54, 51, 54, 52, 54, 53, 54, 54, 54, 55, 54, 56, 54, 57, 55, 48, 55, 49, 55, 50, 55, 51, 55, 52].append [55, 53, 55, 54, 55, 55, 55, 56, 55, 57, 56, 48, 56, 49, 56, 50, 56, 51, 56, 52, 56, 53, 56, 54, 56, 55, 56, 56, 56, 57, 57, 48, 57, 49, 57, 50, 57, 51, 57, 52, 57, 53, 57, 54, 57, 55, 57, 56, 57, 57])).toArray })) v47 (fun v48 => pIndexStr (Value.string ({ data := (([48, 48, 48, 49, 48, 50, 48, 51, 48, 52, 48, 53, 48, 54, 48, 55, 48, 56, 48, 57, 49, 48, 49, 49, 49, 50, 49, 51, 49, 52, 49, 53, 49, 54, 49, 55, 49, 56, 49, 57, 50, 48, 50, 49, 50, 50, 50, 51, 50, 52].append [50, 53, 50, 54, 50, 55, 50, 56, 50, 57, 51, 48, 51, 49, 51, 50, 51, 51, 51, 52, 51, 53, 51, 54, 51, 55, 51, 56, 51, 57, 52, 48, 52, 49, 52, 50, 52, 51, 52, 52, 52, 53, 52, 54, 52, 55, 52, 56, 52, 57]).append ([53, 48, 53, 49, 53, 50, 53, 51, 53, 52, 53, 53, 53, 54, 53, 55, 53, 56, 53, 57, 54, 48, 54, 49, 54, 50, 54, 51, 54, 52, 54, 53, 54, 54, 54, 55, 54, 56, 54, 57, 55, 48, 55, 49, 55, 50, 55, 51, 55, 52].append [55, 53, 55, 54, 55, 55, 55, 56, 55, 57, 56, 48, 56, 49, 56, 50, 56, 51, 56, 52, 56, 53, 56, 54, 56, 55, 56, 56, 56, 57, 57, 48, 57, 49, 57, 50, 57, 51, 57, 52, 57, 53, 57, 54, 57, 55, 57, 56, 57, 57])).toArray })) v15 (fun v49 => pIndexAddr 1 (vget l1 0) v45 (fun v50 => pVal false 1 v48 (pStore v50 [v48] s44 (fun s51 => pIndexAddr 1 (vget l1 0) v46 (fun v52 => pVal false 1 v49 (pStore v52 [v49] s51 (fun s53 => pBin Tryd.prog 3 BinOp.sub (vget l1 2) (Value.int IntKind.i64 8) (fun v54 => K2 AX.normal [vget l1 0, v7, v54] s53))))))))))))))))))))))))))))))))))))))))))))))))))))))))))) (K2 (AX.exit 0) [vget l1 0, vget l1 1, vget l1 2] s3))) [a0, a1, v0] σ (fun x55 l56 s57 => match x55 with | .normal => pConvInt IntKind.u32 (vget l56 1) (fun v58 => pBin Tryd.prog 3 BinOp.geq (vget l56 2) (Value.int IntKind.i64 4) (fun v59 => pIf v59 (pBin Tryd.prog 149 BinOp.rem v58 (Value.int IntKind.u32 10000) (fun v60 => pBin Tryd.prog 149 BinOp.quo v58 (Value.int IntKind.u32 10000) (fun v61 => pBin Tryd.prog 149 BinOp.quo v60 (Value.int IntKind.u32 100) (fun v62 => pBin Tryd.prog 149 BinOp.mul v62 (Value.int IntKind.u32 2) (fun v63 => pBin Tryd.prog 149 BinOp.rem v60 (Value.int IntKind.u32 100) (fun v64 => pBin Tryd.prog 149 BinOp.mul v64 (Value.int IntKind.u32 2) (fun v65 => pBin Tryd.prog 3 BinOp.sub (vget l56 2) (Value.int IntKind.i64 1) (fun v66 => pBin Tryd.prog 3 BinOp.sub (vget l56 2) (Value.int IntKind.i64 2) (fun v67 => pBin Tryd.prog 149 BinOp.add v65 (Value.int IntKind.u32 1) (fun v68 => pIndexStr (Value.string ({ data := (([48, 48, 48, 49, 48, 50, 48, 51, 48, 52, 48, 53, 48, 54, 48, 55, 48, 56, 48, 57, 49, 48, 49, 49, 49, 50, 49, 51, 49, 52, 49, 53, 49, 54, 49, 55, 49, 56, 49, 57, 50, 48, 50, 49, 50, 50, 50, 51, 50, 52].append [50, 53, 50, 54, 50, 55, 50, 56, 50, 57, 51, 48, 51, 49, 51, 50, 51, 51, 51, 52, 51, 53, 51, 54, 51, 55, 51, 56, 51, 57, 52, 48, 52, 49, 52, 50, 52, 51, 52, 52, 52, 53, 52, 54, 52, 55, 52, 56, 52, 57]).append ([53, 48, 53, 49, 53, 50, 53, 51, 53, 52, 53, 53, 53, 54, 53, 55, 53, 56, 53, 57, 54, 48, 54, 49, 54, 50, 54, 51, 54, 52, 54, 53, 54, 54, 54, 55, 54, 56, 54, 57, 55, 48, 55, 49, 55, 50, 55, 51, 55, 52].append [55, 53, 55, 54, 55, 55, 55, 56, 55, 57, 56, 48, 56, 49, 56, 50, 56, 51, 56, 52, 56, 53, 56, 54, 56, 55, 56, 56, 56, 57, 57, 48, 57, 49, 57, 50, 57, 51, 57, 52, 57, 53, 57, 54, 57, 55, 57, 56, 57, 57])).toArray })) v68 (fun v69 => pIndexStr (Value.string ({ data := (([48, 48, 48, 49, 48, 50, 48, 51, 48, 52, 48, 53, 48, 54, 48, 55, 48, 56, 48, 57, 49, 48, 49, 49, 49, 50, 49, 51, 49, 52, 49, 53, 49, 54, 49, 55, 49, 56, 49, 57, 50, 48, 50, 49, 50, 50, 50, 51, 50, 52].append [50, 53, 50, 54, 50, 55, 50, 56, 50, 57, 51, 48, 51, 49, 51, 50, 51, 51, 51, 52, 51, 53, 51, 54, 51, 55, 51, 56, 51, 57, 52, 48, 52, 49, 52, 50, 52, 51, 52, 52, 52, 53, 52, 54, 52, 55, 52, 56, 52, 57]).append ([53, 48, 53, 49, 53, 50, 53, 51, 53, 52, 53, 53, 53, 54, 53, 55, 53, 56, 53, 57, 54, 48, 54, 49, 54, 50, 54, 51, 54, 52, 54, 53, 54, 54, 54, 55, 54, 56, 54, 57, 55, 48, 55, 49, 55, 50, 55, 51, 55, 52].append [55, 53, 55, 54, 55, 55, 55, 56, 55, 57, 56, 48, 56, 49, 56, 50, 56, 51, 56, 52, 56, 53, 56, 54, 56, 55, 56, 56, 56, 57, 57, 48, 57, 49, 57, 50, 57, 51, 57, 52, 57, 53, 57, 54, 57, 55, 57, 56, 57, 57])).toArray })) v65 (fun v70 => pIndexAddr 1 (vget l56 0) v66 (fun v71 => pVal false 1 v69 (pStore v71 [v69] s57 (fun s72 => pIndexAddr 1 (vget l56 0) v67 (fun v73 => pVal false 1 v70 (pStore v73 [v70] s72 (fun s74 => pBin Tryd.prog 3 BinOp.sub (vget l56 2) (Value.int IntKind.i64 3) (fun v75 => pBin Tryd.prog 3 BinOp.sub (vget l56 2) (Value.int IntKind.i64 4) (fun v76 => pBin Tryd.prog 149 BinOp.add v63 (Value.int IntKind.u32 1) (fun v77 => pIndexStr (Value.string ({ data := (([48, 48, 48, 49, 48, 50, 48, 51, 48, 52, 48, 53, 48, 54, 48, 55, 48, 56, 48, 57, 49, 48, 49, 49, 49, 50, 49, 51, 49, 52, 49, 53, 49, 54, 49, 55, 49, 56, 49, 57, 50, 48, 50, 49, 50, 50, 50, 51, 50, 52].append [50, 53, 50, 54, 50, 55, 50, 56, 50, 57, 51, 48, 51, 49, 51, 50, 51, 51, 51, 52, 51, 53, 51, 54, 51, 55, 51, 56, 51, 57, 52, 48, 52, 49, 52, 50, 52, 51, 52, 52, 52, 53, 52, 54, 52, 55, 52, 56, 52, 57]).append ([53, 48, 53, 49, 53, 50, 53, 51, 53, 52, 53, 53, 53, 54, 53, 55, 53, 56, 53, 57, 54, 48, 54, 49, 54, 50, 54, 51, 54, 52, 54, 53, 54, 54, 54, 55, 54, 56, 54, 57, 55, 48, 55, 49, 55, 50, 55, 51, 55, 52].append [55, 53, 55, 54, 55, 55, 55, 56, 55, 57, 56, 48, 56, 49, 56, 50, 56, 51, 56, 52, 56, 53, 56, 54, 56, 55, 56, 56, 56, 57, 57, 48, 57, 49, 57, 50, 57, 51, 57, 52, 57, 53, 57, 54, 57, 55, 57, 56, 57, 57])).toArray })) v77 (fun v78 => pIndexStr (Value.string ({ data := (([48, 48, 48, 49, 48, 50, 48, 51, 48, 52, 48, 53, 48, 54, 48, 55, 48, 56, 48, 57, 49, 48, 49, 49, 49, 50, 49, 51, 49, 52, 49, 53, 49, 54, 49, 55, 49, 56, 49, 57, 50, 48, 50, 49, 50, 50, 50, 51, 50, 52].append [50, 53, 50, 54, 50, 55, 50, 56, 50, 57, 51, 48, 51, 49, 51, 50, 51, 51, 51, 52, 51, 53, 51, 54, 51, 55, 51, 56, 51, 57, 52, 48, 52, 49, 52, 50, 52, 51, 52, 52, 52, 53, 52, 54, 52, 55, 52, 56, 52, 57]).append ([53, 48, 53, 49, 53, 50, 53, 51, 53, 52, 53, 53, 53, 54, 53, 55, 53, 56, 53, 57, 54, 48, 54, 49, 54, 50, 54, 51, 54, 52, 54, 53, 54, 54, 54, 55, 54, 56, 54, 57, 55, 48, 55, 49, 55, 50, 55, 51, 55, 52].append [55, 53, 55, 54, 55, 55, 55, 56, 55, 57, 56, 48, 56, 49, 56, 50, 56, 51, 56, 52, 56, 53, 56, 54, 56, 55, 56, 56, 56, 57, 57, 48, 57, 49, 57, 50, 57, 51, 57, 52, 57, 53, 57, 54, 57, 55, 57, 56, 57, 57])).toArray })) v63 (fun v79 => pIndexAddr 1 (vget l56 0) v75 (fun v80 => pVal false 1 v78 (pStore v80 [v78] s74 (fun s81 => pIndexAddr 1 (vget l56 0) v76 (fun v82 => pVal false 1 v79 (pStore v82 [v79] s81 (fun s83 => pBin Tryd.prog 3 BinOp.sub (vget l56 2) (Value.int IntKind.i64 4) (fun v84 => pBin Tryd.prog 3 BinOp.geq v84 (Value.int IntKind.i64 2) (fun v85 => pIf v85 (pBin Tryd.prog 149 BinOp.rem v61 (Value.int IntKind.u32 100) (fun v86 => pBin Tryd.prog 149 BinOp.mul v86 (Value.int IntKind.u32 2) (fun v87 => pBin Tryd.prog 149 BinOp.quo v61 (Value.int IntKind.u32 100) (fun v88 => pBin Tryd.prog 3 BinOp.sub v84 (Value.int IntKind.i64 1) (fun v89 => pBin Tryd.prog 3 BinOp.sub v84 (Value.int IntKind.i64 2) (fun v90 => pBin Tryd.prog 149 BinOp.add v87 (Value.int IntKind.u32 1) (fun v91 => pIndexStr (Value.string ({ data := (([48, 48, 48, 49, 48, 50, 48, 51, 48, 52, 48, 53, 48, 54, 48, 55, 48, 56, 48, 57, 49, 48, 49, 49, 49, 50, 49, 51, 49, 52, 49, 53, 49, 54, 49, 55, 49, 56, 49, 57, 50, 48, 50, 49, 50, 50, 50, 51, 50, 52].append [50, 53, 50, 54, 50, 55, 50, 56, 50, 57, 51, 48, 51, 49, 51, 50, 51, 51, 51, 52, 51, 53, 51, 54, 51, 55, 51, 56, 51, 57, 52, 48, 52, 49, 52, 50, 52, 51, 52, 52, 52, 53, 52, 54, 52, 55, 52, 56, 52, 57]).append ([53, 48, 53, 49, 53, 50, 53, 51, 53, 52, 53, 53, 53, 54, 53, 55, 53, 56, 53, 57, 54, 48, 54, 49, 54, 50, 54, 51, 54, 52, 54, 53, 54, 54, 54, 55, 54, 56, 54, 57, 55, 48, 55, 49, 55, 50, 55, 51, 55, 52].append [55, 53, 55, 54, 55, 55, 55, 56, 55, 57, 56, 48, 56, 49, 56, 50, 56, 51, 56, 52, 56, 53, 56, 54, 56, 55, 56, 56, 56, 57, 57, 48, 57, 49, 57, 50, 57, 51, 57, 52, 57, 53, 57, 54, 57, 55, 57, 56, 57, 57])).toArray })) v91 (fun v92 => pIndexStr (Value.string ({ data := (([48, 48, 48, 49, 48, 50, 48, 51, 48, 52, 48, 53, 48, 54, 48, 55, 48, 56, 48, 57, 49, 48, 49, 49, 49, 50, 49, 51, 49, 52, 49, 53, 49, 54, 49, 55, 49, 56, 49, 57, 50, 48, 50, 49, 50, 50, 50, 51, 50, 52].append [50, 53, 50, 54, 50, 55, 50, 56, 50, 57, 51, 48, 51, 49, 51, 50, 51, 51, 51, 52, 51, 53, 51, 54, 51, 55, 51, 56, 51, 57, 52, 48, 52, 49, 52, 50, 52, 51, 52, 52, 52, 53, 52, 54, 52, 55, 52, 56, 52, 57]).append ([53, 48, 53, 49, 53, 50, 53, 51, 53, 52, 53, 53, 53, 54, 53, 55, 53, 56, 53, 57, 54, 48, 54, 49, 54, 50, 54, 51, 54, 52, 54, 53, 54, 54, 54, 55, 54, 56, 54, 57, 55, 48, 55, 49, 55, 50, 55, 51, 55, 52].append [55, 53, 55, 54, 55, 55, 55, 56, 55, 57, 56, 48, 56, 49, 56, 50, 56, 51, 56, 52, 56, 53, 56, 54, 56, 55, 56, 56, 56, 57, 57, 48, 57, 49, 57, 50, 57, 51, 57, 52, 57, 53, 57, 54, 57, 55, 57, 56, 57, 57])).toArray })) v87 (fun v93 => pIndexAddr 1 (vget l56 0) v89 (fun v94 => pVal false 1 v92 (pStore v94 [v92] s83 (fun s95 => pIndexAddr 1 (vget l56 0) v90 (fun v96 => pVal false 1 v93 (pStore v96 [v93] s95 (fun s97 => pBin Tryd.prog 3 BinOp.sub v84 (Value.int IntKind.i64 2) (fun v98 => pBin Tryd.prog 3 BinOp.gtr v98 (Value.int IntKind.i64 0) (fun v99 => pIf v99 (pBin Tryd.prog 149 BinOp.add (Value.int IntKind.u32 48) v88 (fun v100 => pConvInt IntKind.u8 v100 (fun v101 => pIndexAddr 1 (vget l56 0) (Value.int IntKind.i64 0) (fun v102 => pVal false 1 v101 (pStore v102 [v101] s97 (fun s103 => R (Value.tuple ⟨[]⟩) s103)))))) (R (Value.tuple ⟨[]⟩) s97)))))))))))))))))) (pBin Tryd.prog 3 BinOp.gtr v84 (Value.int IntKind.i64 0) (fun v104 => pIf v104 (pBin Tryd.prog 149 BinOp.add (Value.int IntKind.u32 48) v61 (fun v105 => pConvInt IntKind.u8 v105 (fun v106 => pIndexAddr 1 (vget l56 0) (Value.int IntKind.i64 0) (fun v107 => pVal false 1 v106 (pStore v107 [v106] s83 (fun s108 => R (Value.tuple ⟨[]⟩) s108)))))) (R (Value.tuple ⟨[]⟩) s83)))))))))))))))))))))))))))))))))) (pBin Tryd.prog 3 BinOp.geq (vget l56 2) (Value.int IntKind.i64 2) (fun v109 => pIf v109 (pBin Tryd.prog 149 BinOp.rem v58 (Value.int IntKind.u32 100) (fun v110 => pBin Tryd.prog 149 BinOp.mul v110 (Value.int IntKind.u32 2) (fun v111 => pBin Tryd.prog 149 BinOp.quo v58 (Value.int IntKind.u32 100) (fun v112 => pBin Tryd.prog 3 BinOp.sub (vget l56 2) (Value.int IntKind.i64 1) (fun v113 => pBin Tryd.prog 3 BinOp.sub (vget l56 2) (Value.int IntKind.i64 2) (fun v114 => pBin Tryd.prog 149 BinOp.add v111 (Value.int IntKind.u32 1) (fun v115 => pIndexStr (Value.string ({ data := (([48, 48, 48, 49, 48, 50, 48, 51, 48, 52, 48, 53, 48, 54, 48, 55, 48, 56, 48, 57, 49, 48, 49, 49, 49, 50, 49, 51, 49, 52, 49, 53, 49, 54, 49, 55, 49, 56, 49, 57, 50, 48, 50, 49, 50, 50, 50, 51, 50, 52].append [50, 53, 50, 54, 50, 55, 50, 56, 50, 57, 51, 48, 51, 49, 51, 50, 51, 51, 51, 52, 51, 53, 51, 54, 51, 55, 51, 56, 51, 57, 52, 48, 52, 49, 52, 50, 52, 51, 52, 52, 52, 53, 52, 54, 52, 55, 52, 56, 52, 57]).append ([53, 48, 53, 49, 53, 50, 53, 51, 53, 52, 53, 53, 53, 54, 53, 55, 53, 56, 53, 57, 54, 48, 54, 49, 54, 50, 54, 51, 54, 52, 54, 53, 54, 54, 54, 55, 54, 56, 54, 57, 55, 48, 55, 49, 55, 50, 55, 51, 55, 52].append [55, 53, 55, 54, 55, 55, 55, 56, 55, 57, 56, 48, 56, 49, 56, 50, 56, 51, 56, 52, 56, 53, 56, 54, 56, 55, 56, 56, 56, 57, 57, 48, 57, 49, 57, 50, 57, 51, 57, 52, 57, 53, 57, 54, 57, 55, 57, 56, 57, 57])).toArray })) v115 (fun v116 => pIndexStr (Value.string ({ data := (([48, 48, 48, 49, 48, 50, 48, 51, 48, 52, 48, 53, 48, 54, 48, 55, 48, 56, 48, 57, 49, 48, 49, 49, 49, 50, 49, 51, 49, 52, 49, 53, 49, 54, 49, 55, 49, 56, 49, 57, 50, 48, 50, 49, 50, 50, 50, 51, 50, 52].append [50, 53, 50, 54, 50, 55, 50, 56, 50, 57, 51, 48, 51, 49, 51, 50, 51, 51, 51, 52, 51, 53, 51, 54, 51, 55, 51, 56, 51, 57, 52, 48, 52, 49, 52, 50, 52, 51, 52, 52, 52, 53, 52, 54, 52, 55, 52, 56, 52, 57]).append ([53, 48, 53, 49, 53, 50, 53, 51, 53, 52, 53, 53, 53, 54, 53, 55, 53, 56, 53, 57, 54, 48, 54, 49, 54, 50, 54, 51, 54, 52, 54, 53, 54, 54, 54, 55, 54, 56, 54, 57, 55, 48, 55, 49, 55, 50, 55, 51, 55, 52].append [55, 53, 55, 54, 55, 55, 55, 56, 55, 57, 56, 48, 56, 49, 56, 50, 56, 51, 56, 52, 56, 53, 56, 54, 56, 55, 56, 56, 56, 57, 57, 48, 57, 49, 57, 50, 57, 51, 57, 52, 57, 53, 57, 54, 57, 55, 57, 56, 57, 57])).toArray })) v111 (fun v117 => pIndexAddr 1 (vget l56 0) v113 (fun v118 => pVal false 1 v116 (pStore v118 [v116] s57 (fun s119 => pIndexAddr 1 (vget l56 0) v114 (fun v120 => pVal false 1 v117 (pStore v120 [v117] s119 (fun s121 => pBin Tryd.prog 3 BinOp.sub (vget l56 2) (Value.int IntKind.i64 2) (fun v122 => pBin Tryd.prog 3 BinOp.gtr v122 (Value.int IntKind.i64 0) (fun v123 => pIf v123 (pBin Tryd.prog 149 BinOp.add (Value.int IntKind.u32 48) v112 (fun v124 => pConvInt IntKind.u8 v124 (fun v125 => pIndexAddr 1 (vget l56 0) (Value.int IntKind.i64 0) (fun v126 => pVal false 1 v125 (pStore v126 [v125] s121 (fun s127 => R (Value.tuple ⟨[]⟩) s127)))))) (R (Value.tuple ⟨[]⟩) s121)))))))))))))))))) (pBin Tryd.prog 3 BinOp.gtr (vget l56 2) (Value.int IntKind.i64 0) (fun v128 => pIf v128 (pBin Tryd.prog 149 BinOp.add (Value.int IntKind.u32 48) v58 (fun v129 => pConvInt IntKind.u8 v129 (fun v130 => pIndexAddr 1 (vget l56 0) (Value.int IntKind.i64 0) (fun v131 => pVal false 1 v130 (pStore v131 [v130] s57 (fun s132 => R (Value.tuple ⟨[]⟩) s132)))))) (R (Value.tuple ⟨[]⟩) s57))))))) | .ret => R (Value.tuple ⟨[]⟩) s57 | .exit i133 => (match Nat.beq i133 0 with | true => pConvInt IntKind.u32 (vget l56 1) (fun v134 => pBin Tryd.prog 3 BinOp.geq (vget l56 2) (Value.int IntKind.i64 4) (fun v135 => pIf v135 (pBin Tryd.prog 149 BinOp.rem v134 (Value.int IntKind.u32 10000) (fun v136 => pBin Tryd.prog 149 BinOp.quo v134 (Value.int IntKind.u32 10000) (fun v137 => pBin Tryd.prog 149 BinOp.quo v136 (Value.int IntKind.u32 100) (fun v138 => pBin Tryd.prog 149 BinOp.mul v138 (Value.int IntKind.u32 2) (fun v139 => pBin Tryd.prog 149 BinOp.rem v136 (Value.int IntKind.u32 100) (fun v140 => pBin Tryd.prog 149 BinOp.mul v140 (Value.int IntKind.u32 2) (fun v141 => pBin Tryd.prog 3 BinOp.sub (vget l56 2) (Value.int IntKind.i64 1) (fun v142 => pBin Tryd.prog 3 BinOp.sub (vget l56 2) (Value.int IntKind.i64 2) (fun v143 => pBin Tryd.prog 149 BinOp.add v141 (Value.int IntKind.u32 1) (fun v144 => pIndexStr (Value.string ({ data := (([48, 48, 48, 49, 48, 50, 48, 51, 48, 52, 48, 53, 48, 54, 48, 55, 48, 56, 48, 57, 49, 48, 49, 49, 49, 50, 49, 51, 49, 52, 49, 53, 49, 54, 49, 55, 49, 56, 49, 57, 50, 48, 50, 49, 50, 50, 50, 51, 50, 52].append [50, 53, 50, 54, 50, 55, 50, 56, 50, 57, 51, 48, 51, 49, 51, 50, 51, 51, 51, 52, 51, 53, 51, 54, 51, 55, 51, 56, 51, 57, 52, 48, 52, 49, 52, 50, 52, 51, 52, 52, 52, 53, 52, 54, 52, 55, 52, 56, 52, 57]).append ([53, 48, 53, 49, 53, 50, 53, 51, 53, 52, 53, 53, 53, 54, 53, 55, 53, 56, 53, 57, 54, 48, 54, 49, 54, 50, 54, 51, 54, 52, 54, 53, 54, 54, 54, 55, 54, 56, 54, 57, 55, 48, 55, 49, 55, 50, 55, 51, 55, 52].append [55, 53, 55, 54, 55, 55, 55, 56, 55, 57, 56, 48, 56, 49, 56, 50, 56, 51, 56, 52, 56, 53, 56, 54, 56, 55, 56, 56, 56, 57, 57, 48, 57, 49, 57, 50, 57, 51, 57, 52, 57, 53, 57, 54, 57, 55, 57, 56, 57, 57])).toArray })) v144 (fun v145 => pIndexStr (Value.string ({ data := (([48, 48, 48, 49, 48, 50, 48, 51, 48, 52, 48, 53, 48, 54, 48, 55, 48, 56, 48, 57, 49, 48, 49, 49, 49, 50, 49, 51, 49, 52, 49, 53, 49, 54, 49, 55, 49, 56, 49, 57, 50, 48, 50, 49, 50, 50, 50, 51, 50, 52].append [50, 53, 50, 54, 50, 55, 50, 56, 50, 57, 51, 48, 51, 49, 51, 50, 51, 51, 51, 52, 51, 53, 51, 54, 51, 55, 51, 56, 51, 57, 52, 48, 52, 49, 52, 50, 52, 51, 52, 52, 52, 53, 52, 54, 52, 55, 52, 56, 52, 57]).append ([53, 48, 53, 49, 53, 50, 53, 51, 53, 52, 53, 53, 53, 54, 53, 55, 53, 56, 53, 57, 54, 48, 54, 49, 54, 50, 54, 51, 54, 52, 54, 53, 54, 54, 54, 55, 54, 56, 54, 57, 55, 48, 55, 49, 55, 50, 55, 51, 55, 52].append [55, 53, 55, 54, 55, 55, 55, 56, 55, 57, 56, 48, 56, 49, 56, 50, 56, 51, 56, 52, 56, 53, 56, 54, 56, 55, 56, 56, 56, 57, 57, 48, 57, 49, 57, 50, 57, 51, 57, 52, 57, 53, 57, 54, 57, 55, 57, 56, 57, 57])).toArray })) v141 (fun v146 => pIndexAddr 1 (vget l56 0) v142 (fun v147 => pVal false 1 v145 (pStore v147 [v145] s57 (fun s148 => pIndexAddr 1 (vget l56 0) v143 (fun v149 => pVal false 1 v146 (pStore v149 [v146] s148 (fun s150 => pBin Tryd.prog 3 BinOp.sub (vget l56 2) (Value.int IntKind.i64 3) (fun v151 => pBin Tryd.prog 3 BinOp.sub (vget l56 2) (Value.int IntKind.i64 4) (fun v152 => pBin Tryd.prog 149 BinOp.add v139 (Value.int IntKind.u32 1) (fun v153 => pIndexStr (Value.string ({ data := (([48, 48, 48, 49, 48, 50, 48, 51, 48, 52, 48, 53, 48, 54, 48, 55, 48, 56, 48, 57, 49, 48, 49, 49, 49, 50, 49, 51, 49, 52, 49, 53, 49, 54, 49, 55, 49, 56, 49, 57, 50, 48, 50, 49, 50, 50, 50, 51, 50, 52].append [50, 53, 50, 54, 50, 55, 50, 56, 50, 57, 51, 48, 51, 49, 51, 50, 51, 51, 51, 52, 51, 53, 51, 54, 51, 55, 51, 56, 51, 57, 52, 48, 52, 49, 52, 50, 52, 51, 52, 52, 52, 53, 52, 54, 52, 55, 52, 56, 52, 57]).append ([53, 48, 53, 49, 53, 50, 53, 51, 53, 52, 53, 53, 53, 54, 53, 55, 53, 56, 53, 57, 54, 48, 54, 49, 54, 50, 54, 51, 54, 52, 54, 53, 54, 54, 54, 55, 54, 56, 54, 57, 55, 48, 55, 49, 55, 50, 55, 51, 55, 52].append [55, 53, 55, 54, 55, 55, 55, 56, 55, 57, 56, 48, 56, 49, 56, 50, 56, 51, 56, 52, 56, 53, 56, 54, 56, 55, 56, 56, 56, 57, 57, 48, 57, 49, 57, 50, 57, 51, 57, 52, 57, 53, 57, 54, 57, 55, 57, 56, 57, 57])).toArray })) v153 (fun v154 => pIndexStr (Value.string ({ data := (([48, 48, 48, 49, 48, 50, 48, 51, 48, 52, 48, 53, 48, 54, 48, 55, 48, 56, 48, 57, 49, 48, 49, 49, 49, 50, 49, 51, 49, 52, 49, 53, 49, 54, 49, 55, 49, 56, 49, 57, 50, 48, 50, 49, 50, 50, 50, 51, 50, 52].append [50, 53, 50, 54, 50, 55, 50, 56, 50, 57, 51, 48, 51, 49, 51, 50, 51, 51, 51, 52, 51, 53, 51, 54, 51, 55, 51, 56, 51, 57, 52, 48, 52, 49, 52, 50, 52, 51, 52, 52, 52, 53, 52, 54, 52, 55, 52, 56, 52, 57]).append ([53, 48, 53, 49, 53, 50, 53, 51, 53, 52, 53, 53, 53, 54, 53, 55, 53, 56, 53, 57, 54, 48, 54, 49, 54, 50, 54, 51, 54, 52, 54, 53, 54, 54, 54, 55, 54, 56, 54, 57, 55, 48, 55, 49, 55, 50, 55, 51, 55, 52].append [55, 53, 55, 54, 55, 55, 55, 56, 55, 57, 56, 48, 56, 49, 56, 50, 56, 51, 56, 52, 56, 53, 56, 54, 56, 55, 56, 56, 56, 57, 57, 48, 57, 49, 57, 50, 57, 51, 57, 52, 57, 53, 57, 54, 57, 55, 57, 56, 57, 57])).toArray })) v139 (fun v155 => pIndexAddr 1 (vget l56 0) v151 (fun v156 => pVal false 1 v154 (pStore v156 [v154] s150 (fun s157 => pIndexAddr 1 (vget l56 0) v152 (fun v158 => pVal false 1 v155 (pStore v158 [v155] s157 (fun s159 => pBin Tryd.prog 3 BinOp.sub (vget l56 2) (Value.int IntKind.i64 4) (fun v160 => pBin Tryd.prog 3 BinOp.geq v160 (Value.int IntKind.i64 2) (fun v161 => pIf v161 (pBin Tryd.prog 149 BinOp.rem v137 (Value.int IntKind.u32 100) (fun v162 => pBin Tryd.prog 149 BinOp.mul v162 (Value.int IntKind.u32 2) (fun v163 => pBin Tryd.prog 149 BinOp.quo v137 (Value.int IntKind.u32 100) (fun v164 => pBin Tryd.prog 3 BinOp.sub v160 (Value.int IntKind.i64 1) (fun v165 => pBin Tryd.prog 3 BinOp.sub v160 (Value.int IntKind.i64 2) (fun v166 => pBin Tryd.prog 149 BinOp.add v163 (Value.int IntKind.u32 1) (fun v167 => pIndexStr (Value.string ({ data := (([48, 48, 48, 49, 48, 50, 48, 51, 48, 52, 48, 53, 48, 54, 48, 55, 48, 56, 48, 57, 49, 48, 49, 49, 49, 50, 49, 51, 49, 52, 49, 53, 49, 54, 49, 55, 49, 56, 49, 57, 50, 48, 50, 49, 50, 50, 50, 51, 50, 52].append [50, 53, 50, 54, 50, 55, 50, 56, 50, 57, 51, 48, 51, 49, 51, 50, 51, 51, 51, 52, 51, 53, 51, 54, 51, 55, 51, 56, 51, 57, 52, 48, 52, 49, 52, 50, 52, 51, 52, 52, 52, 53, 52, 54, 52, 55, 52, 56, 52, 57]).append ([53, 48, 53, 49, 53, 50, 53, 51, 53, 52, 53, 53, 53, 54, 53, 55, 53, 56, 53, 57, 54, 48, 54, 49, 54, 50, 54, 51, 54, 52, 54, 53, 54, 54, 54, 55, 54, 56, 54, 57, 55, 48, 55, 49, 55, 50, 55, 51, 55, 52].append [55, 53, 55, 54, 55, 55, 55, 56, 55, 57, 56, 48, 56, 49, 56, 50, 56, 51, 56, 52, 56, 53, 56, 54, 56, 55, 56, 56, 56, 57, 57, 48, 57, 49, 57, 50, 57, 51, 57, 52, 57, 53, 57, 54, 57, 55, 57, 56, 57, 57])).toArray })) v167 (fun v168 => pIndexStr (Value.string ({ data := (([48, 48, 48, 49, 48, 50, 48, 51, 48, 52, 48, 53, 48, 54, 48, 55, 48, 56, 48, 57, 49, 48, 49, 49, 49, 50, 49, 51, 49, 52, 49, 53, 49, 54, 49, 55, 49, 56, 49, 57, 50, 48, 50, 49, 50, 50, 50, 51, 50, 52].append [50, 53, 50, 54, 50, 55, 50, 56, 50, 57, 51, 48, 51, 49, 51, 50, 51, 51, 51, 52, 51, 53, 51, 54, 51, 55, 51, 56, 51, 57, 52, 48, 52, 49, 52, 50, 52, 51, 52, 52, 52, 53, 52, 54, 52, 55, 52, 56, 52, 57]).append ([53, 48, 53, 49, 53, 50, 53, 51, 53, 52, 53, 53, 53, 54, 53, 55, 53, 56, 53, 57, 54, 48, 54, 49, 54, 50, 54, 51, 54, 52, 54, 53, 54, 54, 54, 55, 54, 56, 54, 57, 55, 48, 55, 49, 55, 50, 55, 51, 55, 52].append [55, 53, 55, 54, 55, 55, 55, 56, 55, 57, 56, 48, 56, 49, 56, 50, 56, 51, 56, 52, 56, 53, 56, 54, 56, 55, 56, 56, 56, 57, 57, 48, 57, 49, 57, 50, 57, 51, 57, 52, 57, 53, 57, 54, 57, 55, 57, 56, 57, 57])).toArray })) v163 (fun v169 => pIndexAddr 1 (vget l56 0) v165 (fun v170 => pVal false 1 v168 (pStore v170 [v168] s159 (fun s171 => pIndexAddr 1 (vget l56 0) v166 (fun v172 => pVal false 1 v169 (pStore v172 [v169] s171 (fun s173 => pBin Tryd.prog 3 BinOp.sub v160 (Value.int IntKind.i64 2) (fun v174 => pBin Tryd.prog 3 BinOp.gtr v174 (Value.int IntKind.i64 0) (fun v175 => pIf v175 (pBin Tryd.prog 149 BinOp.add (Value.int IntKind.u32 48) v164 (fun v176 => pConvInt IntKind.u8 v176 (fun v177 => pIndexAddr 1 (vget l56 0) (Value.int IntKind.i64 0) (fun v178 => pVal false 1 v177 (pStore v178 [v177] s173 (fun s179 => R (Value.tuple ⟨[]⟩) s179)))))) (R (Value.tuple ⟨[]⟩) s173)))))))))))))))))) (pBin Tryd.prog 3 BinOp.gtr v160 (Value.int IntKind.i64 0) (fun v180 => pIf v180 (pBin Tryd.prog 149 BinOp.add (Value.int IntKind.u32 48) v137 (fun v181 => pConvInt IntKind.u8 v181 (fun v182 => pIndexAddr 1 (vget l56 0) (Value.int IntKind.i64 0) (fun v183 => pVal false 1 v182 (pStore v183 [v182] s159 (fun s184 => R (Value.tuple ⟨[]⟩) s184)))))) (R (Value.tuple ⟨[]⟩) s159)))))))))))))))))))))))))))))))))) (pBin Tryd.prog 3 BinOp.geq (vget l56 2) (Value.int IntKind.i64 2) (fun v185 => pIf v185 (pBin Tryd.prog 149 BinOp.rem v134 (Value.int IntKind.u32 100) (fun v186 => pBin Tryd.prog 149 BinOp.mul v186 (Value.int IntKind.u32 2) (fun v187 => pBin Tryd.prog 149 BinOp.quo v134 (Value.int IntKind.u32 100) (fun v188 => pBin Tryd.prog 3 BinOp.sub (vget l56 2) (Value.int IntKind.i64 1) (fun v189 => pBin Tryd.prog 3 BinOp.sub (vget l56 2) (Value.int IntKind.i64 2) (fun v190 => pBin Tryd.prog 149 BinOp.add v187 (Value.int IntKind.u32 1) (fun v191 => pIndexStr (Value.string ({ data := (([48, 48, 48, 49, 48, 50, 48, 51, 48, 52, 48, 53, 48, 54, 48, 55, 48, 56, 48, 57, 49, 48, 49, 49, 49, 50, 49, 51, 49, 52, 49, 53, 49, 54, 49, 55, 49, 56, 49, 57, 50, 48, 50, 49, 50, 50, 50, 51, 50, 52].append [50, 53, 50, 54, 50, 55, 50, 56, 50, 57, 51, 48, 51, 49, 51, 50, 51, 51, 51, 52, 51, 53, 51, 54, 51, 55, 51, 56, 51, 57, 52, 48, 52, 49, 52, 50, 52, 51, 52, 52, 52, 53, 52, 54, 52, 55, 52, 56, 52, 57]).append ([53, 48, 53, 49, 53, 50, 53, 51, 53, 52, 53, 53, 53, 54, 53, 55, 53, 56, 53, 57, 54, 48, 54, 49, 54, 50, 54, 51, 54, 52, 54, 53, 54, 54, 54, 55, 54, 56, 54, 57, 55, 48, 55, 49, 55, 50, 55, 51, 55, 52].append [55, 53, 55, 54, 55, 55, 55, 56, 55, 57, 56, 48, 56, 49, 56, 50, 56, 51, 56, 52, 56, 53, 56, 54, 56, 55, 56, 56, 56, 57, 57, 48, 57, 49, 57, 50, 57, 51, 57, 52, 57, 53, 57, 54, 57, 55, 57, 56, 57, 57])).toArray })) v191 (fun v192 => pIndexStr (Value.string ({ data := (([48, 48, 48, 49, 48, 50, 48, 51, 48, 52, 48, 53, 48, 54, 48, 55, 48, 56, 48, 57, 49, 48, 49, 49, 49, 50, 49, 51, 49, 52, 49, 53, 49, 54, 49, 55, 49, 56, 49, 57, 50, 48, 50, 49, 50, 50, 50, 51, 50, 52].append [50, 53, 50, 54, 50, 55, 50, 56, 50, 57, 51, 48, 51, 49, 51, 50, 51, 51, 51, 52, 51, 53, 51, 54, 51, 55, 51, 56, 51, 57, 52, 48, 52, 49, 52, 50, 52, 51, 52, 52, 52, 53, 52, 54, 52, 55, 52, 56, 52, 57]).append ([53, 48, 53, 49, 53, 50, 53, 51, 53, 52, 53, 53, 53, 54, 53, 55, 53, 56, 53, 57, 54, 48, 54, 49, 54, 50, 54, 51, 54, 52, 54, 53, 54, 54, 54, 55, 54, 56, 54, 57, 55, 48, 55, 49, 55, 50, 55, 51, 55, 52].append [55, 53, 55, 54, 55, 55, 55, 56, 55, 57, 56, 48, 56, 49, 56, 50, 56, 51, 56, 52, 56, 53, 56, 54, 56, 55, 56, 56, 56, 57, 57, 48, 57, 49, 57, 50, 57, 51, 57, 52, 57, 53, 57, 54, 57, 55, 57, 56, 57, 57])).toArray })) v187 (fun v193 => pIndexAddr 1 (vget l56 0) v189 (fun v194 => pVal false 1 v192 (pStore v194 [v192] s57 (fun s195 => pIndexAddr 1 (vget l56 0) v190 (fun v196 => pVal false 1 v193 (pStore v196 [v193] s195 (fun s197 => pBin Tryd.prog 3 BinOp.sub (vget l56 2) (Value.int IntKind.i64 2) (fun v198 => pBin Tryd.prog 3 BinOp.gtr v198 (Value.int IntKind.i64 0) (fun v199 => pIf v199 (pBin Tryd.prog 149 BinOp.add (Value.int IntKind.u32 48) v188 (fun v200 => pConvInt IntKind.u8 v200 (fun v201 => pIndexAddr 1 (vget l56 0) (Value.int IntKind.i64 0) (fun v202 => pVal false 1 v201 (pStore v202 [v201] s197 (fun s203 => R (Value.tuple ⟨[]⟩) s203)))))) (R (Value.tuple ⟨[]⟩) s197)))))))))))))))))) (pBin Tryd.prog 3 BinOp.gtr (vget l56 2) (Value.int IntKind.i64 0) (fun v204 => pIf v204 (pBin Tryd.prog 149 BinOp.add (Value.int IntKind.u32 48) v134 (fun v205 => pConvInt IntKind.u8 v205 (fun v206 => pIndexAddr 1 (vget l56 0) (Value.int IntKind.i64 0) (fun v207 => pVal false 1 v206 (pStore v207 [v206] s57 (fun s208 => R (Value.tuple ⟨[]⟩) s208)))))) (R (Value.tuple ⟨[]⟩) s57))))))) | false => False)))
theorem vc_internal_strconv_formatBase10_eq (w0 : World) (a0 a1 : Value) (σ : Vw) (R : Value → Vw → Prop) : vc_internal_strconv_formatBase10 w0 a0 a1 σ R = den Tryd.prog w0 kp_internal_strconv_formatBase10 esc_internal_strconv_formatBase10 (Tryd.f154.body.getD .skip) (entry Tryd.f154.ntmps [a0, a1]) σ (retK Tryd.prog Tryd.f154.results.toList R) := by kernel_rfl
theorem ac_internal_strconv_formatBase10 {w0 : World} {a0 a1 : Value} {σ : Vw} {R : Value → Vw → Prop} (h : vc_internal_strconv_formatBase10 w0 a0 a1 σ R) : AC Tryd.prog w0 n_internal_strconv_formatBase10 [a0, a1] σ R := by
  refine ac_rule (fn := Tryd.f154) (c := Tryd.f154.body.getD .skip) kp_internal_strconv_formatBase10 esc_internal_strconv_formatBase10 Tryd.func154 (by kernel_rfl) (by kernel_rfl) ?_
  rw [← vc_internal_strconv_formatBase10_eq]
  exact h

/-- internal/strconv.formatBits -/
def kp_internal_strconv_formatBits : Nat → Keep
  | 11 => ⟨[0, 1, 3, 4, 10, 11, 12, 13, 14, 15, 16], [], [], .done, []⟩
  | 18 => ⟨[0, 1, 3, 4, 10, 11, 12, 13, 17], [], [], .done, []⟩
  | _ => ⟨[], [], [], .done, []⟩
def esc_internal_strconv_formatBits : Nat → Bool
  | 12 => true
  | _ => false
def vc_internal_strconv_formatBits (w0 : World) (a0 a1 a2 a3 a4 : Value) (σ : Vw) (R : Value → Vw → Prop) : Prop :=
  pBin Tryd.prog 3 BinOp.lss a2 (Value.int IntKind.i64 2) (fun v0 => pIf v0 False (pBin Tryd.prog 3 BinOp.eql a2 (Value.int IntKind.i64 10) (fun v1 => pIf v1 False (pBin Tryd.prog 3 BinOp.gtr a2 (Value.int IntKind.i64 36) (fun v2 => pIf v2 False (pNew w0 160 [Value.int IntKind.u8 0, Value.int IntKind.u8 0, Value.int IntKind.u8 0, Value.int IntKind.u8 0, Value.int IntKind.u8 0, Value.int IntKind.u8 0, Value.int IntKind.u8 0, Value.int IntKind.u8 0, Value.int IntKind.u8 0, Value.int IntKind.u8 0, Value.int IntKind.u8 0, Value.int IntKind.u8 0, Value.int IntKind.u8 0, Value.int IntKind.u8 0, Value.int IntKind.u8 0, Value.int IntKind.u8 0, Value.int IntKind.u8 0, Value.int IntKind.u8 0, Value.int IntKind.u8 0, Value.int IntKind.u8 0, Value.int IntKind.u8 0, Value.int IntKind.u8 0, Value.int IntKind.u8 0, Value.int IntKind.u8 0, Value.int IntKind.u8 0, Value.int IntKind.u8 0, Value.int IntKind.u8 0, Value.int IntKind.u8 0, Value.int IntKind.u8 0, Value.int IntKind.u8 0, Value.int IntKind.u8 0, Value.int IntKind.u8 0, Value.int IntKind.u8 0, Value.int IntKind.u8 0, Value.int IntKind.u8 0, Value.int IntKind.u8 0, Value.int IntKind.u8 0, Value.int IntKind.u8 0, Value.int IntKind.u8 0, Value.int IntKind.u8 0, Value.int IntKind.u8 0, Value.int IntKind.u8 0, Value.int IntKind.u8 0, Value.int IntKind.u8 0, Value.int IntKind.u8 0, Value.int IntKind.u8 0, Value.int IntKind.u8 0, Value.int IntKind.u8 0, Value.int IntKind.u8 0, Value.int IntKind.u8 0, Value.int IntKind.u8 0, Value.int IntKind.u8 0, Value.int IntKind.u8 0, Value.int IntKind.u8 0, Value.int IntKind.u8 0, Value.int IntKind.u8 0, Value.int IntKind.u8 0, Value.int IntKind.u8 0, Value.int IntKind.u8 0, Value.int IntKind.u8 0, Value.int IntKind.u8 0, Value.int IntKind.u8 0, Value.int IntKind.u8 0, Value.int IntKind.u8 0, Value.int IntKind.u8 0] σ (fun n3 s4 => pIf a3 (pUn UnOp.neg a1 (fun v5 => AC Tryd.prog w0 n_internal_strconv_isPowerOfTwo [a2] s4 (fun v6 s7 => pIf v6 (pConvInt IntKind.u64 a2 (fun v8 => AC Tryd.prog w0 n_math_bits_TrailingZeros [v8] s7 (fun v9 s10 => pConvInt IntKind.u64 v9 (fun v11 => pConvInt IntKind.u64 a2 (fun v12 => pConvInt IntKind.u64 a2 (fun v13 => pBin Tryd.prog 133 BinOp.sub v13 (Value.int IntKind.u64 1) (fun v14 => pLoop (fun l15 K16 s17 => pBin Tryd.prog 144 BinOp.geq (vget l15 1) (vget l15 9) (fun v18 => pIf v18 (pBin Tryd.prog 3 BinOp.sub (vget l15 7) (Value.int IntKind.i64 1) (fun v19 => pBin Tryd.prog 133 BinOp.and (vget l15 1) (vget l15 10) (fun v20 => pIndexStr (Value.string ({ data := #[48, 49, 50, 51, 52, 53, 54, 55, 56, 57, 97, 98, 99, 100, 101, 102, 103, 104, 105, 106, 107, 108, 109, 110, 111, 112, 113, 114, 115, 116, 117, 118, 119, 120, 121, 122] })) v20 (fun v21 => pIndexArr 65 1 (vget l15 6) v19 (fun v22 => pVal false 1 v21 (pStore v22 [v21] s17 (fun s23 => pBin Tryd.prog 144 BinOp.shr (vget l15 1) (vget l15 8) (fun v24 => K16 AX.normal [vget l15 0, v24, vget l15 2, vget l15 3, vget l15 4, vget l15 5, vget l15 6, v19, vget l15 8, vget l15 9, vget l15 10] s23)))))))) (K16 (AX.exit 0) [vget l15 0, vget l15 1, vget l15 2, vget l15 3, vget l15 4, vget l15 5, vget l15 6, vget l15 7, vget l15 8, vget l15 9, vget l15 10] s17))) ([a0, v5, a3, a4, Value.slice Option.none 0 0, Value.string ({ data := #[] }), Value.pointer (Option.some (Addr.mk n3 0 Option.none)), Value.int IntKind.i64 65, v11, v12, v14]) s10 (fun x25 l26 s27 => match x25 with | .normal => pBin Tryd.prog 3 BinOp.sub (vget l26 7) (Value.int IntKind.i64 1) (fun v28 => pIndexStr (Value.string ({ data := #[48, 49, 50, 51, 52, 53, 54, 55, 56, 57, 97, 98, 99, 100, 101, 102, 103, 104, 105, 106, 107, 108, 109, 110, 111, 112, 113, 114, 115, 116, 117, 118, 119, 120, 121, 122] })) (vget l26 1) (fun v29 => pIndexArr 65 1 (vget l26 6) v28 (fun v30 => pVal false 1 v29 (pStore v30 [v29] s27 (fun s31 => pIf (vget l26 2) (pBin Tryd.prog 3 BinOp.sub v28 (Value.int IntKind.i64 1) (fun v32 => pIndexArr 65 1 (vget l26 6) v32 (fun v33 => pVal false 1 (Value.int IntKind.u8 45) (pStore v33 [Value.int IntKind.u8 45] s31 (fun s34 => pIf (vget l26 3) False False))))) (pIf (vget l26 3) False False)))))) | .ret => R (Value.tuple (⟨[vget l26 4, vget l26 5]⟩)) s27 | .exit i35 => (match Nat.beq i35 0 with | true => pBin Tryd.prog 3 BinOp.sub (vget l26 7) (Value.int IntKind.i64 1) (fun v36 => pIndexStr (Value.string ({ data := #[48, 49, 50, 51, 52, 53, 54, 55, 56, 57, 97, 98, 99, 100, 101, 102, 103, 104, 105, 106, 107, 108, 109, 110, 111, 112, 113, 114, 115, 116, 117, 118, 119, 120, 121, 122] })) (vget l26 1) (fun v37 => pIndexArr 65 1 (vget l26 6) v36 (fun v38 => pVal false 1 v37 (pStore v38 [v37] s27 (fun s39 => pIf (vget l26 2) (pBin Tryd.prog 3 BinOp.sub v36 (Value.int IntKind.i64 1) (fun v40 => pIndexArr 65 1 (vget l26 6) v40 (fun v41 => pVal false 1 (Value.int IntKind.u8 45) (pStore v41 [Value.int IntKind.u8 45] s39 (fun s42 => pIf (vget l26 3) False False))))) (pIf (vget l26 3) False False)))))) | false => False))))))))) (pConvInt IntKind.u64 a2 (fun v43 => pLoop (fun l44 K45 s46 => pBin Tryd.prog 144 BinOp.geq (vget l44 1) (vget l44 8) (fun v47 => pIf v47 (pBin Tryd.prog 3 BinOp.sub (vget l44 7) (Value.int IntKind.i64 1) (fun v48 => pBin Tryd.prog 144 BinOp.quo (vget l44 1) (vget l44 8) (fun v49 => pBin Tryd.prog 144 BinOp.mul v49 (vget l44 8) (fun v50 => pBin Tryd.prog 144 BinOp.sub (vget l44 1) v50 (fun v51 => pIndexStr (Value.string ({ data := #[48, 49, 50, 51, 52, 53, 54, 55, 56, 57, 97, 98, 99, 100, 101, 102, 103, 104, 105, 106, 107, 108, 109, 110, 111, 112, 113, 114, 115, 116, 117, 118, 119, 120, 121, 122] })) v51 (fun v52 => pIndexArr 65 1 (vget l44 6) v48 (fun v53 => pVal false 1 v52 (pStore v53 [v52] s46 (fun s54 => K45 AX.normal [vget l44 0, v49, vget l44 2, vget l44 3, vget l44 4, vget l44 5, vget l44 6, v48, vget l44 8] s54))))))))) (K45 (AX.exit 2) [vget l44 0, vget l44 1, vget l44 2, vget l44 3, vget l44 4, vget l44 5, vget l44 6, vget l44 7, vget l44 8] s46))) ([a0, v5, a3, a4, Value.slice Option.none 0 0, Value.string ({ data := #[] }), Value.pointer (Option.some (Addr.mk n3 0 Option.none)), Value.int IntKind.i64 65, v43]) s7 (fun x55 l56 s57 => match x55 with | .normal => pBin Tryd.prog 3 BinOp.sub (vget l56 7) (Value.int IntKind.i64 1) (fun v58 => pIndexStr (Value.string ({ data := #[48, 49, 50, 51, 52, 53, 54, 55, 56, 57, 97, 98, 99, 100, 101, 102, 103, 104, 105, 106, 107, 108, 109, 110, 111, 112, 113, 114, 115, 116, 117, 118, 119, 120, 121, 122] })) (vget l56 1) (fun v59 => pIndexArr 65 1 (vget l56 6) v58 (fun v60 => pVal false 1 v59 (pStore v60 [v59] s57 (fun s61 => pIf (vget l56 2) (pBin Tryd.prog 3 BinOp.sub v58 (Value.int IntKind.i64 1) (fun v62 => pIndexArr 65 1 (vget l56 6) v62 (fun v63 => pVal false 1 (Value.int IntKind.u8 45) (pStore v63 [Value.int IntKind.u8 45] s61 (fun s64 => pIf (vget l56 3) False False))))) (pIf (vget l56 3) False False)))))) | .ret => R (Value.tuple (⟨[vget l56 4, vget l56 5]⟩)) s57 | .exit i65 => (match Nat.beq i65 2 with | true => pBin Tryd.prog 3 BinOp.sub (vget l56 7) (Value.int IntKind.i64 1) (fun v66 => pIndexStr (Value.string ({ data := #[48, 49, 50, 51, 52, 53, 54, 55, 56, 57, 97, 98, 99, 100, 101, 102, 103, 104, 105, 106, 107, 108, 109, 110, 111, 112, 113, 114, 115, 116, 117, 118, 119, 120, 121, 122] })) (vget l56 1) (fun v67 => pIndexArr 65 1 (vget l56 6) v66 (fun v68 => pVal false 1 v67 (pStore v68 [v67] s57 (fun s69 => pIf (vget l56 2) (pBin Tryd.prog 3 BinOp.sub v66 (Value.int IntKind.i64 1) (fun v70 => pIndexArr 65 1 (vget l56 6) v70 (fun v71 => pVal false 1 (Value.int IntKind.u8 45) (pStore v71 [Value.int IntKind.u8 45] s69 (fun s72 => pIf (vget l56 3) False False))))) (pIf (vget l56 3) False False)))))) | false => False))))))) (AC Tryd.prog w0 n_internal_strconv_isPowerOfTwo [a2] s4 (fun v73 s74 => pIf v73 (pConvInt IntKind.u64 a2 (fun v75 => AC Tryd.prog w0 n_math_bits_TrailingZeros [v75] s74 (fun v76 s77 => pConvInt IntKind.u64 v76 (fun v78 => pConvInt IntKind.u64 a2 (fun v79 => pConvInt IntKind.u64 a2 (fun v80 => pBin Tryd.prog 133 BinOp.sub v80 (Value.int IntKind.u64 1) (fun v81 => pLoop (fun l82 K83 s84 => pBin Tryd.prog 144 BinOp.geq (vget l82 1) (vget l82 9) (fun v85 => pIf v85 (pBin Tryd.prog 3 BinOp.sub (vget l82 7) (Value.int IntKind.i64 1) (fun v86 => pBin Tryd.prog 133 BinOp.and (vget l82 1) (vget l82 10) (fun v87 => pIndexStr (Value.string ({ data := #[48, 49, 50, 51, 52, 53, 54, 55, 56, 57, 97, 98, 99, 100, 101, 102, 103, 104, 105, 106, 107, 108, 109, 110, 111, 112, 113, 114, 115, 116, 117, 118, 119, 120, 121, 122] })) v87 (fun v88 => pIndexArr 65 1 (vget l82 6) v86 (fun v89 => pVal false 1 v88 (pStore v89 [v88] s84 (fun s90 => pBin Tryd.prog 144 BinOp.shr (vget l82 1) (vget l82 8) (fun v91 => K83 AX.normal [vget l82 0, v91, vget l82 2, vget l82 3, vget l82 4, vget l82 5, vget l82 6, v86, vget l82 8, vget l82 9, vget l82 10] s90)))))))) (K83 (AX.exit 0) [vget l82 0, vget l82 1, vget l82 2, vget l82 3, vget l82 4, vget l82 5, vget l82 6, vget l82 7, vget l82 8, vget l82 9, vget l82 10] s84))) ([a0, a1, a3, a4, Value.slice Option.none 0 0, Value.string ({ data := #[] }), Value.pointer (Option.some (Addr.mk n3 0 Option.none)), Value.int IntKind.i64 65, v78, v79, v81]) s77 (fun x92 l93 s94 => match x92 with | .normal => pBin Tryd.prog 3 BinOp.sub (vget l93 7) (Value.int IntKind.i64 1) (fun v95 => pIndexStr (Value.string ({ data := #[48, 49, 50, 51, 52, 53, 54, 55, 56, 57, 97, 98, 99, 100, 101, 102, 103, 104, 105, 106, 107, 108, 109, 110, 111, 112, 113, 114, 115, 116, 117, 118, 119, 120, 121, 122] })) (vget l93 1) (fun v96 => pIndexArr 65 1 (vget l93 6) v95 (fun v97 => pVal false 1 v96 (pStore v97 [v96] s94 (fun s98 => pIf (vget l93 2) (pBin Tryd.prog 3 BinOp.sub v95 (Value.int IntKind.i64 1) (fun v99 => pIndexArr 65 1 (vget l93 6) v99 (fun v100 => pVal false 1 (Value.int IntKind.u8 45) (pStore v100 [Value.int IntKind.u8 45] s98 (fun s101 => pIf (vget l93 3) False False))))) (pIf (vget l93 3) False False)))))) | .ret => R (Value.tuple (⟨[vget l93 4, vget l93 5]⟩)) s94 | .exit i102 => (match Nat.beq i102 0 with | true => pBin Tryd.prog 3 BinOp.sub (vget l93 7) (Value.int IntKind.i64 1) (fun v103 => pIndexStr (Value.string ({ data := #[48, 49, 50, 51, 52, 53, 54, 55, 56, 57, 97, 98, 99, 100, 101, 102, 103, 104, 105, 106, 107, 108, 109, 110, 111, 112, 113, 114, 115, 116, 117, 118, 119, 120, 121, 122] })) (vget l93 1) (fun v104 => pIndexArr 65 1 (vget l93 6) v103 (fun v105 => pVal false 1 v104 (pStore v105 [v104] s94 (fun s106 => pIf (vget l93 2) (pBin Tryd.prog 3 BinOp.sub v103 (Value.int IntKind.i64 1) (fun v107 => pIndexArr 65 1 (vget l93 6) v107 (fun v108 => pVal false 1 (Value.int IntKind.u8 45) (pStore v108 [Value.int IntKind.u8 45] s106 (fun s109 => pIf (vget l93 3) False False))))) (pIf (vget l93 3) False False)))))) | false => False))))))))) (pConvInt IntKind.u64 a2 (fun v110 => pLoop (fun l111 K112 s113 => pBin Tryd.prog 144 BinOp.geq (vget l111 1) (vget l111 8) (fun v114 => pIf v114 (pBin Tryd.prog 3 BinOp.sub (vget l111 7) (Value.int IntKind.i64 1) (fun v115 => pBin Tryd.prog 144 BinOp.quo (vget l111 1) (vget l111 8) (fun v116 => pBin Tryd.prog 144 BinOp.mul v116 (vget l111 8) (fun v117 => pBin Tryd.prog 144 BinOp.sub (vget l111 1) v117 (fun v118 => pIndexStr (Value.string ({ data := #[48, 49, 50, 51, 52, 53, 54, 55, 56, 57, 97, 98, 99, 100, 101, 102, 103, 104, 105, 106, 107, 108, 109, 110, 111, 112, 113, 114, 115, 116, 117, 118, 119, 120, 121, 122] })) v118 (fun v119 => pIndexArr 65 1 (vget l111 6) v115 (fun v120 => pVal false 1 v119 (pStore v120 [v119] s113 (fun s121 => K112 AX.normal [vget l111 0, v116, vget l111 2, vget l111 3, vget l111 4, vget l111 5, vget l111 6, v115, vget l111 8] s121))))))))) (K112 (AX.exit 2) [vget l111 0, vget l111 1, vget l111 2, vget l111 3, vget l111 4, vget l111 5, vget l111 6, vget l111 7, vget l111 8] s113))) ([a0, a1, a3, a4, Value.slice Option.none 0 0, Value.string ({ data := #[] }), Value.pointer (Option.some (Addr.mk n3 0 Option.none)), Value.int IntKind.i64 65, v110]) s74 (fun x122 l123 s124 => match x122 with | .normal => pBin Tryd.prog 3 BinOp.sub (vget l123 7) (Value.int IntKind.i64 1) (fun v125 => pIndexStr (Value.string ({ data := #[48, 49, 50, 51, 52, 53, 54, 55, 56, 57, 97, 98, 99, 100, 101, 102, 103, 104, 105, 106, 107, 108, 109, 110, 111, 112, 113, 114, 115, 116, 117, 118, 119, 120, 121, 122] })) (vget l123 1) (fun v126 => pIndexArr 65 1 (vget l123 6) v125 (fun v127 => pVal false 1 v126 (pStore v127 [v126] s124 (fun s128 => pIf (vget l123 2) (pBin Tryd.prog 3 BinOp.sub v125 (Value.int IntKind.i64 1) (fun v129 => pIndexArr 65 1 (vget l123 6) v129 (fun v130 => pVal false 1 (Value.int IntKind.u8 45) (pStore v130 [Value.int IntKind.u8 45] s128 (fun s131 => pIf (vget l123 3) False False))))) (pIf (vget l123 3) False False)))))) | .ret => R (Value.tuple (⟨[vget l123 4, vget l123 5]⟩)) s124 | .exit i132 => (match Nat.beq i132 2 with | true => pBin Tryd.prog 3 BinOp.sub (vget l123 7) (Value.int IntKind.i64 1) (fun v133 => pIndexStr (Value.string ({ data := #[48, 49, 50, 51, 52, 53, 54, 55, 56, 57, 97, 98, 99, 100, 101, 102, 103, 104, 105, 106, 107, 108, 109, 110, 111, 112, 113, 114, 115, 116, 117, 118, 119, 120, 121, 122] })) (vget l123 1) (fun v134 => pIndexArr 65 1 (vget l123 6) v133 (fun v135 => pVal false 1 v134 (pStore v135 [v134] s124 (fun s136 => pIf (vget l123 2) (pBin Tryd.prog 3 BinOp.sub v133 (Value.int IntKind.i64 1) (fun v137 => pIndexArr 65 1 (vget l123 6) v137 (fun v138 => pVal false 1 (Value.int IntKind.u8 45) (pStore v138 [Value.int IntKind.u8 45] s136 (fun s139 => pIf (vget l123 3) False False))))) (pIf (vget l123 3) False False)))))) | false => False)))))))))))))
theorem vc_internal_strconv_formatBits_eq (w0 : World) (a0 a1 a2 a3 a4 : Value) (σ : Vw) (R : Value → Vw → Prop) : vc_internal_strconv_formatBits w0 a0 a1 a2 a3 a4 σ R = den Tryd.prog w0 kp_internal_strconv_formatBits esc_internal_strconv_formatBits (Tryd.f155.body.getD .skip) (entry Tryd.f155.ntmps [a0, a1, a2, a3, a4]) σ (retK Tryd.prog Tryd.f155.results.toList R) := by kernel_rfl
theorem ac_internal_strconv_formatBits {w0 : World} {a0 a1 a2 a3 a4 : Value} {σ : Vw} {R : Value → Vw → Prop} (h : vc_internal_strconv_formatBits w0 a0 a1 a2 a3 a4 σ R) : AC Tryd.prog w0 n_internal_strconv_formatBits [a0, a1, a2, a3, a4] σ R := by
  refine ac_rule (fn := Tryd.f155) (c := Tryd.f155.body.getD .skip) kp_internal_strconv_formatBits esc_internal_strconv_formatBits Tryd.func155 (by kernel_rfl) (by kernel_rfl) ?_
  rw [← vc_internal_strconv_formatBits_eq]
  exact h

/-- internal/bytealg.hashStr[string] -/
def kp_internal_bytealg_hashStr_string : Nat → Keep
  | 3 => ⟨[0, 4, 5], [], [], .done, []⟩
  | 8 => ⟨[4, 6, 7, 8], [], [], .done, []⟩
  | _ => ⟨[], [], [], .done, []⟩
def esc_internal_bytealg_hashStr_string : Nat → Bool
  | _ => false
def vc_internal_bytealg_hashStr_string (w0 : World) (a0 : Value) (σ : Vw) (R : Value → Vw → Prop) : Prop :=
  pLoop (fun l0 K1 s2 => pLenS (vget l0 0) (fun v3 => pBin Tryd.prog 3 BinOp.lss (vget l0 2) v3 (fun v4 => pIf v4 (pBin Tryd.prog 149 BinOp.mul (vget l0 1) (Value.int IntKind.u32 16777619) (fun v5 => pIndexStr (vget l0 0) (vget l0 2) (fun v6 => pConvInt IntKind.u32 v6 (fun v7 => pBin Tryd.prog 149 BinOp.add v5 v7 (fun v8 => pBin Tryd.prog 3 BinOp.add (vget l0 2) (Value.int IntKind.i64 1) (fun v9 => K1 AX.normal [vget l0 0, v8, v9] s2)))))) (K1 (AX.exit 0) [vget l0 0, vget l0 1, vget l0 2] s2)))) [a0, Value.int IntKind.u32 0, Value.int IntKind.i64 0] σ (fun x10 l11 s12 => match x10 with | .normal => pLenS (vget l11 0) (fun v13 => pLoop (fun l14 K15 s16 => pBin Tryd.prog 3 BinOp.gtr (vget l14 3) (Value.int IntKind.i64 0) (fun v17 => pIf v17 (pBin Tryd.prog 3 BinOp.and (vget l14 3) (Value.int IntKind.i64 1) (fun v18 => pBin Tryd.prog 3 BinOp.neq v18 (Value.int IntKind.i64 0) (fun v19 => pIf v19 (pBin Tryd.prog 149 BinOp.mul (vget l14 1) (vget l14 2) (fun v20 => pBin Tryd.prog 149 BinOp.mul (vget l14 2) (vget l14 2) (fun v21 => pBin Tryd.prog 3 BinOp.shr (vget l14 3) (Value.int IntKind.u64 1) (fun v22 => K15 AX.normal [vget l14 0, v20, v21, v22] s16)))) (pBin Tryd.prog 149 BinOp.mul (vget l14 2) (vget l14 2) (fun v23 => pBin Tryd.prog 3 BinOp.shr (vget l14 3) (Value.int IntKind.u64 1) (fun v24 => K15 AX.normal [vget l14 0, vget l14 1, v23, v24] s16)))))) (K15 (AX.exit 2) [vget l14 0, vget l14 1, vget l14 2, vget l14 3] s16))) [vget l11 1, Value.int IntKind.u32 1, Value.int IntKind.u32 16777619, v13] s12 (fun x25 l26 s27 => match x25 with | .normal => R (Value.tuple (⟨[vget l26 0, vget l26 1]⟩)) s27 | .ret => False | .exit i28 => (match Nat.beq i28 2 with | true => R (Value.tuple (⟨[vget l26 0, vget l26 1]⟩)) s27 | false => False))) | .ret => False | .exit i29 => (match Nat.beq i29 0 with | true => pLenS (vget l11 0) (fun v30 => pLoop (fun l31 K32 s33 => pBin Tryd.prog 3 BinOp.gtr (vget l31 3) (Value.int IntKind.i64 0) (fun v34 => pIf v34 (pBin Tryd.prog 3 BinOp.and (vget l31 3) (Value.int IntKind.i64 1) (fun v35 => pBin Tryd.prog 3 BinOp.neq v35 (Value.int IntKind.i64 0) (fun v36 => pIf v36 (pBin Tryd.prog 149 BinOp.mul (vget l31 1) (vget l31 2) (fun v37 => pBin Tryd.prog 149 BinOp.mul (vget l31 2) (vget l31 2) (fun v38 => pBin Tryd.prog 3 BinOp.shr (vget l31 3) (Value.int IntKind.u64 1) (fun v39 => K32 AX.normal [vget l31 0, v37, v38, v39] s33)))) (pBin Tryd.prog 149 BinOp.mul (vget l31 2) (vget l31 2) (fun v40 => pBin Tryd.prog 3 BinOp.shr (vget l31 3) (Value.int IntKind.u64 1) (fun v41 => K32 AX.normal [vget l31 0, vget l31 1, v40, v41] s33)))))) (K32 (AX.exit 2) [vget l31 0, vget l31 1, vget l31 2, vget l31 3] s33))) [vget l11 1, Value.int IntKind.u32 1, Value.int IntKind.u32 16777619, v30] s12 (fun x42 l43 s44 => match x42 with | .normal => R (Value.tuple (⟨[vget l43 0, vget l43 1]⟩)) s44 | .ret => False | .exit i45 => (match Nat.beq i45 2 with | true => R (Value.tuple (⟨[vget l43 0, vget l43 1]⟩)) s44 | false => False))) | false => False))
theorem vc_internal_bytealg_hashStr_string_eq (w0 : World) (a0 : Value) (σ : Vw) (R : Value → Vw → Prop) : vc_internal_bytealg_hashStr_string w0 a0 σ R = den Tryd.prog w0 kp_internal_bytealg_hashStr_string esc_internal_bytealg_hashStr_string (Tryd.f157.body.getD .skip) (entry Tryd.f157.ntmps [a0]) σ (retK Tryd.prog Tryd.f157.results.toList R) := by kernel_rfl
theorem ac_internal_bytealg_hashStr_string {w0 : World} {a0 : Value} {σ : Vw} {R : Value → Vw → Prop} (h : vc_internal_bytealg_hashStr_string w0 a0 σ R) : AC Tryd.prog w0 n_internal_bytealg_hashStr_string [a0] σ R := by
  refine ac_rule (fn := Tryd.f157) (c := Tryd.f157.body.getD .skip) kp_internal_bytealg_hashStr_string esc_internal_bytealg_hashStr_string Tryd.func157 (by kernel_rfl) (by kernel_rfl) ?_
  rw [← vc_internal_bytealg_hashStr_string_eq]
  exact h

/-- unicode/utf8.decodeRuneInStringSlow -/
def kp_unicode_utf8_decodeRuneInStringSlow : Nat → Keep
  | _ => ⟨[], [], [], .done, []⟩
def esc_unicode_utf8_decodeRuneInStringSlow : Nat → Bool
  | _ => false
def vc_unicode_utf8_decodeRuneInStringSlow (w0 : World) (a0 : Value) (σ : Vw) (R : Value → Vw → Prop) : Prop :=
  pLenS a0 (fun v0 => pBin Tryd.prog 3 BinOp.lss v0 (Value.int IntKind.i64 1) (fun v1 => pIf v1 (R (Value.tuple (⟨[Value.int IntKind.i32 65533, Value.int IntKind.i64 0]⟩)) σ) (pIndexStr a0 (Value.int IntKind.i64 0) (fun v2 => pIndexArr 256 1 (Value.pointer (Option.some (Addr.mk 4 0 Option.none))) v2 (fun v3 => pLoad w0 1 v3 σ (fun g4 => pBin Tryd.prog 5 BinOp.geq (g4 0) (Value.int IntKind.u8 240) (fun v5 => pIf v5 (pConvInt IntKind.i32 (g4 0) (fun v6 => pBin Tryd.prog 21 BinOp.shl v6 (Value.int IntKind.u64 31) (fun v7 => pBin Tryd.prog 21 BinOp.shr v7 (Value.int IntKind.u64 31) (fun v8 => pIndexStr a0 (Value.int IntKind.i64 0) (fun v9 => pConvInt IntKind.i32 v9 (fun v10 => pBin Tryd.prog 21 BinOp.andNot v10 v8 (fun v11 => pBin Tryd.prog 21 BinOp.and (Value.int IntKind.i32 65533) v8 (fun v12 => pBin Tryd.prog 21 BinOp.or v11 v12 (fun v13 => R (Value.tuple (⟨[v13, Value.int IntKind.i64 1]⟩)) σ))))))))) (pBin Tryd.prog 5 BinOp.and (g4 0) (Value.int IntKind.u8 7) (fun v14 => pConvInt IntKind.i64 v14 (fun v15 => pBin Tryd.prog 5 BinOp.shr (g4 0) (Value.int IntKind.u64 4) (fun v16 => pIndexArr 16 2 (Value.pointer (Option.some (Addr.mk 5 0 Option.none))) v16 (fun v17 => pLoad w0 2 v17 σ (fun g18 => pVal true 2 (Value.agg (⟨[g18 0, g18 1]⟩)) (pBin Tryd.prog 3 BinOp.lss v0 v15 (fun v19 => pIf v19 (R (Value.tuple (⟨[Value.int IntKind.i32 65533, Value.int IntKind.i64 1]⟩)) σ) (pIndexStr a0 (Value.int IntKind.i64 1) (fun v20 => pBin Tryd.prog 5 BinOp.lss v20 (g18 0) (fun v21 => pIf v21 (R (Value.tuple (⟨[Value.int IntKind.i32 65533, Value.int IntKind.i64 1]⟩)) σ) (pBin Tryd.prog 5 BinOp.lss (g18 1) v20 (fun v22 => pIf v22 (R (Value.tuple (⟨[Value.int IntKind.i32 65533, Value.int IntKind.i64 1]⟩)) σ) (pBin Tryd.prog 3 BinOp.leq v15 (Value.int IntKind.i64 2) (fun v23 => pIf v23 (pBin Tryd.prog 5 BinOp.and v2 (Value.int IntKind.u8 31) (fun v24 => pConvInt IntKind.i32 v24 (fun v25 => pBin Tryd.prog 21 BinOp.shl v25 (Value.int IntKind.u64 6) (fun v26 => pBin Tryd.prog 5 BinOp.and v20 (Value.int IntKind.u8 63) (fun v27 => pConvInt IntKind.i32 v27 (fun v28 => pBin Tryd.prog 21 BinOp.or v26 v28 (fun v29 => R (Value.tuple (⟨[v29, Value.int IntKind.i64 2]⟩)) σ))))))) (pIndexStr a0 (Value.int IntKind.i64 2) (fun v30 => pBin Tryd.prog 5 BinOp.lss v30 (Value.int IntKind.u8 128) (fun v31 => pIf v31 (R (Value.tuple (⟨[Value.int IntKind.i32 65533, Value.int IntKind.i64 1]⟩)) σ) (pBin Tryd.prog 5 BinOp.lss (Value.int IntKind.u8 191) v30 (fun v32 => pIf v32 (R (Value.tuple (⟨[Value.int IntKind.i32 65533, Value.int IntKind.i64 1]⟩)) σ) (pBin Tryd.prog 3 BinOp.leq v15 (Value.int IntKind.i64 3) (fun v33 => pIf v33 (pBin Tryd.prog 5 BinOp.and v2 (Value.int IntKind.u8 15) (fun v34 => pConvInt IntKind.i32 v34 (fun v35 => pBin Tryd.prog 21 BinOp.shl v35 (Value.int IntKind.u64 12) (fun v36 => pBin Tryd.prog 5 BinOp.and v20 (Value.int IntKind.u8 63) (fun v37 => pConvInt IntKind.i32 v37 (fun v38 => pBin Tryd.prog 21 BinOp.shl v38 (Value.int IntKind.u64 6) (fun v39 => pBin Tryd.prog 21 BinOp.or v36 v39 (fun v40 => pBin Tryd.prog 5 BinOp.and v30 (Value.int IntKind.u8 63) (fun v41 => pConvInt IntKind.i32 v41 (fun v42 => pBin Tryd.prog 21 BinOp.or v40 v42 (fun v43 => R (Value.tuple (⟨[v43, Value.int IntKind.i64 3]⟩)) σ))))))))))) (pIndexStr a0 (Value.int IntKind.i64 3) (fun v44 => pBin Tryd.prog 5 BinOp.lss v44 (Value.int IntKind.u8 128) (fun v45 => pIf v45 (R (Value.tuple (⟨[Value.int IntKind.i32 65533, Value.int IntKind.i64 1]⟩)) σ) (pBin Tryd.prog 5 BinOp.lss (Value.int IntKind.u8 191) v44 (fun v46 => pIf v46 (R (Value.tuple (⟨[Value.int IntKind.i32 65533, Value.int IntKind.i64 1]⟩)) σ) (pBin Tryd.prog 5 BinOp.and v2 (Value.int IntKind.u8 7) (fun v47 => pConvInt IntKind.i32 v47 (fun v48 => pBin Tryd.prog 21 BinOp.shl v48 (Value.int IntKind.u64 18) (fun v49 => pBin Tryd.prog 5 BinOp.and v20 (Value.int IntKind.u8 63) (fun v50 => pConvInt IntKind.i32 v50 (fun v51 => pBin Tryd.prog 21 BinOp.shl v51 (Value.int IntKind.u64 12) (fun v52 => pBin Tryd.prog 21 BinOp.or v49 v52 (fun v53 => pBin Tryd.prog 5 BinOp.and v30 (Value.int IntKind.u8 63) (fun v54 => pConvInt IntKind.i32 v54 (fun v55 => pBin Tryd.prog 21 BinOp.shl v55 (Value.int IntKind.u64 6) (fun v56 => pBin Tryd.prog 21 BinOp.or v53 v56 (fun v57 => pBin Tryd.prog 5 BinOp.and v44 (Value.int IntKind.u8 63) (fun v58 => pConvInt IntKind.i32 v58 (fun v59 => pBin Tryd.prog 21 BinOp.or v57 v59 (fun v60 => R (Value.tuple (⟨[v60, Value.int IntKind.i64 4]⟩)) σ)))))))))))))))))))))))))))))))))))))))))))))))))
theorem vc_unicode_utf8_decodeRuneInStringSlow_eq (w0 : World) (a0 : Value) (σ : Vw) (R : Value → Vw → Prop) : vc_unicode_utf8_decodeRuneInStringSlow w0 a0 σ R = den Tryd.prog w0 kp_unicode_utf8_decodeRuneInStringSlow esc_unicode_utf8_decodeRuneInStringSlow (Tryd.f158.body.getD .skip) (entry Tryd.f158.ntmps [a0]) σ (retK Tryd.prog Tryd.f158.results.toList R) := by kernel_rfl
theorem ac_unicode_utf8_decodeRuneInStringSlow {w0 : World} {a0 : Value} {σ : Vw} {R : Value → Vw → Prop} (h : vc_unicode_utf8_decodeRuneInStringSlow w0 a0 σ R) : AC Tryd.prog w0 n_unicode_utf8_decodeRuneInStringSlow [a0] σ R := by
  refine ac_rule (fn := Tryd.f158) (c := Tryd.f158.body.getD .skip) kp_unicode_utf8_decodeRuneInStringSlow esc_unicode_utf8_decodeRuneInStringSlow Tryd.func158 (by kernel_rfl) (by kernel_rfl) ?_
  rw [← vc_unicode_utf8_decodeRuneInStringSlow_eq]
  exact h

/-- internal/stringslite.Clone -/
def kp_internal_stringslite_Clone : Nat → Keep
  | _ => ⟨[], [], [], .done, []⟩
def esc_internal_stringslite_Clone : Nat → Bool
  | _ => false
def vc_internal_stringslite_Clone (w0 : World) (a0 : Value) (σ : Vw) (R : Value → Vw → Prop) : Prop :=
  pLenS a0 (fun v0 => pBin Tryd.prog 3 BinOp.eql v0 (Value.int IntKind.i64 0) (fun v1 => pIf v1 (R (Value.string ({ data := #[] })) σ) (pLenS a0 (fun v2 => pMake w0 5 1 1 [Value.int IntKind.u8 0] v2 v2 σ (fun v3 s4 => False)))))
theorem vc_internal_stringslite_Clone_eq (w0 : World) (a0 : Value) (σ : Vw) (R : Value → Vw → Prop) : vc_internal_stringslite_Clone w0 a0 σ R = den Tryd.prog w0 kp_internal_stringslite_Clone esc_internal_stringslite_Clone (Tryd.f160.body.getD .skip) (entry Tryd.f160.ntmps [a0]) σ (retK Tryd.prog Tryd.f160.results.toList R) := by kernel_rfl
theorem ac_internal_stringslite_Clone {w0 : World} {a0 : Value} {σ : Vw} {R : Value → Vw → Prop} (h : vc_internal_stringslite_Clone w0 a0 σ R) : AC Tryd.prog w0 n_internal_stringslite_Clone [a0] σ R := by
  refine ac_rule (fn := Tryd.f160) (c := Tryd.f160.body.getD .skip) kp_internal_stringslite_Clone esc_internal_stringslite_Clone Tryd.func160 (by kernel_rfl) (by kernel_rfl) ?_
  rw [← vc_internal_stringslite_Clone_eq]
  exact h

/-- errors.New -/
def kp_errors_New : Nat → Keep
  | _ => ⟨[], [], [], .done, []⟩
def esc_errors_New : Nat → Bool
  | 5 => true
  | _ => false
def vc_errors_New (w0 : World) (a0 : Value) (σ : Vw) (R : Value → Vw → Prop) : Prop :=
  pVal false 1 a0 (pVal true 1 (Value.agg ⟨[a0]⟩) (pNew w0 169 [a0] σ (fun n0 s1 => False)))
theorem vc_errors_New_eq (w0 : World) (a0 : Value) (σ : Vw) (R : Value → Vw → Prop) : vc_errors_New w0 a0 σ R = den Tryd.prog w0 kp_errors_New esc_errors_New (Tryd.f161.body.getD .skip) (entry Tryd.f161.ntmps [a0]) σ (retK Tryd.prog Tryd.f161.results.toList R) := by kernel_rfl
theorem ac_errors_New {w0 : World} {a0 : Value} {σ : Vw} {R : Value → Vw → Prop} (h : vc_errors_New w0 a0 σ R) : AC Tryd.prog w0 n_errors_New [a0] σ R := by
  refine ac_rule (fn := Tryd.f161) (c := Tryd.f161.body.getD .skip) kp_errors_New esc_errors_New Tryd.func161 (by kernel_rfl) (by kernel_rfl) ?_
  rw [← vc_errors_New_eq]
  exact h

/-- internal/strconv.log10Pow2 -/
def kp_internal_strconv_log10Pow2 : Nat → Keep
  | _ => ⟨[], [], [], .done, []⟩
def esc_internal_strconv_log10Pow2 : Nat → Bool
  | _ => false
def vc_internal_strconv_log10Pow2 (w0 : World) (a0 : Value) (σ : Vw) (R : Value → Vw → Prop) : Prop :=
  pBin Tryd.prog 3 BinOp.mul a0 (Value.int IntKind.i64 78913) (fun v0 => pBin Tryd.prog 3 BinOp.shr v0 (Value.int IntKind.u64 18) (fun v1 => R v1 σ))
theorem vc_internal_strconv_log10Pow2_eq (w0 : World) (a0 : Value) (σ : Vw) (R : Value → Vw → Prop) : vc_internal_strconv_log10Pow2 w0 a0 σ R = den Tryd.prog w0 kp_internal_strconv_log10Pow2 esc_internal_strconv_log10Pow2 (Tryd.f163.body.getD .skip) (entry Tryd.f163.ntmps [a0]) σ (retK Tryd.prog Tryd.f163.results.toList R) := by kernel_rfl
theorem ac_internal_strconv_log10Pow2 {w0 : World} {a0 : Value} {σ : Vw} {R : Value → Vw → Prop} (h : vc_internal_strconv_log10Pow2 w0 a0 σ R) : AC Tryd.prog w0 n_internal_strconv_log10Pow2 [a0] σ R := by
  refine ac_rule (fn := Tryd.f163) (c := Tryd.f163.body.getD .skip) kp_internal_strconv_log10Pow2 esc_internal_strconv_log10Pow2 Tryd.func163 (by kernel_rfl) (by kernel_rfl) ?_
  rw [← vc_internal_strconv_log10Pow2_eq]
  exact h

/-- math/bits.Len64 -/
def kp_math_bits_Len64 : Nat → Keep
  | _ => ⟨[], [], [], .done, []⟩
def esc_math_bits_Len64 : Nat → Bool
  | _ => false
def vc_math_bits_Len64 (w0 : World) (a0 : Value) (σ : Vw) (R : Value → Vw → Prop) : Prop :=
  pBin Tryd.prog 144 BinOp.geq a0 (Value.int IntKind.u64 4294967296) (fun v0 => pIf v0 (pBin Tryd.prog 144 BinOp.shr a0 (Value.int IntKind.u64 32) (fun v1 => pBin Tryd.prog 144 BinOp.geq v1 (Value.int IntKind.u64 65536) (fun v2 => pIf v2 (pBin Tryd.prog 144 BinOp.shr v1 (Value.int IntKind.u64 16) (fun v3 => pBin Tryd.prog 3 BinOp.add (Value.int IntKind.i64 32) (Value.int IntKind.i64 16) (fun v4 => pBin Tryd.prog 144 BinOp.geq v3 (Value.int IntKind.u64 256) (fun v5 => pIf v5 (pBin Tryd.prog 144 BinOp.shr v3 (Value.int IntKind.u64 8) (fun v6 => pBin Tryd.prog 3 BinOp.add v4 (Value.int IntKind.i64 8) (fun v7 => pConvInt IntKind.u8 v6 (fun v8 => pIndexStr (Value.string ({ data := (([0, 1, 2, 2, 3, 3, 3, 3, 4, 4, 4, 4, 4, 4, 4, 4, 5, 5, 5, 5, 5, 5, 5, 5, 5, 5, 5, 5, 5, 5, 5, 5, 6, 6, 6, 6, 6, 6, 6, 6, 6, 6, 6, 6, 6, 6, 6, 6, 6, 6, 6, 6, 6, 6, 6, 6, 6, 6, 6, 6, 6, 6, 6, 6].append [7, 7, 7, 7, 7, 7, 7, 7, 7, 7, 7, 7, 7, 7, 7, 7, 7, 7, 7, 7, 7, 7, 7, 7, 7, 7, 7, 7, 7, 7, 7, 7, 7, 7, 7, 7, 7, 7, 7, 7, 7, 7, 7, 7, 7, 7, 7, 7, 7, 7, 7, 7, 7, 7, 7, 7, 7, 7, 7, 7, 7, 7, 7, 7]).append ([8, 8, 8, 8, 8, 8, 8, 8, 8, 8, 8, 8, 8, 8, 8, 8, 8, 8, 8, 8, 8, 8, 8, 8, 8, 8, 8, 8, 8, 8, 8, 8, 8, 8, 8, 8, 8, 8, 8, 8, 8, 8, 8, 8, 8, 8, 8, 8, 8, 8, 8, 8, 8, 8, 8, 8, 8, 8, 8, 8, 8, 8, 8, 8].append [8, 8, 8, 8, 8, 8, 8, 8, 8, 8, 8, 8, 8, 8, 8, 8, 8, 8, 8, 8, 8, 8, 8, 8, 8, 8, 8, 8, 8, 8, 8, 8, 8, 8, 8, 8, 8, 8, 8, 8, 8, 8, 8, 8, 8, 8, 8, 8, 8, 8, 8, 8, 8, 8, 8, 8, 8, 8, 8, 8, 8, 8, 8, 8])).toArray })) v8 (fun v9 => pConvInt IntKind.i64 v9 (fun v10 => pBin Tryd.prog 3 BinOp.add v7 v10 (fun v11 => R v11 σ))))))) (pConvInt IntKind.u8 v3 (fun v12 => pIndexStr (Value.string ({ data := (([0, 1, 2, 2, 3, 3, 3, 3, 4, 4, 4, 4, 4, 4, 4, 4, 5, 5, 5, 5, 5, 5, 5, 5, 5, 5, 5, 5, 5, 5, 5, 5, 6, 6, 6, 6, 6, 6, 6, 6, 6, 6, 6, 6, 6, 6, 6, 6, 6, 6, 6, 6, 6, 6, 6, 6, 6, 6, 6, 6, 6, 6, 6, 6].append [7, 7, 7, 7, 7, 7, 7, 7, 7, 7, 7, 7, 7, 7, 7, 7, 7, 7, 7, 7, 7, 7, 7, 7, 7, 7, 7, 7, 7, 7, 7, 7, 7, 7, 7, 7, 7, 7, 7, 7, 7, 7, 7, 7, 7, 7, 7, 7, 7, 7, 7, 7, 7, 7, 7, 7, 7, 7, 7, 7, 7, 7, 7, 7]).append ([8, 8, 8, 8, 8, 8, 8, 8, 8, 8, 8, 8, 8, 8, 8, 8, 8, 8, 8, 8, 8, 8, 8, 8, 8, 8, 8, 8, 8, 8, 8, 8, 8, 8, 8, 8, 8, 8, 8, 8, 8, 8, 8, 8, 8, 8, 8, 8, 8, 8, 8, 8, 8, 8, 8, 8, 8, 8, 8, 8, 8, 8, 8, 8].append [8, 8, 8, 8, 8, 8, 8, 8, 8, 8, 8, 8, 8, 8, 8, 8, 8, 8, 8, 8, 8, 8, 8, 8, 8, 8, 8, 8, 8, 8, 8, 8, 8, 8, 8, 8, 8, 8, 8, 8, 8, 8, 8, 8, 8, 8, 8, 8, 8, 8, 8, 8, 8, 8, 8, 8, 8, 8, 8, 8, 8, 8, 8, 8])).toArray })) v12 (fun v13 => pConvInt IntKind.i64 v13 (fun v14 => pBin Tryd.prog 3 BinOp.add v4 v14 (fun v15 => R v15 σ))))))))) (pBin Tryd.prog 144 BinOp.geq v1 (Value.int IntKind.u64 256) (fun v16 => pIf v16 (pBin Tryd.prog 144 BinOp.shr v1 (Value.int IntKind.u64 8) (fun v17 => pBin Tryd.prog 3 BinOp.add (Value.int IntKind.i64 32) (Value.int IntKind.i64 8) (fun v18 => pConvInt IntKind.u8 v17 (fun v19 => pIndexStr (Value.string ({ data := (([0, 1, 2, 2, 3, 3, 3, 3, 4, 4, 4, 4, 4, 4, 4, 4, 5, 5, 5, 5, 5, 5, 5, 5, 5, 5, 5, 5, 5, 5, 5, 5, 6, 6, 6, 6, 6, 6, 6, 6, 6, 6, 6, 6, 6, 6, 6, 6, 6, 6, 6, 6, 6, 6, 6, 6, 6, 6, 6, 6, 6, 6, 6, 6].append [7, 7, 7, 7, 7, 7, 7, 7, 7, 7, 7, 7, 7, 7, 7, 7, 7, 7, 7, 7, 7, 7, 7, 7, 7, 7, 7, 7, 7, 7, 7, 7, 7, 7, 7, 7, 7, 7, 7, 7, 7, 7, 7, 7, 7, 7, 7, 7, 7, 7, 7, 7, 7, 7, 7, 7, 7, 7, 7, 7, 7, 7, 7, 7]).append ([8, 8, 8, 8, 8, 8, 8, 8, 8, 8, 8, 8, 8, 8, 8, 8, 8, 8, 8, 8, 8, 8, 8, 8, 8, 8, 8, 8, 8, 8, 8, 8, 8, 8, 8, 8, 8, 8, 8, 8, 8, 8, 8, 8, 8, 8, 8, 8, 8, 8, 8, 8, 8, 8, 8, 8, 8, 8, 8, 8, 8, 8, 8, 8].append [8, 8, 8, 8, 8, 8, 8, 8, 8, 8, 8, 8, 8, 8, 8, 8, 8, 8, 8, 8, 8, 8, 8, 8, 8, 8, 8, 8, 8, 8, 8, 8, 8, 8, 8, 8, 8, 8, 8, 8, 8, 8, 8, 8, 8, 8, 8, 8, 8, 8, 8, 8, 8, 8, 8, 8, 8, 8, 8, 8, 8, 8, 8, 8])).toArray })) v19 (fun v20 => pConvInt IntKind.i64 v20 (fun v21 => pBin Tryd.prog 3 BinOp.add v18 v21 (fun v22 => R v22 σ))))))) (pConvInt IntKind.u8 v1 (fun v23 => pIndexStr (Value.string ({ data := (([0, 1, 2, 2, 3, 3, 3, 3, 4, 4, 4, 4, 4, 4, 4, 4, 5, 5, 5, 5, 5, 5, 5, 5, 5, 5, 5, 5, 5, 5, 5, 5, 6, 6, 6, 6, 6, 6, 6, 6, 6, 6, 6, 6, 6, 6, 6, 6, 6, 6, 6, 6, 6, 6, 6, 6, 6, 6, 6, 6, 6, 6, 6, 6].append [7, 7, 7, 7, 7, 7, 7, 7, 7, 7, 7, 7, 7, 7, 7, 7, 7, 7, 7, 7, 7, 7, 7, 7, 7, 7, 7, 7, 7, 7, 7, 7, 7, 7, 7, 7, 7, 7, 7, 7, 7, 7, 7, 7, 7, 7, 7, 7, 7, 7, 7, 7, 7, 7, 7, 7, 7, 7, 7, 7, 7, 7, 7, 7]).append ([8, 8, 8, 8, 8, 8, 8, 8, 8, 8, 8, 8, 8, 8, 8, 8, 8, 8, 8, 8, 8, 8, 8, 8, 8, 8, 8, 8, 8, 8, 8, 8, 8, 8, 8, 8, 8, 8, 8, 8, 8, 8, 8, 8, 8, 8, 8, 8, 8, 8, 8, 8, 8, 8, 8, 8, 8, 8, 8, 8, 8, 8, 8, 8].append [8, 8, 8, 8, 8, 8, 8, 8, 8, 8, 8, 8, 8, 8, 8, 8, 8, 8, 8, 8, 8, 8, 8, 8, 8, 8, 8, 8, 8, 8, 8, 8, 8, 8, 8, 8, 8, 8, 8, 8, 8, 8, 8, 8, 8, 8, 8, 8, 8, 8, 8, 8, 8, 8, 8, 8, 8, 8, 8, 8, 8, 8, 8, 8])).toArray })) v23 (fun v24 => pConvInt IntKind.i64 v24 (fun v25 => pBin Tryd.prog 3 BinOp.add (Value.int IntKind.i64 32) v25 (fun v26 => R v26 σ)))))))))) (pBin Tryd.prog 144 BinOp.geq a0 (Value.int IntKind.u64 65536) (fun v27 => pIf v27 (pBin Tryd.prog 144 BinOp.shr a0 (Value.int IntKind.u64 16) (fun v28 => pBin Tryd.prog 3 BinOp.add (Value.int IntKind.i64 0) (Value.int IntKind.i64 16) (fun v29 => pBin Tryd.prog 144 BinOp.geq v28 (Value.int IntKind.u64 256) (fun v30 => pIf v30 (pBin Tryd.prog 144 BinOp.shr v28 (Value.int IntKind.u64 8) (fun v31 => pBin Tryd.prog 3 BinOp.add v29 (Value.int IntKind.i64 8) (fun v32 => pConvInt IntKind.u8 v31 (fun v33 => pIndexStr (Value.string ({ data := (([0, 1, 2, 2, 3, 3, 3, 3, 4, 4, 4, 4, 4, 4, 4, 4, 5, 5, 5, 5, 5, 5, 5, 5, 5, 5, 5, 5, 5, 5, 5, 5, 6, 6, 6, 6, 6, 6, 6, 6, 6, 6, 6, 6, 6, 6, 6, 6, 6, 6, 6, 6, 6, 6, 6, 6, 6, 6, 6, 6, 6, 6, 6, 6].append [7, 7, 7, 7, 7, 7, 7, 7, 7, 7, 7, 7, 7, 7, 7, 7, 7, 7, 7, 7, 7, 7, 7, 7, 7, 7, 7, 7, 7, 7, 7, 7, 7, 7, 7, 7, 7, 7, 7, 7, 7, 7, 7, 7, 7, 7, 7, 7, 7, 7, 7, 7, 7, 7, 7, 7, 7, 7, 7, 7, 7, 7, 7, 7]).append ([8, 8, 8, 8, 8, 8, 8, 8, 8, 8, 8, 8, 8, 8, 8, 8, 8, 8, 8, 8, 8, 8, 8, 8, 8, 8, 8, 8, 8, 8, 8, 8, 8, 8, 8, 8, 8, 8, 8, 8, 8, 8, 8, 8, 8, 8, 8, 8, 8, 8, 8, 8, 8, 8, 8, 8, 8, 8, 8, 8, 8, 8, 8, 8].append [8, 8, 8, 8, 8, 8, 8, 8, 8, 8, 8, 8, 8, 8, 8, 8, 8, 8, 8, 8, 8, 8, 8, 8, 8, 8, 8, 8, 8, 8, 8, 8, 8, 8, 8, 8, 8, 8, 8, 8, 8, 8, 8, 8, 8, 8, 8, 8, 8, 8, 8, 8, 8, 8, 8, 8, 8, 8, 8, 8, 8, 8, 8, 8])).toArray })) v33 (fun v34 => pConvInt IntKind.i64 v34 (fun v35 => pBin Tryd.prog 3 BinOp.add v32 v35 (fun v36 => R v36 σ))))))) (pConvInt IntKind.u8 v28 (fun v37 => pIndexStr (Value.string ({ data := (([0, 1, 2, 2, 3, 3, 3, 3, 4, 4, 4, 4, 4, 4, 4, 4, 5, 5, 5, 5, 5, 5, 5, 5, 5, 5, 5, 5, 5, 5, 5, 5, 6, 6, 6, 6, 6, 6, 6, 6, 6, 6, 6, 6, 6, 6, 6, 6, 6, 6, 6, 6, 6, 6, 6, 6, 6, 6, 6, 6, 6, 6, 6, 6].append [7, 7, 7, 7, 7, 7, 7, 7, 7, 7, 7, 7, 7, 7, 7, 7, 7, 7, 7, 7, 7, 7, 7, 7, 7, 7, 7, 7, 7, 7, 7, 7, 7, 7, 7, 7, 7, 7, 7, 7, 7, 7, 7, 7, 7, 7, 7, 7, 7, 7, 7, 7, 7, 7, 7, 7, 7, 7, 7, 7, 7, 7, 7, 7]).append ([8, 8, 8, 8, 8, 8, 8, 8, 8, 8, 8, 8, 8, 8, 8, 8, 8, 8, 8, 8, 8, 8, 8, 8, 8, 8, 8, 8, 8, 8, 8, 8, 8, 8, 8, 8, 8, 8, 8, 8, 8, 8, 8, 8, 8, 8, 8, 8, 8, 8, 8, 8, 8, 8, 8, 8, 8, 8, 8, 8, 8, 8, 8, 8].append [8, 8, 8, 8, 8, 8, 8, 8, 8, 8, 8, 8, 8, 8, 8, 8, 8, 8, 8, 8, 8, 8, 8, 8, 8, 8, 8, 8, 8, 8, 8, 8, 8, 8, 8, 8, 8, 8, 8, 8, 8, 8, 8, 8, 8, 8, 8, 8, 8, 8, 8, 8, 8, 8, 8, 8, 8, 8, 8, 8, 8, 8, 8, 8])).toArray })) v37 (fun v38 => pConvInt IntKind.i64 v38 (fun v39 => pBin Tryd.prog 3 BinOp.add v29 v39 (fun v40 => R v40 σ))))))))) (pBin Tryd.prog 144 BinOp.geq a0 (Value.int IntKind.u64 256) (fun v41 => pIf v41 (pBin Tryd.prog 144 BinOp.shr a0 (Value.int IntKind.u64 8) (fun v42 => pBin Tryd.prog 3 BinOp.add (Value.int IntKind.i64 0) (Value.int IntKind.i64 8) (fun v43 => pConvInt IntKind.u8 v42 (fun v44 => pIndexStr (Value.string ({ data := (([0, 1, 2, 2, 3, 3, 3, 3, 4, 4, 4, 4, 4, 4, 4, 4, 5, 5, 5, 5, 5, 5, 5, 5, 5, 5, 5, 5, 5, 5, 5, 5, 6, 6, 6, 6, 6, 6, 6, 6, 6, 6, 6, 6, 6, 6, 6, 6, 6, 6, 6, 6, 6, 6, 6, 6, 6, 6, 6, 6, 6, 6, 6, 6].append [7, 7, 7, 7, 7, 7, 7, 7, 7, 7, 7, 7, 7, 7, 7, 7, 7, 7, 7, 7, 7, 7, 7, 7, 7, 7, 7, 7, 7, 7, 7, 7, 7, 7, 7, 7, 7, 7, 7, 7, 7, 7, 7, 7, 7, 7, 7, 7, 7, 7, 7, 7, 7, 7, 7, 7, 7, 7, 7, 7, 7, 7, 7, 7]).append ([8, 8, 8, 8, 8, 8, 8, 8, 8, 8, 8, 8, 8, 8, 8, 8, 8, 8, 8, 8, 8, 8, 8, 8, 8, 8, 8, 8, 8, 8, 8, 8, 8, 8, 8, 8, 8, 8, 8, 8, 8, 8, 8, 8, 8, 8, 8, 8, 8, 8, 8, 8, 8, 8, 8, 8, 8, 8, 8, 8, 8, 8, 8, 8].append [8, 8, 8, 8, 8, 8, 8, 8, 8, 8, 8, 8, 8, 8, 8, 8, 8, 8, 8, 8, 8, 8, 8, 8, 8, 8, 8, 8, 8, 8, 8, 8, 8, 8, 8, 8, 8, 8, 8, 8, 8, 8, 8, 8, 8, 8, 8, 8, 8, 8, 8, 8, 8, 8, 8, 8, 8, 8, 8, 8, 8, 8, 8, 8])).toArray })) v44 (fun v45 => pConvInt IntKind.i64 v45 (fun v46 => pBin Tryd.prog 3 BinOp.add v43 v46 (fun v47 => R v47 σ))))))) (pConvInt IntKind.u8 a0 (fun v48 => pIndexStr (Value.string ({ data := (([0, 1, 2, 2, 3, 3, 3, 3, 4, 4, 4, 4, 4, 4, 4, 4, 5, 5, 5, 5, 5, 5, 5, 5, 5, 5, 5, 5, 5, 5, 5, 5, 6, 6, 6, 6, 6, 6, 6, 6, 6, 6, 6, 6, 6, 6, 6, 6, 6, 6, 6, 6, 6, 6, 6, 6, 6, 6, 6, 6, 6, 6, 6, 6].append [7, 7, 7, 7, 7, 7, 7, 7, 7, 7, 7, 7, 7, 7, 7, 7, 7, 7, 7, 7, 7, 7, 7, 7, 7, 7, 7, 7, 7, 7, 7, 7, 7, 7, 7, 7, 7, 7, 7, 7, 7, 7, 7, 7, 7, 7, 7, 7, 7, 7, 7, 7, 7, 7, 7, 7, 7, 7, 7, 7, 7, 7, 7, 7]).append ([8, 8, 8, 8, 8, 8, 8, 8, 8, 8, 8, 8, 8, 8, 8, 8, 8, 8, 8, 8, 8, 8, 8, 8, 8, 8, 8, 8, 8, 8, 8, 8, 8, 8, 8, 8, 8, 8, 8, 8, 8, 8, 8, 8, 8, 8, 8, 8, 8, 8, 8, 8, 8, 8, 8, 8, 8, 8, 8, 8, 8, 8, 8, 8].append [8, 8, 8, 8, 8, 8, 8, 8, 8, 8, 8, 8, 8, 8, 8, 8, 8, 8, 8, 8, 8, 8, 8, 8, 8, 8, 8, 8, 8, 8, 8, 8, 8, 8, 8, 8, 8, 8, 8, 8, 8, 8, 8, 8, 8, 8, 8, 8, 8, 8, 8, 8, 8, 8, 8, 8, 8, 8, 8, 8, 8, 8, 8, 8])).toArray })) v48 (fun v49 => pConvInt IntKind.i64 v49 (fun v50 => pBin Tryd.prog 3 BinOp.add (Value.int IntKind.i64 0) v50 (fun v51 => R v51 σ))))))))))
theorem vc_math_bits_Len64_eq (w0 : World) (a0 : Value) (σ : Vw) (R : Value → Vw → Prop) : vc_math_bits_Len64 w0 a0 σ R = den Tryd.prog w0 kp_math_bits_Len64 esc_math_bits_Len64 (Tryd.f164.body.getD .skip) (entry Tryd.f164.ntmps [a0]) σ (retK Tryd.prog Tryd.f164.results.toList R) := by kernel_rfl
theorem ac_math_bits_Len64 {w0 : World} {a0 : Value} {σ : Vw} {R : Value → Vw → Prop} (h : vc_math_bits_Len64 w0 a0 σ R) : AC Tryd.prog w0 n_math_bits_Len64 [a0] σ R := by
  refine ac_rule (fn := Tryd.f164) (c := Tryd.f164.body.getD .skip) kp_math_bits_Len64 esc_math_bits_Len64 Tryd.func164 (by kernel_rfl) (by kernel_rfl) ?_
  rw [← vc_math_bits_Len64_eq]
  exact h

/-- internal/strconv.bool2[int] -/
def kp_internal_strconv_bool2_int : Nat → Keep
  | _ => ⟨[], [], [], .done, []⟩
def esc_internal_strconv_bool2_int : Nat → Bool
  | _ => false
def vc_internal_strconv_bool2_int (w0 : World) (a0 : Value) (σ : Vw) (R : Value → Vw → Prop) : Prop :=
  pIf a0 (R (Value.int IntKind.i64 1) σ) (R (Value.int IntKind.i64 0) σ)
theorem vc_internal_strconv_bool2_int_eq (w0 : World) (a0 : Value) (σ : Vw) (R : Value → Vw → Prop) : vc_internal_strconv_bool2_int w0 a0 σ R = den Tryd.prog w0 kp_internal_strconv_bool2_int esc_internal_strconv_bool2_int (Tryd.f165.body.getD .skip) (entry Tryd.f165.ntmps [a0]) σ (retK Tryd.prog Tryd.f165.results.toList R) := by kernel_rfl
theorem ac_internal_strconv_bool2_int {w0 : World} {a0 : Value} {σ : Vw} {R : Value → Vw → Prop} (h : vc_internal_strconv_bool2_int w0 a0 σ R) : AC Tryd.prog w0 n_internal_strconv_bool2_int [a0] σ R := by
  refine ac_rule (fn := Tryd.f165) (c := Tryd.f165.body.getD .skip) kp_internal_strconv_bool2_int esc_internal_strconv_bool2_int Tryd.func165 (by kernel_rfl) (by kernel_rfl) ?_
  rw [← vc_internal_strconv_bool2_int_eq]
  exact h

/-- internal/strconv.isPowerOfTwo -/
def kp_internal_strconv_isPowerOfTwo : Nat → Keep
  | _ => ⟨[], [], [], .done, []⟩
def esc_internal_strconv_isPowerOfTwo : Nat → Bool
  | _ => false
def vc_internal_strconv_isPowerOfTwo (w0 : World) (a0 : Value) (σ : Vw) (R : Value → Vw → Prop) : Prop :=
  pBin Tryd.prog 3 BinOp.sub a0 (Value.int IntKind.i64 1) (fun v0 => pBin Tryd.prog 3 BinOp.and a0 v0 (fun v1 => pBin Tryd.prog 3 BinOp.eql v1 (Value.int IntKind.i64 0) (fun v2 => R v2 σ)))
theorem vc_internal_strconv_isPowerOfTwo_eq (w0 : World) (a0 : Value) (σ : Vw) (R : Value → Vw → Prop) : vc_internal_strconv_isPowerOfTwo w0 a0 σ R = den Tryd.prog w0 kp_internal_strconv_isPowerOfTwo esc_internal_strconv_isPowerOfTwo (Tryd.f166.body.getD .skip) (entry Tryd.f166.ntmps [a0]) σ (retK Tryd.prog Tryd.f166.results.toList R) := by kernel_rfl
theorem ac_internal_strconv_isPowerOfTwo {w0 : World} {a0 : Value} {σ : Vw} {R : Value → Vw → Prop} (h : vc_internal_strconv_isPowerOfTwo w0 a0 σ R) : AC Tryd.prog w0 n_internal_strconv_isPowerOfTwo [a0] σ R := by
  refine ac_rule (fn := Tryd.f166) (c := Tryd.f166.body.getD .skip) kp_internal_strconv_isPowerOfTwo esc_internal_strconv_isPowerOfTwo Tryd.func166 (by kernel_rfl) (by kernel_rfl) ?_
  rw [← vc_internal_strconv_isPowerOfTwo_eq]
  exact h

/-- math/bits.TrailingZeros -/
def kp_math_bits_TrailingZeros : Nat → Keep
  | _ => ⟨[], [], [], .done, []⟩
def esc_math_bits_TrailingZeros : Nat → Bool
  | _ => false
def vc_math_bits_TrailingZeros (w0 : World) (a0 : Value) (σ : Vw) (R : Value → Vw → Prop) : Prop :=
  AC Tryd.prog w0 n_math_bits_TrailingZeros64 [a0] σ (fun v0 s1 => R v0 s1)
theorem vc_math_bits_TrailingZeros_eq (w0 : World) (a0 : Value) (σ : Vw) (R : Value → Vw → Prop) : vc_math_bits_TrailingZeros w0 a0 σ R = den Tryd.prog w0 kp_math_bits_TrailingZeros esc_math_bits_TrailingZeros (Tryd.f167.body.getD .skip) (entry Tryd.f167.ntmps [a0]) σ (retK Tryd.prog Tryd.f167.results.toList R) := by kernel_rfl
theorem ac_math_bits_TrailingZeros {w0 : World} {a0 : Value} {σ : Vw} {R : Value → Vw → Prop} (h : vc_math_bits_TrailingZeros w0 a0 σ R) : AC Tryd.prog w0 n_math_bits_TrailingZeros [a0] σ R := by
  refine ac_rule (fn := Tryd.f167) (c := Tryd.f167.body.getD .skip) kp_math_bits_TrailingZeros esc_math_bits_TrailingZeros Tryd.func167 (by kernel_rfl) (by kernel_rfl) ?_
  rw [← vc_math_bits_TrailingZeros_eq]
  exact h

/-- internal/strconv.lower -/
def kp_internal_strconv_lower : Nat → Keep
  | _ => ⟨[], [], [], .done, []⟩
def esc_internal_strconv_lower : Nat → Bool
  | _ => false
def vc_internal_strconv_lower (w0 : World) (a0 : Value) (σ : Vw) (R : Value → Vw → Prop) : Prop :=
  pBin Tryd.prog 5 BinOp.or a0 (Value.int IntKind.u8 32) (fun v0 => R v0 σ)
theorem vc_internal_strconv_lower_eq (w0 : World) (a0 : Value) (σ : Vw) (R : Value → Vw → Prop) : vc_internal_strconv_lower w0 a0 σ R = den Tryd.prog w0 kp_internal_strconv_lower esc_internal_strconv_lower (Tryd.f168.body.getD .skip) (entry Tryd.f168.ntmps [a0]) σ (retK Tryd.prog Tryd.f168.results.toList R) := by kernel_rfl
theorem ac_internal_strconv_lower {w0 : World} {a0 : Value} {σ : Vw} {R : Value → Vw → Prop} (h : vc_internal_strconv_lower w0 a0 σ R) : AC Tryd.prog w0 n_internal_strconv_lower [a0] σ R := by
  refine ac_rule (fn := Tryd.f168) (c := Tryd.f168.body.getD .skip) kp_internal_strconv_lower esc_internal_strconv_lower Tryd.func168 (by kernel_rfl) (by kernel_rfl) ?_
  rw [← vc_internal_strconv_lower_eq]
  exact h

/-- math/bits.TrailingZeros32 -/
def kp_math_bits_TrailingZeros32 : Nat → Keep
  | _ => ⟨[], [], [], .done, []⟩
def esc_math_bits_TrailingZeros32 : Nat → Bool
  | _ => false
def vc_math_bits_TrailingZeros32 (w0 : World) (a0 : Value) (σ : Vw) (R : Value → Vw → Prop) : Prop :=
  pBin Tryd.prog 149 BinOp.eql a0 (Value.int IntKind.u32 0) (fun v0 => pIf v0 (R (Value.int IntKind.i64 32) σ) (pUn UnOp.neg a0 (fun v1 => pBin Tryd.prog 149 BinOp.and a0 v1 (fun v2 => pBin Tryd.prog 149 BinOp.mul v2 (Value.int IntKind.u32 125613361) (fun v3 => pBin Tryd.prog 149 BinOp.shr v3 (Value.int IntKind.u64 27) (fun v4 => pIndexArr 32 1 (Value.pointer (Option.some (Addr.mk 6 0 Option.none))) v4 (fun v5 => pLoad w0 1 v5 σ (fun g6 => pConvInt IntKind.i64 (g6 0) (fun v7 => R v7 σ)))))))))
theorem vc_math_bits_TrailingZeros32_eq (w0 : World) (a0 : Value) (σ : Vw) (R : Value → Vw → Prop) : vc_math_bits_TrailingZeros32 w0 a0 σ R = den Tryd.prog w0 kp_math_bits_TrailingZeros32 esc_math_bits_TrailingZeros32 (Tryd.f170.body.getD .skip) (entry Tryd.f170.ntmps [a0]) σ (retK Tryd.prog Tryd.f170.results.toList R) := by kernel_rfl
theorem ac_math_bits_TrailingZeros32 {w0 : World} {a0 : Value} {σ : Vw} {R : Value → Vw → Prop} (h : vc_math_bits_TrailingZeros32 w0 a0 σ R) : AC Tryd.prog w0 n_math_bits_TrailingZeros32 [a0] σ R := by
  refine ac_rule (fn := Tryd.f170) (c := Tryd.f170.body.getD .skip) kp_math_bits_TrailingZeros32 esc_math_bits_TrailingZeros32 Tryd.func170 (by kernel_rfl) (by kernel_rfl) ?_
  rw [← vc_math_bits_TrailingZeros32_eq]
  exact h

/-- math/bits.TrailingZeros64 -/
def kp_math_bits_TrailingZeros64 : Nat → Keep
  | _ => ⟨[], [], [], .done, []⟩
def esc_math_bits_TrailingZeros64 : Nat → Bool
  | _ => false
def vc_math_bits_TrailingZeros64 (w0 : World) (a0 : Value) (σ : Vw) (R : Value → Vw → Prop) : Prop :=
  pBin Tryd.prog 144 BinOp.eql a0 (Value.int IntKind.u64 0) (fun v0 => pIf v0 (R (Value.int IntKind.i64 64) σ) (pUn UnOp.neg a0 (fun v1 => pBin Tryd.prog 144 BinOp.and a0 v1 (fun v2 => pBin Tryd.prog 144 BinOp.mul v2 (Value.int IntKind.u64 285870213051353865) (fun v3 => pBin Tryd.prog 144 BinOp.shr v3 (Value.int IntKind.u64 58) (fun v4 => pIndexArr 64 1 (Value.pointer (Option.some (Addr.mk 7 0 Option.none))) v4 (fun v5 => pLoad w0 1 v5 σ (fun g6 => pConvInt IntKind.i64 (g6 0) (fun v7 => R v7 σ)))))))))
theorem vc_math_bits_TrailingZeros64_eq (w0 : World) (a0 : Value) (σ : Vw) (R : Value → Vw → Prop) : vc_math_bits_TrailingZeros64 w0 a0 σ R = den Tryd.prog w0 kp_math_bits_TrailingZeros64 esc_math_bits_TrailingZeros64 (Tryd.f171.body.getD .skip) (entry Tryd.f171.ntmps [a0]) σ (retK Tryd.prog Tryd.f171.results.toList R) := by kernel_rfl
theorem ac_math_bits_TrailingZeros64 {w0 : World} {a0 : Value} {σ : Vw} {R : Value → Vw → Prop} (h : vc_math_bits_TrailingZeros64 w0 a0 σ R) : AC Tryd.prog w0 n_math_bits_TrailingZeros64 [a0] σ R := by
  refine ac_rule (fn := Tryd.f171) (c := Tryd.f171.body.getD .skip) kp_math_bits_TrailingZeros64 esc_math_bits_TrailingZeros64 Tryd.func171 (by kernel_rfl) (by kernel_rfl) ?_
  rw [← vc_math_bits_TrailingZeros64_eq]
  exact h

/-- gosem.cut.vars -/
def kp_gosem_cut_vars : Nat → Keep
  | _ => ⟨[], [], [], .done, []⟩
def esc_gosem_cut_vars : Nat → Bool
  | _ => false
def vc_gosem_cut_vars (w0 : World) (σ : Vw) (R : Value → Vw → Prop) : Prop :=
  pVal false 1 (Value.int IntKind.u8 0) (pVal false 1 (Value.int IntKind.u8 1) (pVal false 1 (Value.int IntKind.u8 28) (pVal false 1 (Value.int IntKind.u8 2) (pVal false 1 (Value.int IntKind.u8 29) (pVal false 1 (Value.int IntKind.u8 14) (pVal false 1 (Value.int IntKind.u8 24) (pVal false 1 (Value.int IntKind.u8 3) (pVal false 1 (Value.int IntKind.u8 30) (pVal false 1 (Value.int IntKind.u8 22) (pVal false 1 (Value.int IntKind.u8 20) (pVal false 1 (Value.int IntKind.u8 15) (pVal false 1 (Value.int IntKind.u8 25) (pVal false 1 (Value.int IntKind.u8 17) (pVal false 1 (Value.int IntKind.u8 4) (pVal false 1 (Value.int IntKind.u8 8) (pVal false 1 (Value.int IntKind.u8 31) (pVal false 1 (Value.int IntKind.u8 27) (pVal false 1 (Value.int IntKind.u8 13) (pVal false 1 (Value.int IntKind.u8 23) (pVal false 1 (Value.int IntKind.u8 21) (pVal false 1 (Value.int IntKind.u8 19) (pVal false 1 (Value.int IntKind.u8 16) (pVal false 1 (Value.int IntKind.u8 7) (pVal false 1 (Value.int IntKind.u8 26) (pVal false 1 (Value.int IntKind.u8 12) (pVal false 1 (Value.int IntKind.u8 18) (pVal false 1 (Value.int IntKind.u8 6) (pVal false 1 (Value.int IntKind.u8 11) (pVal false 1 (Value.int IntKind.u8 5) (pVal false 1 (Value.int IntKind.u8 10) (pVal false 1 (Value.int IntKind.u8 9) (pVal true 32 (Value.agg (⟨[Value.int IntKind.u8 0, Value.int IntKind.u8 1, Value.int IntKind.u8 28, Value.int IntKind.u8 2, Value.int IntKind.u8 29, Value.int IntKind.u8 14, Value.int IntKind.u8 24, Value.int IntKind.u8 3, Value.int IntKind.u8 30, Value.int IntKind.u8 22, Value.int IntKind.u8 20, Value.int IntKind.u8 15, Value.int IntKind.u8 25, Value.int IntKind.u8 17, Value.int IntKind.u8 4, Value.int IntKind.u8 8, Value.int IntKind.u8 31, Value.int IntKind.u8 27, Value.int IntKind.u8 13, Value.int IntKind.u8 23, Value.int IntKind.u8 21, Value.int IntKind.u8 19, Value.int IntKind.u8 16, Value.int IntKind.u8 7, Value.int IntKind.u8 26, Value.int IntKind.u8 12, Value.int IntKind.u8 18, Value.int IntKind.u8 6, Value.int IntKind.u8 11, Value.int IntKind.u8 5, Value.int IntKind.u8 10, Value.int IntKind.u8 9]⟩)) (pStore (Value.pointer (Option.some (Addr.mk 6 0 Option.none))) [Value.int IntKind.u8 0, Value.int IntKind.u8 1, Value.int IntKind.u8 28, Value.int IntKind.u8 2, Value.int IntKind.u8 29, Value.int IntKind.u8 14, Value.int IntKind.u8 24, Value.int IntKind.u8 3, Value.int IntKind.u8 30, Value.int IntKind.u8 22, Value.int IntKind.u8 20, Value.int IntKind.u8 15, Value.int IntKind.u8 25, Value.int IntKind.u8 17, Value.int IntKind.u8 4, Value.int IntKind.u8 8, Value.int IntKind.u8 31, Value.int IntKind.u8 27, Value.int IntKind.u8 13, Value.int IntKind.u8 23, Value.int IntKind.u8 21, Value.int IntKind.u8 19, Value.int IntKind.u8 16, Value.int IntKind.u8 7, Value.int IntKind.u8 26, Value.int IntKind.u8 12, Value.int IntKind.u8 18, Value.int IntKind.u8 6, Value.int IntKind.u8 11, Value.int IntKind.u8 5, Value.int IntKind.u8 10, Value.int IntKind.u8 9] σ (fun s0 => pVal false 1 (Value.int IntKind.u8 0) (pVal false 1 (Value.int IntKind.u8 1) (pVal false 1 (Value.int IntKind.u8 56) (pVal false 1 (Value.int IntKind.u8 2) (pVal false 1 (Value.int IntKind.u8 57) (pVal false 1 (Value.int IntKind.u8 49) (pVal false 1 (Value.int IntKind.u8 28) (pVal false 1 (Value.int IntKind.u8 3) (pVal false 1 (Value.int IntKind.u8 61) (pVal false 1 (Value.int IntKind.u8 58) (pVal false 1 (Value.int IntKind.u8 42) (pVal false 1 (Value.int IntKind.u8 50) (pVal false 1 (Value.int IntKind.u8 38) (pVal false 1 (Value.int IntKind.u8 29) (pVal false 1 (Value.int IntKind.u8 17) (pVal false 1 (Value.int IntKind.u8 4) (pVal false 1 (Value.int IntKind.u8 62) (pVal false 1 (Value.int IntKind.u8 47) (pVal false 1 (Value.int IntKind.u8 59) (pVal false 1 (Value.int IntKind.u8 36) (pVal false 1 (Value.int IntKind.u8 45) (pVal false 1 (Value.int IntKind.u8 43) (pVal false 1 (Value.int IntKind.u8 51) (pVal false 1 (Value.int IntKind.u8 22) (pVal false 1 (Value.int IntKind.u8 53) (pVal false 1 (Value.int IntKind.u8 39) (pVal false 1 (Value.int IntKind.u8 33) (pVal false 1 (Value.int IntKind.u8 30) (pVal false 1 (Value.int IntKind.u8 24) (pVal false 1 (Value.int IntKind.u8 18) (pVal false 1 (Value.int IntKind.u8 12) (pVal false 1 (Value.int IntKind.u8 5) (pVal false 1 (Value.int IntKind.u8 63) (pVal false 1 (Value.int IntKind.u8 55) (pVal false 1 (Value.int IntKind.u8 48) (pVal false 1 (Value.int IntKind.u8 27) (pVal false 1 (Value.int IntKind.u8 60) (pVal false 1 (Value.int IntKind.u8 41) (pVal false 1 (Value.int IntKind.u8 37) (pVal false 1 (Value.int IntKind.u8 16) (pVal false 1 (Value.int IntKind.u8 46) (pVal false 1 (Value.int IntKind.u8 35) (pVal false 1 (Value.int IntKind.u8 44) (pVal false 1 (Value.int IntKind.u8 21) (pVal false 1 (Value.int IntKind.u8 52) (pVal false 1 (Value.int IntKind.u8 32) (pVal false 1 (Value.int IntKind.u8 23) (pVal false 1 (Value.int IntKind.u8 11) (pVal false 1 (Value.int IntKind.u8 54) (pVal false 1 (Value.int IntKind.u8 26) (pVal false 1 (Value.int IntKind.u8 40) (pVal false 1 (Value.int IntKind.u8 15) (pVal false 1 (Value.int IntKind.u8 34) (pVal false 1 (Value.int IntKind.u8 20) (pVal false 1 (Value.int IntKind.u8 31) (pVal false 1 (Value.int IntKind.u8 10) (pVal false 1 (Value.int IntKind.u8 25) (pVal false 1 (Value.int IntKind.u8 14) (pVal false 1 (Value.int IntKind.u8 19) (pVal false 1 (Value.int IntKind.u8 9) (pVal false 1 (Value.int IntKind.u8 13) (pVal false 1 (Value.int IntKind.u8 8) (pVal false 1 (Value.int IntKind.u8 7) (pVal false 1 (Value.int IntKind.u8 6) (pVal true 64 (Value.agg (⟨[Value.int IntKind.u8 0, Value.int IntKind.u8 1, Value.int IntKind.u8 56, Value.int IntKind.u8 2, Value.int IntKind.u8 57, Value.int IntKind.u8 49, Value.int IntKind.u8 28, Value.int IntKind.u8 3, Value.int IntKind.u8 61, Value.int IntKind.u8 58, Value.int IntKind.u8 42, Value.int IntKind.u8 50, Value.int IntKind.u8 38, Value.int IntKind.u8 29, Value.int IntKind.u8 17, Value.int IntKind.u8 4, Value.int IntKind.u8 62, Value.int IntKind.u8 47, Value.int IntKind.u8 59, Value.int IntKind.u8 36, Value.int IntKind.u8 45, Value.int IntKind.u8 43, Value.int IntKind.u8 51, Value.int IntKind.u8 22, Value.int IntKind.u8 53, Value.int IntKind.u8 39, Value.int IntKind.u8 33, Value.int IntKind.u8 30, Value.int IntKind.u8 24, Value.int IntKind.u8 18, Value.int IntKind.u8 12, Value.int IntKind.u8 5, Value.int IntKind.u8 63, Value.int IntKind.u8 55, Value.int IntKind.u8 48, Value.int IntKind.u8 27, Value.int IntKind.u8 60, Value.int IntKind.u8 41, Value.int IntKind.u8 37, Value.int IntKind.u8 16, Value.int IntKind.u8 46, Value.int IntKind.u8 35, Value.int IntKind.u8 44, Value.int IntKind.u8 21, Value.int IntKind.u8 52, Value.int IntKind.u8 32, Value.int IntKind.u8 23, Value.int IntKind.u8 11, Value.int IntKind.u8 54, Value.int IntKind.u8 26, Value.int IntKind.u8 40, Value.int IntKind.u8 15, Value.int IntKind.u8 34, Value.int IntKind.u8 20, Value.int IntKind.u8 31, Value.int IntKind.u8 10, Value.int IntKind.u8 25, Value.int IntKind.u8 14, Value.int IntKind.u8 19, Value.int IntKind.u8 9, Value.int IntKind.u8 13, Value.int IntKind.u8 8, Value.int IntKind.u8 7, Value.int IntKind.u8 6]⟩)) (pStore (Value.pointer (Option.some (Addr.mk 7 0 Option.none))) [Value.int IntKind.u8 0, Value.int IntKind.u8 1, Value.int IntKind.u8 56, Value.int IntKind.u8 2, Value.int IntKind.u8 57, Value.int IntKind.u8 49, Value.int IntKind.u8 28, Value.int IntKind.u8 3, Value.int IntKind.u8 61, Value.int IntKind.u8 58, Value.int IntKind.u8 42, Value.int IntKind.u8 50, Value.int IntKind.u8 38, Value.int IntKind.u8 29, Value.int IntKind.u8 17, Value.int IntKind.u8 4, Value.int IntKind.u8 62, Value.int IntKind.u8 47, Value.int IntKind.u8 59, Value.int IntKind.u8 36, Value.int IntKind.u8 45, Value.int IntKind.u8 43, Value.int IntKind.u8 51, Value.int IntKind.u8 22, Value.int IntKind.u8 53, Value.int IntKind.u8 39, Value.int IntKind.u8 33, Value.int IntKind.u8 30, Value.int IntKind.u8 24, Value.int IntKind.u8 18, Value.int IntKind.u8 12, Value.int IntKind.u8 5, Value.int IntKind.u8 63, Value.int IntKind.u8 55, Value.int IntKind.u8 48, Value.int IntKind.u8 27, Value.int IntKind.u8 60, Value.int IntKind.u8 41, Value.int IntKind.u8 37, Value.int IntKind.u8 16, Value.int IntKind.u8 46, Value.int IntKind.u8 35, Value.int IntKind.u8 44, Value.int IntKind.u8 21, Value.int IntKind.u8 52, Value.int IntKind.u8 32, Value.int IntKind.u8 23, Value.int IntKind.u8 11, Value.int IntKind.u8 54, Value.int IntKind.u8 26, Value.int IntKind.u8 40, Value.int IntKind.u8 15, Value.int IntKind.u8 34, Value.int IntKind.u8 20, Value.int IntKind.u8 31, Value.int IntKind.u8 10, Value.int IntKind.u8 25, Value.int IntKind.u8 14, Value.int IntKind.u8 19, Value.int IntKind.u8 9, Value.int IntKind.u8 13, Value.int IntKind.u8 8, Value.int IntKind.u8 7, Value.int IntKind.u8 6] s0 (fun s1 => pVal false 1 (Value.int IntKind.u64 1) (pVal false 1 (Value.int IntKind.u64 10) (pVal false 1 (Value.int IntKind.u64 100) (pVal false 1 (Value.int IntKind.u64 1000) (pVal false 1 (Value.int IntKind.u64 10000) (pVal false 1 (Value.int IntKind.u64 100000) (pVal false 1 (Value.int IntKind.u64 1000000) (pVal false 1 (Value.int IntKind.u64 10000000) (pVal false 1 (Value.int IntKind.u64 100000000) (pVal false 1 (Value.int IntKind.u64 1000000000) (pVal false 1 (Value.int IntKind.u64 10000000000) (pVal false 1 (Value.int IntKind.u64 100000000000) (pVal false 1 (Value.int IntKind.u64 1000000000000) (pVal false 1 (Value.int IntKind.u64 10000000000000) (pVal false 1 (Value.int IntKind.u64 100000000000000) (pVal false 1 (Value.int IntKind.u64 1000000000000000) (pVal false 1 (Value.int IntKind.u64 10000000000000000) (pVal false 1 (Value.int IntKind.u64 100000000000000000) (pVal false 1 (Value.int IntKind.u64 1000000000000000000) (pVal false 1 (Value.int IntKind.u64 10000000000000000000) (pVal true 20 (Value.agg (⟨[Value.int IntKind.u64 1, Value.int IntKind.u64 10, Value.int IntKind.u64 100, Value.int IntKind.u64 1000, Value.int IntKind.u64 10000, Value.int IntKind.u64 100000, Value.int IntKind.u64 1000000, Value.int IntKind.u64 10000000, Value.int IntKind.u64 100000000, Value.int IntKind.u64 1000000000, Value.int IntKind.u64 10000000000, Value.int IntKind.u64 100000000000, Value.int IntKind.u64 1000000000000, Value.int IntKind.u64 10000000000000, Value.int IntKind.u64 100000000000000, Value.int IntKind.u64 1000000000000000, Value.int IntKind.u64 10000000000000000, Value.int IntKind.u64 100000000000000000, Value.int IntKind.u64 1000000000000000000, Value.int IntKind.u64 10000000000000000000]⟩)) (pStore (Value.pointer (Option.some (Addr.mk 3 0 Option.none))) [Value.int IntKind.u64 1, Value.int IntKind.u64 10, Value.int IntKind.u64 100, Value.int IntKind.u64 1000, Value.int IntKind.u64 10000, Value.int IntKind.u64 100000, Value.int IntKind.u64 1000000, Value.int IntKind.u64 10000000, Value.int IntKind.u64 100000000, Value.int IntKind.u64 1000000000, Value.int IntKind.u64 10000000000, Value.int IntKind.u64 100000000000, Value.int IntKind.u64 1000000000000, Value.int IntKind.u64 10000000000000, Value.int IntKind.u64 100000000000000, Value.int IntKind.u64 1000000000000000, Value.int IntKind.u64 10000000000000000, Value.int IntKind.u64 100000000000000000, Value.int IntKind.u64 1000000000000000000, Value.int IntKind.u64 10000000000000000000] s1 (fun s2 => pVal false 1 (Value.int IntKind.u8 128) (pVal false 1 (Value.int IntKind.u8 191) (pVal false 1 (Value.int IntKind.u8 160) (pVal false 1 (Value.int IntKind.u8 191) (pVal false 1 (Value.int IntKind.u8 128) (pVal false 1 (Value.int IntKind.u8 159) (pVal false 1 (Value.int IntKind.u8 144) (pVal false 1 (Value.int IntKind.u8 191) (pVal false 1 (Value.int IntKind.u8 128) (pVal false 1 (Value.int IntKind.u8 143) (pVal true 2 (Value.agg (⟨[Value.int IntKind.u8 128, Value.int IntKind.u8 191]⟩)) (pVal true 2 (Value.agg (⟨[Value.int IntKind.u8 160, Value.int IntKind.u8 191]⟩)) (pVal true 2 (Value.agg (⟨[Value.int IntKind.u8 128, Value.int IntKind.u8 159]⟩)) (pVal true 2 (Value.agg (⟨[Value.int IntKind.u8 144, Value.int IntKind.u8 191]⟩)) (pVal true 2 (Value.agg (⟨[Value.int IntKind.u8 128, Value.int IntKind.u8 143]⟩)) (pVal true 32 (Value.agg (⟨[Value.int IntKind.u8 128, Value.int IntKind.u8 191, Value.int IntKind.u8 160, Value.int IntKind.u8 191, Value.int IntKind.u8 128, Value.int IntKind.u8 159, Value.int IntKind.u8 144, Value.int IntKind.u8 191, Value.int IntKind.u8 128, Value.int IntKind.u8 143, Value.int IntKind.u8 0, Value.int IntKind.u8 0, Value.int IntKind.u8 0, Value.int IntKind.u8 0, Value.int IntKind.u8 0, Value.int IntKind.u8 0, Value.int IntKind.u8 0, Value.int IntKind.u8 0, Value.int IntKind.u8 0, Value.int IntKind.u8 0, Value.int IntKind.u8 0, Value.int IntKind.u8 0, Value.int IntKind.u8 0, Value.int IntKind.u8 0, Value.int IntKind.u8 0, Value.int IntKind.u8 0, Value.int IntKind.u8 0, Value.int IntKind.u8 0, Value.int IntKind.u8 0, Value.int IntKind.u8 0, Value.int IntKind.u8 0, Value.int IntKind.u8 0]⟩)) (pStore (Value.pointer (Option.some (Addr.mk 5 0 Option.none))) [Value.int IntKind.u8 128, Value.int IntKind.u8 191, Value.int IntKind.u8 160, Value.int IntKind.u8 191, Value.int IntKind.u8 128, Value.int IntKind.u8 159, Value.int IntKind.u8 144, Value.int IntKind.u8 191, Value.int IntKind.u8 128, Value.int IntKind.u8 143, Value.int IntKind.u8 0, Value.int IntKind.u8 0, Value.int IntKind.u8 0, Value.int IntKind.u8 0, Value.int IntKind.u8 0, Value.int IntKind.u8 0, Value.int IntKind.u8 0, Value.int IntKind.u8 0, Value.int IntKind.u8 0, Value.int IntKind.u8 0, Value.int IntKind.u8 0, Value.int IntKind.u8 0, Value.int IntKind.u8 0, Value.int IntKind.u8 0, Value.int IntKind.u8 0, Value.int IntKind.u8 0, Value.int IntKind.u8 0, Value.int IntKind.u8 0, Value.int IntKind.u8 0, Value.int IntKind.u8 0, Value.int IntKind.u8 0, Value.int IntKind.u8 0] s2 (fun s3 => AC Tryd.prog w0 n_errors_New ([Value.string ({ data := #[118, 97, 108, 117, 101, 32, 111, 117, 116, 32, 111, 102, 32, 114, 97, 110, 103, 101] })]) s3 (fun v4 s5 => pVal false 1 v4 (pStore (Value.pointer (Option.some (Addr.mk 2 0 Option.none))) [v4] s5 (fun s6 => AC Tryd.prog w0 n_errors_New ([Value.string ({ data := #[105, 110, 118, 97, 108, 105, 100, 32, 115, 121, 110, 116, 97, 120] })]) s6 (fun v7 s8 => pVal false 1 v7 (pStore (Value.pointer (Option.some (Addr.mk 1 0 Option.none))) [v7] s8 (fun s9 => R (Value.tuple ⟨[]⟩) s9)))))))))))))))))))))))))))))))))))))))))))))))))))))))))))))))))))))))))))))))))))))))))))))))))))))))))))))))))))))))))))))))))))))))))))))))))
theorem vc_gosem_cut_vars_eq (w0 : World) (σ : Vw) (R : Value → Vw → Prop) : vc_gosem_cut_vars w0 σ R = den Tryd.prog w0 kp_gosem_cut_vars esc_gosem_cut_vars (Tryd.f201.body.getD .skip) (entry Tryd.f201.ntmps []) σ (retK Tryd.prog Tryd.f201.results.toList R) := by kernel_rfl
theorem ac_gosem_cut_vars {w0 : World} {σ : Vw} {R : Value → Vw → Prop} (h : vc_gosem_cut_vars w0 σ R) : AC Tryd.prog w0 n_gosem_cut_vars [] σ R := by
  refine ac_rule (fn := Tryd.f201) (c := Tryd.f201.body.getD .skip) kp_gosem_cut_vars esc_gosem_cut_vars Tryd.func201 (by kernel_rfl) (by kernel_rfl) ?_
  rw [← vc_gosem_cut_vars_eq]
  exact h

end Go.Proofs.YtlbpnfhhoalenaaDoor

/- What each function owes: all parts. MADE BY PROGRAM (emit.py). -/


/- The lists of texts: their size, their copy, their comparison. -/
set_option linter.unusedVariables false
set_option linter.unusedSimpArgs false
namespace Go.Proofs.YtlbpnfhhoalenaaDoor
open Go Go.Av

section
variable {w0 : World} {σ : Vw}

def sumS : List ByteArray → Nat
  | [] => 0
  | s :: r => s.size + sumS r
theorem sumS_take {xs : List ByteArray} : ∀ {j : Nat} {x : ByteArray}, xs[j]? = some x → sumS (xs.take (j + 1)) = sumS (xs.take j) + x.size := by
  induction xs with
  | nil => intro j x h; simp at h
  | cons a r ih =>
    intro j x h
    cases j with
    | zero => simp at h; subst h; simp [sumS]
    | succ j =>
      simp at h
      have := ih h
      simp only [List.take_succ_cons, sumS, this]
      omega
theorem sumS_le {xs : List ByteArray} : ∀ (j : Nat), sumS (xs.take j) ≤ sumS xs := by
  induction xs with
  | nil => intro j; simp [sumS]
  | cons a r ih =>
    intro j
    cases j with
    | zero => simp [sumS]
    | succ j => have := ih j; simp only [List.take_succ_cons, sumS]; omega

/-- What is left of n. -/
def left (n : Int) (t : Nat) : Int := if n - t < 0 then -1 else n - t

theorem szStringS {v : Value} {xs : List ByteArray} {n : Int} (h : RSl 1 RS (Av.get w0 σ) v xs) (hn : 0 ≤ n ∧ n ≤ 9223372036854775807) {R : Value → Vw → Prop} (hR : R (.int .i64 (left n (xs.length + sumS xs))) σ) : AC Tryd.prog w0 n_laws_szStringS [v, .int .i64 n] σ R := by
  refine ac_laws_szStringS ?_
  unfold vc_laws_szStringS
  have hl : xs.length ≤ 9223372036854775807 := by obtain ⟨_, _, _, h2, _⟩ := h; exact Nat.le_trans h2.1 h2.2
  rw [h.len, pBin_sub (by omega), pBin_lt, pIf_d]
  refine ⟨fun hlt => ?_, fun hge => ?_⟩
  · have : left n (xs.length + sumS xs) = -1 := by unfold left; rw [if_pos (by omega)]
    rw [this] at hR; exact hR
  · refine loop_rule (m := xs.length) (fun m l s => ∃ j, s = σ ∧ m + j = xs.length ∧ 0 ≤ n - xs.length - sumS (xs.take j) ∧ l = [v, .int .i64 (n - xs.length - sumS (xs.take j)), .int .i64 0, .int .i64 (j : Nat)]) ?_ ⟨0, rfl, by omega, by simp [sumS]; omega, by simp [sumS]⟩
    rintro m l s L ⟨j, rfl, hm, h0, rfl⟩ hL
    simp only [vget, List.getD_cons_zero, List.getD_cons_succ]
    rw [h.len, pBin_lt, pIf_d]
    refine ⟨fun hj => ?_, fun hj => ?_⟩
    · have hj' : j < xs.length := by omega
      have hx := List.getElem?_eq_getElem hj'
      refine h.at hx fun g hg => ?_
      obtain ⟨hg, hs⟩ := hg
      simp only [expl, List.cons.injEq, and_true] at hg
      have ht := sumS_take hx
      have hle := sumS_le (xs := xs) (j + 1)
      rw [hg, pLenS_s, pBin_sub (by omega), pBin_lt, pIf_d]
      refine ⟨fun hlt => ?_, fun hge => ?_⟩
      · have : left n (xs.length + sumS xs) = -1 := by unfold left; rw [if_pos (by omega)]
        rw [this] at hR; exact hR
      · rw [pBin_add (by omega)]
        refine hL _ _ (m - 1) (by omega) ⟨j + 1, rfl, by omega, by omega, ?_⟩
        rw [ht]
        congr 2
        · congr 1; omega
    · have hj' : j = xs.length := by omega
      subst hj'
      rw [List.take_length] at h0 ⊢
      have : left n (xs.length + sumS xs) = n - xs.length - sumS xs := by unfold left; rw [if_neg (by omega)]; omega
      rw [this] at hR
      exact hR
end
end Go.Proofs.YtlbpnfhhoalenaaDoor

/- The lists of texts: their copy, their comparison. -/
set_option linter.unusedVariables false
set_option linter.unusedSimpArgs false
namespace Go.Proofs.YtlbpnfhhoalenaaDoor
open Go Go.Av

section
variable {w0 : World} {σ : Vw}


theorem toStringS {v : Value} {xs : List ByteArray} (h : RSl 1 RS (Av.get w0 σ) v xs) (hb : xs.length ≤ 1000000000000) {R : Value → Vw → Prop}
    (hR : ∀ b ety, w0.heap.size ≤ b → σ b = none → R (.slice (some ⟨b, 0, none⟩) xs.length xs.length) (σ.put b ⟨ety, xs.map .string, xs.length, (0, 0)⟩)) : AC Tryd.prog w0 n_laws_toStringS [v] σ R := by
  refine ac_laws_toStringS ?_
  unfold vc_laws_toStringS
  rw [h.len]
  refine pMake_s (by omega) (by omega) fun b ety h1 h2 => ?_
  refine loop_rule (m := xs.length) (fun m l s => ∃ j, m + j = xs.length ∧ s = σ.put b ⟨ety, (xs.take j).map .string ++ List.replicate m (.string ⟨#[]⟩), xs.length * 1, (0, 0)⟩ ∧ l = [v, .slice (some ⟨b, 0, none⟩) xs.length xs.length, .int .i64 (j : Nat)]) ?_ ⟨0, by omega, by simp, rfl⟩
  rintro m l s L ⟨j, hm, rfl, rfl⟩ hL
  simp only [vget, List.getD_cons_zero, List.getD_cons_succ]
  rw [h.len, pBin_lt, pIf_d]
  refine ⟨fun hj => ?_, fun hj => ?_⟩
  · have hj' : j < xs.length := by omega
    have hx := List.getElem?_eq_getElem hj'
    refine RSl.at (h.mono (Keeps.put h2).le fun _ _ h => h) hx fun g hg => ?_
    obtain ⟨hg, hs⟩ := hg
    simp only [expl, List.cons.injEq, and_true] at hg
    obtain ⟨m', rfl⟩ : ∃ m', m = m' + 1 := ⟨m - 1, by omega⟩
    rw [hg]
    have e1 : ∀ A : Prop, pVal false 1 (.string xs[j]) A = A := fun A => propext (pVal1 rfl)
    simp only [e1]
    refine own_store (r := ⟨ety, (xs.take j).map .string ++ List.replicate (m' + 1) (.string ⟨#[]⟩), xs.length * 1, (0, 0)⟩) (A := (xs.take j).map .string) (old := [.string ⟨#[]⟩]) (new := [.string xs[j]]) (C := List.replicate m' (.string ⟨#[]⟩)) put_at (by simp [List.replicate_succ]) (by simp; omega) rfl rfl hj' ?_
    rw [pBin_add (by omega)]
    refine hL _ _ m' rfl ⟨j + 1, by omega, ?_, rfl⟩
    rw [put_put, List.take_add_one, hx]
    simp only [Option.toList_some, List.map_append, List.map_cons, List.map_nil, List.append_assoc]
  · have hj' : j = xs.length := by omega
    subst hj'
    have : m = 0 := by omega
    subst this
    have := hR b ety h1 h2
    simpa using this

theorem eqStringS {v v' : Value} {xs ys : List ByteArray} (h : RSl 1 RS (Av.get w0 σ) v xs) (h' : RSl 1 RS (Av.get w0 σ) v' ys) {R : Value → Vw → Prop} (hR : R (.bool (decide (xs = ys))) σ) : AC Tryd.prog w0 n_laws_eqStringS [v, v'] σ R := by
  refine ac_laws_eqStringS ?_
  unfold vc_laws_eqStringS
  have hl : xs.length ≤ 9223372036854775807 := by obtain ⟨_, _, _, h2, _⟩ := h; exact Nat.le_trans h2.1 h2.2
  rw [h.len, h'.len, pBin_ne, pIf_d]
  refine ⟨fun hne => ?_, fun heq => ?_⟩
  · have : xs ≠ ys := fun e => hne (by rw [e])
    simpa [this] using hR
  · have hlen : xs.length = ys.length := by omega
    refine loop_rule (m := xs.length) (fun m l s => ∃ j, s = σ ∧ m + j = xs.length ∧ xs.take j = ys.take j ∧ l = [v, v', .bool false, .int .i64 (j : Nat)]) ?_ ⟨0, rfl, by omega, by simp, rfl⟩
    rintro m l s L ⟨j, rfl, hm, ht, rfl⟩ hL
    simp only [vget, List.getD_cons_zero, List.getD_cons_succ]
    rw [h.len, pBin_lt, pIf_d]
    refine ⟨fun hj => ?_, fun hj => ?_⟩
    · have hj' : j < xs.length := by omega
      have hx := List.getElem?_eq_getElem hj'
      have hy := List.getElem?_eq_getElem (show j < ys.length by omega)
      refine h.at hx fun g hg => ?_
      obtain ⟨hg, hs⟩ := hg
      simp only [expl, List.cons.injEq, and_true] at hg
      refine h'.at hy fun g' hg' => ?_
      obtain ⟨hg', hs'⟩ := hg'
      simp only [expl, List.cons.injEq, and_true] at hg'
      rw [hg, hg', pBin_sne, pIf_d]
      refine ⟨fun hne => ?_, fun heq => ?_⟩
      · have : xs ≠ ys := fun e => by subst e; exact hne rfl
        simpa [this] using hR
      · rw [pBin_add (by omega)]
        have heq' : xs[j] = ys[j] := Decidable.not_not.1 heq
        refine hL _ _ (m - 1) (by omega) ⟨j + 1, rfl, by omega, ?_, rfl⟩
        rw [List.take_add_one, List.take_add_one, hx, hy, ht, heq']
    · have hj' : j = xs.length := by omega
      subst hj'
      rw [List.take_length, hlen, List.take_length] at ht
      subst ht
      simpa using hR
end
end Go.Proofs.YtlbpnfhhoalenaaDoor

/- The lists of texts in rows of their own; marks (a path and a bool) and their lists: size, copy, comparison. -/
set_option linter.unusedVariables false
set_option linter.unusedSimpArgs false
namespace Go.Proofs.YtlbpnfhhoalenaaDoor
open Go Go.Av

/-- A text needs no row. -/
def OStr (σ : Vw) (F : List Nat) (es : List Value) (s : ByteArray) : Prop := F = [] ∧ es = [.string s] ∧ s.size ≤ 9223372036854775807

section
variable {w0 : World} {σ : Vw}

theorem ok_str (w0 : World) : OOk w0 1 RS OStr := by
  refine ⟨?_, ?_, ?_, ?_, ?_, ?_⟩
  · rintro σ F es x ⟨_, h1, h2⟩; exact ⟨h1, h2⟩
  · rintro σ σ' F es x h _; exact h
  · rintro σ F es x ⟨rfl, _, _⟩ b hb; cases hb
  · rintro σ F es x ⟨rfl, _, _⟩; exact List.nodup_nil
  · rintro σ F es x ⟨_, rfl, _⟩; rfl
  · rintro σ F es x ⟨_, rfl, _⟩ c hc; rw [List.mem_singleton.1 hc]; rfl

abbrev OStrs (w0 : World) := OSl w0 1 OStr
theorem mono_rs {rd rd' : Addr → Option Value} {es : List Value} {x : ByteArray} (_ : Le rd rd') (h : RS rd es x) : RS rd' es x := h

theorem strs_le {rd : Addr → Option Value} {v : Value} {xs : List ByteArray} (h : RSl 1 RS rd v xs) : ∀ x, x ∈ xs → x.size ≤ 9223372036854775807 := by
  obtain ⟨A, cap, _, _, h3⟩ := h
  intro x hx
  obtain ⟨j, hj⟩ := List.getElem?_of_mem hx
  obtain ⟨a, es, _, _, _, h4⟩ := h3 j x hj
  exact h4.2

theorem flat_strs (xs : List ByteArray) : xs.map Value.string = (xs.map fun s => [Value.string s]).flatten := by
  induction xs with
  | nil => rfl
  | cons a r ih => simp [ih]

theorem own_strs {b cap : Nat} {r : Row} {xs : List ByteArray} (hb : w0.heap.size ≤ b) (hr : σ b = some r) (hc : r.cells = xs.map .string) (hm : xs.length ≤ cap ∧ cap ≤ 9223372036854775807) (hs : ∀ x, x ∈ xs → x.size ≤ 9223372036854775807) : OStrs w0 σ [b] (.slice (some ⟨b, 0, none⟩) xs.length cap) xs := by
  have hnil : (List.replicate xs.length ([] : List Nat)).flatten = [] := by simp
  refine ⟨Nat.le_trans hm.1 hm.2, by simp, .inr ⟨b, 0, cap, r, [], [], xs.map fun s => [.string s], List.replicate xs.length [], rfl, hm, hb, hr, by rw [hc, flat_strs]; simp, rfl, by simp, by simp, by rw [hnil], fun j c x f e1 e2 e3 => ?_⟩⟩
  rw [List.getElem?_map, e2] at e1
  cases e1
  refine ⟨?_, rfl, hs x (List.mem_of_getElem? e2)⟩
  rw [List.getElem?_replicate] at e3
  split at e3
  · cases e3; rfl
  · cases e3

theorem toStringS' {v : Value} {xs : List ByteArray} (h : RSl 1 RS (Av.get w0 σ) v xs) (hb : xs.length ≤ 1000000000000) {R : Value → Vw → Prop}
    (hR : ∀ v' F σ', Keeps σ σ' → OStrs w0 σ' F v' xs → (∀ b, b ∈ F → σ b = none) → R v' σ') : AC Tryd.prog w0 n_laws_toStringS [v] σ R :=
  toStringS h hb fun b ety h1 h2 => hR _ [b] _ (Keeps.put h2) (own_strs h1 put_at rfl ⟨Nat.le_refl _, h.le⟩ (strs_le h)) fun i hi => by rw [List.mem_singleton.1 hi]; exact h2

/-- A mark: a path, and a bool. -/
abbrev Mk := List ByteArray × Bool
def RMk (rd : Addr → Option Value) (es : List Value) (m : Mk) : Prop := ∃ v, es = [v, .bool m.2] ∧ RSl 1 RS rd v m.1
def OMk (w0 : World) (σ : Vw) (F : List Nat) (es : List Value) (m : Mk) : Prop := ∃ v, es = [v, .bool m.2] ∧ OStrs w0 σ F v m.1
def szMk (m : Mk) : Nat := m.1.length + sumS m.1

theorem OSl.one' {α : Type} {n : Nat} {O : Vw → List Nat → List Value → α → Prop} {F : List Nat} {v : Value} {xs : List α} (h : OSl w0 n O σ F v xs) : v.oneCell' = true := by
  obtain ⟨_, _, ⟨rfl, _⟩ | ⟨_, _, _, _, _, _, _, _, rfl, _⟩⟩ := h <;> rfl

theorem ok_mk (w0 : World) : OOk w0 2 RMk (OMk w0) := by
  refine ⟨?_, ?_, ?_, ?_, ?_, ?_⟩
  · rintro σ F es x ⟨v, h1, h2⟩; exact ⟨v, h1, h2.rel (ok_str w0)⟩
  · rintro σ σ' F es x ⟨v, h1, h2⟩ hF; exact ⟨v, h1, h2.frame (ok_str w0) hF⟩
  · rintro σ F es x ⟨v, h1, h2⟩; exact h2.dom (ok_str w0)
  · rintro σ F es x ⟨v, h1, h2⟩; exact h2.2.1
  · rintro σ F es x ⟨v, rfl, h2⟩; rfl
  · rintro σ F es x ⟨v, rfl, h2⟩ c hc
    simp at hc
    rcases hc with rfl | rfl
    · exact OSl.one' h2
    · rfl
theorem mono_mk {rd rd' : Addr → Option Value} {es : List Value} {x : Mk} (hl : Le rd rd') (h : RMk rd es x) : RMk rd' es x := by
  obtain ⟨v, h1, h2⟩ := h; exact ⟨v, h1, h2.mono hl fun _ _ h => h⟩

theorem sumS_eq (xs : List ByteArray) : sumS xs = sumBy ByteArray.size xs := by
  induction xs with
  | nil => rfl
  | cons a r ih => simp [sumS, sumBy, ih]

theorem eqMark {es es' : List Value} {x y : Mk} {R : Value → Vw → Prop} (h : RMk (Av.get w0 σ) es x) (h' : RMk (Av.get w0 σ) es' y) (hR : R (.bool (decide (x = y))) σ) : AC Tryd.prog w0 n_laws_eqMark [.agg ⟨es⟩, .agg ⟨es'⟩] σ R := by
  obtain ⟨v, rfl, h2⟩ := h
  obtain ⟨v', rfl, h2'⟩ := h'
  refine ac_laws_eqMark ?_
  unfold vc_laws_eqMark
  rw [pVal_2 h2.one rfl, pVal_2 h2'.one rfl]
  refine eqStringS h2 h2' ?_
  obtain ⟨a, p⟩ := x
  obtain ⟨b, q⟩ := y
  have eb : ∀ K : Value → Prop, pBin Tryd.prog 4 .neq (.bool p) (.bool q) K ↔ K (.bool !(p == q)) := fun K => pBin_b (by kernel_rfl) rfl
  rw [pUn_not, pIf_b]
  simp only [cellOf_agg, List.getD_cons_zero, List.getD_cons_succ]
  rw [eb, pIf_b]
  by_cases e1 : a = b
  · subst e1
    by_cases e2 : p = q
    · subst e2; simpa using hR
    · simpa [e2] using hR
  · simpa [e1] using hR

theorem eqMarkS {v v' : Value} {xs ys : List Mk} (h : RSl 2 RMk (Av.get w0 σ) v xs) (h' : RSl 2 RMk (Av.get w0 σ) v' ys) {R : Value → Vw → Prop} (hR : R (.bool (decide (xs = ys))) σ) : AC Tryd.prog w0 n_laws_eqMarkS [v, v'] σ R := by
  refine ac_laws_eqMarkS ?_
  have e : vc_laws_eqMarkS w0 v v' σ R = VeqS Tryd.prog w0 3 2 n_laws_eqMark v v' σ R := by kernel_rfl
  rw [e]
  exact eqS_gen (fun x _ y es es' R' h h' hR => eqMark h h' hR) h h' hR
end
end Go.Proofs.YtlbpnfhhoalenaaDoor

/- Names: their letters and their length. -/
set_option linter.unusedVariables false
set_option linter.unusedSimpArgs false
namespace Go.Proofs.YtlbpnfhhoalenaaDoor
open Go Go.Av

theorem pIndexStr_s {s : ByteArray} {j : Nat} {K : Value → Prop} (h : j < s.size) (hK : K (.int .u8 ((s[j]'h).toNat : Int))) : pIndexStr (.string s) (.int .i64 j) K :=
  ⟨s, .i64, j, rfl, rfl, by omega, h, hK⟩

def okB (n : Nat) : Prop := (97 ≤ n ∧ n ≤ 122) ∨ (48 ≤ n ∧ n ≤ 57)
/-- Within two bounds. -/
def inB (n lo hi : Int) : Bool := decide (lo ≤ n ∧ n ≤ hi)
def lettersOk (s : ByteArray) : Prop := ∀ (i : Nat) (h : i < s.size), okB (s[i]'h).toNat
open Classical in
noncomputable def nameOk (s : ByteArray) : Bool := decide (lettersOk s) && inB s.size 1 5

section
variable {w0 : World} {σ : Vw}

theorem spec_In {n lo hi : Int} {R : Value → Vw → Prop} (hR : R (.bool (inB n lo hi)) σ) : AC Tryd.prog w0 n_spec_l1In [.int .i64 n, .int .i64 lo, .int .i64 hi] σ R := by
  refine ac_spec_l1In ?_
  unfold vc_spec_l1In
  rw [pBin_ge, pIf_d]
  refine ⟨fun h => ?_, fun h => ?_⟩
  · rw [pBin_le]
    have : inB n lo hi = decide (n ≤ hi) := by simp [inB, h]
    rw [this] at hR; exact hR
  · have : inB n lo hi = false := by simp [inB, h]
    rw [this] at hR; exact hR
theorem impl_within {n lo hi : Int} {R : Value → Vw → Prop} (hR : R (.bool (inB n lo hi)) σ) : AC Tryd.prog w0 n_impl_within [.int .i64 n, .int .i64 lo, .int .i64 hi] σ R := by
  refine ac_impl_within ?_
  unfold vc_impl_within
  rw [pBin_ge, pIf_d]
  refine ⟨fun h => ?_, fun h => ?_⟩
  · rw [pBin_le]
    have : inB n lo hi = decide (n ≤ hi) := by simp [inB, h]
    rw [this] at hR; exact hR
  · have : inB n lo hi = false := by simp [inB, h]
    rw [this] at hR; exact hR

theorem nameOk_bad {s : ByteArray} {j : Nat} (h : j < s.size) (hb : ¬ okB (s[j]'h).toNat) : nameOk s = false := by
  have : ¬ lettersOk s := fun h' => hb (h' j h)
  simp [nameOk, this]
theorem nameOk_good {s : ByteArray} (h : lettersOk s) : nameOk s = inB s.size 1 5 := by simp [nameOk, h]

theorem spec_nameOk {s : ByteArray} (hs : s.size ≤ 9223372036854775807) {R : Value → Vw → Prop} (hR : R (.bool (nameOk s)) σ) : AC Tryd.prog w0 n_spec_l1NameOk [.string s] σ R := by
  refine ac_spec_l1NameOk ?_
  unfold vc_spec_l1NameOk
  refine loop_rule (m := s.size) (fun m l t => ∃ j, t = σ ∧ m + j = s.size ∧ (∀ (i : Nat) (h : i < s.size), i < j → okB (s[i]'h).toNat) ∧ l = [.string s, .bool false, .int .i64 (j : Nat)]) ?_ ⟨0, rfl, by omega, fun i h h' => by omega, rfl⟩
  rintro m l t L ⟨j, rfl, hm, ht, rfl⟩ hL
  simp only [vget, List.getD_cons_zero, List.getD_cons_succ]
  rw [pLenS_s, pBin_lt, pIf_d]
  refine ⟨fun hj => ?_, fun hj => ?_⟩
  · have hj' : j < s.size := by omega
    have bad : ¬ okB (s[j]'hj').toNat → R (.bool false) t := fun h => by rw [nameOk_bad hj' h] at hR; exact hR
    have good : okB (s[j]'hj').toNat → L [.string s, .bool false, .int .i64 ((j + 1 : Nat) : Int)] t := fun h => hL _ _ (m - 1) (by omega) ⟨j + 1, rfl, by omega, fun i hi hij => by
      by_cases e : i = j
      · subst e; exact h
      · exact ht i hi (by omega), rfl⟩
    have add : ∀ K : Value → Prop, pBin Tryd.prog 3 .add (.int .i64 j) (.int .i64 1) K ↔ K (.int .i64 ((j + 1 : Nat) : Int)) := fun K => pBin_add (by omega)
    have idx : ∀ K : Value → Prop, K (.int .u8 ((s[j]'hj').toNat : Int)) → pIndexStr (.string s) (.int .i64 j) K := fun K hK => pIndexStr_s hj' hK
    simp only [add, pUn_not, pIf_b, Bool.not_true, Bool.not_false, forall_const, Bool.false_eq_true, false_imp_iff, true_imp_iff, true_and, and_true, reduceCtorEq]
    refine idx _ ?_
    rw [pBin_ge, pIf_d]
    refine ⟨fun h1 => idx _ ?_, fun h1 => idx _ ?_⟩
    · rw [pBin_le, pIf_d]
      refine ⟨fun h2 => good (.inl ⟨by omega, by omega⟩), fun h2 => idx _ ?_⟩
      rw [pBin_ge, pIf_d]
      refine ⟨fun h3 => idx _ ?_, fun h3 => bad fun h => by unfold okB at h; omega⟩
      rw [pBin_le, pUn_not, pIf_b]
      refine ⟨fun h4 => bad fun h => ?_, fun h4 => good ?_⟩
      · unfold okB at h; simp at h4; omega
      · simp at h4; exact .inr ⟨by omega, by omega⟩
    · rw [pBin_ge, pIf_d]
      refine ⟨fun h3 => idx _ ?_, fun h3 => bad fun h => by unfold okB at h; omega⟩
      rw [pBin_le, pUn_not, pIf_b]
      refine ⟨fun h4 => bad fun h => ?_, fun h4 => good ?_⟩
      · unfold okB at h; simp at h4; omega
      · simp at h4; exact .inr ⟨by omega, by omega⟩
  · have hj' : j = s.size := by omega
    subst hj'
    show pLenS (.string s) _
    rw [pLenS_s]
    refine spec_In ?_
    rw [nameOk_good fun i h => ht i h h] at hR
    exact hR

theorem impl_nameOk {s : ByteArray} (hs : s.size ≤ 9223372036854775807) {R : Value → Vw → Prop} (hR : R (.bool (nameOk s)) σ) : AC Tryd.prog w0 n_impl_nameOk [.string s] σ R := by
  refine ac_impl_nameOk ?_
  unfold vc_impl_nameOk
  rw [pLenS_s]
  refine loop_rule (m := s.size) (fun m l t => ∃ j, t = σ ∧ m + j = s.size ∧ (∀ (i : Nat) (h : i < s.size), i < j → okB (s[i]'h).toNat) ∧ l = [.string s, .bool false, .int .i64 s.size, .int .i64 (j : Nat)]) ?_ ⟨0, rfl, by omega, fun i h h' => by omega, rfl⟩
  rintro m l t L ⟨j, rfl, hm, ht, rfl⟩ hL
  simp only [vget, List.getD_cons_zero, List.getD_cons_succ]
  rw [pBin_lt, pIf_d]
  refine ⟨fun hj => ?_, fun hj => ?_⟩
  · have hj' : j < s.size := by omega
    have bad : ¬ okB (s[j]'hj').toNat → R (.bool false) t := fun h => by rw [nameOk_bad hj' h] at hR; exact hR
    have good : okB (s[j]'hj').toNat → L [.string s, .bool false, .int .i64 s.size, .int .i64 ((j + 1 : Nat) : Int)] t := fun h => hL _ _ (m - 1) (by omega) ⟨j + 1, rfl, by omega, fun i hi hij => by
      by_cases e : i = j
      · subst e; exact h
      · exact ht i hi (by omega), rfl⟩
    have add : ∀ K : Value → Prop, pBin Tryd.prog 3 .add (.int .i64 j) (.int .i64 1) K ↔ K (.int .i64 ((j + 1 : Nat) : Int)) := fun K => pBin_add (by omega)
    have idx : ∀ K : Value → Prop, K (.int .u8 ((s[j]'hj').toNat : Int)) → pIndexStr (.string s) (.int .i64 j) K := fun K hK => pIndexStr_s hj' hK
    simp only [add]
    refine idx _ ?_
    rw [pBin_lt, pIf_d]
    refine ⟨fun h1 => idx _ ?_, fun h1 => idx _ ?_⟩
    · rw [pBin_lt, pIf_d]
      refine ⟨fun h2 => bad fun h => by unfold okB at h; omega, fun h2 => idx _ ?_⟩
      rw [pBin_gt, pIf_d]
      exact ⟨fun h3 => bad fun h => by unfold okB at h; omega, fun h3 => good (.inr ⟨by omega, by omega⟩)⟩
    · rw [pBin_gt, pIf_d]
      refine ⟨fun h2 => idx _ ?_, fun h2 => good (.inl ⟨by omega, by omega⟩)⟩
      rw [pBin_lt, pIf_d]
      refine ⟨fun h2 => bad fun h => by unfold okB at h; omega, fun h2 => idx _ ?_⟩
      rw [pBin_gt, pIf_d]
      exact ⟨fun h3 => bad fun h => by unfold okB at h; omega, fun h3 => good (.inr ⟨by omega, by omega⟩)⟩
  · have hj' : j = s.size := by omega
    subst hj'
    show pLenS (.string s) _
    rw [pLenS_s]
    refine impl_within ?_
    rw [nameOk_good fun i h => ht i h h] at hR
    exact hR
end
end Go.Proofs.YtlbpnfhhoalenaaDoor

/- Paths: their names, their order, what lies within what. -/
set_option linter.unusedVariables false
set_option linter.unusedSimpArgs false
namespace Go.Proofs.YtlbpnfhhoalenaaDoor
open Go Go.Av

def strLt (a b : ByteArray) : Bool := Op.bytesLess a.toList b.toList
theorem bl_irrefl : ∀ (a : List UInt8), Op.bytesLess a a = false
  | [] => rfl
  | x :: r => by simp [Op.bytesLess, bl_irrefl r]
theorem bl_total : ∀ (a b : List UInt8), Op.bytesLess a b = false → Op.bytesLess b a = false → a = b
  | [], [], _, _ => rfl
  | [], _ :: _, h, _ => by simp [Op.bytesLess] at h
  | _ :: _, [], _, h => by simp [Op.bytesLess] at h
  | x :: r, y :: q, h, h' => by
    simp only [Op.bytesLess] at h h'
    by_cases e : x = y
    · subst e
      simp at h h'
      rw [bl_total r q h h']
    · exfalso
      rcases UInt8.lt_or_lt_of_ne e with h1 | h1
      · simp [h1] at h
      · simp [h1] at h'
theorem strLt_irrefl (a : ByteArray) : strLt a a = false := bl_irrefl _
theorem strLt_total {a b : ByteArray} (h : strLt a b = false) (h' : strLt b a = false) : a = b := bytes_inj (bl_total _ _ h h')

noncomputable def allNames : List ByteArray → Bool
  | [] => true
  | s :: r => nameOk s && allNames r
theorem allNames_iff {xs : List ByteArray} : allNames xs = true ↔ ∀ (j : Nat) (x : ByteArray), xs[j]? = some x → nameOk x = true := by
  induction xs with
  | nil => simp [allNames]
  | cons a r ih =>
    simp only [allNames, Bool.and_eq_true, ih]
    constructor
    · rintro ⟨h1, h2⟩ j x hj
      cases j with
      | zero => simp at hj; subst hj; exact h1
      | succ j => exact h2 j x (by simpa using hj)
    · intro h
      exact ⟨h 0 a rfl, fun j x hj => h (j + 1) x (by simpa using hj)⟩
theorem allNames_bad {xs : List ByteArray} {j : Nat} {x : ByteArray} (hj : xs[j]? = some x) (h : nameOk x = false) : allNames xs = false := by
  cases hc : allNames xs with
  | false => rfl
  | true => have := allNames_iff.1 hc j x hj; rw [h] at this; cases this

def lexLt : List ByteArray → List ByteArray → Bool
  | _, [] => false
  | [], _ :: _ => true
  | a :: r, b :: q => if a = b then lexLt r q else strLt a b

theorem lexLt_at : ∀ {j : Nat} {xs ys : List ByteArray} {a b : ByteArray}, xs.take j = ys.take j → xs[j]? = some a → ys[j]? = some b → a ≠ b → lexLt xs ys = strLt a b
  | 0, x :: xs, y :: ys, a, b, _, h1, h2, h3 => by simp at h1 h2; subst h1 h2; simp [lexLt, h3]
  | j + 1, x :: xs, y :: ys, a, b, h, h1, h2, h3 => by
    simp only [List.take_succ_cons, List.cons.injEq] at h
    obtain ⟨rfl, h⟩ := h
    simp only [lexLt, if_true]
    exact lexLt_at h (by simpa using h1) (by simpa using h2) h3
  | _, [], _, a, b, _, h1, _, _ => by simp at h1
  | _, _ :: _, [], a, b, _, _, h2, _ => by simp at h2
theorem lexLt_end : ∀ {j : Nat} {xs ys : List ByteArray}, xs.take j = ys.take j → (j = xs.length ∧ j ≤ ys.length ∨ j = ys.length ∧ j ≤ xs.length) → lexLt xs ys = decide (xs.length < ys.length)
  | 0, xs, ys, _, h => by
    rcases h with ⟨h, _⟩ | ⟨h, _⟩
    · have : xs = [] := List.length_eq_zero_iff.1 h.symm
      subst this
      cases ys <;> simp [lexLt]
    · have : ys = [] := List.length_eq_zero_iff.1 h.symm
      subst this
      simp [lexLt]
  | j + 1, x :: xs, y :: ys, h, hl => by
    simp only [List.take_succ_cons, List.cons.injEq] at h
    obtain ⟨rfl, h⟩ := h
    simp only [lexLt, if_true, List.length_cons]
    rw [lexLt_end h (by simp at hl; omega)]
    simp
  | j + 1, [], ys, _, hl => by simp at hl
  | j + 1, _ :: _, [], _, hl => by simp at hl

/-- The path b lies at or under a. -/
def within (b a : List ByteArray) : Bool := decide (a.length ≤ b.length ∧ b.take a.length = a)


section
variable {w0 : World} {σ : Vw}

theorem pBin_slt {P : Program} {T : Nat} {a b : ByteArray} {K : Value → Prop} : pBin P T .lss (.string a) (.string b) K ↔ K (.bool (strLt a b)) := pBin_s rfl
theorem pBin_sgt {P : Program} {T : Nat} {a b : ByteArray} {K : Value → Prop} : pBin P T .gtr (.string a) (.string b) K ↔ K (.bool (!(strLt a b || decide (a = b)))) := pBin_s (by simp only [astr, toList_eq]; rfl)

theorem RSl.at1 {v : Value} {xs : List ByteArray} (h : RSl 1 RS (Av.get w0 σ) v xs) {j : Nat} {x : ByteArray} (hj : xs[j]? = some x) {K : (Nat → Value) → Prop} (hK : ∀ g : Nat → Value, g 0 = .string x → x.size ≤ 9223372036854775807 → K g) :
    pIndexAddr 1 v (.int .i64 j) fun p => pLoad w0 1 p σ K := by
  refine h.at hj fun g hg => ?_
  obtain ⟨hg, hs⟩ := hg
  simp only [expl, List.cons.injEq, and_true] at hg
  exact hK g hg hs

theorem spec_PathOk {v : Value} {xs : List ByteArray} (h : RSl 1 RS (Av.get w0 σ) v xs) {R : Value → Vw → Prop} (hR : R (.bool (allNames xs && inB xs.length 1 4)) σ) : AC Tryd.prog w0 n_spec_l2PathOk [v] σ R := by
  refine ac_spec_l2PathOk ?_
  unfold vc_spec_l2PathOk
  have hl := h.le
  refine loop_rule (m := xs.length) (fun m l t => ∃ j, t = σ ∧ m + j = xs.length ∧ (∀ (i : Nat) (x : ByteArray), i < j → xs[i]? = some x → nameOk x = true) ∧ l = [v, .bool false, .int .i64 (j : Nat)]) ?_ ⟨0, rfl, by omega, fun i x h => by omega, rfl⟩
  rintro m l t L ⟨j, rfl, hm, ht, rfl⟩ hL
  simp only [vget, List.getD_cons_zero, List.getD_cons_succ]
  rw [h.len, pBin_lt, pIf_d]
  refine ⟨fun hj => ?_, fun hj => ?_⟩
  · have hj' : j < xs.length := by omega
    have hx := List.getElem?_eq_getElem hj'
    refine RSl.at1 h hx fun g hg hs => ?_
    rw [hg]
    refine spec_nameOk hs ?_
    rw [pUn_not, pIf_b]
    refine ⟨fun hb => ?_, fun hb => ?_⟩
    · rw [allNames_bad hx (by simpa using hb)] at hR; exact hR
    · rw [pBin_add (by omega)]
      refine hL _ _ (m - 1) (by omega) ⟨j + 1, rfl, by omega, fun i x hi he => ?_, rfl⟩
      by_cases e : i = j
      · subst e; rw [hx] at he; cases he; simpa using hb
      · exact ht i x (by omega) he
  · have hj' : j = xs.length := by omega
    subst hj'
    show pLen v _
    rw [h.len]
    refine spec_In ?_
    rw [allNames_iff.2 fun i x he => ht i x (List.getElem?_eq_some_iff.1 he).1 he] at hR
    exact hR

theorem impl_namesOk {v : Value} {xs : List ByteArray} {lo : Int} (h : RSl 1 RS (Av.get w0 σ) v xs) {R : Value → Vw → Prop} (hR : R (.bool (allNames xs && inB xs.length lo 4)) σ) : AC Tryd.prog w0 n_impl_namesOk [v, .int .i64 lo] σ R := by
  refine ac_impl_namesOk ?_
  unfold vc_impl_namesOk
  have hl := h.le
  rw [h.len]
  refine loop_rule (m := xs.length) (fun m l t => ∃ j, t = σ ∧ m + j = xs.length ∧ (∀ (i : Nat) (x : ByteArray), i < j → xs[i]? = some x → nameOk x = true) ∧ l = [v, .int .i64 lo, .bool false, v, .int .i64 xs.length, .int .i64 (j : Nat)]) ?_ ⟨0, rfl, by omega, fun i x h => by omega, rfl⟩
  rintro m l t L ⟨j, rfl, hm, ht, rfl⟩ hL
  simp only [vget, List.getD_cons_zero, List.getD_cons_succ]
  rw [pBin_lt, pIf_d]
  refine ⟨fun hj => ?_, fun hj => ?_⟩
  · have hj' : j < xs.length := by omega
    have hx := List.getElem?_eq_getElem hj'
    refine RSl.at1 h hx fun g hg hs => ?_
    rw [hg]
    refine impl_nameOk hs ?_
    rw [pUn_not, pIf_b]
    refine ⟨fun hb => ?_, fun hb => ?_⟩
    · rw [allNames_bad hx (by simpa using hb)] at hR; exact hR
    · rw [pBin_add (by omega)]
      refine hL _ _ (m - 1) (by omega) ⟨j + 1, rfl, by omega, fun i x hi he => ?_, rfl⟩
      by_cases e : i = j
      · subst e; rw [hx] at he; cases he; simpa using hb
      · exact ht i x (by omega) he
  · have hj' : j = xs.length := by omega
    subst hj'
    show pLen v _
    rw [h.len]
    refine impl_within ?_
    rw [allNames_iff.2 fun i x he => ht i x (List.getElem?_eq_some_iff.1 he).1 he] at hR
    exact hR
end
end Go.Proofs.YtlbpnfhhoalenaaDoor

/- Paths: their order, what lies within what; marks. -/
set_option linter.unusedVariables false
set_option linter.unusedSimpArgs false
namespace Go.Proofs.YtlbpnfhhoalenaaDoor
open Go Go.Av

section
variable {w0 : World} {σ : Vw}

theorem spec_Less {v v' : Value} {xs ys : List ByteArray} (h : RSl 1 RS (Av.get w0 σ) v xs) (h' : RSl 1 RS (Av.get w0 σ) v' ys) {R : Value → Vw → Prop} (hR : R (.bool (lexLt xs ys)) σ) : AC Tryd.prog w0 n_spec_l11Less [v, v'] σ R := by
  refine ac_spec_l11Less ?_
  unfold vc_spec_l11Less
  have hl := h.le
  refine loop_rule (m := xs.length) (fun m l t => ∃ j, t = σ ∧ m + j = xs.length ∧ j ≤ ys.length ∧ xs.take j = ys.take j ∧ l = [v, v', .bool false, .int .i64 (j : Nat)]) ?_ ⟨0, rfl, by omega, by omega, by simp, rfl⟩
  rintro m l t L ⟨j, rfl, hm, hy, ht, rfl⟩ hL
  simp only [vget, List.getD_cons_zero, List.getD_cons_succ]
  have fin : j = xs.length ∨ j = ys.length → pLen v (fun v21 => pLen v' (fun v22 => pBin Tryd.prog 3 .lss v21 v22 (fun v23 => R v23 t))) := by
    intro hj
    rw [h.len, h'.len, pBin_lt]
    rw [lexLt_end ht (by omega)] at hR
    have : (decide (xs.length < ys.length)) = decide ((xs.length : Int) < ys.length) := by congr 1; apply propext; omega
    rw [this] at hR; exact hR
  rw [h.len, pBin_lt, pIf_d]
  refine ⟨fun hj => ?_, fun hj => fin (.inl (by omega))⟩
  rw [h'.len, pBin_lt, pIf_d]
  refine ⟨fun hj2 => ?_, fun hj2 => fin (.inr (by omega))⟩
  have hx := List.getElem?_eq_getElem (show j < xs.length by omega)
  have hy' := List.getElem?_eq_getElem (show j < ys.length by omega)
  refine RSl.at1 h hx fun g hg hs => ?_
  refine RSl.at1 h' hy' fun g' hg' hs' => ?_
  rw [hg, hg', pBin_sne, pIf_d]
  refine ⟨fun hne => ?_, fun heq => ?_⟩
  · refine RSl.at1 h hx fun g hg hs => ?_
    refine RSl.at1 h' hy' fun g' hg' hs' => ?_
    rw [hg, hg', pBin_slt]
    rw [lexLt_at ht hx hy' hne] at hR; exact hR
  · have heq' := Decidable.not_not.1 heq
    rw [pBin_add (by omega)]
    exact hL _ _ (m - 1) (by omega) ⟨j + 1, rfl, by omega, by omega, by rw [List.take_add_one, List.take_add_one, hx, hy', ht, heq'], rfl⟩

/-- What Go's comparison of texts gives. -/
def cmpS (a b : ByteArray) : Int := if strLt a b then -1 else if a = b then 0 else 1
theorem cmp_Compare {a b : ByteArray} {R : Value → Vw → Prop} (hR : R (.int .i64 (cmpS a b)) σ) : AC Tryd.prog w0 n_cmp_Compare_string [.string a, .string b] σ R := by
  refine ac_cmp_Compare_string ?_
  unfold vc_cmp_Compare_string
  have nan : ∀ (a : ByteArray) (s : Vw) (K : Value → Vw → Prop), K (.bool false) s → AC Tryd.prog w0 n_cmp_isNaN_string [.string a] s K := fun a s K hK => by
    refine ac_cmp_isNaN_string ?_
    unfold vc_cmp_isNaN_string
    rw [pBin_sne]; simpa using hK
  refine nan _ _ _ (nan _ _ _ ?_)
  rw [pIf_b, pIf_b, pIf_b]
  refine ⟨nofun, fun _ => ⟨nofun, fun _ => ?_⟩⟩
  rw [pBin_slt, pIf_b]
  refine ⟨fun h => by simpa [cmpS, h] using hR, fun h => ?_⟩
  rw [pBin_sgt, pIf_b]
  by_cases e : a = b
  · subst e; simpa [cmpS, h] using hR
  · simpa [cmpS, h, e] using hR

theorem Compare {v v' : Value} {xs ys : List ByteArray} (h : RSl 1 RS (Av.get w0 σ) v xs) (h' : RSl 1 RS (Av.get w0 σ) v' ys) {R : Value → Vw → Prop} (hR : ∀ c : Int, (c < 0 ↔ lexLt xs ys = true) → R (.int .i64 c) σ) : AC Tryd.prog w0 n_slices_Compare_string_string [v, v'] σ R := by
  refine ac_slices_Compare_string_string ?_
  unfold vc_slices_Compare_string_string
  have hl := h.le
  rw [h.len]
  refine loop_rule (m := xs.length) (fun m l t => ∃ j, t = σ ∧ m + j = xs.length ∧ j ≤ ys.length ∧ xs.take j = ys.take j ∧ l = [v, v', .int .i64 0, v, .int .i64 xs.length, .int .i64 (j : Nat)]) ?_ ⟨0, rfl, by omega, by omega, by simp, rfl⟩
  rintro m l t L ⟨j, rfl, hm, hy, ht, rfl⟩ hL
  simp only [vget, List.getD_cons_zero, List.getD_cons_succ]
  rw [pBin_lt, pIf_d]
  refine ⟨fun hj => ?_, fun hj => ?_⟩
  · have hx := List.getElem?_eq_getElem (show j < xs.length by omega)
    refine RSl.at1 h hx fun g hg hs => ?_
    rw [h'.len, pBin_ge, pIf_d]
    refine ⟨fun hj2 => ?_, fun hj2 => ?_⟩
    · refine hR 1 ?_
      rw [lexLt_end ht (by omega)]
      simp; omega
    · have hy' := List.getElem?_eq_getElem (show j < ys.length by omega)
      refine RSl.at1 h' hy' fun g' hg' hs' => ?_
      rw [hg, hg']
      refine cmp_Compare ?_
      rw [pBin_ne, pIf_d]
      refine ⟨fun hne => ?_, fun heq => ?_⟩
      · refine hR _ ?_
        have hab : xs[j] ≠ ys[j] := fun e => by
          apply hne
          rw [e, cmpS, strLt_irrefl]; simp
        rw [lexLt_at ht hx hy' hab]
        unfold cmpS
        cases hlt : strLt xs[j] ys[j] <;> simp [hab]
      · have heq' : xs[j] = ys[j] := by
          unfold cmpS at heq
          split at heq
          · simp at heq
          · split at heq
            · assumption
            · simp at heq
        rw [pBin_add (by omega)]
        exact hL _ _ (m - 1) (by omega) ⟨j + 1, rfl, by omega, by omega, by rw [List.take_add_one, List.take_add_one, hx, hy', ht, heq'], rfl⟩
  · have hj' : j = xs.length := by omega
    show pLen v _
    rw [h.len, h'.len, pBin_lt, pIf_d]
    have e := lexLt_end ht (by omega)
    refine ⟨fun hlt => hR (-1) ?_, fun hlt => hR 0 ?_⟩
    · rw [e]; simp; omega
    · rw [e]; simp; omega

theorem within_false {xs ys : List ByteArray} {j : Nat} {a b : ByteArray} (hx : xs[j]? = some a) (hy : ys[j]? = some b) (h : a ≠ b) : within xs ys = false := by
  unfold within
  simp only [decide_eq_false_iff_not]
  rintro ⟨h1, h2⟩
  have hlt := (List.getElem?_eq_some_iff.1 hy).1
  rw [← h2, List.getElem?_take_of_lt hlt, hx] at hy
  cases hy; exact h rfl

theorem spec_Within {v v' : Value} {xs ys : List ByteArray} (h : RSl 1 RS (Av.get w0 σ) v xs) (h' : RSl 1 RS (Av.get w0 σ) v' ys) {R : Value → Vw → Prop} (hR : R (.bool (within xs ys)) σ) : AC Tryd.prog w0 n_spec_l2Within [v, v'] σ R := by
  refine ac_spec_l2Within ?_
  unfold vc_spec_l2Within
  have hl := h'.le
  rw [h.len, h'.len, pBin_lt, pIf_d]
  refine ⟨fun hlt => ?_, fun hge => ?_⟩
  · have : within xs ys = false := by unfold within; simp; omega
    rw [this] at hR; exact hR
  refine loop_rule (m := ys.length) (fun m l t => ∃ j, t = σ ∧ m + j = ys.length ∧ xs.take j = ys.take j ∧ l = [v, v', .bool false, .int .i64 (j : Nat)]) ?_ ⟨0, rfl, by omega, by simp, rfl⟩
  rintro m l t L ⟨j, rfl, hm, ht, rfl⟩ hL
  simp only [vget, List.getD_cons_zero, List.getD_cons_succ]
  rw [h'.len, pBin_lt, pIf_d]
  refine ⟨fun hj => ?_, fun hj => ?_⟩
  · have hx := List.getElem?_eq_getElem (show j < xs.length by omega)
    have hy' := List.getElem?_eq_getElem (show j < ys.length by omega)
    refine RSl.at1 h hx fun g hg hs => ?_
    refine RSl.at1 h' hy' fun g' hg' hs' => ?_
    rw [hg, hg', pBin_sne, pIf_d]
    refine ⟨fun hne => ?_, fun heq => ?_⟩
    · rw [within_false hx hy' hne] at hR; exact hR
    · have heq' := Decidable.not_not.1 heq
      rw [pBin_add (by omega)]
      exact hL _ _ (m - 1) (by omega) ⟨j + 1, rfl, by omega, by rw [List.take_add_one, List.take_add_one, hx, hy', ht, heq'], rfl⟩
  · have hj' : j = ys.length := by omega
    subst hj'
    rw [List.take_length] at ht
    have : within xs ys = true := by unfold within; simp [ht]; omega
    rw [this] at hR; exact hR

theorem impl_begins {v v' : Value} {xs ys : List ByteArray} (h : RSl 1 RS (Av.get w0 σ) v xs) (h' : RSl 1 RS (Av.get w0 σ) v' ys) {R : Value → Vw → Prop} (hR : R (.bool (within xs ys)) σ) : AC Tryd.prog w0 n_impl_begins [v, v'] σ R := by
  refine ac_impl_begins ?_
  unfold vc_impl_begins
  have hl := h'.le
  rw [h.len, h'.len, pBin_lt, pIf_d]
  refine ⟨fun hlt => ?_, fun hge => ?_⟩
  · have : within xs ys = false := by unfold within; simp; omega
    rw [this] at hR; exact hR
  rw [h'.len]
  refine loop_rule (m := ys.length) (fun m l t => ∃ j, t = σ ∧ m + j = ys.length ∧ xs.take j = ys.take j ∧ l = [v, v', .bool false, .int .i64 ys.length, .int .i64 (j : Nat)]) ?_ ⟨0, rfl, by omega, by simp, rfl⟩
  rintro m l t L ⟨j, rfl, hm, ht, rfl⟩ hL
  simp only [vget, List.getD_cons_zero, List.getD_cons_succ]
  rw [pBin_lt, pIf_d]
  refine ⟨fun hj => ?_, fun hj => ?_⟩
  · have hx := List.getElem?_eq_getElem (show j < xs.length by omega)
    have hy' := List.getElem?_eq_getElem (show j < ys.length by omega)
    refine RSl.at1 h hx fun g hg hs => ?_
    refine RSl.at1 h' hy' fun g' hg' hs' => ?_
    rw [hg, hg', pBin_sne, pIf_d]
    refine ⟨fun hne => ?_, fun heq => ?_⟩
    · rw [within_false hx hy' hne] at hR; exact hR
    · have heq' := Decidable.not_not.1 heq
      rw [pBin_add (by omega)]
      exact hL _ _ (m - 1) (by omega) ⟨j + 1, rfl, by omega, by rw [List.take_add_one, List.take_add_one, hx, hy', ht, heq'], rfl⟩
  · have hj' : j = ys.length := by omega
    subst hj'
    rw [List.take_length] at ht
    have : within xs ys = true := by unfold within; simp [ht]; omega
    rw [this] at hR; exact hR

noncomputable def markOkB (x : Mk) : Bool := if x.1 = [] then x.2 else allNames x.1 && inB x.1.length 1 4

theorem spec_MarkOk {es : List Value} {x : Mk} {R : Value → Vw → Prop} (h : RMk (Av.get w0 σ) es x) (hR : R (.bool (markOkB x)) σ) : AC Tryd.prog w0 n_spec_l11MarkOk [.agg ⟨es⟩] σ R := by
  obtain ⟨v, rfl, h2⟩ := h
  refine ac_spec_l11MarkOk ?_
  unfold vc_spec_l11MarkOk
  rw [pVal_2 h2.one rfl]
  show pLen v _
  rw [h2.len, pBin_eq, pIf_d]
  refine ⟨fun h0 => ?_, fun h0 => ?_⟩
  · have : x.1 = [] := List.length_eq_zero_iff.1 (by omega)
    rw [markOkB, if_pos this] at hR; exact hR
  · have : x.1 ≠ [] := fun e => h0 (by rw [e]; rfl)
    rw [markOkB, if_neg this] at hR
    exact spec_PathOk h2 hR

theorem impl_markOk {es : List Value} {x : Mk} {R : Value → Vw → Prop} (h : RMk (Av.get w0 σ) es x) (hR : R (.bool (markOkB x)) σ) : AC Tryd.prog w0 n_impl_markOk [.agg ⟨es⟩] σ R := by
  obtain ⟨v, rfl, h2⟩ := h
  refine ac_impl_markOk ?_
  unfold vc_impl_markOk
  rw [pVal_2 h2.one rfl]
  refine impl_namesOk h2 ?_
  rw [pIf_b]
  by_cases e : x.1 = []
  · rw [markOkB, if_pos e] at hR
    refine ⟨fun _ => ?_, fun h0 => ?_⟩
    · show pLen v _
      rw [h2.len, pBin_gt, pIf_d]
      refine ⟨fun h => by rw [e] at h; simp at h, fun _ => hR⟩
    · rw [e] at h0; simp [allNames, inB] at h0
  · rw [markOkB, if_neg e] at hR
    have hpos : 1 ≤ x.1.length := by
      rcases Nat.eq_zero_or_pos x.1.length with h0 | h0
      · exact absurd (List.length_eq_zero_iff.1 h0) e
      · exact h0
    have hin : inB x.1.length 0 4 = inB x.1.length 1 4 := by unfold inB; congr 1; apply propext; omega
    rw [hin]
    refine ⟨fun h0 => ?_, fun h0 => ?_⟩
    · show pLen v _
      rw [h2.len, pBin_gt, pIf_d]
      refine ⟨fun _ => ?_, fun h => by omega⟩
      rw [h0] at hR; exact hR
    · rw [h0] at hR; exact hR
end
end Go.Proofs.YtlbpnfhhoalenaaDoor

/- Trails: when one is sound; the law 'TrailOk', of the functions alone. -/
set_option linter.unusedVariables false
set_option linter.unusedSimpArgs false
namespace Go.Proofs.YtlbpnfhhoalenaaDoor
open Go Go.Av

def underB (ms : List Mk) (p : List ByteArray) : Bool := ms.any fun m => m.2 && within p m.1
def afterB (ms : List Mk) (j : Nat) (x : Mk) : Bool :=
  match j with
  | 0 => true
  | i + 1 => match ms[i]? with
    | some y => lexLt y.1 x.1
    | none => true
noncomputable def goodAt (ms : List Mk) (j : Nat) (x : Mk) : Bool := markOkB x && (afterB ms j x && !underB (ms.take j) x.1)
def allGood (ms : List Mk) : Prop := ∀ (j : Nat) (x : Mk), ms[j]? = some x → goodAt ms j x = true
open Classical in
noncomputable def trailOk (ms : List Mk) : Bool := decide (allGood ms) && decide ((ms.length : Int) ≤ 6)
theorem trail_bad {ms : List Mk} {j : Nat} {x : Mk} (h : ms[j]? = some x) (hb : goodAt ms j x = false) : trailOk ms = false := by
  have : ¬ allGood ms := fun h' => by rw [h' j x h] at hb; cases hb
  simp [trailOk, this]
theorem trail_good {ms : List Mk} (h : allGood ms) : trailOk ms = decide ((ms.length : Int) ≤ 6) := by simp [trailOk, h]

section
variable {w0 : World} {σ : Vw}

theorem RSl.fld {α : Type} {n : Nat} {Rl : (Addr → Option Value) → List Value → α → Prop} {v : Value} {xs : List α} (h : RSl n Rl (Av.get w0 σ) v xs) {j : Nat} {x : α} (hj : xs[j]? = some x) {off : Nat} (ho : off < n) {K : (Nat → Value) → Prop} (hK : ∀ (g : Nat → Value) (es : List Value), Rl (Av.get w0 σ) es x → es[off]? = some (g 0) → K g) :
    pIndexAddr n v (.int .i64 j) fun p => pField off p fun q => pLoad w0 1 q σ K := by
  obtain ⟨A, cap, rfl, _, h3⟩ := h
  obtain ⟨a, es, rfl, h5, h6, h7⟩ := h3 j x hj
  have hlt : j < xs.length := (List.getElem?_eq_some_iff.1 hj).1
  have he : es[off]? = some (es.getD off undef) := by
    rw [List.getD_eq_getElem?_getD, List.getElem?_eq_getElem (by omega)]; rfl
  refine ⟨a, xs.length, cap, .i64, j, rfl, rfl, by omega, by omega, _, rfl, (a.add (j * n)).add off, fun _ => es.getD off undef, rfl, fun i hi => ?_, hK _ es h7 he⟩
  have : i = 0 := by omega
  subst this
  rw [add_add, add_add, Nat.add_zero]
  rw [h6 off ho]; exact he

theorem RSl.take {α : Type} {n : Nat} {Rl : (Addr → Option Value) → List Value → α → Prop} {v : Value} {xs : List α} (h : RSl n Rl (Av.get w0 σ) v xs) {j : Nat} (hj : j ≤ xs.length) {K : Value → Prop} (hK : ∀ v', RSl n Rl (Av.get w0 σ) v' (xs.take j) → K v') : pSlice n v none (some (.int .i64 j)) K := by
  obtain ⟨A, cap, rfl, hc, h3⟩ := h
  refine ⟨A, xs.length, cap, 0, j, rfl, rfl, rfl, by omega, by omega, by omega, hK _ ?_⟩
  have hl : (xs.take j).length = j := by simp; omega
  refine ⟨if cap = (0 : Int).toNat then A else A.map (·.add ((0 : Int).toNat * n)), cap - (0 : Int).toNat, by rw [hl]; simp, ⟨by rw [hl]; simp; omega, by simp; omega⟩, fun i x hi => ?_⟩
  have hij : i < j := by have := (List.getElem?_eq_some_iff.1 hi).1; rw [hl] at this; exact this
  rw [List.getElem?_take_of_lt hij] at hi
  obtain ⟨a, es, rfl, h5, h6, h7⟩ := h3 i x hi
  refine ⟨a, es, ?_, h5, h6, h7⟩
  split
  · rfl
  · simp [Addr.add]

theorem underB_take {ms : List Mk} {p : List ByteArray} {j : Nat} {x : Mk} (h : ms[j]? = some x) : underB (ms.take (j + 1)) p = (underB (ms.take j) p || (x.2 && within p x.1)) := by
  rw [List.take_add_one, h]
  simp [underB, List.any_append]
theorem under_hit {ms : List Mk} {p : List ByteArray} {j : Nat} {x : Mk} (h : ms[j]? = some x) (h1 : x.2 = true) (h2 : within p x.1 = true) : underB ms p = true := by
  simp only [underB, List.any_eq_true]
  exact ⟨x, List.mem_of_getElem? h, by simp [h1, h2]⟩

theorem impl_under {v v' : Value} {ms : List Mk} {p : List ByteArray} (h : RSl 2 RMk (Av.get w0 σ) v ms) (h' : RSl 1 RS (Av.get w0 σ) v' p) {R : Value → Vw → Prop} (hR : R (.bool (underB ms p)) σ) : AC Tryd.prog w0 n_impl_under [v, v'] σ R := by
  refine ac_impl_under ?_
  unfold vc_impl_under
  have hl := h.le
  rw [h.len]
  refine loop_rule (m := ms.length) (fun m l t => ∃ j, t = σ ∧ m + j = ms.length ∧ underB (ms.take j) p = false ∧ l = [v', .bool false, v, .int .i64 ms.length, .int .i64 (j : Nat)]) ?_ ⟨0, rfl, by omega, rfl, rfl⟩
  rintro m l t L ⟨j, rfl, hm, ht, rfl⟩ hL
  simp only [vget, List.getD_cons_zero, List.getD_cons_succ]
  rw [pBin_lt, pIf_d]
  refine ⟨fun hj => ?_, fun hj => ?_⟩
  · have hx := List.getElem?_eq_getElem (show j < ms.length by omega)
    refine h.at hx fun g hg => ?_
    obtain ⟨u, hu, hur⟩ := hg
    simp only [expl, List.cons.injEq, and_true] at hu
    obtain ⟨hu0, hu1⟩ := hu
    rw [hu0, hu1, pVal_2 hur.one rfl, pIf_b]
    have next : underB (ms.take (j + 1)) p = false → L [v', .bool false, v, .int .i64 ms.length, .int .i64 ((j : Int) + 1)] t := fun hf => hL _ _ (m - 1) (by omega) ⟨j + 1, rfl, by omega, hf, rfl⟩
    have hstep := underB_take (p := p) hx
    refine ⟨fun hheld => ?_, fun hheld => ?_⟩
    · refine impl_begins h' hur ?_
      rw [pIf_b]
      refine ⟨fun hw => ?_, fun hw => ?_⟩
      · rw [under_hit hx hheld hw] at hR; exact hR
      · rw [pBin_add (by omega)]
        exact next (by rw [hstep, ht, hw]; simp)
    · rw [pBin_add (by omega)]
      exact next (by rw [hstep, ht, hheld]; simp)
  · have hj' : j = ms.length := by omega
    subst hj'
    rw [List.take_length] at ht
    rw [ht] at hR; exact hR

theorem impl_TrailOk {v : Value} {ms : List Mk} (h : RSl 2 RMk (Av.get w0 σ) v ms) {R : Value → Vw → Prop} (hR : R (.bool (trailOk ms)) σ) : AC Tryd.prog w0 n_impl_TrailOk [v] σ R := by
  refine ac_impl_TrailOk ?_
  unfold vc_impl_TrailOk
  have hl := h.le
  rw [h.len]
  refine loop_rule (m := ms.length) (fun m l t => ∃ j, t = σ ∧ m + j = ms.length ∧ (∀ (i : Nat) (x : Mk), i < j → ms[i]? = some x → goodAt ms i x = true) ∧ l = [v, .bool false, v, .int .i64 ms.length, .int .i64 (j : Nat)]) ?_ ⟨0, rfl, by omega, fun i x h => by omega, rfl⟩
  rintro m l t L ⟨j, rfl, hm, ht, rfl⟩ hL
  simp only [vget, List.getD_cons_zero, List.getD_cons_succ]
  rw [pBin_lt, pIf_d]
  refine ⟨fun hj => ?_, fun hj => ?_⟩
  · have hx := List.getElem?_eq_getElem (show j < ms.length by omega)
    generalize hxj : ms[j] = x at hx
    refine h.at hx fun g hg => ?_
    have hg0 := hg
    obtain ⟨u, hu, hur⟩ := hg
    simp only [expl, List.cons.injEq, and_true] at hu
    obtain ⟨hu0, hu1⟩ := hu
    rw [hu0, hu1, pVal_2 hur.one rfl]
    have bad : goodAt ms j x = false → R (.bool false) t := fun hb => by rw [trail_bad hx hb] at hR; exact hR
    refine impl_markOk (x := x) ⟨u, rfl, hur⟩ ?_
    rw [pUn_not, pIf_b]
    refine ⟨fun hmk => bad (by simp at hmk; simp [goodAt, hmk]), fun hmk => ?_⟩
    have hmk' : markOkB x = true := by simpa using hmk
    have last : afterB ms j x = true → pSlice 2 v none (some (.int .i64 j)) (fun v18 => AC Tryd.prog w0 n_impl_under [v18, u] t (fun v19 s20 => pIf v19 (R (.bool false) s20) (pBin Tryd.prog 3 .add (.int .i64 j) (.int .i64 1) (fun v21 => L [v, .bool false, v, .int .i64 ms.length, v21] s20)))) := by
      intro haf
      refine RSl.take h (by omega) fun v' hv' => ?_
      refine impl_under hv' hur ?_
      rw [pIf_b]
      refine ⟨fun hb => bad (by simp [goodAt, hb]), fun hb => ?_⟩
      rw [pBin_add (by omega)]
      refine hL _ _ (m - 1) (by omega) ⟨j + 1, rfl, by omega, fun i y hi he => ?_, rfl⟩
      by_cases e : i = j
      · subst e; rw [hx] at he; cases he; simp [goodAt, hmk', haf, hb]
      · exact ht i y (by omega) he
    rw [pBin_gt, pIf_d]
    refine ⟨fun hpos => ?_, fun h0 => ?_⟩
    · obtain ⟨i, rfl⟩ : ∃ i, j = i + 1 := ⟨j - 1, by omega⟩
      rw [pBin_sub (by omega)]
      have hy := List.getElem?_eq_getElem (show i < ms.length by omega)
      generalize hyi : ms[i] = y at hy
      rw [show ((i + 1 : Nat) : Int) - 1 = (i : Nat) by omega]
      refine RSl.fld h hy (by omega) fun g2 es hes he => ?_
      obtain ⟨u2, rfl, hu2⟩ := hes
      simp at he
      rw [← he]
      refine Compare hu2 hur fun c hc => ?_
      have haf : afterB ms (i + 1) x = lexLt y.1 x.1 := by simp [afterB, hy]
      rw [pBin_ge, pIf_d]
      refine ⟨fun hge => bad ?_, fun hlt => last ?_⟩
      · have : lexLt y.1 x.1 = false := by
          cases hc2 : lexLt y.1 x.1 with
          | false => rfl
          | true => have := hc.2 hc2; omega
        simp [goodAt, haf, this]
      · rw [haf]; exact hc.1 (by omega)
    · have : j = 0 := by omega
      subst this
      exact last rfl
  · have hj' : j = ms.length := by omega
    subst hj'
    show pLen v _
    rw [h.len, pBin_le]
    rw [trail_good fun i x he => ht i x (List.getElem?_eq_some_iff.1 he).1 he] at hR
    exact hR

theorem spec_TrailOk {v : Value} {ms : List Mk} (h : RSl 2 RMk (Av.get w0 σ) v ms) {R : Value → Vw → Prop} (hR : R (.bool (trailOk ms)) σ) : AC Tryd.prog w0 n_spec_TrailOk [v] σ R := by
  refine ac_spec_TrailOk ?_
  unfold vc_spec_TrailOk
  have hl := h.le
  refine loop_rule (m := ms.length) (fun m l t => ∃ j, t = σ ∧ m + j = ms.length ∧ (∀ (i : Nat) (x : Mk), i < j → ms[i]? = some x → goodAt ms i x = true) ∧ l = [v, .bool false, .int .i64 (j : Nat)]) ?_ ⟨0, rfl, by omega, fun i x h => by omega, rfl⟩
  rintro m l t L ⟨j, rfl, hm, ht, rfl⟩ hL
  simp only [vget, List.getD_cons_zero, List.getD_cons_succ]
  rw [h.len, pBin_lt, pIf_d]
  refine ⟨fun hj => ?_, fun hj => ?_⟩
  · have hx := List.getElem?_eq_getElem (show j < ms.length by omega)
    generalize hxj : ms[j] = x at hx
    refine h.at hx fun g hg => ?_
    obtain ⟨u, hu, hur⟩ := hg
    simp only [expl, List.cons.injEq, and_true] at hu
    obtain ⟨hu0, hu1⟩ := hu
    rw [hu0, hu1]
    have bad : goodAt ms j x = false → R (.bool false) t := fun hb => by rw [trail_bad hx hb] at hR; exact hR
    refine spec_MarkOk (x := x) ⟨u, rfl, hur⟩ ?_
    rw [pUn_not, pIf_b]
    refine ⟨fun hmk => bad (by simp at hmk; simp [goodAt, hmk]), fun hmk => ?_⟩
    have hmk' : markOkB x = true := by simpa using hmk
    have next : afterB ms j x = true → underB (ms.take j) x.1 = false → L [v, .bool false, .int .i64 ((j : Int) + 1)] t := fun haf hb => hL _ _ (m - 1) (by omega) ⟨j + 1, rfl, by omega, fun i y hi he => by
      by_cases e : i = j
      · subst e; rw [hx] at he; cases he; simp [goodAt, hmk', haf, hb]
      · exact ht i y (by omega) he, rfl⟩
    have split : (0 < (j : Int) → afterB ms j x = true → True) := fun _ _ => trivial
    rw [pBin_gt, pIf_d]
    have step : ∀ {K : AX → List Value → Vw → Prop} {B : List Value → (AX → List Value → Vw → Prop) → Vw → Prop}, B = (fun l21 K22 s23 => pBin Tryd.prog 3 .lss (vget l21 3) (vget l21 2) (fun v24 => pIf v24 (pIndexAddr 2 (vget l21 0) (vget l21 3) (fun v25 => pField 1 v25 (fun v26 => pLoad w0 1 v26 s23 (fun g27 => pIf (g27 0)
          (pIndexAddr 2 (vget l21 0) (vget l21 2) (fun v28 => pField 0 v28 (fun v29 => pLoad w0 1 v29 s23 (fun g30 => pIndexAddr 2 (vget l21 0) (vget l21 3) (fun v31 => pField 0 v31 (fun v32 => pLoad w0 1 v32 s23 (fun g33 => AC Tryd.prog w0 n_spec_l2Within [g30 0, g33 0] s23 (fun v34 s35 => pIf v34 (K22 .ret [vget l21 0, .bool false, vget l21 2, vget l21 3] s35)
            (pBin Tryd.prog 3 .add (vget l21 3) (.int .i64 1) (fun v36 => K22 .normal [vget l21 0, vget l21 1, vget l21 2, v36] s35))))))))))
          (pBin Tryd.prog 3 .add (vget l21 3) (.int .i64 1) (fun v37 => K22 .normal [vget l21 0, vget l21 1, vget l21 2, v37] s23)))))) (K22 (.exit 2) [vget l21 0, vget l21 1, vget l21 2, vget l21 3] s23))) →
        afterB ms j x = true → (∀ k : Value, R (.bool false) t → K .ret [v, .bool false, .int .i64 j, k] t) → (∀ k : Value, underB (ms.take j) x.1 = false → K (.exit 2) [v, .bool false, .int .i64 j, k] t) →
        pLoop B [v, .bool false, .int .i64 j, .int .i64 0] t K := by
      rintro K B rfl haf hret hex
      refine loop_rule (m := j) (fun m' l s => ∃ k, s = t ∧ m' + k = j ∧ underB (ms.take k) x.1 = false ∧ l = [v, .bool false, .int .i64 j, .int .i64 (k : Nat)]) ?_ ⟨0, rfl, by omega, rfl, rfl⟩
      rintro m' l s L' ⟨k, rfl, hm', hu', rfl⟩ hL'
      simp only [vget, List.getD_cons_zero, List.getD_cons_succ]
      rw [pBin_lt, pIf_d]
      refine ⟨fun hk => ?_, fun hk => ?_⟩
      · have hy := List.getElem?_eq_getElem (show k < ms.length by omega)
        generalize hyk : ms[k] = y at hy
        have hstep := underB_take (p := x.1) hy
        have nx : underB (ms.take (k + 1)) x.1 = false → L' [v, .bool false, .int .i64 j, .int .i64 ((k : Int) + 1)] s := fun hf => hL' _ _ (m' - 1) (by omega) ⟨k + 1, rfl, by omega, hf, rfl⟩
        refine RSl.fld h hy (by omega) fun g1 es hes he => ?_
        obtain ⟨u1, rfl, hu1'⟩ := hes
        simp at he
        rw [← he, pIf_b]
        refine ⟨fun hheld => ?_, fun hheld => ?_⟩
        · refine RSl.fld h hx (by omega) fun g2 es hes he => ?_
          obtain ⟨u2, rfl, hu2'⟩ := hes
          simp at he
          refine RSl.fld h hy (by omega) fun g3 es hes he' => ?_
          obtain ⟨u3, rfl, hu3'⟩ := hes
          simp at he'
          rw [← he, ← he']
          refine spec_Within hu2' hu3' ?_
          rw [pIf_b]
          refine ⟨fun hw => hret _ (bad ?_), fun hw => ?_⟩
          · have : underB (ms.take j) x.1 = true := under_hit (j := k) (x := y) (by rw [List.getElem?_take_of_lt (by omega)]; exact hy) hheld hw
            simp [goodAt, this]
          · rw [pBin_add (by omega)]
            exact nx (by rw [hstep, hu', hw]; simp)
        · rw [pBin_add (by omega)]
          exact nx (by rw [hstep, hu', hheld]; simp)
      · have : k = j := by omega
        subst this
        exact hex _ hu'
    refine ⟨fun hpos => ?_, fun h0 => ?_⟩
    · obtain ⟨i, rfl⟩ : ∃ i, j = i + 1 := ⟨j - 1, by omega⟩
      rw [pBin_sub (by omega)]
      have hy := List.getElem?_eq_getElem (show i < ms.length by omega)
      generalize hyi : ms[i] = y at hy
      rw [show ((i + 1 : Nat) : Int) - 1 = (i : Nat) by omega]
      refine RSl.fld h hy (by omega) fun g2 es hes he => ?_
      obtain ⟨u2, rfl, hu2⟩ := hes
      simp at he
      refine RSl.fld h hx (by omega) fun g3 es hes he3 => ?_
      obtain ⟨u3, rfl, hu3⟩ := hes
      simp at he3
      rw [← he, ← he3]
      have haf : afterB ms (i + 1) x = lexLt y.1 x.1 := by simp [afterB, hy]
      refine spec_Less hu2 hu3 ?_
      rw [pUn_not, pIf_b]
      refine ⟨fun hb => bad (by simp at hb; simp [goodAt, haf, hb]), fun hg => ?_⟩
      have hg' : afterB ms (i + 1) x = true := by rw [haf]; simpa using hg
      refine step rfl hg' (fun k hr => hr) (fun k hu => ?_)
      show pBin Tryd.prog 3 .add (.int .i64 ((i + 1 : Nat) : Int)) (.int .i64 1) _
      rw [pBin_add (by omega)]
      exact next hg' hu
    · have : j = 0 := by omega
      subst this
      refine step rfl rfl (fun k hr => hr) (fun k hu => ?_)
      show pBin Tryd.prog 3 .add (.int .i64 ((0 : Nat) : Int)) (.int .i64 1) _
      rw [pBin_add (by omega)]
      exact next rfl hu
  · have hj' : j = ms.length := by omega
    subst hj'
    show pLen v _
    rw [h.len, pBin_le]
    rw [trail_good fun i x he => ht i x (List.getElem?_eq_some_iff.1 he).1 he] at hR
    exact hR
end
end Go.Proofs.YtlbpnfhhoalenaaDoor

/- The law 'TrailOk', of the functions alone. -/
set_option linter.unusedVariables false
set_option linter.unusedSimpArgs false
namespace Go.Proofs.YtlbpnfhhoalenaaDoor
open Go Go.Av

section
variable {w0 : World} {σ : Vw}

theorem sumBy_mem {α : Type} {f : α → Nat} : ∀ {xs : List α} {x : α}, x ∈ xs → f x ≤ sumBy f xs
  | a :: r, x, h => by
    simp only [sumBy]
    rcases List.mem_cons.1 h with e | e
    · subst e; omega
    · have := sumBy_mem (f := f) e; omega

end
end Go.Proofs.YtlbpnfhhoalenaaDoor

/- Trees: what is read of one; their size, their copy, their comparison. -/
set_option linter.unusedVariables false
set_option linter.unusedSimpArgs false
namespace Go.Proofs.YtlbpnfhhoalenaaDoor
open Go Go.Av

inductive Tr where
  | mk (dir : Bool) (mode : Int) (text : ByteArray) (names : List ByteArray) (kids : List Tr)
noncomputable instance : DecidableEq Tr := fun _ _ => Classical.propDecidable _

/-- What is read: n bounds the depth. -/
def RT : Nat → (Addr → Option Value) → List Value → Tr → Prop
  | 0, _, _, _ => False
  | n + 1, rd, es, .mk d m t ns ks => ∃ u w, es = [.bool d, .int .i64 m, .string t, u, w] ∧ (-9223372036854775808 ≤ m ∧ m ≤ 9223372036854775807) ∧ t.size ≤ 9223372036854775807 ∧ RSl 1 RS rd u ns ∧ RSl 5 (RT n) rd w ks
def OT (w0 : World) : Nat → Vw → List Nat → List Value → Tr → Prop
  | 0, _, _, _, _ => False
  | n + 1, σ, F, es, .mk d m t ns ks => ∃ u w F1 F2, es = [.bool d, .int .i64 m, .string t, u, w] ∧ (-9223372036854775808 ≤ m ∧ m ≤ 9223372036854775807) ∧ t.size ≤ 9223372036854775807 ∧ OStrs w0 σ F1 u ns ∧ OSl w0 5 (OT w0 n) σ F2 w ks ∧ F = F1 ++ F2 ∧ F.Nodup
def szT : Nat → Tr → Nat
  | 0, _ => 0
  | n + 1, .mk d m t ns ks => t.size + (ns.length + sumS ns) + (ks.length + sumBy (szT n) ks)

theorem mono_rt : ∀ (n : Nat) (rd rd' : Addr → Option Value) (es : List Value) (x : Tr), Le rd rd' → RT n rd es x → RT n rd' es x
  | 0, _, _, _, _, _, h => h
  | n + 1, rd, rd', es, .mk d m t ns ks, hl, h => by
    obtain ⟨u, w, h1, h2, h3, h4, h5⟩ := h
    exact ⟨u, w, h1, h2, h3, h4.mono hl fun _ _ h => h, h5.mono hl fun es x => mono_rt n _ _ es x hl⟩

section
variable {w0 : World} {σ : Vw}

theorem ok_rt (w0 : World) : ∀ n, OOk w0 5 (RT n) (OT w0 n)
  | 0 => ⟨fun _ _ _ _ h => h.elim, fun _ _ _ _ _ h => h.elim, fun _ _ _ _ h => h.elim, fun _ _ _ _ h => h.elim, fun _ _ _ _ h => h.elim, fun _ _ _ _ h => h.elim⟩
  | n + 1 => by
    have ih := ok_rt w0 n
    refine ⟨?_, ?_, ?_, ?_, ?_, ?_⟩
    · rintro σ F es ⟨d, m, t, ns, ks⟩ ⟨u, w, F1, F2, h1, h2, h3, h4, h5, h6, h7⟩
      exact ⟨u, w, h1, h2, h3, h4.rel (ok_str w0), h5.rel ih⟩
    · rintro σ σ' F es ⟨d, m, t, ns, ks⟩ ⟨u, w, F1, F2, h1, h2, h3, h4, h5, h6, h7⟩ hF
      subst h6
      exact ⟨u, w, F1, F2, h1, h2, h3, h4.frame (ok_str w0) fun b hb => hF b (List.mem_append_left _ hb), h5.frame ih fun b hb => hF b (List.mem_append_right _ hb), rfl, h7⟩
    · rintro σ F es ⟨d, m, t, ns, ks⟩ ⟨u, w, F1, F2, h1, h2, h3, h4, h5, h6, h7⟩ b hb
      subst h6
      rcases List.mem_append.1 hb with h | h
      · exact h4.dom (ok_str w0) b h
      · exact h5.dom ih b h
    · rintro σ F es ⟨d, m, t, ns, ks⟩ ⟨u, w, F1, F2, h1, h2, h3, h4, h5, h6, h7⟩; exact h7
    · rintro σ F es ⟨d, m, t, ns, ks⟩ ⟨u, w, F1, F2, rfl, h2, h3, h4, h5, h6, h7⟩; rfl
    · rintro σ F es ⟨d, m, t, ns, ks⟩ ⟨u, w, F1, F2, rfl, h2, h3, h4, h5, h6, h7⟩ c hc
      simp at hc
      rcases hc with rfl | rfl | rfl | rfl | rfl
      · rfl
      · rfl
      · rfl
      · exact OSl.one' h4
      · exact OSl.one' h5

theorem pVal_5 {a b c d e : Value} {A : Prop} (h1 : a.oneCell' = true) (h2 : b.oneCell' = true) (h3 : c.oneCell' = true) (h4 : d.oneCell' = true) (h5 : e.oneCell' = true) : pVal true 5 (.agg ⟨[a, b, c, d, e]⟩) A ↔ A := pValN rfl (by simp [h1, h2, h3, h4, h5])

theorem szTree : ∀ (n : Nat) {es : List Value} {x : Tr} {m : Int} {R : Value → Vw → Prop}, RT n (Av.get w0 σ) es x → (0 ≤ m ∧ m ≤ 9223372036854775807) → R (.int .i64 (Av.left m (szT n x))) σ → AC Tryd.prog w0 n_laws_szTree [.agg ⟨es⟩, .int .i64 m] σ R
  | 0, _, _, _, _, h, _, _ => h.elim
  | n + 1, es, .mk d md t ns ks, m, R, h, hm, hR => by
    obtain ⟨u, w, rfl, h2, h3, h4, h5⟩ := h
    refine ac_laws_szTree ?_
    unfold vc_laws_szTree
    rw [pVal_5 rfl rfl rfl h4.one h5.one]
    show pLenS (.string t) _
    rw [pLenS_s, pBin_sub (by omega), pBin_lt, pIf_d]
    have low : m < (szT (n + 1) (.mk d md t ns ks) : Nat) → R (.int .i64 (-1)) σ := fun hlt => by rw [Av.left_low hlt] at hR; exact hR
    have hsz : szT (n + 1) (.mk d md t ns ks) = t.size + (ns.length + sumS ns) + (ks.length + sumBy (szT n) ks) := rfl
    refine ⟨fun hlt => low (by omega), fun hge => ?_⟩
    refine szStringS h4 (by omega) ?_
    rw [show left (m - (t.size : Int)) (ns.length + sumS ns) = Av.left (m - (t.size : Int)) (ns.length + sumS ns) from rfl, pBin_lt, pIf_d]
    refine ⟨fun hlt => low (by rw [Av.left_neg] at hlt; omega), fun hge2 => ?_⟩
    rw [Av.left_neg] at hge2
    rw [Av.left_in (by omega)]
    refine ac_laws_szTreeS ?_
    have e : ∀ (v : Value) (m : Int) (R : Value → Vw → Prop), vc_laws_szTreeS w0 v (.int .i64 m) σ R = VszS Tryd.prog w0 3 5 n_laws_szTree v (.int .i64 m) σ R := fun v m R => by kernel_rfl
    show vc_laws_szTreeS w0 w _ σ _
    rw [e]
    refine szS_gen (sz := szT n) (fun x _ es m R' h hm hR => szTree n h hm hR) h5 (by omega) ?_
    rw [pBin_lt, pIf_d]
    refine ⟨fun hlt => low (by rw [Av.left_neg] at hlt; omega), fun hge3 => ?_⟩
    rw [Av.left_neg] at hge3
    rw [Av.left_in (by omega)]
    rw [Av.left_in (by omega)] at hR
    rw [show m - (t.size : Int) - ((ns.length + sumS ns : Nat) : Int) - ((ks.length + sumBy (szT n) ks : Nat) : Int) = m - ((szT (n + 1) (.mk d md t ns ks) : Nat) : Int) by omega]
    exact hR
end
end Go.Proofs.YtlbpnfhhoalenaaDoor

/- Lists in rows of our own, written element by element: the focus on one element, and the loops that mark and that look at marks. -/
set_option linter.unusedVariables false
set_option linter.unusedSimpArgs false
namespace Go.Av
open Go Go.RowKit

/-- Every row but those of F stays as it is. -/
def KeepsBut (F : List Nat) (σ σ' : Vw) : Prop := ∀ b r, σ b = some r → b ∉ F → σ' b = some r
theorem KeepsBut.refl (F : List Nat) (σ : Vw) : KeepsBut F σ σ := fun _ _ h _ => h
theorem Keeps.but {F : List Nat} {σ σ' : Vw} (h : Keeps σ σ') : KeepsBut F σ σ' := fun b r hb _ => h b r hb
theorem KeepsBut.trans {F : List Nat} {σ σ' σ'' : Vw} (h : KeepsBut F σ σ') (h' : KeepsBut F σ' σ'') : KeepsBut F σ σ'' := fun b r hb hF => h' b r (h b r hb hF) hF
theorem KeepsBut.mono {F F' : List Nat} {σ σ' : Vw} (h : KeepsBut F σ σ') (hF : ∀ b, b ∈ F → b ∈ F') : KeepsBut F' σ σ' := fun b r hb h' => h b r hb fun hb' => h' (hF b hb')
/-- What is older than F stays. -/
theorem KeepsBut.old {F : List Nat} {σ0 σ σ' : Vw} (h : KeepsBut F σ σ') (h0 : Keeps σ0 σ) (hF : ∀ b, b ∈ F → σ0 b = none) : Keeps σ0 σ' := fun b r hb => h b r (h0 b r hb) fun hb' => by rw [hF b hb'] at hb; cases hb
theorem KeepsBut.at {F G : List Nat} {σ σ' : Vw} (h : KeepsBut F σ σ') (hG : ∀ b, b ∈ G → σ b ≠ none) (hd : ∀ b, b ∈ G → b ∉ F) : ∀ b, b ∈ G → σ' b = σ b := fun b hb => by
  cases hs : σ b with
  | none => exact absurd hs (hG b hb)
  | some r => exact h b r hs (hd b hb)
theorem KeepsBut.put {F : List Nat} {σ : Vw} {b : Nat} {r : Row} (hb : b ∈ F) : KeepsBut F σ (σ.put b r) := fun i x hi hF => by
  have : i ≠ b := fun e => hF (e ▸ hb)
  simp [Vw.put, this, hi]

section
variable {P : Program} {w0 : World} {σ σ' : Vw} {α : Type}

theorem nodup_at {l : List (List Nat)} {i j : Nat} {f g : List Nat} (h : l.flatten.Nodup) (hi : l[i]? = some f) (hj : l[j]? = some g) (hij : i ≠ j) : ∀ b, b ∈ f → b ∉ g := by
  induction l generalizing i j with
  | nil => simp at hi
  | cons a r ih =>
    rw [List.flatten_cons, List.nodup_append] at h
    intro b hb hb'
    cases i with
    | zero =>
      cases j with
      | zero => exact hij rfl
      | succ j =>
        simp at hi hj
        subst hi
        exact h.2.2 b hb b (List.mem_flatten.2 ⟨g, List.mem_of_getElem? hj, hb'⟩) rfl
    | succ i =>
      cases j with
      | zero =>
        simp at hi hj
        subst hj
        exact h.2.2 b hb' b (List.mem_flatten.2 ⟨f, List.mem_of_getElem? hi, hb⟩) rfl
      | succ j =>
        simp at hi hj
        exact ih h.2.1 hi hj (fun e => hij (by rw [e])) b hb hb'

theorem split_at {l : List (List Value)} {j : Nat} {c : List Value} (hj : l[j]? = some c) : l.flatten = (l.take j).flatten ++ (c ++ (l.drop (j + 1)).flatten) := by
  have hlt := (List.getElem?_eq_some_iff.1 hj).1
  have e : l = l.take j ++ (c :: l.drop (j + 1)) := by
    have := List.take_append_drop j l
    rw [List.drop_eq_getElem_cons hlt] at this
    have hc : l[j] = c := (List.getElem?_eq_some_iff.1 hj).2
    rw [hc] at this
    exact this.symm
  calc l.flatten = (l.take j ++ (c :: l.drop (j + 1))).flatten := by rw [← e]
    _ = _ := by rw [List.flatten_append, List.flatten_cons]

/-- One element of a list of our own, and how the list is put together again behind a change of it. -/
theorem OSl.focus {n : Nat} {Rel : (Addr → Option Value) → List Value → α → Prop} {O : Vw → List Nat → List Value → α → Prop} (ok : OOk w0 n Rel O) {F : List Nat} {v : Value} {xs : List α} (h : OSl w0 n O σ F v xs) {j : Nat} {x : α} (hj : xs[j]? = some x) :
    ∃ (b o : Nat) (f : List Nat) (c A C : List Value) (r : Row), (∀ K : Value → Prop, K (.pointer (some ⟨b, o, none⟩)) → pIndexAddr n v (.int .i64 j) K) ∧ w0.heap.size ≤ b ∧ σ b = some r ∧ r.cells = A ++ (c ++ C) ∧ A.length = o ∧ O σ f c x ∧ b ∈ F ∧ (∀ i, i ∈ f → i ∈ F ∧ i ≠ b) ∧
      ∀ (σ' : Vw) (c' : List Value) (x' : α) (r' : Row), σ' b = some r' → r'.cells = A ++ (c' ++ C) → O σ' f c' x' → (∀ i, i ∈ F → i ≠ b → i ∉ f → σ' i = σ i) → OSl w0 n O σ' F v (xs.set j x') := by
  obtain ⟨h1, h2, ⟨rfl, rfl, _⟩ | ⟨b, off, cap, r, pre, post, css, Fs, rfl, gc, g2, g3, g4, g5, g6, g7, g8, g9⟩⟩ := h
  · simp at hj
  have hlt : j < xs.length := (List.getElem?_eq_some_iff.1 hj).1
  have hcj := List.getElem?_eq_getElem (show j < css.length by omega)
  have hfj := List.getElem?_eq_getElem (show j < Fs.length by omega)
  generalize hce : css[j]'(by omega) = c at hcj
  generalize hfe : Fs[j]'(by omega) = f at hfj
  have hO := g9 j c x f hcj hj hfj
  have hn : ∀ c, c ∈ css → c.length = n := fun c hc => by
    obtain ⟨i, hi⟩ := List.getElem?_of_mem hc
    have hil : i < css.length := (List.getElem?_eq_some_iff.1 hi).1
    exact ok.len _ _ _ _ (g9 i c _ _ hi (List.getElem?_eq_getElem (by omega)) (List.getElem?_eq_getElem (by omega)))
  have hA : (pre ++ (css.take j).flatten).length = off + j * n := by
    rw [List.length_append, g5, flat_len _ fun c hc => hn c (List.mem_of_mem_take hc), List.length_take]
    congr 2; omega
  rw [g8] at h2
  have hbf : b ∉ f := fun hb => (List.nodup_cons.1 h2).1 (List.mem_flatten.2 ⟨f, List.mem_of_getElem? hfj, hb⟩)
  refine ⟨b, off + j * n, f, c, pre ++ (css.take j).flatten, (css.drop (j + 1)).flatten ++ post, r, fun K hK => ?_, g2, g3, ?_, hA, hO, by rw [g8]; exact List.mem_cons_self, fun i hi => ⟨?_, fun e => hbf (e ▸ hi)⟩, ?_⟩
  · refine ⟨⟨b, off, none⟩, xs.length, cap, .i64, j, rfl, rfl, by omega, by omega, ?_⟩
    rw [addr_add]; exact hK
  · rw [g4, split_at hcj]; simp only [List.append_assoc]
  · rw [g8]; exact List.mem_cons_of_mem _ (List.mem_flatten.2 ⟨f, List.mem_of_getElem? hfj, hi⟩)
  · intro σ' c' x' r' hr' hcells hO' hrest
    have hlen' := ok.len _ _ _ _ hO'
    refine ⟨by rw [List.length_set]; exact h1, by rw [g8]; exact h2, .inr ⟨b, off, cap, r', pre, post, css.set j c', Fs, by rw [List.length_set], by rw [List.length_set]; exact gc, g2, hr', ?_, g5, by rw [List.length_set, List.length_set]; exact g6, by rw [List.length_set]; exact g7, g8, ?_⟩⟩
    · have hcj' : (css.set j c')[j]? = some c' := List.getElem?_set_self (by omega)
      rw [hcells, split_at hcj', List.take_set_of_le (Nat.le_refl j), List.drop_set_of_lt (by omega)]
      simp only [List.append_assoc]
    · intro i ci y fi e1 e2 e3
      by_cases hij : j = i
      · subst hij
        rw [List.getElem?_set_self (by omega)] at e1 e2
        cases e1; cases e2
        rw [hfj] at e3; cases e3
        exact hO'
      · rw [List.getElem?_set_ne hij] at e1 e2
        refine ok.frame _ _ _ _ _ (g9 i ci y fi e1 e2 e3) fun k hk => ?_
        have hkF : k ∈ Fs.flatten := List.mem_flatten.2 ⟨fi, List.mem_of_getElem? e3, hk⟩
        exact hrest k (by rw [g8]; exact List.mem_cons_of_mem _ hkF) (fun e => (List.nodup_cons.1 h2).1 (e ▸ hkF)) (nodup_at (List.nodup_cons.1 h2).2 e3 hfj (fun e => hij e.symm) k hk)

/-- A field of an element is written. -/
theorem field_store {b o off : Nat} {r : Row} {A c C : List Value} {y : Value} {K : Vw → Prop} (hr : σ b = some r) (hc : r.cells = A ++ (c ++ C)) (hA : A.length = o) (hoff : off < c.length) (hy : y.oneCell' = true)
    (hK : K (σ.put b { r with cells := A ++ (c.set off y ++ C) })) : pField off (.pointer (some ⟨b, o, none⟩)) fun q => pVal false 1 y (pStore q [y] σ K) := by
  rw [pField_s, pVal1 hy, addr_add]
  refine ⟨b, o + off, r, rfl, hr, ?_, ?_⟩
  · rw [hc]; simp only [List.length_append, List.length_singleton]; omega
  · have e : setAt r.cells (o + off) [y] = A ++ (c.set off y ++ C) := by
      simp only [setAt]
      rw [hc, List.set_append_right _ _ (by omega), List.set_append_left _ _ (by omega), hA]
      congr 3; omega
    rw [e]; exact hK
theorem elem_store {b o : Nat} {r : Row} {A C : List Value} {x y : Value} {K : Vw → Prop} (hr : σ b = some r) (hc : r.cells = A ++ ([x] ++ C)) (hA : A.length = o) (hy : y.oneCell' = true)
    (hK : K (σ.put b { r with cells := A ++ ([y] ++ C) })) : pVal false 1 y (pStore (.pointer (some ⟨b, o, none⟩)) [y] σ K) := by
  rw [pVal1 hy]
  refine ⟨b, o, r, rfl, hr, ?_, ?_⟩
  · rw [hc]; simp only [List.length_append, List.length_singleton]; omega
  · have e : setAt r.cells o [y] = A ++ ([y] ++ C) := by
      simp only [setAt]
      rw [hc, List.set_append_right _ _ (by omega), hA, Nat.sub_self]; rfl
    rw [e]; exact hK
/-- A field of an element is read. -/
theorem field_load {b o off : Nat} {r : Row} {A c C : List Value} {y : Value} {K : (Nat → Value) → Prop} (hb : w0.heap.size ≤ b) (hr : σ b = some r) (hc : r.cells = A ++ (c ++ C)) (hA : A.length = o) (hoff : c[off]? = some y)
    (hK : ∀ g : Nat → Value, g 0 = y → K g) : pField off (.pointer (some ⟨b, o, none⟩)) fun q => pLoad w0 1 q σ K := by
  rw [pField_s, addr_add]
  refine ⟨_, fun _ => y, rfl, fun j hj => ?_, hK _ rfl⟩
  have : j = 0 := by omega
  subst this
  have hlt : off < c.length := (List.getElem?_eq_some_iff.1 hoff).1
  rw [addr_add, get_row hb hr, hc, List.getElem?_append_right (by omega), List.getElem?_append_left (by omega)]
  rw [show o + off + 0 - A.length = off by omega]; exact hoff

/-! ### Marks -/
def mkS (mk : Nat → α → α) (cnt : α → Nat) : Nat → List α → List α
  | _, [] => []
  | k, x :: r => mk k x :: mkS mk cnt (k + cnt x) r
theorem mkS_len {mk : Nat → α → α} {cnt : α → Nat} : ∀ {xs : List α} {k : Nat}, (mkS mk cnt k xs).length = xs.length
  | [], _ => rfl
  | x :: r, k => by simp [mkS, mkS_len (xs := r)]
theorem mkS_snoc {mk : Nat → α → α} {cnt : α → Nat} {x : α} : ∀ {xs : List α} {k : Nat}, mkS mk cnt k (xs ++ [x]) = mkS mk cnt k xs ++ [mk (k + sumBy cnt xs) x]
  | [], k => by simp [mkS, sumBy]
  | y :: r, k => by simp [mkS, sumBy, mkS_snoc (xs := r), Nat.add_assoc]
theorem mkS_get {mk : Nat → α → α} {cnt : α → Nat} : ∀ {xs : List α} {k j : Nat} {x : α}, xs[j]? = some x → (mkS mk cnt k xs)[j]? = some (mk (k + sumBy cnt (xs.take j)) x)
  | [], k, j, x, h => by simp at h
  | y :: r, k, 0, x, h => by simp at h; subst h; simp [mkS, sumBy]
  | y :: r, k, j + 1, x, h => by
    have := mkS_get (mk := mk) (cnt := cnt) (k := k + cnt y) (xs := r) (j := j) (by simpa using h)
    simp only [mkS, List.getElem?_cons_succ, this, List.take_succ_cons, sumBy, Nat.add_assoc]

/-- A loop that marks. -/
theorem mark_loop {T n : Nat} {Rel : (Addr → Option Value) → List Value → α → Prop} {O : Vw → List Nat → List Value → α → Prop} (ok : OOk w0 n Rel O) {mk : Nat → α → α} {cnt : α → Nat} {F : List Nat} {v : Value} {xs : List α} {k : Nat} {R : Value → Vw → Prop}
    {BODY : List Value → (AX → List Value → Vw → Prop) → Vw → Prop}
    (h : OSl w0 n O σ F v xs) (hk : k + sumBy cnt xs ≤ 1000000000000)
    (hB : ∀ (j : Nat) (x : α) (k' : Nat) (s : Vw) (ys : List α) (K : AX → List Value → Vw → Prop), j < ys.length → ys.length = xs.length → KeepsBut F σ s → x ∈ xs → k' + cnt x ≤ 1000000000000 → OSl w0 n O s F v ys → ys[j]? = some x →
      (∀ s', KeepsBut F s s' → OSl w0 n O s' F v (ys.set j (mk k' x)) → K .normal [v, .int .i64 ((k' + cnt x : Nat) : Int), .int .i64 ((j : Int) + 1)] s') → BODY [v, .int .i64 (k' : Nat), .int .i64 (j : Nat)] K s)
    (hR : ∀ s', KeepsBut F σ s' → OSl w0 n O s' F v (mkS mk cnt k xs) → R (.int .i64 ((k + sumBy cnt xs : Nat) : Int)) s') :
    pLoop (fun l K s => pLen (vget l 0) (fun v3 => pBin P T .lss (vget l 2) v3 (fun v4 => pIf v4 (BODY l K s) (K (.exit 0) [vget l 0, vget l 1, vget l 2] s)))) [v, .int .i64 (k : Nat), .int .i64 0] σ
      (fun x l s => match x with | .normal => R (vget l 1) s | .ret => False | .exit i => (match Nat.beq i 0 with | true => R (vget l 1) s | false => False)) := by
  have hl : xs.length ≤ 9223372036854775807 := h.1
  refine loop_rule (m := xs.length) (fun c l s => ∃ j, c + j = xs.length ∧ KeepsBut F σ s ∧ OSl w0 n O s F v (mkS mk cnt k (xs.take j) ++ xs.drop j) ∧ l = [v, .int .i64 ((k + sumBy cnt (xs.take j) : Nat) : Int), .int .i64 (j : Nat)]) ?_ ⟨0, by omega, KeepsBut.refl _ _, by simpa [mkS] using h, by simp [sumBy]⟩
  rintro c l s L ⟨j, hc, hkb, hO, rfl⟩ hL
  simp only [vget, List.getD_cons_zero, List.getD_cons_succ]
  have hlen : (mkS mk cnt k (xs.take j) ++ xs.drop j).length = xs.length := by simp [mkS_len]; omega
  have hrel := hO.rel ok
  rw [hrel.len, hlen, pBin_lt, pIf_d]
  refine ⟨fun hj => ?_, fun hj => ?_⟩
  · have hj' : j < xs.length := by omega
    have hx := List.getElem?_eq_getElem hj'
    have ht := sumBy_take (f := cnt) hx
    have hle := sumBy_le (f := cnt) (xs := xs) (j + 1)
    have htl : (mkS mk cnt k (xs.take j)).length = j := by rw [mkS_len, List.length_take]; omega
    refine hB j xs[j] (k + sumBy cnt (xs.take j)) s _ _ (by rw [hlen]; exact hj') hlen hkb (List.getElem_mem hj') (by omega) hO ?_ fun s' hk' hO' => ?_
    · rw [List.getElem?_append_right (by omega), htl, Nat.sub_self, List.getElem?_drop, Nat.add_zero, hx]
    · refine hL _ _ (c - 1) (by omega) ⟨j + 1, by omega, hkb.trans hk', ?_, ?_⟩
      · have e : (mkS mk cnt k (xs.take j) ++ xs.drop j).set j (mk (k + sumBy cnt (xs.take j)) xs[j]) = mkS mk cnt k (xs.take (j + 1)) ++ xs.drop (j + 1) := by
          rw [List.set_append_right _ _ (by omega), htl, Nat.sub_self, List.drop_eq_getElem_cons hj', List.set_cons_zero, List.take_add_one, hx, Option.toList_some, mkS_snoc]
          simp
        rw [e] at hO'; exact hO'
      · rw [ht]
        congr 2
        · congr 1; omega
  · have hj' : j = xs.length := by omega
    subst hj'
    rw [List.take_length] at hO ⊢
    rw [List.drop_length, List.append_nil] at hO
    exact hR s hkb hO

/-- A loop that looks at marks. -/
theorem held_loop {T n : Nat} {Rel : (Addr → Option Value) → List Value → α → Prop} (hmono : ∀ rd rd' es x, Le rd rd' → Rel rd es x → Rel rd' es x) {mk : Nat → α → α} {cnt : α → Nat} {v : Value} {xs : List α} {k : Nat} {R : Value → Vw → Prop}
    {BODY : List Value → (AX → List Value → Vw → Prop) → Vw → Prop}
    (h : RSl n Rel (Av.get w0 σ) v (mkS mk cnt k xs)) (hk : k + sumBy cnt xs ≤ 1000000000000)
    (hB : ∀ (j : Nat) (x : α) (k' : Nat) (s : Vw) (K : AX → List Value → Vw → Prop), j < xs.length → Keeps σ s → x ∈ xs → k' + cnt x ≤ 1000000000000 → RSl n Rel (Av.get w0 s) v (mkS mk cnt k xs) → (mkS mk cnt k xs)[j]? = some (mk k' x) →
      (∀ s', Keeps s s' → K .normal [v, .int .i64 ((k' + cnt x : Nat) : Int), .int .i64 0, .int .i64 ((j : Int) + 1)] s') → BODY [v, .int .i64 (k' : Nat), .int .i64 0, .int .i64 (j : Nat)] K s)
    (hR : ∀ s', Keeps σ s' → R (.int .i64 ((k + sumBy cnt xs : Nat) : Int)) s') :
    pLoop (fun l K s => pLen (vget l 0) (fun v3 => pBin P T .lss (vget l 3) v3 (fun v4 => pIf v4 (BODY l K s) (K (.exit 0) [vget l 0, vget l 1, vget l 2, vget l 3] s)))) [v, .int .i64 (k : Nat), .int .i64 0, .int .i64 0] σ
      (fun x l s => match x with | .normal => R (vget l 1) s | .ret => R (vget l 2) s | .exit i => (match Nat.beq i 0 with | true => R (vget l 1) s | false => False)) := by
  have hl : xs.length ≤ 9223372036854775807 := by have := h.le; rwa [mkS_len] at this
  refine loop_rule (m := xs.length) (fun c l s => ∃ j, c + j = xs.length ∧ Keeps σ s ∧ l = [v, .int .i64 ((k + sumBy cnt (xs.take j) : Nat) : Int), .int .i64 0, .int .i64 (j : Nat)]) ?_ ⟨0, by omega, Keeps.refl _, by simp [sumBy]⟩
  rintro c l s L ⟨j, hc, hkb, rfl⟩ hL
  simp only [vget, List.getD_cons_zero, List.getD_cons_succ]
  have h' := h.mono hkb.le fun es x => hmono _ _ es x hkb.le
  rw [h'.len, mkS_len, pBin_lt, pIf_d]
  refine ⟨fun hj => ?_, fun hj => ?_⟩
  · have hj' : j < xs.length := by omega
    have hx := List.getElem?_eq_getElem hj'
    have ht := sumBy_take (f := cnt) hx
    have hle := sumBy_le (f := cnt) (xs := xs) (j + 1)
    refine hB j xs[j] (k + sumBy cnt (xs.take j)) s _ hj' hkb (List.getElem_mem hj') (by omega) h' (mkS_get hx) fun s' hk' => ?_
    refine hL _ _ (c - 1) (by omega) ⟨j + 1, by omega, hkb.trans hk', ?_⟩
    rw [ht]
    congr 2
    · congr 1; omega
  · have hj' : j = xs.length := by omega
    subst hj'
    rw [List.take_length]
    exact hR s hkb
end
end Go.Av

/- The plain side, part 3: what the statement's reading of an argument says of the cells. -/
set_option linter.unusedVariables false
set_option linter.unusedSimpArgs false
namespace Go.Av
open Go Go.RowKit

def σ0 : Vw := fun _ => none

section
variable {H : Type} {enc : TypeId × Value → H} {P : Program} {W : World} {fuel : Nat} {cs : List Value} {x : DataW H × List MemPlace}

theorem sat0 (W : World) : Sat W σ0 W := ⟨Below.refl _ _, fun b r h => by cases h⟩

theorem get0 {a : Addr} {v : Value} (h : W.cell? a = some v) {σ : Vw} : Av.get W σ a = some v := by
  have hlt : a.block < W.heap.size := by
    rcases Nat.lt_or_ge a.block W.heap.size with h1 | h1
    · exact h1
    · have : W.heap[a.block]? = none := Array.getElem?_eq_none h1
      unfold World.cell? at h
      simp [this] at h
  unfold Av.get
  rw [if_pos hlt]; exact h

theorem listOf {α : Type} (p : Nat → α → Prop) : ∀ (n : Nat), (∀ i, i < n → ∃ x, p i x) → ∃ xs : List α, xs.length = n ∧ ∀ (j : Nat) (x : α), xs[j]? = some x → p j x
  | 0, _ => ⟨[], rfl, fun j x h => by simp at h⟩
  | n + 1, h => by
    obtain ⟨xs, hl, hx⟩ := listOf p n (fun i hi => h i (by omega))
    obtain ⟨y, hy⟩ := h n (by omega)
    refine ⟨xs ++ [y], by simp [hl], fun j x hj => ?_⟩
    by_cases e : j < xs.length
    · rw [List.getElem?_append_left e] at hj; exact hx j x hj
    · rw [List.getElem?_append_right (by omega)] at hj
      have : j - xs.length = 0 := by
        rcases Nat.eq_zero_or_pos (j - xs.length) with h0 | h0
        · exact h0
        · rw [List.getElem?_eq_none (by simp; omega)] at hj; cases hj
      rw [this] at hj
      simp at hj
      subst hj
      have : j = n := by omega
      subst this; exact hy

/-- A slice is opened, its elements by a rule of their own. -/
theorem open_rsl {α : Type} {t e n : Nat} {R : (Addr → Option Value) → List Value → α → Prop} {spare : Nat → Bool} (ht : P.underlying t = some (.slice e)) (hc : P.cellsOf e = n)
    (hR : ∀ (fuel : Nat) (es : List Value) (y : DataW H × List MemPlace), DataW.trod enc P W 0 spare true fuel e es = some y → es.length = n → ∃ x, R (Av.get W σ0) es x) (h : DataW.trod enc P W 0 spare true fuel t cs = some x) : ∃ v xs, cs = [v] ∧ RSl n R (Av.get W σ0) v xs := by
  rcases DataW.trod_slice ht h with ⟨rfl, _⟩ | ⟨a, len, cap, elems, rest, m, _, rfl, _, hb, hl, hm, hlen, hel, _, _⟩
  · exact ⟨_, [], rfl, none, 0, rfl, by simp, fun j x hj => by simp at hj⟩
  · have each : ∀ i, i < len → ∃ x : α, ∃ es : List Value, es.length = n ∧ (∀ k, k < n → Av.get W σ0 (a.add (i * n + k)) = es[k]?) ∧ R (Av.get W σ0) es x := by
      intro i hi
      have h1 := hel i hi
      rw [hc, List.getElem?_eq_getElem (by omega), Option.bind_eq_some_iff] at h1
      obtain ⟨es, h2, h3⟩ := h1
      obtain ⟨_, hes, hcell⟩ := World.cells?_some h2
      obtain ⟨x, hx⟩ := hR m es _ h3 hes
      refine ⟨x, es, hes, fun k hk => ?_, hx⟩
      have := hcell k hk
      rw [add_add] at this
      have hlt : k < es.length := by omega
      rw [List.getElem?_eq_getElem hlt] at this ⊢
      exact get0 this
    obtain ⟨xs, hxl, hxs⟩ := listOf _ len each
    have hmax : cap ≤ 9223372036854775807 := by have : maxLen = 9223372036854775807 := by decide
                                                omega
    refine ⟨_, xs, rfl, some a, cap, by rw [hxl], ⟨by omega, hmax⟩, fun j x hj => ?_⟩
    obtain ⟨es, g1, g2, g3⟩ := hxs j x hj
    exact ⟨a, es, rfl, g1, g2, g3⟩

theorem open_rs {e : Nat} {spare : Nat → Bool} (he : P.underlying e = some .string) : ∀ (fuel : Nat) (es : List Value) (y : DataW H × List MemPlace), DataW.trod enc P W 0 spare true fuel e es = some y → es.length = 1 → ∃ s, RS (Av.get W σ0) es s := by
  intro fuel es y h _
  obtain ⟨s, rfl, _, hm⟩ := DataW.trod_string he h
  exact ⟨s, rfl, by have : maxLen = 9223372036854775807 := by decide
                    omega⟩

def fsOf (P : Program) (t : Nat) : Array Field := match P.underlying t with | some (.struct fs) => fs | _ => #[]

theorem open_field {t : Nat} {spare : Nat → Bool} (ht : P.underlying t = some (.struct (fsOf P t))) (i ft off n : Nat) (hf : (fsOf P t)[i]?.map (fun f => (f.type, f.offset)) = some (ft, off)) (hn : P.cellsOf ft = n) (h : DataW.trod enc P W 0 spare true fuel t cs = some x) :
    ∃ (fuel' : Nat) (y : DataW H × List MemPlace), DataW.trod enc P W 0 spare true fuel' ft ((cs.drop off).take n) = some y := by
  obtain ⟨xs, m, _, _, _, hl, hall⟩ := DataW.trod_struct ht h
  cases hc : (fsOf P t)[i]? with
  | none => rw [hc] at hf; cases hf
  | some f =>
    rw [hc] at hf
    simp only [Option.map_some, Option.some.injEq, Prod.mk.injEq] at hf
    obtain ⟨rfl, rfl⟩ := hf
    have h1 := hall i f hc
    have hlt : i < xs.length := by rw [hl]; exact (Array.getElem?_eq_some_iff.1 hc).1
    rw [List.getElem?_eq_getElem hlt, hn] at h1
    exact ⟨m, _, h1⟩

/-- From the functions to the statement. -/
theorem AC.calls {f : FuncId} {args : List Value} {R : Value → Vw → Prop} (h : AC P W f args σ0 R) : Calls P f args.toArray W fun e W' => ∃ v σ', e = .returned v ∧ R v σ' ∧ Below W.heap.size W W' :=
  (h.2 W (sat0 W)).mono fun e W' ⟨v, σ', h1, h2, h3⟩ => ⟨v, σ', h1, h2, h3.sat.bel⟩
end
end Go.Av

/- The plain side, part 4: what the statement's reading of an argument says, with the fuel told; numbers, bools, texts. -/
set_option linter.unusedVariables false
set_option linter.unusedSimpArgs false
namespace Go.Av
open Go Go.RowKit

theorem RSl.imp {α : Type} {n : Nat} {R R' : (Addr → Option Value) → List Value → α → Prop} {rd : Addr → Option Value} {v : Value} {xs : List α} (h : RSl n R rd v xs) (hR : ∀ es x, R rd es x → R' rd es x) : RSl n R' rd v xs := by
  obtain ⟨A, cap, h1, h2, h3⟩ := h
  refine ⟨A, cap, h1, h2, fun j x hj => ?_⟩
  obtain ⟨a, es, h4, h5, h6, h7⟩ := h3 j x hj
  exact ⟨a, es, h4, h5, h6, hR _ _ h7⟩

section
variable {H : Type} {enc : TypeId × Value → H} {P : Program} {W : World} {fuel : Nat} {cs : List Value} {x : DataW H × List MemPlace}

/-- A slice is opened, its elements by a rule of their own, at less fuel. -/
theorem open_rsl' {α : Type} {t e n : Nat} {R : (Addr → Option Value) → List Value → α → Prop} {spare : Nat → Bool} (ht : P.underlying t = some (.slice e)) (hc : P.cellsOf e = n)
    (hR : ∀ (m : Nat) (es : List Value) (y : DataW H × List MemPlace), m < fuel → DataW.trod enc P W 0 spare true m e es = some y → es.length = n → ∃ x, R (Av.get W σ0) es x) (h : DataW.trod enc P W 0 spare true fuel t cs = some x) : ∃ v xs, cs = [v] ∧ RSl n R (Av.get W σ0) v xs := by
  rcases DataW.trod_slice ht h with ⟨rfl, _⟩ | ⟨a, len, cap, elems, rest, m, hm1, rfl, _, hb, hl, hm, hlen, hel, _, _⟩
  · exact ⟨_, [], rfl, none, 0, rfl, by simp, fun j x hj => by simp at hj⟩
  · have each : ∀ i, i < len → ∃ x : α, ∃ es : List Value, es.length = n ∧ (∀ k, k < n → Av.get W σ0 (a.add (i * n + k)) = es[k]?) ∧ R (Av.get W σ0) es x := by
      intro i hi
      have h1 := hel i hi
      rw [hc, List.getElem?_eq_getElem (by omega), Option.bind_eq_some_iff] at h1
      obtain ⟨es, h2, h3⟩ := h1
      obtain ⟨_, hes, hcell⟩ := World.cells?_some h2
      obtain ⟨x, hx⟩ := hR m es _ (by omega) h3 hes
      refine ⟨x, es, hes, fun k hk => ?_, hx⟩
      have := hcell k hk
      rw [add_add] at this
      have hlt : k < es.length := by omega
      rw [List.getElem?_eq_getElem hlt] at this ⊢
      exact get0 this
    obtain ⟨xs, hxl, hxs⟩ := listOf _ len each
    have hmax : cap ≤ 9223372036854775807 := by have : maxLen = 9223372036854775807 := by decide
                                                omega
    refine ⟨_, xs, rfl, some a, cap, by rw [hxl], ⟨by omega, hmax⟩, fun j x hj => ?_⟩
    obtain ⟨es, g1, g2, g3⟩ := hxs j x hj
    exact ⟨a, es, rfl, g1, g2, g3⟩

theorem open_field' {t : Nat} {spare : Nat → Bool} (ht : P.underlying t = some (.struct (fsOf P t))) (i ft off n : Nat) (hf : (fsOf P t)[i]?.map (fun f => (f.type, f.offset)) = some (ft, off)) (hn : P.cellsOf ft = n) (h : DataW.trod enc P W 0 spare true fuel t cs = some x) :
    ∃ (fuel' : Nat) (y : DataW H × List MemPlace), fuel' < fuel ∧ DataW.trod enc P W 0 spare true fuel' ft ((cs.drop off).take n) = some y := by
  obtain ⟨xs, m, hm, _, _, hl, hall⟩ := DataW.trod_struct ht h
  cases hc : (fsOf P t)[i]? with
  | none => rw [hc] at hf; cases hf
  | some f =>
    rw [hc] at hf
    simp only [Option.map_some, Option.some.injEq, Prod.mk.injEq] at hf
    obtain ⟨rfl, rfl⟩ := hf
    have h1 := hall i f hc
    have hlt : i < xs.length := by rw [hl]; exact (Array.getElem?_eq_some_iff.1 hc).1
    rw [List.getElem?_eq_getElem hlt, hn] at h1
    exact ⟨m, _, by omega, h1⟩

theorem open_int {t : Nat} {spare : Nat → Bool} (ht : P.underlying t = some (.int .i64)) (h : DataW.trod enc P W 0 spare true fuel t cs = some x) : ∃ n : Int, cs = [.int .i64 n] ∧ -9223372036854775808 ≤ n ∧ n ≤ 9223372036854775807 := by
  obtain ⟨n, rfl, _, hw⟩ := DataW.trod_int ht h
  refine ⟨n, rfl, ?_⟩
  have e1 : IntKind.i64.min = -9223372036854775808 := by decide
  have e2 : IntKind.i64.max = 9223372036854775807 := by decide
  simp only [Lit.wf, Bool.and_eq_true, decide_eq_true_eq, e1, e2] at hw
  exact ⟨hw.1, hw.2⟩
theorem open_str {t : Nat} {spare : Nat → Bool} (ht : P.underlying t = some .string) (h : DataW.trod enc P W 0 spare true fuel t cs = some x) : ∃ s : ByteArray, cs = [.string s] ∧ s.size ≤ 9223372036854775807 := by
  obtain ⟨s, rfl, _, hm⟩ := DataW.trod_string ht h
  exact ⟨s, rfl, by have : maxLen = 9223372036854775807 := by decide
                    omega⟩
theorem open_bool {t : Nat} {spare : Nat → Bool} (ht : P.underlying t = some .bool) (h : DataW.trod enc P W 0 spare true fuel t cs = some x) : ∃ b : Bool, cs = [.bool b] := by
  obtain ⟨b, rfl, _⟩ := DataW.trod_bool ht h
  exact ⟨b, rfl⟩
end
end Go.Av

/- The plain side, part 5: more operations at known values. -/
set_option linter.unusedVariables false
set_option linter.unusedSimpArgs false
namespace Go.Av
open Go Go.RowKit IntWalk

section
variable {P : Program} {w0 : World} {σ σ' : Vw}
theorem pConv_s {k k' : IntKind} {n : Int} {K : Value → Prop} : pConvInt k (.int k' n) K ↔ K (.int k (k.wrap n)) :=
  ⟨fun ⟨_, _, h, hK⟩ => by cases h; exact hK, fun h => ⟨_, _, rfl, h⟩⟩
theorem pConv_u8 {k' : IntKind} {n : Int} {K : Value → Prop} (h : 0 ≤ n ∧ n ≤ 255) : pConvInt .u8 (.int k' n) K ↔ K (.int .u8 n) := by rw [pConv_s, u8_in n h]
theorem pConv_i64 {k' : IntKind} {n : Int} {K : Value → Prop} (h : -9223372036854775808 ≤ n ∧ n ≤ 9223372036854775807) : pConvInt .i64 (.int k' n) K ↔ K (.int .i64 n) := by rw [pConv_s, i64_in n h]
theorem pConv_u64 {k' : IntKind} {n : Int} {K : Value → Prop} (h : 0 ≤ n ∧ n ≤ 18446744073709551615) : pConvInt .u64 (.int k' n) K ↔ K (.int .u64 n) := by rw [pConv_s, u64_in n h]
theorem pBin_rem {T : Nat} {k : IntKind} {a b : Int} {K : Value → Prop} (h : 0 ≤ a ∧ 0 < b) : pBin P T .rem (.int k a) (.int k b) K ↔ K (.int k (a % b)) :=
  pBin_i (by simp only [aint]; rw [if_neg (by omega), Int.tmod_eq_emod_of_nonneg h.1])
theorem pBin_quo {T : Nat} {a b : Int} {K : Value → Prop} (h : 0 ≤ a ∧ a ≤ 9223372036854775807 ∧ 0 < b) : pBin P T .quo (.int .i64 a) (.int .i64 b) K ↔ K (.int .i64 (a / b)) :=
  pBin_i (by simp only [aint]; rw [if_neg (by omega), i64_quo a b (by omega)])
theorem pBin_cat {T : Nat} {a b : ByteArray} {K : Value → Prop} (h : a.size + b.size ≤ 9223372036854775807) : pBin P T .add (.string a) (.string b) K ↔ K (.string (a ++ b)) :=
  pBin_s (by
    have e : IntKind.i64.max = 9223372036854775807 := by decide
    simp only [astr, e]
    rw [if_neg (by omega)])
theorem pMin_s {k : IntKind} {a b : Int} {K : Value → Prop} : pMin (.int k a) (.int k b) K ↔ K (.int k (min a b)) := by
  have e : (if b < a then b else a) = min a b := by split <;> omega
  exact ⟨fun ⟨_, _, _, h1, h2, hK⟩ => by cases h1; cases h2; rw [e] at hK; exact hK, fun hK => ⟨_, _, _, rfl, rfl, by rw [e]; exact hK⟩⟩
theorem pMax_s {k : IntKind} {a b : Int} {K : Value → Prop} : pMax (.int k a) (.int k b) K ↔ K (.int k (max a b)) := by
  have e : (if b > a then b else a) = max a b := by split <;> omega
  exact ⟨fun ⟨_, _, _, h1, h2, hK⟩ => by cases h1; cases h2; rw [e] at hK; exact hK, fun hK => ⟨_, _, _, rfl, rfl, by rw [e]; exact hK⟩⟩
theorem pExtract_s {vs : List Value} {i : Nat} {v : Value} {K : Value → Prop} (h : vs[i]? = some v) : pExtract (.tuple ⟨vs⟩) i K ↔ K v := by
  obtain ⟨hl, he⟩ := List.getElem?_eq_some_iff.1 h
  exact ⟨fun ⟨_, e, hl', hK⟩ => by cases e; rw [he] at hK; exact hK, fun hK => ⟨_, rfl, hl, by rw [he]; exact hK⟩⟩
theorem pIndexStr_s {s : ByteArray} {j : Nat} {K : Value → Prop} (h : j < s.size) (hK : K (.int .u8 ((s[j]'h).toNat : Int))) : pIndexStr (.string s) (.int .i64 j) K :=
  ⟨s, .i64, j, rfl, rfl, by omega, h, hK⟩
theorem pSliceStr_s {s : ByteArray} {lo hi : Option Value} {l h : Int} {K : Value → Prop} (hl : boundOf 0 lo = some l) (hh : boundOf s.size hi = some h) (h0 : 0 ≤ l ∧ l ≤ h ∧ h ≤ s.size) (hK : K (.string (s.extract l.toNat h.toNat))) : pSliceStr (.string s) lo hi K :=
  ⟨s, l, h, rfl, hl, hh, h0.1, h0.2.1, h0.2.2, hK⟩
theorem pLoad_row {b o n : Nat} {r : Row} {A c C : List Value} {K : (Nat → Value) → Prop} (hb : w0.heap.size ≤ b) (hr : σ b = some r) (hc : r.cells = A ++ (c ++ C)) (hA : A.length = o) (hn : c.length = n)
    (hK : ∀ g : Nat → Value, expl g 0 n = c → K g) : pLoad w0 n (.pointer (some ⟨b, o, none⟩)) σ K := by
  refine ⟨_, fun i => c.getD i undef, rfl, fun j hj => ?_, hK _ ?_⟩
  · rw [addr_add, get_row hb hr, hc, List.getElem?_append_right (by omega), List.getElem?_append_left (by omega)]
    rw [show o + j - A.length = j by omega]
    simp only [List.getD_eq_getElem?_getD, List.getElem?_eq_getElem (show j < c.length by omega), Option.getD_some]
  · apply List.ext_getElem?
    intro i
    by_cases hi : i < n
    · rw [expl_get _ _ _ _ hi, Nat.zero_add, List.getD_eq_getElem?_getD, List.getElem?_eq_getElem (by omega)]; rfl
    · rw [List.getElem?_eq_none (by rw [length_expl]; omega), List.getElem?_eq_none (by omega)]
end
end Go.Av

/- Lists that grow by append, in a row of our own; elements that need no row; elements that are read in what is older. -/
set_option linter.unusedVariables false
set_option linter.unusedSimpArgs false
namespace Go.Av
open Go Go.RowKit

section
variable {P : Program} {w0 : World} {σ σ' : Vw} {α : Type}

/-! ### Elements that are read by a reader that is fixed -/
def RB (Rel : (Addr → Option Value) → List Value → α → Prop) (rd0 : Addr → Option Value) (rd : Addr → Option Value) (es : List Value) (x : α) : Prop := Rel rd0 es x
def OB (Rel : (Addr → Option Value) → List Value → α → Prop) (rd0 : Addr → Option Value) (σ : Vw) (F : List Nat) (es : List Value) (x : α) : Prop := F = [] ∧ Rel rd0 es x
/-- What a rule of reading must keep. -/
structure ROk (n : Nat) (Rel : (Addr → Option Value) → List Value → α → Prop) : Prop where
  mono : ∀ rd rd' es x, Le rd rd' → Rel rd es x → Rel rd' es x
  len : ∀ rd es x, Rel rd es x → es.length = n
  one : ∀ rd es x, Rel rd es x → ∀ c, c ∈ es → c.oneCell' = true
theorem ok_base {n : Nat} {Rel : (Addr → Option Value) → List Value → α → Prop} (ok : ROk n Rel) (w0 : World) (rd0 : Addr → Option Value) : OOk w0 n (RB Rel rd0) (OB Rel rd0) := by
  refine ⟨?_, ?_, ?_, ?_, ?_, ?_⟩
  · rintro σ F es x ⟨_, h⟩; exact h
  · rintro σ σ' F es x h _; exact h
  · rintro σ F es x ⟨rfl, _⟩ b hb; cases hb
  · rintro σ F es x ⟨rfl, _⟩; exact List.nodup_nil
  · rintro σ F es x ⟨_, h⟩; exact ok.len _ _ _ h
  · rintro σ F es x ⟨_, h⟩; exact ok.one _ _ _ h
theorem RSl.unbase {n : Nat} {Rel : (Addr → Option Value) → List Value → α → Prop} (ok : ROk n Rel) {rd0 rd : Addr → Option Value} {v : Value} {xs : List α} (h : RSl n (RB Rel rd0) rd v xs) (hle : Le rd0 rd) : RSl n Rel rd v xs :=
  h.imp fun es x hx => ok.mono _ _ _ _ hle hx

/-! ### Elements that need no row -/
def RFl (enc : α → List Value) (good : α → Prop) (rd : Addr → Option Value) (es : List Value) (x : α) : Prop := es = enc x ∧ good x
def OFl (enc : α → List Value) (good : α → Prop) (σ : Vw) (F : List Nat) (es : List Value) (x : α) : Prop := F = [] ∧ es = enc x ∧ good x
theorem rok_fl {n : Nat} {enc : α → List Value} {good : α → Prop} (hl : ∀ x, (enc x).length = n) (ho : ∀ x c, c ∈ enc x → c.oneCell' = true) : ROk n (RFl enc good) :=
  ⟨fun _ _ _ _ _ h => h, fun _ _ x h => by rw [h.1]; exact hl x, fun _ _ x h => by rw [h.1]; exact ho x⟩
theorem ok_fl {n : Nat} {enc : α → List Value} {good : α → Prop} (hl : ∀ x, (enc x).length = n) (ho : ∀ x c, c ∈ enc x → c.oneCell' = true) (w0 : World) : OOk w0 n (RFl enc good) (OFl enc good) := by
  refine ⟨?_, ?_, ?_, ?_, ?_, ?_⟩
  · rintro σ F es x ⟨_, h⟩; exact h
  · rintro σ σ' F es x h _; exact h
  · rintro σ F es x ⟨rfl, _⟩ b hb; cases hb
  · rintro σ F es x ⟨rfl, _⟩; exact List.nodup_nil
  · rintro σ F es x ⟨_, h, _⟩; rw [h]; exact hl x
  · rintro σ F es x ⟨_, h, _⟩; rw [h]; exact ho x

/-! ### Growing lists -/
def OAcc (w0 : World) (ety n : Nat) (O : Vw → List Nat → List Value → α → Prop) (σ : Vw) (F : List Nat) (v : Value) (xs : List α) : Prop :=
  xs.length ≤ 9223372036854775807 ∧ F.Nodup ∧ ((v = .slice none 0 0 ∧ xs = [] ∧ F = []) ∨
  ∃ (b cap : Nat) (css : List (List Value)) (Fs : List (List Nat)), v = .slice (some ⟨b, 0, none⟩) xs.length cap ∧ (xs.length ≤ cap ∧ cap ≤ 9223372036854775807) ∧ w0.heap.size ≤ b ∧ σ b = some ⟨ety, css.flatten, cap * n, (0, 0)⟩ ∧
    css.length = xs.length ∧ Fs.length = xs.length ∧ F = b :: Fs.flatten ∧ ∀ (j : Nat) (c : List Value) (x : α) (f : List Nat), css[j]? = some c → xs[j]? = some x → Fs[j]? = some f → O σ f c x)

theorem OAcc.osl {ety n : Nat} {O : Vw → List Nat → List Value → α → Prop} {F : List Nat} {v : Value} {xs : List α} (h : OAcc w0 ety n O σ F v xs) : OSl w0 n O σ F v xs := by
  obtain ⟨h1, h2, h3 | ⟨b, cap, css, Fs, g1, g2, g3, g4, g5, g6, g7, g8⟩⟩ := h
  · exact ⟨h1, h2, .inl h3⟩
  · exact ⟨h1, h2, .inr ⟨b, 0, cap, _, [], [], css, Fs, g1, g2, g3, g4, by simp, rfl, g5, g6, g7, g8⟩⟩
theorem OAcc.frame {ety n : Nat} {Rel : (Addr → Option Value) → List Value → α → Prop} {O : Vw → List Nat → List Value → α → Prop} (ok : OOk w0 n Rel O) {F : List Nat} {v : Value} {xs : List α} (h : OAcc w0 ety n O σ F v xs) (hF : ∀ b, b ∈ F → σ' b = σ b) : OAcc w0 ety n O σ' F v xs := by
  obtain ⟨h1, h2, h3 | ⟨b, cap, css, Fs, g1, g2, g3, g4, g5, g6, g7, g8⟩⟩ := h
  · exact ⟨h1, h2, .inl h3⟩
  · refine ⟨h1, h2, .inr ⟨b, cap, css, Fs, g1, g2, g3, by rw [hF b (by rw [g7]; exact List.mem_cons_self)]; exact g4, g5, g6, g7, fun j c x f e1 e2 e3 => ?_⟩⟩
    refine ok.frame _ _ _ _ _ (g8 j c x f e1 e2 e3) fun i hi => hF i ?_
    rw [g7]
    exact List.mem_cons_of_mem _ (List.mem_flatten.2 ⟨f, List.mem_of_getElem? e3, hi⟩)
theorem OAcc.dom {ety n : Nat} {Rel : (Addr → Option Value) → List Value → α → Prop} {O : Vw → List Nat → List Value → α → Prop} (ok : OOk w0 n Rel O) {F : List Nat} {v : Value} {xs : List α} (h : OAcc w0 ety n O σ F v xs) : ∀ b, b ∈ F → w0.heap.size ≤ b ∧ σ b ≠ none := h.osl.dom ok
theorem OAcc.nil {ety n : Nat} {O : Vw → List Nat → List Value → α → Prop} : OAcc w0 ety n O σ [] (.slice none 0 0) [] := ⟨by simp, by simp, .inl ⟨rfl, rfl, rfl⟩⟩
theorem OAcc.new {ety n b : Nat} {O : Vw → List Nat → List Value → α → Prop} (hb : w0.heap.size ≤ b) : OAcc w0 ety n O (σ.put b ⟨ety, [], 0, (0, 0)⟩) [b] (.slice (some ⟨b, 0, none⟩) 0 0) [] :=
  ⟨by simp, by simp, .inr ⟨b, 0, [], [], rfl, by simp, hb, by rw [put_at]; simp, rfl, rfl, rfl, fun j c x f h => by simp at h⟩⟩

theorem Keeps.but_at {F : List Nat} (h : Keeps σ σ') (hF : ∀ b, b ∈ F → σ b ≠ none) : ∀ b, b ∈ F → σ' b = σ b := fun b hb => by
  cases hs : σ b with
  | none => exact absurd hs (hF b hb)
  | some r => exact h b r hs

/-- Elements are appended, each with rows of its own. -/
theorem OAcc.pushX {ety n bytes m : Nat} {Rel : (Addr → Option Value) → List Value → α → Prop} {O : Vw → List Nat → List Value → α → Prop} (ok : OOk w0 n Rel O) {F : List Nat} {v : Value} {xs ys : List α} {nss : List (List Value)} {Gs : List (List Nat)} {new : List Value}
    (h : OAcc w0 ety n O σ F v xs) (hm : ys.length = m) (hnl : nss.length = m) (hGl : Gs.length = m) (hnew : new = nss.flatten) (hO : ∀ (j : Nat) (c : List Value) (y : α) (g : List Nat), nss[j]? = some c → ys[j]? = some y → Gs[j]? = some g → O σ g c y)
    (hG : Gs.flatten.Nodup) (hGF : ∀ i, i ∈ Gs.flatten → i ∉ F) (hlen : xs.length + m ≤ 1000000000000) (hbytes : bytes ≤ 140) {K : Value → Vw → Prop}
    (hK : ∀ v' F' σ', Ext σ σ' → KeepsBut F σ σ' → OAcc w0 ety n O σ' F' v' (xs ++ ys) → (∀ i, i ∈ F' → i ∈ F ∨ i ∈ Gs.flatten ∨ σ i = none) → K v' σ') : pAppend w0 ety n bytes v m new σ K := by
  have hb47 : (xs.length + m) * bytes ≤ 2 ^ 47 := by
    have h1 : (xs.length + m) * bytes ≤ 1000000000000 * 140 := Nat.mul_le_mul hlen hbytes
    have h2 : (2 : Nat) ^ 47 = 140737488355328 := by decide
    omega
  have hn2 : ∀ c, c ∈ nss → c.length = n := fun c hc => by
    obtain ⟨i, hi⟩ := List.getElem?_of_mem hc
    have hil : i < nss.length := (List.getElem?_eq_some_iff.1 hi).1
    exact ok.len _ _ _ _ (hO i c _ _ hi (List.getElem?_eq_getElem (by omega)) (List.getElem?_eq_getElem (by omega)))
  have hnewl : new.length = m * n := by rw [hnew, flat_len _ hn2, hnl]
  have hGdom : ∀ i, i ∈ Gs.flatten → σ i ≠ none := fun i hi => by
    obtain ⟨j, f, e1, e2⟩ := mem_flat hi
    have hj : j < Gs.length := (List.getElem?_eq_some_iff.1 e1).1
    exact (ok.dom _ _ _ _ (hO j _ _ f (List.getElem?_eq_getElem (by omega)) (List.getElem?_eq_getElem (by omega)) e1) i e2).2
  obtain ⟨h1, h2, ⟨rfl, rfl, rfl⟩ | ⟨b, cap, css, Fs, rfl, g2, g3, g4, g5, g6, g7, g8⟩⟩ := h
  · refine .inr ⟨0, [], ⟨by simp, .inl ⟨rfl, rfl⟩⟩, hnewl, by simpa using (by omega : m ≤ 9223372036854775807), by simpa using hb47, fun v' σ' hg => ?_⟩
    rcases hg with ⟨rfl, rfl, _, h0, _⟩ | ⟨b', c', rfl, g1, g2, rfl, g3, g4⟩
    · have : m = 0 := by omega
      subst this
      have hy : ys = [] := List.length_eq_zero_iff.1 hm
      subst hy
      exact hK _ [] _ (Ext.refl _) (KeepsBut.refl _ _) (by simpa using OAcc.nil) (fun i hi => by cases hi)
    · have hb' : σ b' = none := by
        rcases g4 with h | ⟨n0, c0, h⟩
        · exact h
        · cases h
      have hbG : b' ∉ Gs.flatten := fun hi => hGdom b' hi hb'
      refine hK _ (b' :: Gs.flatten) _ (Keeps.put hb').ext (Keeps.put hb').but ?_ fun i hi => ?_
      · refine ⟨by simp; omega, List.nodup_cons.2 ⟨hbG, hG⟩, .inr ⟨b', c', nss, Gs, by simp [hm], by simp [hm]; omega, g3, by rw [put_at]; simp [hnew], by simp [hm, hnl], by simp [hm, hGl], rfl, fun j c x f e1 e2 e3 => ?_⟩⟩
        simp only [List.nil_append] at e2
        refine ok.frame _ _ _ _ _ (hO j c x f e1 e2 e3) fun i hi => ?_
        have : i ≠ b' := fun e => hbG (e ▸ List.mem_flatten.2 ⟨f, List.mem_of_getElem? e3, hi⟩)
        simp [Vw.put, this]
      · rcases List.mem_cons.1 hi with e | e
        · rw [e]; exact .inr (.inr hb')
        · exact .inr (.inl e)
  · have hn1 : ∀ c, c ∈ css → c.length = n := fun c hc => by
      obtain ⟨i, hi⟩ := List.getElem?_of_mem hc
      have hil : i < css.length := (List.getElem?_eq_some_iff.1 hi).1
      exact ok.len _ _ _ _ (g8 i c _ _ hi (List.getElem?_eq_getElem (by omega)) (List.getElem?_eq_getElem (by omega)))
    have g4' := g4
    rw [g7] at h2
    have hbFs : b ∉ Fs.flatten := (List.nodup_cons.1 h2).1
    have hbG : b ∉ Gs.flatten := fun hi => hGF b hi (by rw [g7]; exact List.mem_cons_self)
    have hFsdom : ∀ i, i ∈ Fs.flatten → σ i ≠ none := fun i hi => by
      obtain ⟨j, f, e1, e2⟩ := mem_flat hi
      have hj : j < Fs.length := (List.getElem?_eq_some_iff.1 e1).1
      exact (ok.dom _ _ _ _ (g8 j _ _ f (List.getElem?_eq_getElem (by omega)) (List.getElem?_eq_getElem (by omega)) e1) i e2).2
    refine .inr ⟨xs.length, css.flatten, ⟨by rw [flat_len _ hn1, g5], .inr ⟨b, cap, rfl, g4, g2.1, g2.2⟩⟩, hnewl, by omega, hb47, fun v' σ' hg => ?_⟩
    rcases hg with ⟨rfl, rfl, h, _⟩ | ⟨b', c', rfl, k1, k2, rfl, k3, k4⟩
    · cases h
    · have hb' : b' ∉ Fs.flatten ∧ b' ∉ Gs.flatten ∧ (b' = b ∨ σ b' = none) := by
        rcases k4 with h | ⟨n0, c0, h⟩
        · exact ⟨fun hi => hFsdom b' hi h, fun hi => hGdom b' hi h, .inr h⟩
        · cases h; exact ⟨hbFs, hbG, .inl rfl⟩
      refine hK _ (b' :: (Fs ++ Gs).flatten) _ ?_ ?_ ?_ fun i hi => ?_
      · rcases hb'.2.2 with rfl | h
        · intro i r hi
          by_cases e : i = b'
          · subst e
            rw [g4'] at hi; cases hi
            exact ⟨_, put_at, List.prefix_append _ _⟩
          · exact ⟨r, by simp [Vw.put, e, hi], List.prefix_refl _⟩
        · exact (Keeps.put h).ext
      · rcases hb'.2.2 with rfl | h
        · exact KeepsBut.put (by rw [g7]; exact List.mem_cons_self)
        · exact (Keeps.put h).but
      · refine ⟨by simp; omega, ?_, .inr ⟨b', c', css ++ nss, Fs ++ Gs, by simp [hm], by simp [hm]; omega, k3, by rw [put_at, hnew]; simp, by simp [hm, hnl, g5], by simp [hm, hGl, g6], rfl, fun j c x f e1 e2 e3 => ?_⟩⟩
        · rw [List.flatten_append, List.nodup_cons]
          refine ⟨fun hi => ?_, List.nodup_append.2 ⟨(List.nodup_cons.1 h2).2, hG, fun a ha d hd e => hGF d hd (by rw [g7, ← e]; exact List.mem_cons_of_mem _ ha)⟩⟩
          rcases List.mem_append.1 hi with h | h
          · exact hb'.1 h
          · exact hb'.2.1 h
        · have hput : ∀ i, i ≠ b' → (σ.put b' ⟨ety, css.flatten ++ new, c' * n, (0, 0)⟩) i = σ i := fun i hi => by simp [Vw.put, hi]
          by_cases hj : j < xs.length
          · rw [List.getElem?_append_left (by omega)] at e1 e2 e3
            exact ok.frame _ _ _ _ _ (g8 j c x f e1 e2 e3) fun i hi => hput i fun e => hb'.1 (e ▸ List.mem_flatten.2 ⟨f, List.mem_of_getElem? e3, hi⟩)
          · rw [List.getElem?_append_right (by omega)] at e1 e2 e3
            rw [g5] at e1; rw [g6] at e3
            exact ok.frame _ _ _ _ _ (hO _ c x f e1 e2 e3) fun i hi => hput i fun e => hb'.2.1 (e ▸ List.mem_flatten.2 ⟨f, List.mem_of_getElem? e3, hi⟩)
      · rw [g7]
        rcases List.mem_cons.1 hi with e | e
        · rw [e]
          rcases hb'.2.2 with rfl | h
          · exact .inl List.mem_cons_self
          · exact .inr (.inr h)
        · rw [List.flatten_append] at e
          rcases List.mem_append.1 e with h | h
          · exact .inl (List.mem_cons_of_mem _ h)
          · exact .inr (.inl h)

/-- One element is appended. -/
theorem OAcc.oneX {ety n bytes : Nat} {Rel : (Addr → Option Value) → List Value → α → Prop} {O : Vw → List Nat → List Value → α → Prop} (ok : OOk w0 n Rel O) {F f : List Nat} {v : Value} {xs : List α} {y : α} {es : List Value}
    (h : OAcc w0 ety n O σ F v xs) (hy : O σ f es y) (hf : ∀ i, i ∈ f → i ∉ F) (hlen : xs.length + 1 ≤ 1000000000000) (hbytes : bytes ≤ 140) {K : Value → Vw → Prop}
    (hK : ∀ v' F' σ', Ext σ σ' → KeepsBut F σ σ' → OAcc w0 ety n O σ' F' v' (xs ++ [y]) → (∀ i, i ∈ F' → i ∈ F ∨ i ∈ f ∨ σ i = none) → K v' σ') : allOne es ∧ pAppend w0 ety n bytes v 1 es σ K := by
  refine ⟨ok.one _ _ _ _ hy, ?_⟩
  refine h.pushX ok (ys := [y]) (nss := [es]) (Gs := [f]) rfl rfl rfl (by simp) (fun j c z g e1 e2 e3 => ?_) (by simpa using ok.nodup _ _ _ _ hy) (by simpa using hf) hlen hbytes (by simpa using hK)
  cases j with
  | zero => simp at e1 e2 e3; subst e1 e2 e3; exact hy
  | succ j => simp at e1

/-- All elements of a list that is read are appended; they need no rows of their own. -/
theorem OAcc.allX {ety n bytes : Nat} {Rel Rel0 : (Addr → Option Value) → List Value → α → Prop} {O : Vw → List Nat → List Value → α → Prop} (ok : OOk w0 n Rel O) {rd0 : Addr → Option Value} {F : List Nat} {v s : Value} {xs ys : List α}
    (h : OAcc w0 ety n O σ F v xs) (hs : RSl n Rel0 rd0 s ys) (hle : Le rd0 (Av.get w0 σ)) (hO : ∀ es y, Rel0 rd0 es y → O σ [] es y) (hlen : xs.length + ys.length ≤ 1000000000000) (hbytes : bytes ≤ 140) {K : Value → Vw → Prop}
    (hK : ∀ v' F' σ', Ext σ σ' → KeepsBut F σ σ' → OAcc w0 ety n O σ' F' v' (xs ++ ys) → (∀ i, i ∈ F' → i ∈ F ∨ σ i = none) → K v' σ') : pAppendS w0 ety n bytes v s σ K := by
  obtain ⟨A, cap, rfl, hc, hel⟩ := hs
  obtain ⟨css, hcl, hcs⟩ := listOf (fun i (c : List Value) => ∃ a y, A = some a ∧ ys[i]? = some y ∧ c.length = n ∧ (∀ k, k < n → rd0 (a.add (i * n + k)) = c[k]?) ∧ Rel0 rd0 c y) ys.length (fun i hi => by
    obtain ⟨a, es, h1, h2, h3, h4⟩ := hel i _ (List.getElem?_eq_getElem hi)
    exact ⟨es, a, _, h1, List.getElem?_eq_getElem hi, h2, h3, h4⟩)
  have hn : ∀ c, c ∈ css → c.length = n := fun c hc => by
    obtain ⟨i, hi⟩ := List.getElem?_of_mem hc
    obtain ⟨_, _, _, _, h, _⟩ := hcs i c hi
    exact h
  refine ⟨A, ys.length, cap, css.flatten, rfl, by rw [flat_len _ hn, hcl], ?_, ?_, ?_⟩
  · intro c hc
    obtain ⟨es, he, hce⟩ := List.mem_flatten.1 hc
    obtain ⟨i, hi⟩ := List.getElem?_of_mem he
    obtain ⟨a, y, _, _, _, _, hR⟩ := hcs i es hi
    exact ok.one _ _ _ _ (hO _ _ hR) c hce
  · intro j hj
    rw [flat_len _ hn, hcl] at hj
    have hn0 : 0 < n := by
      rcases Nat.eq_zero_or_pos n with e | e
      · subst e; omega
      · exact e
    have hq : j / n < css.length := by rw [hcl]; exact (Nat.div_lt_iff_lt_mul hn0).2 hj
    obtain ⟨a, y, hA, hy, hl, hk, hR⟩ := hcs (j / n) _ (List.getElem?_eq_getElem hq)
    have hr : j % n < n := Nat.mod_lt _ hn0
    have hdm : j / n * n + j % n = j := by rw [Nat.mul_comm]; exact Nat.div_add_mod j n
    refine ⟨a, hA, ?_⟩
    have e1 := flat_get css hn (j / n) _ (List.getElem?_eq_getElem hq) (j % n) hr
    rw [hdm] at e1
    have e2 := hk (j % n) hr
    rw [hdm, ← e1] at e2
    have hj' : j < css.flatten.length := by rw [flat_len _ hn, hcl]; exact hj
    rw [List.getElem?_eq_getElem hj'] at e2
    exact hle _ _ e2
  · refine h.pushX ok (ys := ys) (nss := css) (Gs := List.replicate ys.length []) rfl hcl (by simp) rfl (fun j c y g e1 e2 e3 => ?_) (by simp) (by simp) hlen hbytes (by simpa using hK)
    obtain ⟨a, y', _, hy, _, _, hR⟩ := hcs j c e1
    rw [e2] at hy; cases hy
    rw [List.getElem?_replicate] at e3
    split at e3
    · cases e3; exact hO _ _ hR
    · cases e3

/-- All elements of a list of our own are appended, with their rows. -/
theorem OAcc.allOwnX {ety n bytes : Nat} {Rel : (Addr → Option Value) → List Value → α → Prop} {O : Vw → List Nat → List Value → α → Prop} (ok : OOk w0 n Rel O) {F G : List Nat} {v s : Value} {xs ys : List α}
    (h : OAcc w0 ety n O σ F v xs) (hs : OSl w0 n O σ G s ys) (hGF : ∀ i, i ∈ G → i ∉ F) (hlen : xs.length + ys.length ≤ 1000000000000) (hbytes : bytes ≤ 140) {K : Value → Vw → Prop}
    (hK : ∀ v' F' σ', Ext σ σ' → KeepsBut F σ σ' → OAcc w0 ety n O σ' F' v' (xs ++ ys) → (∀ i, i ∈ F' → i ∈ F ∨ i ∈ G ∨ σ i = none) → K v' σ') : pAppendS w0 ety n bytes v s σ K := by
  obtain ⟨s1, s2, ⟨rfl, rfl, rfl⟩ | ⟨b, off, cap, r, pre, post, css, Gs, rfl, gc, g2, g3, g4, g5, g6, g7, g8, g9⟩⟩ := hs
  · refine ⟨none, 0, 0, [], rfl, by simp, by simp, fun j hj => by simp at hj, ?_⟩
    exact h.pushX ok (ys := []) (nss := []) (Gs := []) rfl rfl rfl rfl (fun j c y g e1 => by simp at e1) (by simp) (by simp) (by simpa using hlen) hbytes (by simpa using hK)
  · have hn : ∀ c, c ∈ css → c.length = n := fun c hc => by
      obtain ⟨i, hi⟩ := List.getElem?_of_mem hc
      have hil : i < css.length := (List.getElem?_eq_some_iff.1 hi).1
      exact ok.len _ _ _ _ (g9 i c _ _ hi (List.getElem?_eq_getElem (by omega)) (List.getElem?_eq_getElem (by omega)))
    rw [g8] at s2
    refine ⟨_, ys.length, cap, css.flatten, rfl, by rw [flat_len _ hn, g6], ?_, ?_, ?_⟩
    · intro c hc
      obtain ⟨es, he, hce⟩ := List.mem_flatten.1 hc
      obtain ⟨i, hi⟩ := List.getElem?_of_mem he
      have hil : i < css.length := (List.getElem?_eq_some_iff.1 hi).1
      exact ok.one _ _ _ _ (g9 i es _ _ hi (List.getElem?_eq_getElem (by omega)) (List.getElem?_eq_getElem (by omega))) c hce
    · intro j hj
      refine ⟨_, rfl, ?_⟩
      rw [addr_add, get_row g2 g3, g4, List.getElem?_append_right (by omega), List.getElem?_append_left (by omega), ← List.getElem?_eq_getElem hj]
      congr 1; omega
    · refine h.pushX ok (ys := ys) (nss := css) (Gs := Gs) rfl g6 g7 rfl g9 (List.nodup_cons.1 s2).2 (fun i hi => hGF i (by rw [g8]; exact List.mem_cons_of_mem _ hi)) hlen hbytes fun v' F' σ' k0 k1 k2 k3 => hK v' F' σ' k0 k1 k2 fun i hi => ?_
      rcases k3 i hi with h | h | h
      · exact .inl h
      · exact .inr (.inl (by rw [g8]; exact List.mem_cons_of_mem _ h))
      · exact .inr (.inr h)
theorem OAcc.push {ety n bytes m : Nat} {Rel : (Addr → Option Value) → List Value → α → Prop} {O : Vw → List Nat → List Value → α → Prop} (ok : OOk w0 n Rel O) {F : List Nat} {v : Value} {xs ys : List α} {nss : List (List Value)} {Gs : List (List Nat)} {new : List Value}
    (h : OAcc w0 ety n O σ F v xs) (hm : ys.length = m) (hnl : nss.length = m) (hGl : Gs.length = m) (hnew : new = nss.flatten) (hO : ∀ (j : Nat) (c : List Value) (y : α) (g : List Nat), nss[j]? = some c → ys[j]? = some y → Gs[j]? = some g → O σ g c y)
    (hG : Gs.flatten.Nodup) (hGF : ∀ i, i ∈ Gs.flatten → i ∉ F) (hlen : xs.length + m ≤ 1000000000000) (hbytes : bytes ≤ 140) {K : Value → Vw → Prop}
    (hK : ∀ v' F' σ', KeepsBut F σ σ' → OAcc w0 ety n O σ' F' v' (xs ++ ys) → (∀ i, i ∈ F' → i ∈ F ∨ i ∈ Gs.flatten ∨ σ i = none) → K v' σ') : pAppend w0 ety n bytes v m new σ K :=
  OAcc.pushX ok h hm hnl hGl hnew hO hG hGF hlen hbytes fun v' F' σ' _ => hK v' F' σ'
theorem OAcc.one {ety n bytes : Nat} {Rel : (Addr → Option Value) → List Value → α → Prop} {O : Vw → List Nat → List Value → α → Prop} (ok : OOk w0 n Rel O) {F f : List Nat} {v : Value} {xs : List α} {y : α} {es : List Value}
    (h : OAcc w0 ety n O σ F v xs) (hy : O σ f es y) (hf : ∀ i, i ∈ f → i ∉ F) (hlen : xs.length + 1 ≤ 1000000000000) (hbytes : bytes ≤ 140) {K : Value → Vw → Prop}
    (hK : ∀ v' F' σ', KeepsBut F σ σ' → OAcc w0 ety n O σ' F' v' (xs ++ [y]) → (∀ i, i ∈ F' → i ∈ F ∨ i ∈ f ∨ σ i = none) → K v' σ') : allOne es ∧ pAppend w0 ety n bytes v 1 es σ K :=
  OAcc.oneX ok h hy hf hlen hbytes fun v' F' σ' _ => hK v' F' σ'
theorem OAcc.all {ety n bytes : Nat} {Rel Rel0 : (Addr → Option Value) → List Value → α → Prop} {O : Vw → List Nat → List Value → α → Prop} (ok : OOk w0 n Rel O) {rd0 : Addr → Option Value} {F : List Nat} {v s : Value} {xs ys : List α}
    (h : OAcc w0 ety n O σ F v xs) (hs : RSl n Rel0 rd0 s ys) (hle : Le rd0 (Av.get w0 σ)) (hO : ∀ es y, Rel0 rd0 es y → O σ [] es y) (hlen : xs.length + ys.length ≤ 1000000000000) (hbytes : bytes ≤ 140) {K : Value → Vw → Prop}
    (hK : ∀ v' F' σ', KeepsBut F σ σ' → OAcc w0 ety n O σ' F' v' (xs ++ ys) → (∀ i, i ∈ F' → i ∈ F ∨ σ i = none) → K v' σ') : pAppendS w0 ety n bytes v s σ K :=
  OAcc.allX ok h hs hle hO hlen hbytes fun v' F' σ' _ => hK v' F' σ'
theorem OAcc.allOwn {ety n bytes : Nat} {Rel : (Addr → Option Value) → List Value → α → Prop} {O : Vw → List Nat → List Value → α → Prop} (ok : OOk w0 n Rel O) {F G : List Nat} {v s : Value} {xs ys : List α}
    (h : OAcc w0 ety n O σ F v xs) (hs : OSl w0 n O σ G s ys) (hGF : ∀ i, i ∈ G → i ∉ F) (hlen : xs.length + ys.length ≤ 1000000000000) (hbytes : bytes ≤ 140) {K : Value → Vw → Prop}
    (hK : ∀ v' F' σ', KeepsBut F σ σ' → OAcc w0 ety n O σ' F' v' (xs ++ ys) → (∀ i, i ∈ F' → i ∈ F ∨ i ∈ G ∨ σ i = none) → K v' σ') : pAppendS w0 ety n bytes v s σ K :=
  OAcc.allOwnX ok h hs hGF hlen hbytes fun v' F' σ' _ => hK v' F' σ'
end
end Go.Av

/- A part of a list that is read; slices of texts. -/
set_option linter.unusedVariables false
set_option linter.unusedSimpArgs false
namespace Go.Av
open Go Go.RowKit

section
variable {P : Program} {w0 : World} {σ σ' : Vw} {α : Type}

theorem RSl.slice {n : Nat} {R : (Addr → Option Value) → List Value → α → Prop} {rd : Addr → Option Value} {v : Value} {xs : List α} (h : RSl n R rd v xs) {lo hi : Option Value} {l u : Nat} (hl : boundOf 0 lo = some (l : Int)) (hu : boundOf xs.length hi = some (u : Int)) (hlu : l ≤ u) (hux : u ≤ xs.length) {K : Value → Prop}
    (hK : ∀ v', RSl n R rd v' ((xs.take u).drop l) → K v') : pSlice n v lo hi K := by
  obtain ⟨A, cap, rfl, h2, h3⟩ := h
  refine ⟨A, xs.length, cap, l, u, rfl, hl, hu, by omega, by omega, by omega, hK _ ?_⟩
  have hlen : ((xs.take u).drop l).length = u - l := by rw [List.length_drop, List.length_take]; omega
  simp only [Int.toNat_natCast]
  refine ⟨if cap = l then A else Option.map (fun x => x.add (l * n)) A, cap - l, by rw [hlen], by rw [hlen]; omega, fun j x hj => ?_⟩
  rw [List.getElem?_drop] at hj
  have hlt : l + j < u := by
    rcases Nat.lt_or_ge (l + j) u with h | h
    · exact h
    · rw [List.getElem?_eq_none (by rw [List.length_take]; omega)] at hj; cases hj
  rw [List.getElem?_take_of_lt hlt] at hj
  obtain ⟨a, es, rfl, g1, g2, g3⟩ := h3 _ x hj
  refine ⟨a.add (l * n), es, ?_, g1, fun i hi => ?_, g3⟩
  · rw [if_neg (by omega)]; rfl
  · rw [add_add, ← g2 i hi]
    congr 2
    rw [Nat.add_mul]; omega

/-- A field of an element is read. -/
theorem RSl.atp {n : Nat} {R : (Addr → Option Value) → List Value → α → Prop} {v : Value} {xs : List α} (h : RSl n R (Av.get w0 σ) v xs) {j : Nat} {x : α} (hj : xs[j]? = some x) {K : Value → (Nat → Value) → Prop} (hK : ∀ (p : Value) (g : Nat → Value), R (Av.get w0 σ) (expl g 0 n) x → K p g) :
    pIndexAddr n v (.int .i64 j) fun p => pLoad w0 n p σ (K p) := by
  have h' := h
  obtain ⟨A, cap, rfl, _, h3⟩ := h
  obtain ⟨a, es, rfl, h5, h6, h7⟩ := h3 j x hj
  have hlt : j < xs.length := (List.getElem?_eq_some_iff.1 hj).1
  refine ⟨a, xs.length, cap, .i64, j, rfl, rfl, by omega, by omega, a.add (j * n), fun i => es.getD i undef, rfl, fun i hi => ?_, hK _ _ ?_⟩
  · have := h6 i hi
    have hlt : i < es.length := by omega
    rw [add_add]
    show Av.get w0 σ (a.add (j * n + i)) = _
    rw [this, List.getElem?_eq_getElem hlt]
    simp only [List.getD_eq_getElem?_getD, List.getElem?_eq_getElem hlt, Option.getD_some]
  · have : expl (fun i => es.getD i undef) 0 n = es := by
      apply List.ext_getElem?
      intro i
      by_cases hi : i < n
      · rw [expl_get _ _ _ _ hi, Nat.zero_add, List.getD_eq_getElem?_getD]
        have hlt : i < es.length := by omega
        rw [List.getElem?_eq_getElem hlt]; rfl
      · rw [List.getElem?_eq_none (by rw [length_expl]; omega), List.getElem?_eq_none (by omega)]
    rw [this]; exact h7
theorem RSl.atfp {n : Nat} {R : (Addr → Option Value) → List Value → α → Prop} {v : Value} {xs : List α} (h : RSl n R (Av.get w0 σ) v xs) {j : Nat} {x : α} (hj : xs[j]? = some x) (o : Nat) (ho : o < n) {K : Value → (Nat → Value) → Prop} (hK : ∀ (q : Value) (es : List Value) (g : Nat → Value), R (Av.get w0 σ) es x → es[o]? = some (g 0) → K q g) :
    pIndexAddr n v (.int .i64 j) fun p => pField o p fun q => pLoad w0 1 q σ (K q) := by
  obtain ⟨A, cap, rfl, _, h3⟩ := h
  obtain ⟨a, es, rfl, h5, h6, h7⟩ := h3 j x hj
  have hlt : j < xs.length := (List.getElem?_eq_some_iff.1 hj).1
  refine ⟨a, xs.length, cap, .i64, j, rfl, rfl, by omega, by omega, a.add (j * n), rfl, (a.add (j * n)).add o, fun _ => es.getD o undef, rfl, fun i hi => ?_, hK _ es _ h7 ?_⟩
  · have e : i = 0 := by omega
    subst e
    have := h6 o ho
    rw [add_add, add_add, Nat.add_zero, this, List.getElem?_eq_getElem (by omega)]
    simp only [List.getD_eq_getElem?_getD, List.getElem?_eq_getElem (show o < es.length by omega), Option.getD_some]
  · simp only [List.getD_eq_getElem?_getD, List.getElem?_eq_getElem (show o < es.length by omega), Option.getD_some]

theorem RSl.atf {n : Nat} {R : (Addr → Option Value) → List Value → α → Prop} {v : Value} {xs : List α} (h : RSl n R (Av.get w0 σ) v xs) {j : Nat} {x : α} (hj : xs[j]? = some x) (o : Nat) (ho : o < n) {K : (Nat → Value) → Prop} (hK : ∀ (es : List Value) (g : Nat → Value), R (Av.get w0 σ) es x → es[o]? = some (g 0) → K g) :
    pIndexAddr n v (.int .i64 j) fun p => pField o p fun q => pLoad w0 1 q σ K :=
  h.atfp hj o ho fun q => hK

/-- A run of rounds over a list. -/
theorem foldl_take {β : Type} {f : β → α → β} {b : β} {xs : List α} {j : Nat} {x : α} (hj : xs[j]? = some x) : (xs.take (j + 1)).foldl f b = f ((xs.take j).foldl f b) x := by
  rw [List.take_add_one, hj, Option.toList_some, List.foldl_append]; rfl
end
end Go.Av

/- Marks of texts. -/
set_option linter.unusedVariables false
set_option linter.unusedSimpArgs false
namespace Go.Proofs.YtlbpnfhhoalenaaDoor
open Go Go.Av

/-- How many figures a number has. -/
def figs (k : Nat) : Nat := if h : k = 0 then 0 else figs (k / 10) + 1
termination_by k
theorem figs_le (k : Nat) : figs k ≤ k := by
  induction k using Nat.strongRecOn with
  | _ k ih =>
    rw [figs]
    by_cases h : k = 0
    · simp [h]
    · rw [dif_neg h]
      have := ih (k / 10) (by omega)
      omega
def digit (n : Nat) : ByteArray := strOfNums [((48 + n % 10 : Nat) : Int)]
theorem size_strOfNums (xs : List Int) : (strOfNums xs).size = xs.length := by
  simp [strOfNums, ByteArray.size]
/-- The figures of a number, ahead of a text. -/
def mtxt (k : Nat) (out : ByteArray) : ByteArray := if h : k = 0 then out else mtxt (k / 10) (digit k ++ out)
termination_by k
theorem mtxt_size (k : Nat) : ∀ out, (mtxt k out).size = out.size + figs k := by
  induction k using Nat.strongRecOn with
  | _ k ih =>
    intro out
    rw [mtxt, figs]
    by_cases h : k = 0
    · simp [h]
    · rw [dif_neg h, dif_neg h, ih (k / 10) (by omega), ByteArray.size_append, digit, size_strOfNums]
      simp; omega
/-- What marks the number k. -/
def mtext (k : Nat) : ByteArray := if k = 0 then ⟨#[109, 48]⟩ else ⟨#[109]⟩ ++ mtxt k ⟨#[]⟩
theorem mtext_size {k : Nat} (h : k ≤ 1000000000000) : (mtext k).size ≤ 9223372036854775807 := by
  unfold mtext
  split
  · show 2 ≤ _; omega
  · rw [ByteArray.size_append, mtxt_size]
    have := figs_le k
    show 1 + (0 + _) ≤ _
    omega

section
variable {w0 : World} {σ : Vw}

theorem markText {k : Nat} (hk : k ≤ 1000000000000) {R : Value → Vw → Prop} (hR : ∀ σ', Keeps σ σ' → R (.string (mtext k)) σ') : AC Tryd.prog w0 n_laws_markText [.int .i64 (k : Nat)] σ R := by
  refine ac_laws_markText ?_
  unfold vc_laws_markText
  rw [pBin_le, pIf_d]
  refine ⟨fun h => ?_, fun h => ?_⟩
  · have : k = 0 := by omega
    subst this
    exact hR σ (Keeps.refl σ)
  · have hk0 : k ≠ 0 := by omega
    have e : mtext k = ⟨#[109]⟩ ++ mtxt k ⟨#[]⟩ := by rw [mtext, if_neg hk0]
    rw [e] at hR
    have hf := figs_le k
    refine loop_rule (m := figs k) (fun m l s => ∃ (n : Nat) (out : ByteArray), m = figs n ∧ n ≤ k ∧ out.size + figs n ≤ 1000000000000 ∧ mtxt n out = mtxt k ⟨#[]⟩ ∧ Keeps σ s ∧ l = [.int .i64 (n : Nat), .string out]) ?_ ⟨k, ⟨#[]⟩, rfl, Nat.le_refl _, by show 0 + _ ≤ _; omega, rfl, Keeps.refl σ, rfl⟩
    rintro m l s L ⟨n, out, rfl, hn, hsz, hm, hkp, rfl⟩ hL
    simp only [vget, List.getD_cons_zero, List.getD_cons_succ]
    rw [pBin_gt, pIf_d]
    refine ⟨fun hpos => ?_, fun h0 => ?_⟩
    · have hn0 : n ≠ 0 := by omega
      have hfig : figs n = figs (n / 10) + 1 := by rw [figs, dif_neg hn0]
      rw [pBin_rem (by omega), pBin_add (by omega)]
      show pConvInt .u8 _ _
      rw [pConv_u8 (by omega), show (48 + ((n : Int) % 10)) = ((48 + n % 10 : Nat) : Int) by omega, pVal1 rfl]
      intro b h1 h2
      refine pStr1 (by rw [get_row h1 put_at]; rfl) ?_
      show pBin Tryd.prog 9 .add (.string (digit n)) _ _
      have hd : (digit n).size = 1 := by rw [digit, size_strOfNums]; rfl
      rw [pBin_cat (by omega)]
      rw [pBin_quo (by omega), show ((n : Int) / 10) = ((n / 10 : Nat) : Int) by omega]
      refine hL _ _ (figs (n / 10)) hfig.symm ⟨n / 10, digit n ++ out, rfl, by omega, by rw [ByteArray.size_append, hd]; omega, ?_, hkp.trans (Keeps.put h2), rfl⟩
      rw [← hm]; conv => rhs; rw [mtxt, dif_neg hn0]
    · have hn0 : n = 0 := by omega
      subst hn0
      rw [mtxt, dif_pos rfl] at hm
      subst hm
      have hs := mtxt_size k ⟨#[]⟩
      show pBin Tryd.prog 9 .add (.string ⟨#[109]⟩) _ _
      rw [pBin_cat (by rw [hs]; show 1 + (0 + _) ≤ _; omega)]
      exact hR s hkp

abbrev mkTexts (k : Nat) (xs : List ByteArray) : List ByteArray := mkS (fun k _ => mtext k) (fun _ => 1) k xs
theorem sum_one {α : Type} (xs : List α) : sumBy (fun _ => 1) xs = xs.length := by
  induction xs with
  | nil => rfl
  | cons a r ih => simp only [sumBy, ih, List.length_cons]; omega

theorem markStringS {F : List Nat} {v : Value} {xs : List ByteArray} {k : Nat} (h : OStrs w0 σ F v xs) (hk : k + xs.length ≤ 1000000000000) {R : Value → Vw → Prop}
    (hR : ∀ σ', KeepsBut F σ σ' → OStrs w0 σ' F v (mkTexts k xs) → R (.int .i64 ((k + xs.length : Nat) : Int)) σ') : AC Tryd.prog w0 n_laws_markStringS [v, .int .i64 (k : Nat)] σ R := by
  refine ac_laws_markStringS ?_
  unfold vc_laws_markStringS
  have e := sum_one xs
  rw [← e] at hk hR
  refine mark_loop (ok_str w0) (mk := fun k _ => mtext k) (cnt := fun _ => 1) h hk ?_ hR
  intro j x k' s ys K hj hlen hkb hx hk' hO hyj hK
  simp only [vget, List.getD_cons_zero, List.getD_cons_succ]
  refine markText (by omega) fun s1 k1 => ?_
  have hO1 := hO.frame (ok_str w0) (σ' := s1) (fun b hb => by
    cases hs : s b with
    | none => exact absurd hs (hO.dom (ok_str w0) b hb).2
    | some r => exact k1 b r hs)
  obtain ⟨b, o, f, c, A, C, r, hix, hb, hr, hc, hA, hOx, hbF, hf, hput⟩ := hO1.focus (ok_str w0) hyj
  obtain ⟨rfl, rfl, hsz⟩ := hOx
  refine hix _ ?_
  refine elem_store hr hc hA rfl ?_
  rw [pBin_add (by omega)]
  rw [pBin_add (by have := h.1; omega)]
  have hO2 := hput (s1.put b { r with cells := A ++ ([.string (mtext k')] ++ C) }) [.string (mtext k')] (mtext k') _ put_at rfl ⟨rfl, rfl, mtext_size (by omega)⟩ (fun i hi hne _ => by simp [Vw.put, hne])
  have := hK _ (k1.but.trans (KeepsBut.put hbF)) hO2
  simpa using this

theorem heldStringS {v : Value} {xs : List ByteArray} {k : Nat} (h : RSl 1 RS (Av.get w0 σ) v (mkTexts k xs)) (hk : k + xs.length ≤ 1000000000000) {R : Value → Vw → Prop}
    (hR : ∀ σ', Keeps σ σ' → R (.int .i64 ((k + xs.length : Nat) : Int)) σ') : AC Tryd.prog w0 n_laws_heldStringS [v, .int .i64 (k : Nat)] σ R := by
  refine ac_laws_heldStringS ?_
  unfold vc_laws_heldStringS
  have e := sum_one xs
  rw [← e] at hk hR
  refine held_loop (n := 1) (Rel := RS) (fun _ _ _ _ hl h => mono_rs hl h) (mk := fun k _ => mtext k) (cnt := fun _ => 1) h hk ?_ hR
  intro j x k' s K hj hkb hx hk' hrd hyj hK
  simp only [vget, List.getD_cons_zero, List.getD_cons_succ]
  have hl := h.le
  rw [mkS_len] at hl
  refine RSl.atp hrd hyj fun p g hg => ?_
  obtain ⟨hg, hs⟩ := hg
  simp only [expl, List.cons.injEq, and_true] at hg
  refine markText (by omega) fun s1 k1 => ⟨k1.stay, ?_⟩
  rw [hg, pBin_sne, pIf_d]
  refine ⟨fun h => absurd rfl h, fun _ => ?_⟩
  rw [pBin_add (by omega)]
  rw [pBin_add (by omega)]
  have := hK _ k1
  simpa using this
end
end Go.Proofs.YtlbpnfhhoalenaaDoor

/- Rows of our own: cells stored, an element taken out in place, the copy of two lists in any order. -/
set_option linter.unusedVariables false
set_option linter.unusedSimpArgs false
namespace Go.Av
open Go Go.RowKit

section
variable {P : Program} {w0 : World} {σ σ' : Vw} {α γ : Type}

theorem cell_store {b o : Nat} {r : Row} {A c C new : List Value} {K : Vw → Prop} (hr : σ b = some r) (hc : r.cells = A ++ (c ++ C)) (hA : A.length = o) (hl : c.length = new.length)
    (hK : K (σ.put b { r with cells := A ++ (new ++ C) })) : pStore (.pointer (some ⟨b, o, none⟩)) new σ K := by
  refine ⟨b, o, r, rfl, hr, by rw [hc]; simp only [List.length_append]; omega, ?_⟩
  rw [hc, ← hA, setAt_mid A c new C hl]
  exact hK

/-- An element of a list of our own is written, all its cells. -/
theorem OSl.store {n : Nat} {Rel : (Addr → Option Value) → List Value → α → Prop} {O : Vw → List Nat → List Value → α → Prop} (ok : OOk w0 n Rel O) {F : List Nat} {v : Value} {xs : List α} (h : OSl w0 n O σ F v xs) {j : Nat} {x y : α} {new : List Value} (hj : xs[j]? = some x)
    (hO : ∀ f c σ', O σ f c x → O σ' f new y) (hn : new.length = n) {K : Vw → Prop}
    (hK : ∀ σ', KeepsBut F σ σ' → OSl w0 n O σ' F v (xs.set j y) → K σ') : pIndexAddr n v (.int .i64 j) fun p => pStore p new σ K := by
  obtain ⟨b, o, f, c, A, C, r, hix, hb, hr, hc, hA, hOx, hbF, hf, hput⟩ := h.focus ok hj
  refine hix _ ?_
  have hcl := ok.len _ _ _ _ hOx
  refine cell_store hr hc hA (by rw [hcl, hn]) ?_
  exact hK _ (KeepsBut.put hbF) (hput _ new y _ put_at rfl (hO _ _ _ hOx) fun i hi hne _ => by simp [Vw.put, hne])

def Vclone2 (w0 : World) (e1 n1 b1 e2 n2 b2 : Nat) (u v : Value) (σ : Vw) (K : Value → Value → Vw → Prop) : Prop :=
  (pNew w0 e1 [] σ (fun x0 s1 => (pAppendS w0 e1 n1 b1 (.slice (some (Addr.mk x0 0 none)) 0 0) u s1 (fun v2 s3 => pNew w0 e2 [] s3 (fun x4 s5 => pAppendS w0 e2 n2 b2 (.slice (some (Addr.mk x4 0 none)) 0 0) v s5 (fun v6 s7 => K v2 v6 s7)))) ∧
    (pNew w0 e2 [] s1 (fun x8 s9 => pAppendS w0 e1 n1 b1 (.slice (some (Addr.mk x0 0 none)) 0 0) u s9 (fun v10 s11 => pAppendS w0 e2 n2 b2 (.slice (some (Addr.mk x8 0 none)) 0 0) v s11 (fun v12 s13 => K v10 v12 s13)))))) ∧
  (pNew w0 e2 [] σ (fun x14 s15 => pNew w0 e1 [] s15 (fun x16 s17 => pAppendS w0 e1 n1 b1 (.slice (some (Addr.mk x16 0 none)) 0 0) u s17 (fun v18 s19 => pAppendS w0 e2 n2 b2 (.slice (some (Addr.mk x14 0 none)) 0 0) v s19 (fun v20 s21 => K v18 v20 s21)))))

theorem fresh_in {F F' : List Nat} {σ s : Vw} (k : Keeps σ s) (hF : ∀ i, i ∈ F → σ i = none) (h : ∀ i, i ∈ F' → i ∈ F ∨ s i = none) : ∀ i, i ∈ F' → σ i = none := fun i hi => by
  rcases h i hi with e | e
  · exact hF i e
  · cases hs : σ i with
    | none => rfl
    | some r => rw [k i r hs] at e; cases e
theorem KeepsBut.dom {F : List Nat} {σ σ' : Vw} (k : KeepsBut F σ σ') {i : Nat} (h : σ i ≠ none) (hF : i ∉ F) : σ' i ≠ none := by
  cases hs : σ i with
  | none => exact absurd hs h
  | some r => rw [k i r hs hF]; simp

theorem clone2 {e1 n1 b1 e2 n2 b2 : Nat} {R1 : (Addr → Option Value) → List Value → α → Prop} {O1 : Vw → List Nat → List Value → α → Prop} {R2 : (Addr → Option Value) → List Value → γ → Prop} {O2 : Vw → List Nat → List Value → γ → Prop}
    (ok1 : OOk w0 n1 R1 O1) (ok2 : OOk w0 n2 R2 O2) (hO1 : ∀ rd s es y, R1 rd es y → O1 s [] es y) (hO2 : ∀ rd s es y, R2 rd es y → O2 s [] es y) {u v : Value} {xs : List α} {ys : List γ}
    (hu : RSl n1 R1 (Av.get w0 σ) u xs) (hv : RSl n2 R2 (Av.get w0 σ) v ys) (hx : xs.length ≤ 1000000000000) (hy : ys.length ≤ 1000000000000) (hb1 : b1 ≤ 140) (hb2 : b2 ≤ 140) {K : Value → Value → Vw → Prop}
    (hK : ∀ u' F v' G σ', Keeps σ σ' → OAcc w0 e1 n1 O1 σ' F u' xs → OAcc w0 e2 n2 O2 σ' G v' ys → (∀ i, i ∈ F → σ i = none) → (∀ i, i ∈ G → σ i = none) → (∀ i, i ∈ F → i ∉ G) → K u' v' σ') : Vclone2 w0 e1 n1 b1 e2 n2 b2 u v σ K := by
  have nof : ∀ {σ s : Vw} {i : Nat}, Keeps σ s → s i = none → σ i = none := fun {σ s i} k hi => by
    cases hs : σ i with
    | none => rfl
    | some r => rw [k i r hs] at hi; cases hi
  refine ⟨fun x0 h1 h2 => ⟨?_, fun x8 h3 h4 => ?_⟩, fun x14 h1 h2 x16 h3 h4 => ?_⟩
  · have k0 : Keeps σ (σ.put x0 ⟨e1, [], 0, (0, 0)⟩) := Keeps.put h2
    refine OAcc.allX (F := [x0]) ok1 (OAcc.new h1) hu k0.le (hO1 _ _) (by simpa using hx) hb1 fun u' F s ex k1 o1 f1 x4 h3 h4 => ?_
    have hF0 : ∀ i, i ∈ [x0] → σ i = none := fun i hi => by rw [List.mem_singleton.1 hi]; exact h2
    have hF := fresh_in k0 hF0 f1
    have k1' := k1.old k0 hF0
    have k2 : Keeps s (s.put x4 ⟨e2, [], 0, (0, 0)⟩) := Keeps.put h4
    have o1' := o1.frame ok1 (k2.but_at fun b hb => (o1.dom ok1 b hb).2)
    refine OAcc.allX (F := [x4]) ok2 (OAcc.new h3) hv (k1'.trans k2).le (hO2 _ _) (by simpa using hy) hb2 fun v' G s' ex k3 o2 f2 => ?_
    have hG0 : ∀ i, i ∈ [x4] → s i = none := fun i hi => by rw [List.mem_singleton.1 hi]; exact h4
    have hG := fresh_in k2 hG0 f2
    have k3' := k3.old k2 hG0
    have o1'' := o1.frame ok1 (k3'.but_at fun b hb => (o1.dom ok1 b hb).2)
    refine hK u' F v' G s' (k1'.trans k3') (by simpa using o1'') (by simpa using o2) hF (fun i hi => nof k1' (hG i hi)) fun i hi hi' => (o1.dom ok1 i hi).2 (hG i hi')
  · have k0 : Keeps σ (σ.put x0 ⟨e1, [], 0, (0, 0)⟩) := Keeps.put h2
    have k1 : Keeps (σ.put x0 ⟨e1, [], 0, (0, 0)⟩) ((σ.put x0 ⟨e1, [], 0, (0, 0)⟩).put x8 ⟨e2, [], 0, (0, 0)⟩) := Keeps.put h4
    have a1 : OAcc w0 e1 n1 O1 (σ.put x0 ⟨e1, [], 0, (0, 0)⟩) [x0] (.slice (some ⟨x0, 0, none⟩) 0 0) [] := OAcc.new h1
    have a1' := a1.frame ok1 (k1.but_at fun b hb => (a1.dom ok1 b hb).2)
    have a2 : OAcc w0 e2 n2 O2 ((σ.put x0 ⟨e1, [], 0, (0, 0)⟩).put x8 ⟨e2, [], 0, (0, 0)⟩) [x8] (.slice (some ⟨x8, 0, none⟩) 0 0) [] := OAcc.new h3
    have hF0 : ∀ i, i ∈ [x0] → σ i = none := fun i hi => by rw [List.mem_singleton.1 hi]; exact h2
    have hG0 : ∀ i, i ∈ [x8] → σ i = none := fun i hi => by rw [List.mem_singleton.1 hi]; exact nof k0 h4
    have hne : x8 ≠ x0 := fun e => by rw [e, put_at] at h4; cases h4
    have k01 := k0.trans k1
    refine OAcc.allX (F := [x0]) ok1 a1' hu k01.le (hO1 _ _) (by simpa using hx) hb1 fun u' F s ex k2 o1 f1 => ?_
    have hF := fresh_in k01 hF0 f1
    have k2' := k2.old k01 hF0
    have a2' := a2.frame ok2 (k2.at (fun b hb => (a2.dom ok2 b hb).2) fun b hb hb' => hne ((List.mem_singleton.1 hb).symm.trans (List.mem_singleton.1 hb')))
    have hFG : x8 ∉ F := fun hi => by
      rcases f1 _ hi with e | e
      · exact hne (List.mem_singleton.1 e)
      · rw [put_at] at e; cases e
    refine OAcc.allX (F := [x8]) ok2 a2' hv k2'.le (hO2 _ _) (by simpa using hy) hb2 fun v' G s' ex k3 o2 f2 => ?_
    have o1' := o1.frame ok1 (k3.at (fun b hb => (o1.dom ok1 b hb).2) fun b hb hb' => hFG ((List.mem_singleton.1 hb') ▸ hb))
    refine hK u' F v' G s' (k3.old k2' hG0) (by simpa using o1') (by simpa using o2) hF (fresh_in k2' hG0 f2) fun i hi hi' => ?_
    rcases f2 i hi' with e | e
    · exact hFG ((List.mem_singleton.1 e) ▸ hi)
    · exact (o1.dom ok1 i hi).2 e
  · have k0 : Keeps σ (σ.put x14 ⟨e2, [], 0, (0, 0)⟩) := Keeps.put h2
    have k1 : Keeps (σ.put x14 ⟨e2, [], 0, (0, 0)⟩) ((σ.put x14 ⟨e2, [], 0, (0, 0)⟩).put x16 ⟨e1, [], 0, (0, 0)⟩) := Keeps.put h4
    have a2 : OAcc w0 e2 n2 O2 (σ.put x14 ⟨e2, [], 0, (0, 0)⟩) [x14] (.slice (some ⟨x14, 0, none⟩) 0 0) [] := OAcc.new h1
    have a2' := a2.frame ok2 (k1.but_at fun b hb => (a2.dom ok2 b hb).2)
    have a1 : OAcc w0 e1 n1 O1 ((σ.put x14 ⟨e2, [], 0, (0, 0)⟩).put x16 ⟨e1, [], 0, (0, 0)⟩) [x16] (.slice (some ⟨x16, 0, none⟩) 0 0) [] := OAcc.new h3
    have hG0 : ∀ i, i ∈ [x14] → σ i = none := fun i hi => by rw [List.mem_singleton.1 hi]; exact h2
    have hF0 : ∀ i, i ∈ [x16] → σ i = none := fun i hi => by rw [List.mem_singleton.1 hi]; exact nof k0 h4
    have hne : x16 ≠ x14 := fun e => by rw [e, put_at] at h4; cases h4
    have k01 := k0.trans k1
    refine OAcc.allX (F := [x16]) ok1 a1 hu k01.le (hO1 _ _) (by simpa using hx) hb1 fun u' F s ex k2 o1 f1 => ?_
    have hF := fresh_in k01 hF0 f1
    have k2' := k2.old k01 hF0
    have a2'' := a2'.frame ok2 (k2.at (fun b hb => (a2'.dom ok2 b hb).2) fun b hb hb' => hne ((List.mem_singleton.1 hb').symm.trans (List.mem_singleton.1 hb)))
    have hFG : x14 ∉ F := fun hi => by
      rcases f1 _ hi with e | e
      · exact hne (List.mem_singleton.1 e).symm
      · exact absurd e (a2'.dom ok2 x14 (List.mem_singleton.2 rfl)).2
    refine OAcc.allX (F := [x14]) ok2 a2'' hv k2'.le (hO2 _ _) (by simpa using hy) hb2 fun v' G s' ex k3 o2 f2 => ?_
    have o1' := o1.frame ok1 (k3.at (fun b hb => (o1.dom ok1 b hb).2) fun b hb hb' => hFG ((List.mem_singleton.1 hb') ▸ hb))
    refine hK u' F v' G s' (k3.old k2' hG0) (by simpa using o1') (by simpa using o2) hF (fresh_in k2' hG0 f2) fun i hi hi' => ?_
    rcases f2 i hi' with e | e
    · exact hFG ((List.mem_singleton.1 e) ▸ hi)
    · exact (o1.dom ok1 i hi).2 e

/-! ### An element is taken out, in place -/
def VDel (P : Program) (w0 : World) (T ety n bytes : Nat) (z : List Value) (a0 a1 a2 : Value) (σ : Vw) (R : Value → Vw → Prop) : Prop :=
  pLen a0 (fun v0 => pSlice3 n a0 (some a1) (some a2) (some v0) (fun v1 => pBin P T .eql a1 a2 (fun v2 => pIf v2 (R a0 σ) (pLen a0 (fun v3 => pSlice n a0 none (some a1) (fun v4 => pSlice n a0 (some a2) none (fun v5 => pAppendS w0 ety n bytes v4 v5 σ (fun v6 s7 => pLen v6 (fun v8 => pSlice n v6 (some v8) (some v3) (fun v9 => pClear n z v9 s7 (fun s10 => R v6 s10)))))))))))

theorem del_row {T ety n bytes b off cap j : Nat} {z : List Value} {r : Row} {pre post : List Value} {css : List (List Value)} (hz : z.length = n) (hz1 : ∀ c, c ∈ z → c.oneCell' = true) (hb : w0.heap.size ≤ b) (hr : σ b = some r) (hc : r.cells = pre ++ (css.flatten ++ post)) (hpre : pre.length = off)
    (hn : ∀ c, c ∈ css → c.length = n) (h1 : ∀ c, c ∈ css → ∀ u, u ∈ c → u.oneCell' = true) (hn0 : 0 < n) (hcap : css.length ≤ cap ∧ cap ≤ 9223372036854775807) (hj : j < css.length) {R : Value → Vw → Prop}
    (hR : R (.slice (some ⟨b, off, none⟩) (css.length - 1) cap) (σ.put b { r with cells := pre ++ ((css.take j ++ css.drop (j + 1)).flatten ++ (z ++ post)) })) :
    VDel P w0 T ety n bytes z (.slice (some ⟨b, off, none⟩) css.length cap) (.int .i64 (j : Nat)) (.int .i64 ((j : Int) + 1)) σ R := by
  obtain ⟨m, hm⟩ : ∃ m, css.length = j + 1 + m := ⟨css.length - (j + 1), by omega⟩
  have hcj := List.getElem?_eq_getElem hj
  have htl : ∀ c, c ∈ css.take j → c.length = n := fun c hc => hn c (List.mem_of_mem_take hc)
  have hdl : ∀ c, c ∈ css.drop (j + 1) → c.length = n := fun c hc => hn c (List.mem_of_mem_drop hc)
  have hfl := split_at hcj
  have hcl := hn _ (List.getElem_mem hj)
  have htlen : (css.take j).flatten.length = j * n := by rw [flat_len _ htl, List.length_take, Nat.min_eq_left (by omega)]
  have hdlen : (css.drop (j + 1)).flatten.length = m * n := by rw [flat_len _ hdl, List.length_drop]; congr 1; omega
  unfold VDel
  rw [pLen_s]
  refine ⟨some ⟨b, off, none⟩, css.length, cap, (j : Int), (j : Int) + 1, (css.length : Int), rfl, rfl, rfl, rfl, rfl, rfl, by omega, by omega, by omega, by omega, ?_⟩
  rw [pBin_eq, pIf_d]
  refine ⟨fun h => by omega, fun _ => ?_⟩
  rw [pLen_s]
  refine ⟨some ⟨b, off, none⟩, css.length, cap, 0, (j : Int), rfl, rfl, rfl, by omega, by omega, by omega, ?_⟩
  refine ⟨some ⟨b, off, none⟩, css.length, cap, (j : Int) + 1, (css.length : Int), rfl, rfl, rfl, by omega, by omega, by omega, ?_⟩
  have e0 : (if cap = (0 : Int).toNat then some (Addr.mk b off none) else (some (Addr.mk b off none)).map (·.add ((0 : Int).toNat * n))) = some (Addr.mk b off none) := by
    split
    · rfl
    · simp [Addr.add]
  rw [e0]
  simp only [Int.toNat_natCast, Int.toNat_zero, Nat.sub_zero]
  have ej : ((j : Int) + 1).toNat = j + 1 := by omega
  rw [ej]
  have hcells : r.cells = (pre ++ (css.take j).flatten) ++ ((css[j] ++ (css.drop (j + 1)).flatten) ++ post) := by rw [hc, hfl]; simp
  -- what is moved
  refine ⟨_, css.length - (j + 1), cap - (j + 1), (css.drop (j + 1)).flatten, rfl, by rw [hdlen]; congr 1; omega, fun u hu => ?_, fun i hi => ?_, .inl ⟨b, off, j, cap, r, rfl, hr, by omega, by rw [hdlen]; congr 1; omega, fun u hu => ?_, ?_, ?_⟩⟩
  · obtain ⟨c, hc1, hc2⟩ := List.mem_flatten.1 hu
    exact h1 c (List.mem_of_mem_drop hc1) u hc2
  · have hi' : i < m * n := by rw [← hdlen]; exact hi
    have hcapne : ¬ cap = j + 1 := fun e => by
      have : m = 0 := by omega
      subst this; omega
    refine ⟨_, by rw [if_neg hcapne]; rfl, ?_⟩
    rw [add_add, addr_add, get_row hb hr, hc, ← List.getElem?_eq_getElem hi]
    rw [List.getElem?_append_right (by omega), hpre]
    have e2 : off + ((j + 1) * n + i) - off = (j + 1) * n + i := by omega
    have hlt : (j + 1) * n + i < css.flatten.length := by
      rw [flat_len _ hn, hm, Nat.add_mul (j + 1)]; omega
    rw [e2, List.getElem?_append_left hlt]
    have h3 : css.flatten = (css.take (j + 1)).flatten ++ (css.drop (j + 1)).flatten := by rw [← List.flatten_append, List.take_append_drop]
    have h4 : (css.take (j + 1)).flatten.length = (j + 1) * n := by
      rw [flat_len _ fun c hc => hn c (List.mem_of_mem_take hc), List.length_take, Nat.min_eq_left (by omega)]
    rw [h3, List.getElem?_append_right (by omega), h4]
    congr 1; omega
  · obtain ⟨c, hc1, hc2⟩ := List.mem_flatten.1 hu
    exact h1 c (List.mem_of_mem_drop hc1) u hc2
  · rw [hcells]; simp only [List.length_append]; omega
  · -- the cells behind it
    generalize hDe : (css.drop (j + 1)).flatten = D at *
    generalize hTe : (css.take j).flatten = T' at *
    generalize hce : css[j] = cj at *
    have hB : (cj ++ D).length = n + m * n := by rw [List.length_append, hcl, hdlen]
    have hsplit : cj ++ D = (cj ++ D).take (m * n) ++ (cj ++ D).drop (m * n) := (List.take_append_drop _ _).symm
    have hold : ((cj ++ D).take (m * n)).length = D.length := by rw [List.length_take, hB, hdlen]; omega
    have hlast : ((cj ++ D).drop (m * n)).length = n := by rw [List.length_drop, hB]; omega
    have hset : setAt r.cells (off + j * n) D = (pre ++ T') ++ (D ++ ((cj ++ D).drop (m * n) ++ post)) := by
      have hA : (pre ++ T').length = off + j * n := by rw [List.length_append, hpre, htlen]
      have hcells2 : r.cells = (pre ++ T') ++ ((cj ++ D).take (m * n) ++ ((cj ++ D).drop (m * n) ++ post)) := by
        rw [hcells, ← List.append_assoc ((cj ++ D).take (m * n)), List.take_append_drop]
      rw [hcells2, ← hA, setAt_mid _ _ _ _ hold]
    rw [hset]
    have e3 : j + (css.length - (j + 1)) = css.length - 1 := by omega
    rw [e3, pLen_s]
    refine ⟨some ⟨b, off, none⟩, css.length - 1, cap, ((css.length - 1 : Nat) : Int), (css.length : Int), rfl, rfl, rfl, by omega, by omega, by omega, ?_⟩
    simp only [Int.toNat_natCast]
    have e4 : css.length - (css.length - 1) = 1 := by omega
    have hcapne : ¬ cap = css.length - 1 := by omega
    rw [e4, if_neg hcapne]
    refine ⟨hz, hz1, _, 1, cap - (css.length - 1), rfl, .inr ⟨b, off + (css.length - 1) * n, _, by simp [addr_add], by omega, put_at, ?_, ?_⟩⟩
    · simp only [List.length_append, hpre, htlen, hdlen, hlast]
      have : (css.length - 1) * n = j * n + m * n := by rw [← Nat.add_mul]; congr 1; omega
      omega
    · have e5 : (List.replicate 1 z).flatten = z := by simp
      have hA2 : (pre ++ T' ++ D).length = off + (css.length - 1) * n := by
        simp only [List.length_append, hpre, htlen, hdlen]
        have : (css.length - 1) * n = j * n + m * n := by rw [← Nat.add_mul]; congr 1; omega
        omega
      simp only
      rw [e5]
      have e6 : (pre ++ T') ++ (D ++ ((cj ++ D).drop (m * n) ++ post)) = (pre ++ T' ++ D) ++ ((cj ++ D).drop (m * n) ++ post) := by simp
      rw [e6, ← hA2, setAt_mid _ _ _ _ (by rw [hlast, hz]), put_put]
      have e7 : (pre ++ T' ++ D) ++ (z ++ post) = pre ++ ((css.take j ++ css.drop (j + 1)).flatten ++ (z ++ post)) := by
        rw [List.flatten_append, hTe, hDe]; simp
      rw [e7]
      exact hR

/-- An element of a list of our own is taken out: what is read then. -/
theorem OSl.del {T ety n bytes j : Nat} {z : List Value} {Rel : (Addr → Option Value) → List Value → α → Prop} {O : Vw → List Nat → List Value → α → Prop} (ok : OOk w0 n Rel O) (hO : ∀ s s' f es y, O s f es y → f = [] ∧ O s' f es y) (hz : z.length = n) (hz1 : ∀ c, c ∈ z → c.oneCell' = true) (hn0 : 0 < n) {F : List Nat} {v : Value} {xs : List α}
    (h : OSl w0 n O σ F v xs) (hj : j < xs.length) {R : Value → Vw → Prop} (hR : ∀ v' σ', KeepsBut F σ σ' → RSl n Rel (Av.get w0 σ') v' (xs.take j ++ xs.drop (j + 1)) → R v' σ') : VDel P w0 T ety n bytes z v (.int .i64 (j : Nat)) (.int .i64 ((j : Int) + 1)) σ R := by
  obtain ⟨g1, g2, ⟨rfl, rfl, _⟩ | ⟨b, off, cap, r, pre, post, css, Fs, rfl, gc, g3, g4, g5, g6, g7, g8, g9, g10⟩⟩ := h
  · simp at hj
  · have each : ∀ (i : Nat) (c : List Value), css[i]? = some c → ∃ x f, xs[i]? = some x ∧ O σ f c x := fun i c hi => by
      have hlt : i < css.length := (List.getElem?_eq_some_iff.1 hi).1
      exact ⟨_, _, List.getElem?_eq_getElem (by omega), g10 i c _ _ hi (List.getElem?_eq_getElem (by omega)) (List.getElem?_eq_getElem (by omega))⟩
    have hn : ∀ c, c ∈ css → c.length = n := fun c hc => by obtain ⟨i, hi⟩ := List.getElem?_of_mem hc; obtain ⟨x, f, _, ho⟩ := each i c hi; exact ok.len _ _ _ _ ho
    have h1 : ∀ c, c ∈ css → ∀ u, u ∈ c → u.oneCell' = true := fun c hc => by obtain ⟨i, hi⟩ := List.getElem?_of_mem hc; obtain ⟨x, f, _, ho⟩ := each i c hi; exact ok.one _ _ _ _ ho
    rw [← g7]
    refine del_row hz hz1 g3 g4 g5 g6 hn h1 hn0 (by rw [g7]; exact gc) (by omega) (hR _ _ (KeepsBut.put (by rw [g9]; exact List.mem_cons_self)) ?_)
    have hlen : (xs.take j ++ xs.drop (j + 1)).length = css.length - 1 := by simp only [List.length_append, List.length_take, List.length_drop]; omega
    refine ⟨_, cap, by rw [hlen], by rw [hlen]; omega, fun i x hi => ?_⟩
    -- the cells of the element
    have hget : ∃ c f, (css.take j ++ css.drop (j + 1))[i]? = some c ∧ O σ f c x := by
      by_cases hij : i < j
      · rw [List.getElem?_append_left (by rw [List.length_take]; omega), List.getElem?_take_of_lt hij] at hi
        refine ⟨css[i]'(by omega), _, ?_, g10 i _ x _ (List.getElem?_eq_getElem (by omega)) hi (List.getElem?_eq_getElem (by omega))⟩
        rw [List.getElem?_append_left (by rw [List.length_take]; omega), List.getElem?_take_of_lt hij]
        exact List.getElem?_eq_getElem (by omega)
      · rw [List.getElem?_append_right (by rw [List.length_take]; omega), List.getElem?_drop, List.length_take, Nat.min_eq_left (by omega)] at hi
        have hlt : j + 1 + (i - j) < xs.length := (List.getElem?_eq_some_iff.1 hi).1
        refine ⟨css[j + 1 + (i - j)]'(by omega), _, ?_, g10 _ _ x _ (List.getElem?_eq_getElem (by omega)) hi (List.getElem?_eq_getElem (by omega))⟩
        rw [List.getElem?_append_right (by rw [List.length_take]; omega), List.getElem?_drop, List.length_take, Nat.min_eq_left (by omega)]
        exact List.getElem?_eq_getElem (by omega)
    obtain ⟨c, f, hci, ho⟩ := hget
    have hn' : ∀ c, c ∈ css.take j ++ css.drop (j + 1) → c.length = n := fun c hc => by
      rcases List.mem_append.1 hc with h | h
      · exact hn c (List.mem_of_mem_take h)
      · exact hn c (List.mem_of_mem_drop h)
    obtain ⟨rfl, ho'⟩ := hO σ (σ.put b { r with cells := pre ++ ((css.take j ++ css.drop (j + 1)).flatten ++ (z ++ post)) }) f c x ho
    refine ⟨_, c, rfl, ok.len _ _ _ _ ho, fun k hk => ?_, ok.rel _ _ _ _ ho'⟩
    rw [addr_add, get_row g3 put_at]
    simp only
    rw [List.getElem?_append_right (by omega), show off + (i * n + k) - pre.length = i * n + k by omega, List.getElem?_append_left, flat_get _ hn' i c hci k hk]
    have hil : i < (css.take j ++ css.drop (j + 1)).length := (List.getElem?_eq_some_iff.1 hci).1
    rw [flat_len _ hn']
    calc i * n + k < i * n + n := by omega
      _ = (i + 1) * n := by rw [Nat.add_mul, Nat.one_mul]
      _ ≤ (css.take j ++ css.drop (j + 1)).length * n := Nat.mul_le_mul_right n hil
end
end Go.Av
