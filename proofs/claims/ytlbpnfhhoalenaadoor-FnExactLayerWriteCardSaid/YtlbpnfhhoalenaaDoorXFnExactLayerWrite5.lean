/- The law FnExactLayerWrite holds: it returns true, and the input reads as it did. No condition. This is part 5 of 7 of its proof. -/
import Derived.Test.YtlbpnfhhoalenaaDoorXFnExactLayerWrite4

/- What each function owes, reckoned out, part 3. MADE BY PROGRAM (emit.py). -/
set_option linter.unusedVariables false
namespace Go.Proofs.YtlbpnfhhoalenaaDoor
open Go Go.Av

/-- unicode/utf8.RuneCountInString -/
def kp_unicode_utf8_RuneCountInString : Nat → Keep
  | 2 => ⟨[2, 4], [], [], .done, []⟩
  | _ => ⟨[], [], [], .done, []⟩
def esc_unicode_utf8_RuneCountInString : Nat → Bool
  | _ => false
def vc_unicode_utf8_RuneCountInString (w0 : World) (a0 : Value) (σ : Vw) (R : Value → Vw → Prop) : Prop :=
  False
theorem vc_unicode_utf8_RuneCountInString_eq (w0 : World) (a0 : Value) (σ : Vw) (R : Value → Vw → Prop) : vc_unicode_utf8_RuneCountInString w0 a0 σ R = den Tryd.prog w0 kp_unicode_utf8_RuneCountInString esc_unicode_utf8_RuneCountInString (Tryd.f143.body.getD .skip) (entry Tryd.f143.ntmps [a0]) σ (retK Tryd.prog Tryd.f143.results.toList R) := by kernel_rfl
theorem ac_unicode_utf8_RuneCountInString {w0 : World} {a0 : Value} {σ : Vw} {R : Value → Vw → Prop} (h : vc_unicode_utf8_RuneCountInString w0 a0 σ R) : AC Tryd.prog w0 n_unicode_utf8_RuneCountInString [a0] σ R := by
  refine ac_rule (fn := Tryd.f143) (c := Tryd.f143.body.getD .skip) kp_unicode_utf8_RuneCountInString esc_unicode_utf8_RuneCountInString Tryd.func143 (by kernel_rfl) (by kernel_rfl) ?_
  rw [← vc_unicode_utf8_RuneCountInString_eq]
  exact h

/-- unicode/utf8.DecodeRuneInString -/
def kp_unicode_utf8_DecodeRuneInString : Nat → Keep
  | _ => ⟨[], [], [], .done, []⟩
def esc_unicode_utf8_DecodeRuneInString : Nat → Bool
  | _ => false
def vc_unicode_utf8_DecodeRuneInString (w0 : World) (a0 : Value) (σ : Vw) (R : Value → Vw → Prop) : Prop :=
  pBin Tryd.prog 9 BinOp.neq a0 (Value.string ({ data := #[] })) (fun v0 => pIf v0 (pIndexStr a0 (Value.int IntKind.i64 0) (fun v1 => pBin Tryd.prog 5 BinOp.lss v1 (Value.int IntKind.u8 128) (fun v2 => pIf v2 (pIndexStr a0 (Value.int IntKind.i64 0) (fun v3 => pConvInt IntKind.i32 v3 (fun v4 => R (Value.tuple (⟨[v4, Value.int IntKind.i64 1]⟩)) σ))) (AC Tryd.prog w0 n_unicode_utf8_decodeRuneInStringSlow [a0] σ (fun v5 s6 => pExtract v5 0 (fun v7 => pExtract v5 1 (fun v8 => R (Value.tuple (⟨[v7, v8]⟩)) s6))))))) (AC Tryd.prog w0 n_unicode_utf8_decodeRuneInStringSlow [a0] σ (fun v9 s10 => pExtract v9 0 (fun v11 => pExtract v9 1 (fun v12 => R (Value.tuple (⟨[v11, v12]⟩)) s10)))))
theorem vc_unicode_utf8_DecodeRuneInString_eq (w0 : World) (a0 : Value) (σ : Vw) (R : Value → Vw → Prop) : vc_unicode_utf8_DecodeRuneInString w0 a0 σ R = den Tryd.prog w0 kp_unicode_utf8_DecodeRuneInString esc_unicode_utf8_DecodeRuneInString (Tryd.f144.body.getD .skip) (entry Tryd.f144.ntmps [a0]) σ (retK Tryd.prog Tryd.f144.results.toList R) := by kernel_rfl
theorem ac_unicode_utf8_DecodeRuneInString {w0 : World} {a0 : Value} {σ : Vw} {R : Value → Vw → Prop} (h : vc_unicode_utf8_DecodeRuneInString w0 a0 σ R) : AC Tryd.prog w0 n_unicode_utf8_DecodeRuneInString [a0] σ R := by
  refine ac_rule (fn := Tryd.f144) (c := Tryd.f144.body.getD .skip) kp_unicode_utf8_DecodeRuneInString esc_unicode_utf8_DecodeRuneInString Tryd.func144 (by kernel_rfl) (by kernel_rfl) ?_
  rw [← vc_unicode_utf8_DecodeRuneInString_eq]
  exact h

/-- internal/strconv.ParseInt -/
def kp_internal_strconv_ParseInt : Nat → Keep
  | _ => ⟨[], [], [], .done, []⟩
def esc_internal_strconv_ParseInt : Nat → Bool
  | _ => false
def vc_internal_strconv_ParseInt (w0 : World) (a0 a1 a2 : Value) (σ : Vw) (R : Value → Vw → Prop) : Prop :=
  pBin Tryd.prog 9 BinOp.eql a0 (Value.string ({ data := #[] })) (fun v0 => pIf v0 False (pIndexStr a0 (Value.int IntKind.i64 0) (fun v1 => pBin Tryd.prog 5 BinOp.eql v1 (Value.int IntKind.u8 43) (fun v2 => pIf v2 (pSliceStr a0 (Option.some (Value.int IntKind.i64 1)) Option.none (fun v3 => AC Tryd.prog w0 n_internal_strconv_ParseUint [v3, a1, a2] σ (fun v4 s5 => pExtract v4 0 (fun v6 => pExtract v4 1 (fun v7 => pBin Tryd.prog 77 BinOp.neq v7 Value.nilIface (fun v8 => pIf v8 False (pBin Tryd.prog 3 BinOp.eql a2 (Value.int IntKind.i64 0) (fun v9 => pIf v9 (pBin Tryd.prog 3 BinOp.sub (Value.int IntKind.i64 64) (Value.int IntKind.i64 1) (fun v10 => pConvInt IntKind.u64 v10 (fun v11 => pBin Tryd.prog 144 BinOp.shl (Value.int IntKind.u64 1) v11 (fun v12 => pUn UnOp.not (Value.bool false) (fun v13 => pIf v13 (pBin Tryd.prog 144 BinOp.geq v6 v12 (fun v14 => pIf v14 (pBin Tryd.prog 144 BinOp.sub v12 (Value.int IntKind.u64 1) (fun v15 => pConvInt IntKind.i64 v15 (fun v16 => False))) (pConvInt IntKind.i64 v6 (fun v17 => R (Value.tuple (⟨[v17, Value.nilIface]⟩)) s5)))) (pConvInt IntKind.i64 v6 (fun v18 => R (Value.tuple (⟨[v18, Value.nilIface]⟩)) s5))))))) (pBin Tryd.prog 3 BinOp.sub a2 (Value.int IntKind.i64 1) (fun v19 => pConvInt IntKind.u64 v19 (fun v20 => pBin Tryd.prog 144 BinOp.shl (Value.int IntKind.u64 1) v20 (fun v21 => pUn UnOp.not (Value.bool false) (fun v22 => pIf v22 (pBin Tryd.prog 144 BinOp.geq v6 v21 (fun v23 => pIf v23 (pBin Tryd.prog 144 BinOp.sub v21 (Value.int IntKind.u64 1) (fun v24 => pConvInt IntKind.i64 v24 (fun v25 => False))) (pConvInt IntKind.i64 v6 (fun v26 => R (Value.tuple (⟨[v26, Value.nilIface]⟩)) s5)))) (pConvInt IntKind.i64 v6 (fun v27 => R (Value.tuple (⟨[v27, Value.nilIface]⟩)) s5))))))))))))))) (pBin Tryd.prog 5 BinOp.eql v1 (Value.int IntKind.u8 45) (fun v28 => pIf v28 (pSliceStr a0 (Option.some (Value.int IntKind.i64 1)) Option.none (fun v29 => AC Tryd.prog w0 n_internal_strconv_ParseUint [v29, a1, a2] σ (fun v30 s31 => pExtract v30 0 (fun v32 => pExtract v30 1 (fun v33 => pBin Tryd.prog 77 BinOp.neq v33 Value.nilIface (fun v34 => pIf v34 False (pBin Tryd.prog 3 BinOp.eql a2 (Value.int IntKind.i64 0) (fun v35 => pIf v35 (pBin Tryd.prog 3 BinOp.sub (Value.int IntKind.i64 64) (Value.int IntKind.i64 1) (fun v36 => pConvInt IntKind.u64 v36 (fun v37 => pBin Tryd.prog 144 BinOp.shl (Value.int IntKind.u64 1) v37 (fun v38 => pUn UnOp.not (Value.bool true) (fun v39 => pIf v39 (pBin Tryd.prog 144 BinOp.geq v32 v38 (fun v40 => pIf v40 (pBin Tryd.prog 144 BinOp.sub v38 (Value.int IntKind.u64 1) (fun v41 => pConvInt IntKind.i64 v41 (fun v42 => False))) (pBin Tryd.prog 144 BinOp.gtr v32 v38 (fun v43 => pIf v43 (pConvInt IntKind.i64 v38 (fun v44 => pUn UnOp.neg v44 (fun v45 => False))) (pConvInt IntKind.i64 v32 (fun v46 => pUn UnOp.neg v46 (fun v47 => R (Value.tuple (⟨[v47, Value.nilIface]⟩)) s31))))))) (pBin Tryd.prog 144 BinOp.gtr v32 v38 (fun v48 => pIf v48 (pConvInt IntKind.i64 v38 (fun v49 => pUn UnOp.neg v49 (fun v50 => False))) (pConvInt IntKind.i64 v32 (fun v51 => pUn UnOp.neg v51 (fun v52 => R (Value.tuple (⟨[v52, Value.nilIface]⟩)) s31)))))))))) (pBin Tryd.prog 3 BinOp.sub a2 (Value.int IntKind.i64 1) (fun v53 => pConvInt IntKind.u64 v53 (fun v54 => pBin Tryd.prog 144 BinOp.shl (Value.int IntKind.u64 1) v54 (fun v55 => pUn UnOp.not (Value.bool true) (fun v56 => pIf v56 (pBin Tryd.prog 144 BinOp.geq v32 v55 (fun v57 => pIf v57 (pBin Tryd.prog 144 BinOp.sub v55 (Value.int IntKind.u64 1) (fun v58 => pConvInt IntKind.i64 v58 (fun v59 => False))) (pBin Tryd.prog 144 BinOp.gtr v32 v55 (fun v60 => pIf v60 (pConvInt IntKind.i64 v55 (fun v61 => pUn UnOp.neg v61 (fun v62 => False))) (pConvInt IntKind.i64 v32 (fun v63 => pUn UnOp.neg v63 (fun v64 => R (Value.tuple (⟨[v64, Value.nilIface]⟩)) s31))))))) (pBin Tryd.prog 144 BinOp.gtr v32 v55 (fun v65 => pIf v65 (pConvInt IntKind.i64 v55 (fun v66 => pUn UnOp.neg v66 (fun v67 => False))) (pConvInt IntKind.i64 v32 (fun v68 => pUn UnOp.neg v68 (fun v69 => R (Value.tuple (⟨[v69, Value.nilIface]⟩)) s31)))))))))))))))))) (AC Tryd.prog w0 n_internal_strconv_ParseUint [a0, a1, a2] σ (fun v70 s71 => pExtract v70 0 (fun v72 => pExtract v70 1 (fun v73 => pBin Tryd.prog 77 BinOp.neq v73 Value.nilIface (fun v74 => pIf v74 False (pBin Tryd.prog 3 BinOp.eql a2 (Value.int IntKind.i64 0) (fun v75 => pIf v75 (pBin Tryd.prog 3 BinOp.sub (Value.int IntKind.i64 64) (Value.int IntKind.i64 1) (fun v76 => pConvInt IntKind.u64 v76 (fun v77 => pBin Tryd.prog 144 BinOp.shl (Value.int IntKind.u64 1) v77 (fun v78 => pUn UnOp.not (Value.bool false) (fun v79 => pIf v79 (pBin Tryd.prog 144 BinOp.geq v72 v78 (fun v80 => pIf v80 (pBin Tryd.prog 144 BinOp.sub v78 (Value.int IntKind.u64 1) (fun v81 => pConvInt IntKind.i64 v81 (fun v82 => False))) (pConvInt IntKind.i64 v72 (fun v83 => R (Value.tuple (⟨[v83, Value.nilIface]⟩)) s71)))) (pConvInt IntKind.i64 v72 (fun v84 => R (Value.tuple (⟨[v84, Value.nilIface]⟩)) s71))))))) (pBin Tryd.prog 3 BinOp.sub a2 (Value.int IntKind.i64 1) (fun v85 => pConvInt IntKind.u64 v85 (fun v86 => pBin Tryd.prog 144 BinOp.shl (Value.int IntKind.u64 1) v86 (fun v87 => pUn UnOp.not (Value.bool false) (fun v88 => pIf v88 (pBin Tryd.prog 144 BinOp.geq v72 v87 (fun v89 => pIf v89 (pBin Tryd.prog 144 BinOp.sub v87 (Value.int IntKind.u64 1) (fun v90 => pConvInt IntKind.i64 v90 (fun v91 => False))) (pConvInt IntKind.i64 v72 (fun v92 => R (Value.tuple (⟨[v92, Value.nilIface]⟩)) s71)))) (pConvInt IntKind.i64 v72 (fun v93 => R (Value.tuple (⟨[v93, Value.nilIface]⟩)) s71))))))))))))))))))))
theorem vc_internal_strconv_ParseInt_eq (w0 : World) (a0 a1 a2 : Value) (σ : Vw) (R : Value → Vw → Prop) : vc_internal_strconv_ParseInt w0 a0 a1 a2 σ R = den Tryd.prog w0 kp_internal_strconv_ParseInt esc_internal_strconv_ParseInt (Tryd.f146.body.getD .skip) (entry Tryd.f146.ntmps [a0, a1, a2]) σ (retK Tryd.prog Tryd.f146.results.toList R) := by kernel_rfl
theorem ac_internal_strconv_ParseInt {w0 : World} {a0 a1 a2 : Value} {σ : Vw} {R : Value → Vw → Prop} (h : vc_internal_strconv_ParseInt w0 a0 a1 a2 σ R) : AC Tryd.prog w0 n_internal_strconv_ParseInt [a0, a1, a2] σ R := by
  refine ac_rule (fn := Tryd.f146) (c := Tryd.f146.body.getD .skip) kp_internal_strconv_ParseInt esc_internal_strconv_ParseInt Tryd.func146 (by kernel_rfl) (by kernel_rfl) ?_
  rw [← vc_internal_strconv_ParseInt_eq]
  exact h

/-- strconv.syntaxError -/
def kp_strconv_syntaxError : Nat → Keep
  | 1 => ⟨[], [], [], .step 0 (.step 1 (.step 3 (.step 2 (.step 4 (.step 5 (.step 6 (.done))))))), [(2, [1]), (4, [0, 1, 2, 3]), (5, [0, 1, 2, 3, 4]), (6, [0, 1, 2, 3, 4, 5])]⟩
  | _ => ⟨[], [], [], .done, []⟩
def esc_strconv_syntaxError : Nat → Bool
  | 10 => true
  | _ => false
def vc_strconv_syntaxError (w0 : World) (a0 a1 : Value) (σ : Vw) (R : Value → Vw → Prop) : Prop :=
  pLoad w0 1 (Value.pointer (Option.some (Addr.mk 1 0 Option.none))) σ (fun g0 => AC Tryd.prog w0 n_internal_stringslite_Clone [a1] σ (fun v1 s2 => (Stay w0 σ s2 (Value.pointer (Option.some (Addr.mk 1 0 Option.none))) 1) ∧ (pVal false 1 a0 (pVal false 1 v1 (pVal false 1 (g0 0) (pVal true 3 (Value.agg (⟨[a0, v1, g0 0]⟩)) (pNew w0 155 [a0, v1, g0 0] s2 (fun n3 s4 => R (Value.pointer (Option.some (Addr.mk n3 0 Option.none))) s4))))))))
theorem vc_strconv_syntaxError_eq (w0 : World) (a0 a1 : Value) (σ : Vw) (R : Value → Vw → Prop) : vc_strconv_syntaxError w0 a0 a1 σ R = den Tryd.prog w0 kp_strconv_syntaxError esc_strconv_syntaxError (Tryd.f147.body.getD .skip) (entry Tryd.f147.ntmps [a0, a1]) σ (retK Tryd.prog Tryd.f147.results.toList R) := by kernel_rfl
theorem ac_strconv_syntaxError {w0 : World} {a0 a1 : Value} {σ : Vw} {R : Value → Vw → Prop} (h : vc_strconv_syntaxError w0 a0 a1 σ R) : AC Tryd.prog w0 n_strconv_syntaxError [a0, a1] σ R := by
  refine ac_rule (fn := Tryd.f147) (c := Tryd.f147.body.getD .skip) kp_strconv_syntaxError esc_strconv_syntaxError Tryd.func147 (by kernel_rfl) (by kernel_rfl) ?_
  rw [← vc_strconv_syntaxError_eq]
  exact h

/-- strconv.rangeError -/
def kp_strconv_rangeError : Nat → Keep
  | 1 => ⟨[], [], [], .step 0 (.step 1 (.step 3 (.step 2 (.step 4 (.step 5 (.step 6 (.done))))))), [(2, [1]), (4, [0, 1, 2, 3]), (5, [0, 1, 2, 3, 4]), (6, [0, 1, 2, 3, 4, 5])]⟩
  | _ => ⟨[], [], [], .done, []⟩
def esc_strconv_rangeError : Nat → Bool
  | 10 => true
  | _ => false
def vc_strconv_rangeError (w0 : World) (a0 a1 : Value) (σ : Vw) (R : Value → Vw → Prop) : Prop :=
  pLoad w0 1 (Value.pointer (Option.some (Addr.mk 2 0 Option.none))) σ (fun g0 => AC Tryd.prog w0 n_internal_stringslite_Clone [a1] σ (fun v1 s2 => (Stay w0 σ s2 (Value.pointer (Option.some (Addr.mk 2 0 Option.none))) 1) ∧ (pVal false 1 a0 (pVal false 1 v1 (pVal false 1 (g0 0) (pVal true 3 (Value.agg (⟨[a0, v1, g0 0]⟩)) (pNew w0 155 [a0, v1, g0 0] s2 (fun n3 s4 => R (Value.pointer (Option.some (Addr.mk n3 0 Option.none))) s4))))))))
theorem vc_strconv_rangeError_eq (w0 : World) (a0 a1 : Value) (σ : Vw) (R : Value → Vw → Prop) : vc_strconv_rangeError w0 a0 a1 σ R = den Tryd.prog w0 kp_strconv_rangeError esc_strconv_rangeError (Tryd.f148.body.getD .skip) (entry Tryd.f148.ntmps [a0, a1]) σ (retK Tryd.prog Tryd.f148.results.toList R) := by kernel_rfl
theorem ac_strconv_rangeError {w0 : World} {a0 a1 : Value} {σ : Vw} {R : Value → Vw → Prop} (h : vc_strconv_rangeError w0 a0 a1 σ R) : AC Tryd.prog w0 n_strconv_rangeError [a0, a1] σ R := by
  refine ac_rule (fn := Tryd.f148) (c := Tryd.f148.body.getD .skip) kp_strconv_rangeError esc_strconv_rangeError Tryd.func148 (by kernel_rfl) (by kernel_rfl) ?_
  rw [← vc_strconv_rangeError_eq]
  exact h

/-- strconv.baseError -/
def kp_strconv_baseError : Nat → Keep
  | _ => ⟨[], [], [], .done, []⟩
def esc_strconv_baseError : Nat → Bool
  | 15 => true
  | _ => false
def vc_strconv_baseError (w0 : World) (a0 a1 a2 : Value) (σ : Vw) (R : Value → Vw → Prop) : Prop :=
  AC Tryd.prog w0 n_internal_stringslite_Clone [a1] σ (fun v0 s1 => AC Tryd.prog w0 n_strconv_Itoa [a2] s1 (fun v2 s3 => pBin Tryd.prog 9 BinOp.add (Value.string ({ data := #[105, 110, 118, 97, 108, 105, 100, 32, 98, 97, 115, 101, 32] })) v2 (fun v4 => AC Tryd.prog w0 n_errors_New [v4] s3 (fun v5 s6 => pVal false 1 a0 (pVal false 1 v0 (pVal false 1 v5 (pVal true 3 (Value.agg (⟨[a0, v0, v5]⟩)) (pNew w0 155 [a0, v0, v5] s6 (fun n7 s8 => R (Value.pointer (Option.some (Addr.mk n7 0 Option.none))) s8)))))))))
theorem vc_strconv_baseError_eq (w0 : World) (a0 a1 a2 : Value) (σ : Vw) (R : Value → Vw → Prop) : vc_strconv_baseError w0 a0 a1 a2 σ R = den Tryd.prog w0 kp_strconv_baseError esc_strconv_baseError (Tryd.f149.body.getD .skip) (entry Tryd.f149.ntmps [a0, a1, a2]) σ (retK Tryd.prog Tryd.f149.results.toList R) := by kernel_rfl
theorem ac_strconv_baseError {w0 : World} {a0 a1 a2 : Value} {σ : Vw} {R : Value → Vw → Prop} (h : vc_strconv_baseError w0 a0 a1 a2 σ R) : AC Tryd.prog w0 n_strconv_baseError [a0, a1, a2] σ R := by
  refine ac_rule (fn := Tryd.f149) (c := Tryd.f149.body.getD .skip) kp_strconv_baseError esc_strconv_baseError Tryd.func149 (by kernel_rfl) (by kernel_rfl) ?_
  rw [← vc_strconv_baseError_eq]
  exact h

/-- strconv.bitSizeError -/
def kp_strconv_bitSizeError : Nat → Keep
  | _ => ⟨[], [], [], .done, []⟩
def esc_strconv_bitSizeError : Nat → Bool
  | 15 => true
  | _ => false
def vc_strconv_bitSizeError (w0 : World) (a0 a1 a2 : Value) (σ : Vw) (R : Value → Vw → Prop) : Prop :=
  AC Tryd.prog w0 n_internal_stringslite_Clone [a1] σ (fun v0 s1 => AC Tryd.prog w0 n_strconv_Itoa [a2] s1 (fun v2 s3 => pBin Tryd.prog 9 BinOp.add (Value.string ({ data := #[105, 110, 118, 97, 108, 105, 100, 32, 98, 105, 116, 32, 115, 105, 122, 101, 32] })) v2 (fun v4 => AC Tryd.prog w0 n_errors_New [v4] s3 (fun v5 s6 => pVal false 1 a0 (pVal false 1 v0 (pVal false 1 v5 (pVal true 3 (Value.agg (⟨[a0, v0, v5]⟩)) (pNew w0 155 [a0, v0, v5] s6 (fun n7 s8 => R (Value.pointer (Option.some (Addr.mk n7 0 Option.none))) s8)))))))))
theorem vc_strconv_bitSizeError_eq (w0 : World) (a0 a1 a2 : Value) (σ : Vw) (R : Value → Vw → Prop) : vc_strconv_bitSizeError w0 a0 a1 a2 σ R = den Tryd.prog w0 kp_strconv_bitSizeError esc_strconv_bitSizeError (Tryd.f150.body.getD .skip) (entry Tryd.f150.ntmps [a0, a1, a2]) σ (retK Tryd.prog Tryd.f150.results.toList R) := by kernel_rfl
theorem ac_strconv_bitSizeError {w0 : World} {a0 a1 a2 : Value} {σ : Vw} {R : Value → Vw → Prop} (h : vc_strconv_bitSizeError w0 a0 a1 a2 σ R) : AC Tryd.prog w0 n_strconv_bitSizeError [a0, a1, a2] σ R := by
  refine ac_rule (fn := Tryd.f150) (c := Tryd.f150.body.getD .skip) kp_strconv_bitSizeError esc_strconv_bitSizeError Tryd.func150 (by kernel_rfl) (by kernel_rfl) ?_
  rw [← vc_strconv_bitSizeError_eq]
  exact h

/-- (*strings.Builder).grow -/
def kp_p_strings_Builder_grow : Nat → Keep
  | 0 => ⟨[], [], [], .step 0 (.step 1 (.step 2 (.step 3 (.step 6 (.step 9 (.step 10 (.step 11 (.step 12 (.step 13 (.step 4 (.step 5 (.step 7 (.step 8 (.step 14 (.step 15 (.done)))))))))))))))), [(1, [0]), (2, [0, 1]), (3, [0, 1, 2]), (4, [0, 1, 2, 3]), (5, [0, 1, 2, 3, 4]), (7, [0, 1, 2, 3, 4, 5, 6]), (8, [0, 1, 2, 3, 4, 5, 6, 7]), (10, [9]), (11, [9, 10]), (12, [9, 10, 11]), (13, [9, 10, 11, 12]), (14, [0, 1, 2, 3, 4, 5, 6, 7, 8, 9, 10, 11, 12, 13]), (15, [0, 1, 2, 3, 4, 5, 6, 7, 8, 9, 10, 11, 12, 13, 14])]⟩
  | _ => ⟨[], [], [], .done, []⟩
def esc_p_strings_Builder_grow : Nat → Bool
  | _ => false
def vc_p_strings_Builder_grow (w0 : World) (a0 a1 : Value) (σ : Vw) (R : Value → Vw → Prop) : Prop :=
  pNil a0 (pField 1 a0 (fun v0 => pLoad w0 1 v0 σ (fun g1 => pNil a0 (pField 1 a0 (fun v2 => pLoad w0 1 v2 σ (fun g3 => pLen (g3 0) (fun v4 => False)))))))
theorem vc_p_strings_Builder_grow_eq (w0 : World) (a0 a1 : Value) (σ : Vw) (R : Value → Vw → Prop) : vc_p_strings_Builder_grow w0 a0 a1 σ R = den Tryd.prog w0 kp_p_strings_Builder_grow esc_p_strings_Builder_grow (Tryd.f151.body.getD .skip) (entry Tryd.f151.ntmps [a0, a1]) σ (retK Tryd.prog Tryd.f151.results.toList R) := by kernel_rfl
theorem ac_p_strings_Builder_grow {w0 : World} {a0 a1 : Value} {σ : Vw} {R : Value → Vw → Prop} (h : vc_p_strings_Builder_grow w0 a0 a1 σ R) : AC Tryd.prog w0 n_p_strings_Builder_grow [a0, a1] σ R := by
  refine ac_rule (fn := Tryd.f151) (c := Tryd.f151.body.getD .skip) kp_p_strings_Builder_grow esc_p_strings_Builder_grow Tryd.func151 (by kernel_rfl) (by kernel_rfl) ?_
  rw [← vc_p_strings_Builder_grow_eq]
  exact h

/-- internal/strconv.small -/
def kp_internal_strconv_small : Nat → Keep
  | _ => ⟨[], [], [], .done, []⟩
def esc_internal_strconv_small : Nat → Bool
  | _ => false
def vc_internal_strconv_small (w0 : World) (a0 : Value) (σ : Vw) (R : Value → Vw → Prop) : Prop :=
  pBin Tryd.prog 3 BinOp.lss a0 (Value.int IntKind.i64 10) (fun v0 => pIf v0 (pBin Tryd.prog 3 BinOp.add a0 (Value.int IntKind.i64 1) (fun v1 => pSliceStr (Value.string ({ data := #[48, 49, 50, 51, 52, 53, 54, 55, 56, 57, 97, 98, 99, 100, 101, 102, 103, 104, 105, 106, 107, 108, 109, 110, 111, 112, 113, 114, 115, 116, 117, 118, 119, 120, 121, 122] })) (Option.some a0) (Option.some v1) (fun v2 => R v2 σ))) (pBin Tryd.prog 3 BinOp.mul a0 (Value.int IntKind.i64 2) (fun v3 => pBin Tryd.prog 3 BinOp.mul a0 (Value.int IntKind.i64 2) (fun v4 => pBin Tryd.prog 3 BinOp.add v4 (Value.int IntKind.i64 2) (fun v5 => pSliceStr (Value.string ({ data := (([48, 48, 48, 49, 48, 50, 48, 51, 48, 52, 48, 53, 48, 54, 48, 55, 48, 56, 48, 57, 49, 48, 49, 49, 49, 50, 49, 51, 49, 52, 49, 53, 49, 54, 49, 55, 49, 56, 49, 57, 50, 48, 50, 49, 50, 50, 50, 51, 50, 52].append [50, 53, 50, 54, 50, 55, 50, 56, 50, 57, 51, 48, 51, 49, 51, 50, 51, 51, 51, 52, 51, 53, 51, 54, 51, 55, 51, 56, 51, 57, 52, 48, 52, 49, 52, 50, 52, 51, 52, 52, 52, 53, 52, 54, 52, 55, 52, 56, 52, 57]).append ([53, 48, 53, 49, 53, 50, 53, 51, 53, 52, 53, 53, 53, 54, 53, 55, 53, 56, 53, 57, 54, 48, 54, 49, 54, 50, 54, 51, 54, 52, 54, 53, 54, 54, 54, 55, 54, 56, 54, 57, 55, 48, 55, 49, 55, 50, 55, 51, 55, 52].append [55, 53, 55, 54, 55, 55, 55, 56, 55, 57, 56, 48, 56, 49, 56, 50, 56, 51, 56, 52, 56, 53, 56, 54, 56, 55, 56, 56, 56, 57, 57, 48, 57, 49, 57, 50, 57, 51, 57, 52, 57, 53, 57, 54, 57, 55, 57, 56, 57, 57])).toArray })) (Option.some v3) (Option.some v5) (fun v6 => R v6 σ))))))
theorem vc_internal_strconv_small_eq (w0 : World) (a0 : Value) (σ : Vw) (R : Value → Vw → Prop) : vc_internal_strconv_small w0 a0 σ R = den Tryd.prog w0 kp_internal_strconv_small esc_internal_strconv_small (Tryd.f152.body.getD .skip) (entry Tryd.f152.ntmps [a0]) σ (retK Tryd.prog Tryd.f152.results.toList R) := by kernel_rfl
theorem ac_internal_strconv_small {w0 : World} {a0 : Value} {σ : Vw} {R : Value → Vw → Prop} (h : vc_internal_strconv_small w0 a0 σ R) : AC Tryd.prog w0 n_internal_strconv_small [a0] σ R := by
  refine ac_rule (fn := Tryd.f152) (c := Tryd.f152.body.getD .skip) kp_internal_strconv_small esc_internal_strconv_small Tryd.func152 (by kernel_rfl) (by kernel_rfl) ?_
  rw [← vc_internal_strconv_small_eq]
  exact h

/-- internal/strconv.numDigits -/
def kp_internal_strconv_numDigits : Nat → Keep
  | _ => ⟨[], [], [], .done, []⟩
def esc_internal_strconv_numDigits : Nat → Bool
  | _ => false
def vc_internal_strconv_numDigits (w0 : World) (a0 : Value) (σ : Vw) (R : Value → Vw → Prop) : Prop :=
  AC Tryd.prog w0 n_math_bits_Len64 [a0] σ (fun v0 s1 => AC Tryd.prog w0 n_internal_strconv_log10Pow2 [v0] s1 (fun v2 s3 => pIndexArr 20 1 (Value.pointer (Option.some (Addr.mk 3 0 Option.none))) v2 (fun v4 => pLoad w0 1 v4 s3 (fun g5 => pBin Tryd.prog 144 BinOp.geq a0 (g5 0) (fun v6 => AC Tryd.prog w0 n_internal_strconv_bool2_int [v6] s3 (fun v7 s8 => pBin Tryd.prog 3 BinOp.add v2 v7 (fun v9 => R v9 s8)))))))
theorem vc_internal_strconv_numDigits_eq (w0 : World) (a0 : Value) (σ : Vw) (R : Value → Vw → Prop) : vc_internal_strconv_numDigits w0 a0 σ R = den Tryd.prog w0 kp_internal_strconv_numDigits esc_internal_strconv_numDigits (Tryd.f153.body.getD .skip) (entry Tryd.f153.ntmps [a0]) σ (retK Tryd.prog Tryd.f153.results.toList R) := by kernel_rfl
theorem ac_internal_strconv_numDigits {w0 : World} {a0 : Value} {σ : Vw} {R : Value → Vw → Prop} (h : vc_internal_strconv_numDigits w0 a0 σ R) : AC Tryd.prog w0 n_internal_strconv_numDigits [a0] σ R := by
  refine ac_rule (fn := Tryd.f153) (c := Tryd.f153.body.getD .skip) kp_internal_strconv_numDigits esc_internal_strconv_numDigits Tryd.func153 (by kernel_rfl) (by kernel_rfl) ?_
  rw [← vc_internal_strconv_numDigits_eq]
  exact h

/-- internal/strconv.formatBase10 -/
def kp_internal_strconv_formatBase10 : Nat → Keep
  | 1 => ⟨[0, 1, 4], [], [], .done, []⟩
  | 7 => ⟨[], [], [], .step 0 (.step 1 (.step 2 (.step 3 (.step 4 (.step 5 (.step 6 (.step 7 (.step 8 (.step 9 (.step 10 (.step 11 (.step 12 (.step 13 (.step 14 (.done))))))))))))))), [(2, [1]), (5, [4]), (7, [6]), (8, [6, 7]), (10, [9]), (11, [0, 1, 2, 6, 7, 8]), (12, [0, 1, 2, 6, 7, 8, 11]), (13, [0, 1, 2, 3, 4, 5, 6, 7, 8, 9, 10, 11, 12]), (14, [0, 1, 2, 3, 4, 5, 6, 7, 8, 9, 10, 11, 12, 13])]⟩
  | 8 => ⟨[], [], [], .step 0 (.step 1 (.step 2 (.step 3 (.step 4 (.step 5 (.step 6 (.step 7 (.step 8 (.step 9 (.step 10 (.step 11 (.step 12 (.step 13 (.step 14 (.done))))))))))))))), [(2, [1]), (5, [4]), (7, [6]), (8, [6, 7]), (10, [9]), (11, [0, 1, 2, 6, 7, 8]), (12, [0, 1, 2, 6, 7, 8, 11]), (13, [0, 1, 2, 3, 4, 5, 6, 7, 8, 9, 10, 11, 12]), (14, [0, 1, 2, 3, 4, 5, 6, 7, 8, 9, 10, 11, 12, 13])]⟩
  | 9 => ⟨[], [], [], .step 0 (.step 1 (.step 2 (.step 3 (.step 4 (.step 5 (.step 6 (.step 7 (.step 8 (.step 9 (.step 10 (.step 11 (.step 12 (.step 13 (.step 14 (.done))))))))))))))), [(2, [1]), (5, [4]), (7, [6]), (8, [6, 7]), (10, [9]), (11, [0, 1, 2, 6, 7, 8]), (12, [0, 1, 2, 6, 7, 8, 11]), (13, [0, 1, 2, 3, 4, 5, 6, 7, 8, 9, 10, 11, 12]), (14, [0, 1, 2, 3, 4, 5, 6, 7, 8, 9, 10, 11, 12, 13])]⟩
  | 10 => ⟨[], [], [], .step 0 (.step 1 (.step 2 (.step 3 (.step 4 (.step 5 (.step 6 (.step 7 (.step 8 (.step 9 (.step 10 (.step 11 (.step 12 (.step 13 (.step 14 (.done))))))))))))))), [(2, [1]), (5, [4]), (7, [6]), (8, [6, 7]), (10, [9]), (11, [0, 1, 2, 6, 7, 8]), (12, [0, 1, 2, 6, 7, 8, 11]), (13, [0, 1, 2, 3, 4, 5, 6, 7, 8, 9, 10, 11, 12]), (14, [0, 1, 2, 3, 4, 5, 6, 7, 8, 9, 10, 11, 12, 13])]⟩
  | 17 => ⟨[], [], [], .step 0 (.step 1 (.step 2 (.step 3 (.step 4 (.step 5 (.step 6 (.step 7 (.step 8 (.step 9 (.step 10 (.step 11 (.step 12 (.step 13 (.step 14 (.done))))))))))))))), [(2, [1]), (5, [4]), (7, [6]), (8, [6, 7]), (10, [9]), (11, [0, 1, 2, 6, 7, 8]), (12, [0, 1, 2, 6, 7, 8, 11]), (13, [0, 1, 2, 3, 4, 5, 6, 7, 8, 9, 10, 11, 12]), (14, [0, 1, 2, 3, 4, 5, 6, 7, 8, 9, 10, 11, 12, 13])]⟩
  | 18 => ⟨[], [], [], .step 0 (.step 1 (.step 2 (.step 3 (.step 4 (.step 5 (.step 6 (.step 7 (.step 8 (.step 9 (.step 10 (.step 11 (.step 12 (.step 13 (.step 14 (.done))))))))))))))), [(2, [1]), (5, [4]), (7, [6]), (8, [6, 7]), (10, [9]), (11, [0, 1, 2, 6, 7, 8]), (12, [0, 1, 2, 6, 7, 8, 11]), (13, [0, 1, 2, 3, 4, 5, 6, 7, 8, 9, 10, 11, 12]), (14, [0, 1, 2, 3, 4, 5, 6, 7, 8, 9, 10, 11, 12, 13])]⟩
  | 23 => ⟨[], [], [], .step 0 (.step 1 (.step 2 (.step 3 (.step 4 (.step 5 (.step 6 (.step 7 (.step 8 (.step 9 (.step 10 (.step 11 (.step 12 (.step 13 (.step 14 (.done))))))))))))))), [(2, [1]), (5, [4]), (7, [6]), (8, [6, 7]), (10, [9]), (11, [0, 1, 2, 6, 7, 8]), (12, [0, 1, 2, 6, 7, 8, 11]), (13, [0, 1, 2, 3, 4, 5, 6, 7, 8, 9, 10, 11, 12]), (14, [0, 1, 2, 3, 4, 5, 6, 7, 8, 9, 10, 11, 12, 13])]⟩
  | _ => ⟨[], [], [], .done, []⟩
def esc_internal_strconv_formatBase10 : Nat → Bool
  | _ => false
def vc_internal_strconv_formatBase10 (w0 : World) (a0 a1 : Value) (σ : Vw) (R : Value → Vw → Prop) : Prop :=
  pLen a0 (fun v0 => pLoop (fun l1 K2 s3 => pBin Tryd.prog 3 BinOp.geq (vget l1 2) (Value.int IntKind.i64 8) (fun v4 => pIf v4 (pBin Tryd.prog 144 BinOp.rem (vget l1 1) (Value.int IntKind.u64 100000000) (fun v5 => pConvInt IntKind.u32 v5 (fun v6 => pBin Tryd.prog 144 BinOp.quo (vget l1 1) (Value.int IntKind.u64 100000000) (fun v7 => pBin Tryd.prog 149 BinOp.quo v6 (Value.int IntKind.u32 10000) (fun v8 => pBin Tryd.prog 149 BinOp.rem v6 (Value.int IntKind.u32 10000) (fun v9 => pBin Tryd.prog 149 BinOp.quo v9 (Value.int IntKind.u32 100) (fun v10 => pBin Tryd.prog 149 BinOp.mul v10 (Value.int IntKind.u32 2) (fun v11 => pBin Tryd.prog 149 BinOp.rem v9 (Value.int IntKind.u32 100) (fun v12 => pBin Tryd.prog 149 BinOp.mul v12 (Value.int IntKind.u32 2) (fun v13 => pBin Tryd.prog 149 BinOp.quo v8 (Value.int IntKind.u32 100) (fun v14 => pBin Tryd.prog 149 BinOp.mul v14 (Value.int IntKind.u32 2) (fun v15 => pBin Tryd.prog 149 BinOp.rem v8 (Value.int IntKind.u32 100) (fun v16 => pBin Tryd.prog 149 BinOp.mul v16 (Value.int IntKind.u32 2) (fun v17 => pBin Tryd.prog 3 BinOp.sub (vget l1 2) (Value.int IntKind.i64 1) (fun v18 => pBin Tryd.prog 3 BinOp.sub (vget l1 2) (Value.int IntKind.i64 2) (fun v19 => pBin Tryd.prog 149 BinOp.add v13 (Value.int IntKind.u32 1) (fun v20 => pIndexStr (Value.string ({ data := (([48, 48, 48, 49, 48, 50, 48, 51, 48, 52, 48, 53, 48, 54, 48, 55, 48, 56, 48, 57, 49, 48, 49, 49, 49, 50, 49, 51, 49, 52, 49, 53, 49, 54, 49, 55, 49, 56, 49, 57, 50, 48, 50, 49, 50, 50, 50, 51, 50, 52].append [50, 53, 50, 54, 50, 55, 50, 56, 50, 57, 51, 48, 51, 49, 51, 50, 51, 51, 51, 52, 51, 53, 51, 54, 51, 55, 51, 56, 51, 57, 52, 48, 52, 49, 52, 50, 52, 51, 52, 52, 52, 53, 52, 54, 52, 55, 52, 56, 52, 57]).append ([53, 48, 53, 49, 53, 50, 53, 51, 53, 52, 53, 53, 53, 54, 53, 55, 53, 56, 53, 57, 54, 48, 54, 49, 54, 50, 54, 51, 54, 52, 54, 53, 54, 54, 54, 55, 54, 56, 54, 57, 55, 48, 55, 49, 55, 50, 55, 51, 55, 52].append [55, 53, 55, 54, 55, 55, 55, 56, 55, 57, 56, 48, 56, 49, 56, 50, 56, 51, 56, 52, 56, 53, 56, 54, 56, 55, 56, 56, 56, 57, 57, 48, 57, 49, 57, 50, 57, 51, 57, 52, 57, 53, 57, 54, 57, 55, 57, 56, 57, 57])).toArray })) v20 (fun v21 => pIndexStr (Value.string ({ data := (([48, 48, 48, 49, 48, 50, 48, 51, 48, 52, 48, 53, 48, 54, 48, 55, 48, 56, 48, 57, 49, 48, 49, 49, 49, 50, 49, 51, 49, 52, 49, 53, 49, 54, 49, 55, 49, 56, 49, 57, 50, 48, 50, 49, 50, 50, 50, 51, 50, 52].append [50, 53, 50, 54, 50, 55, 50, 56, 50, 57, 51, 48, 51, 49, 51, 50, 51, 51, 51, 52, 51, 53, 51, 54, 51, 55, 51, 56, 51, 57, 52, 48, 52, 49, 52, 50, 52, 51, 52, 52, 52, 53, 52, 54, 52, 55, 52, 56, 52, 57]).append ([53, 48, 53, 49, 53, 50, 53, 51, 53, 52, 53, 53, 53, 54, 53, 55, 53, 56, 53, 57, 54, 48, 54, 49, 54, 50, 54, 51, 54, 52, 54, 53, 54, 54, 54, 55, 54, 56, 54, 57, 55, 48, 55, 49, 55, 50, 55, 51, 55, 52].append [55, 53, 55, 54, 55, 55, 55, 56, 55, 57, 56, 48, 56, 49, 56, 50, 56, 51, 56, 52, 56, 53, 56, 54, 56, 55, 56, 56, 56, 57, 57, 48, 57, 49, 57, 50, 57, 51, 57, 52, 57, 53, 57, 54, 57, 55, 57, 56, 57, 57])).toArray })) v13 (fun v22 => pIndexAddr 1 (vget l1 0) v18 (fun v23 => pVal false 1 v21 (pStore v23 [v21] s3 (fun s24 => pIndexAddr 1 (vget l1 0) v19 (fun v25 => pVal false 1 v22 (pStore v25 [v22] s24 (fun s26 => pBin Tryd.prog 3 BinOp.sub (vget l1 2) (Value.int IntKind.i64 3) (fun v27 => pBin Tryd.prog 3 BinOp.sub (vget l1 2) (Value.int IntKind.i64 4) (fun v28 => pBin Tryd.prog 149 BinOp.add v11 (Value.int IntKind.u32 1) (fun v29 => pIndexStr (Value.string ({ data := (([48, 48, 48, 49, 48, 50, 48, 51, 48, 52, 48, 53, 48, 54, 48, 55, 48, 56, 48, 57, 49, 48, 49, 49, 49, 50, 49, 51, 49, 52, 49, 53, 49, 54, 49, 55, 49, 56, 49, 57, 50, 48, 50, 49, 50, 50, 50, 51, 50, 52].append [50, 53, 50, 54, 50, 55, 50, 56, 50, 57, 51, 48, 51, 49, 51, 50, 51, 51, 51, 52, 51, 53, 51, 54, 51, 55, 51, 56, 51, 57, 52, 48, 52, 49, 52, 50, 52, 51, 52, 52, 52, 53, 52, 54, 52, 55, 52, 56, 52, 57]).append ([53, 48, 53, 49, 53, 50, 53, 51, 53, 52, 53, 53, 53, 54, 53, 55, 53, 56, 53, 57, 54, 48, 54, 49, 54, 50, 54, 51, 54, 52, 54, 53, 54, 54, 54, 55, 54, 56, 54, 57, 55, 48, 55, 49, 55, 50, 55, 51, 55, 52].append [55, 53, 55, 54, 55, 55, 55, 56, 55, 57, 56, 48, 56, 49, 56, 50, 56, 51, 56, 52, 56, 53, 56, 54, 56, 55, 56, 56, 56, 57, 57, 48, 57, 49, 57, 50, 57, 51, 57, 52, 57, 53, 57, 54, 57, 55, 57, 56, 57, 57])).toArray })) v29 (fun v30 => pIndexStr (Value.string ({ data := (([48, 48, 48, 49, 48, 50, 48, 51, 48, 52, 48, 53, 48, 54, 48, 55, 48, 56, 48, 57, 49, 48, 49, 49, 49, 50, 49, 51, 49, 52, 49, 53, 49, 54, 49, 55, 49, 56, 49, 57, 50, 48, 50, 49, 50, 50, 50, 51, 50, 52].append [50, 53, 50, 54, 50, 55, 50, 56, 50, 57, 51, 48, 51, 49, 51, 50, 51, 51, 51, 52, 51, 53, 51, 54, 51, 55, 51, 56, 51, 57, 52, 48, 52, 49, 52, 50, 52, 51, 52, 52, 52, 53, 52, 54, 52, 55, 52, 56, 52, 57]).append ([53, 48, 53, 49, 53, 50, 53, 51, 53, 52, 53, 53, 53, 54, 53, 55, 53, 56, 53, 57, 54, 48, 54, 49, 54, 50, 54, 51, 54, 52, 54, 53, 54, 54, 54, 55, 54, 56, 54, 57, 55, 48, 55, 49, 55, 50, 55, 51, 55, 52].append [55, 53, 55, 54, 55, 55, 55, 56, 55, 57, 56, 48, 56, 49, 56, 50, 56, 51, 56, 52, 56, 53, 56, 54, 56, 55, 56, 56, 56, 57, 57, 48, 57, 49, 57, 50, 57, 51, 57, 52, 57, 53, 57, 54, 57, 55, 57, 56, 57, 57])).toArray })) v11 (fun v31 => pIndexAddr 1 (vget l1 0) v27 (fun v32 => pVal false 1 v30 (pStore v32 [v30] s26 (fun s33 => pIndexAddr 1 (vget l1 0) v28 (fun v34 => pVal false 1 v31 (pStore v34 [v31] s33 (fun s35 => pBin Tryd.prog 3 BinOp.sub (vget l1 2) (Value.int IntKind.i64 5) (fun v36 => pBin Tryd.prog 3 BinOp.sub (vget l1 2) (Value.int IntKind.i64 6) (fun v37 => pBin Tryd.prog 149 BinOp.add v17 (Value.int IntKind.u32 1) (fun v38 => pIndexStr (Value.string ({ data := (([48, 48, 48, 49, 48, 50, 48, 51, 48, 52, 48, 53, 48, 54, 48, 55, 48, 56, 48, 57, 49, 48, 49, 49, 49, 50, 49, 51, 49, 52, 49, 53, 49, 54, 49, 55, 49, 56, 49, 57, 50, 48, 50, 49, 50, 50, 50, 51, 50, 52].append [50, 53, 50, 54, 50, 55, 50, 56, 50, 57, 51, 48, 51, 49, 51, 50, 51, 51, 51, 52, 51, 53, 51, 54, 51, 55, 51, 56, 51, 57, 52, 48, 52, 49, 52, 50, 52, 51, 52, 52, 52, 53, 52, 54, 52, 55, 52, 56, 52, 57]).append ([53, 48, 53, 49, 53, 50, 53, 51, 53, 52, 53, 53, 53, 54, 53, 55, 53, 56, 53, 57, 54, 48, 54, 49, 54, 50, 54, 51, 54, 52, 54, 53, 54, 54, 54, 55, 54, 56, 54, 57, 55, 48, 55, 49, 55, 50, 55, 51, 55, 52].append [55, 53, 55, 54, 55, 55, 55, 56, 55, 57, 56, 48, 56, 49, 56, 50, 56, 51, 56, 52, 56, 53, 56, 54, 56, 55, 56, 56, 56, 57, 57, 48, 57, 49, 57, 50, 57, 51, 57, 52, 57, 53, 57, 54, 57, 55, 57, 56, 57, 57])).toArray })) v38 (fun v39 => pIndexStr (Value.string ({ data := (([48, 48, 48, 49, 48, 50, 48, 51, 48, 52, 48, 53, 48, 54, 48, 55, 48, 56, 48, 57, 49, 48, 49, 49, 49, 50, 49, 51, 49, 52, 49, 53, 49, 54, 49, 55, 49, 56, 49, 57, 50, 48, 50, 49, 50, 50, 50, 51, 50, 52].append [50, 53, 50, 54, 50, 55, 50, 56, 50, 57, 51, 48, 51, 49, 51, 50, 51, 51, 51, 52, 51, 53, 51, 54, 51, 55, 51, 56, 51, 57, 52, 48, 52, 49, 52, 50, 52, 51, 52, 52, 52, 53, 52, 54, 52, 55, 52, 56, 52, 57]).append ([53, 48, 53, 49, 53, 50, 53, 51, 53, 52, 53, 53, 53, 54, 53, 55, 53, 56, 53, 57, 54, 48, 54, 49, 54, 50, 54, 51, 54, 52, 54, 53, 54, 54, 54, 55, 54, 56, 54, 57, 55, 48, 55, 49, 55, 50, 55, 51, 55, 52].append [55, 53, 55, 54, 55, 55, 55, 56, 55, 57, 56, 48, 56, 49, 56, 50, 56, 51, 56, 52, 56, 53, 56, 54, 56, 55, 56, 56, 56, 57, 57, 48, 57, 49, 57, 50, 57, 51, 57, 52, 57, 53, 57, 54, 57, 55, 57, 56, 57, 57])).toArray })) v17 (fun v40 => pIndexAddr 1 (vget l1 0) v36 (fun v41 => pVal false 1 v39 (pStore v41 [v39] s35 (fun s42 => pIndexAddr 1 (vget l1 0) v37 (fun v43 => pVal false 1 v40 (pStore v43 [v40] s42 (fun s44 => pBin Tryd.prog 3 BinOp.sub (vget l1 2) (Value.int IntKind.i64 7) (fun v45 => pBin Tryd.prog 3 BinOp.sub (vget l1 2) (Value.int IntKind.i64 8) (fun v46 => pBin Tryd.prog 149 BinOp.add v15 (Value.int IntKind.u32 1) (fun v47 => pIndexStr (Value.string ({ data := (([48, 48, 48, 49, 48, 50, 48, 51, 48, 52, 48, 53, 48, 54, 48, 55, 48, 56, 48, 57, 49, 48, 49, 49, 49, 50, 49, 51, 49, 52, 49, 53, 49, 54, 49, 55, 49, 56, 49, 57, 50, 48, 50, 49, 50, 50, 50, 51, 50, 52].append [50, 53, 50, 54, 50, 55, 50, 56, 50, 57, 51, 48, 51, 49, 51, 50, 51, 51, 51, 52, 51, 53, 51, 54, 51, 55, 51, 56, 51, 57, 52, 48, 52, 49, 52, 50, 52, 51, 52, 52, 52, 53, 52, 54, 52, 55, 52, 56, 52, 57]).append ([53, 48, 53, 49, 53, 50, 53, 51, 53, 52, 53, 53, 53, 54, 53, 55, 53, 56, 53, 57, 54, 48, 54, 49, 54, 50, 54, 51, 54, 52, 54, 53, 54, 54, 54, 55, 54, 56, 54, 57, 55, 48, 55, 49, 55, 50, 55, 51, 55, 52].append [55, 53, 55, 54, 55, 55, 55, 56, 55, 57, 56, 48, 56, 49, 56, 50, 56, 51, 56, 52, 56, 53, 56, 54, 56, 55, 56, 56, 56, 57, 57, 48, 57, 49, 57, 50, 57, 51, 57, 52, 57, 53, 57, 54, 57, 55, 57, 56, 57, 57])).toArray })) v47 (fun v48 => pIndexStr (Value.string ({ data := (([48, 48, 48, 49, 48, 50, 48, 51, 48, 52, 48, 53, 48, 54, 48, 55, 48, 56, 48, 57, 49, 48, 49, 49, 49, 50, 49, 51, 49, 52, 49, 53, 49, 54, 49, 55, 49, 56, 49, 57, 50, 48, 50, 49, 50, 50, 50, 51, 50, 52].append [50, 53, 50, 54, 50, 55, 50, 56, 50, 57, 51, 48, 51, 49, 51, 50, 51, 51, 51, 52, 51, 53, 51, 54, 51, 55, 51, 56, 51, 57, 52, 48, 52, 49, 52, 50, 52, 51, 52, 52, 52, 53, 52, 54, 52, 55, 52, 56, 52, 57]).append ([53, 48, 53, 49, 53, 50, 53, 51, 53, 52, 53, 53, 53, 54, 53, 55, 53, 56, 53, 57, 54, 48, 54, 49, 54, 50, 54, 51, 54, 52, 54, 53, 54, 54, 54, 55, 54, 56, 54, 57, 55, 48, 55, 49, 55, 50, 55, 51, 55, 52].append [55, 53, 55, 54, 55, 55, 55, 56, 55, 57, 56, 48, 56, 49, 56, 50, 56, 51, 56, 52, 56, 53, 56, 54, 56, 55, 56, 56, 56, 57, 57, 48, 57, 49, 57, 50, 57, 51, 57, 52, 57, 53, 57, 54, 57, 55, 57, 56, 57, 57])).toArray })) v15 (fun v49 => pIndexAddr 1 (vget l1 0) v45 (fun v50 => pVal false 1 v48 (pStore v50 [v48] s44 (fun s51 => pIndexAddr 1 (vget l1 0) v46 (fun v52 => pVal false 1 v49 (pStore v52 [v49] s51 (fun s53 => pBin Tryd.prog 3 BinOp.sub (vget l1 2) (Value.int IntKind.i64 8) (fun v54 => K2 AX.normal [vget l1 0, v7, v54] s53))))))))))))))))))))))))))))))))))))))))))))))))))))))))))) (K2 (AX.exit 0) [vget l1 0, vget l1 1, vget l1 2] s3))) [a0, a1, v0] σ (fun x55 l56 s57 => match x55 with | .normal => pConvInt IntKind.u32 (vget l56 1) (fun v58 => pBin Tryd.prog 3 BinOp.geq (vget l56 2) (Value.int IntKind.i64 4) (fun v59 => pIf v59 (pBin Tryd.prog 149 BinOp.rem v58 (Value.int IntKind.u32 10000) (fun v60 => pBin Tryd.prog 149 BinOp.quo v58 (Value.int IntKind.u32 10000) (fun v61 => pBin Tryd.prog 149 BinOp.quo v60 (Value.int IntKind.u32 100) (fun v62 => pBin Tryd.prog 149 BinOp.mul v62 (Value.int IntKind.u32 2) (fun v63 => pBin Tryd.prog 149 BinOp.rem v60 (Value.int IntKind.u32 100) (fun v64 => pBin Tryd.prog 149 BinOp.mul v64 (Value.int IntKind.u32 2) (fun v65 => pBin Tryd.prog 3 BinOp.sub (vget l56 2) (Value.int IntKind.i64 1) (fun v66 => pBin Tryd.prog 3 BinOp.sub (vget l56 2) (Value.int IntKind.i64 2) (fun v67 => pBin Tryd.prog 149 BinOp.add v65 (Value.int IntKind.u32 1) (fun v68 => pIndexStr (Value.string ({ data := (([48, 48, 48, 49, 48, 50, 48, 51, 48, 52, 48, 53, 48, 54, 48, 55, 48, 56, 48, 57, 49, 48, 49, 49, 49, 50, 49, 51, 49, 52, 49, 53, 49, 54, 49, 55, 49, 56, 49, 57, 50, 48, 50, 49, 50, 50, 50, 51, 50, 52].append [50, 53, 50, 54, 50, 55, 50, 56, 50, 57, 51, 48, 51, 49, 51, 50, 51, 51, 51, 52, 51, 53, 51, 54, 51, 55, 51, 56, 51, 57, 52, 48, 52, 49, 52, 50, 52, 51, 52, 52, 52, 53, 52, 54, 52, 55, 52, 56, 52, 57]).append ([53, 48, 53, 49, 53, 50, 53, 51, 53, 52, 53, 53, 53, 54, 53, 55, 53, 56, 53, 57, 54, 48, 54, 49, 54, 50, 54, 51, 54, 52, 54, 53, 54, 54, 54, 55, 54, 56, 54, 57, 55, 48, 55, 49, 55, 50, 55, 51, 55, 52].append [55, 53, 55, 54, 55, 55, 55, 56, 55, 57, 56, 48, 56, 49, 56, 50, 56, 51, 56, 52, 56, 53, 56, 54, 56, 55, 56, 56, 56, 57, 57, 48, 57, 49, 57, 50, 57, 51, 57, 52, 57, 53, 57, 54, 57, 55, 57, 56, 57, 57])).toArray })) v68 (fun v69 => pIndexStr (Value.string ({ data := (([48, 48, 48, 49, 48, 50, 48, 51, 48, 52, 48, 53, 48, 54, 48, 55, 48, 56, 48, 57, 49, 48, 49, 49, 49, 50, 49, 51, 49, 52, 49, 53, 49, 54, 49, 55, 49, 56, 49, 57, 50, 48, 50, 49, 50, 50, 50, 51, 50, 52].append [50, 53, 50, 54, 50, 55, 50, 56, 50, 57, 51, 48, 51, 49, 51, 50, 51, 51, 51, 52, 51, 53, 51, 54, 51, 55, 51, 56, 51, 57, 52, 48, 52, 49, 52, 50, 52, 51, 52, 52, 52, 53, 52, 54, 52, 55, 52, 56, 52, 57]).append ([53, 48, 53, 49, 53, 50, 53, 51, 53, 52, 53, 53, 53, 54, 53, 55, 53, 56, 53, 57, 54, 48, 54, 49, 54, 50, 54, 51, 54, 52, 54, 53, 54, 54, 54, 55, 54, 56, 54, 57, 55, 48, 55, 49, 55, 50, 55, 51, 55, 52].append [55, 53, 55, 54, 55, 55, 55, 56, 55, 57, 56, 48, 56, 49, 56, 50, 56, 51, 56, 52, 56, 53, 56, 54, 56, 55, 56, 56, 56, 57, 57, 48, 57, 49, 57, 50, 57, 51, 57, 52, 57, 53, 57, 54, 57, 55, 57, 56, 57, 57])).toArray })) v65 (fun v70 => pIndexAddr 1 (vget l56 0) v66 (fun v71 => pVal false 1 v69 (pStore v71 [v69] s57 (fun s72 => pIndexAddr 1 (vget l56 0) v67 (fun v73 => pVal false 1 v70 (pStore v73 [v70] s72 (fun s74 => pBin Tryd.prog 3 BinOp.sub (vget l56 2) (Value.int IntKind.i64 3) (fun v75 => pBin Tryd.prog 3 BinOp.sub (vget l56 2) (Value.int IntKind.i64 4) (fun v76 => pBin Tryd.prog 149 BinOp.add v63 (Value.int IntKind.u32 1) (fun v77 => pIndexStr (Value.string ({ data := (([48, 48, 48, 49, 48, 50, 48, 51, 48, 52, 48, 53, 48, 54, 48, 55, 48, 56, 48, 57, 49, 48, 49, 49, 49, 50, 49, 51, 49, 52, 49, 53, 49, 54, 49, 55, 49, 56, 49, 57, 50, 48, 50, 49, 50, 50, 50, 51, 50, 52].append [50, 53, 50, 54, 50, 55, 50, 56, 50, 57, 51, 48, 51, 49, 51, 50, 51, 51, 51, 52, 51, 53, 51, 54, 51, 55, 51, 56, 51, 57, 52, 48, 52, 49, 52, 50, 52, 51, 52, 52, 52, 53, 52, 54, 52, 55, 52, 56, 52, 57]).append ([53, 48, 53, 49, 53, 50, 53, 51, 53, 52, 53, 53, 53, 54, 53, 55, 53, 56, 53, 57, 54, 48, 54, 49, 54, 50, 54, 51, 54, 52, 54, 53, 54, 54, 54, 55, 54, 56, 54, 57, 55, 48, 55, 49, 55, 50, 55, 51, 55, 52].append [55, 53, 55, 54, 55, 55, 55, 56, 55, 57, 56, 48, 56, 49, 56, 50, 56, 51, 56, 52, 56, 53, 56, 54, 56, 55, 56, 56, 56, 57, 57, 48, 57, 49, 57, 50, 57, 51, 57, 52, 57, 53, 57, 54, 57, 55, 57, 56, 57, 57])).toArray })) v77 (fun v78 => pIndexStr (Value.string ({ data := (([48, 48, 48, 49, 48, 50, 48, 51, 48, 52, 48, 53, 48, 54, 48, 55, 48, 56, 48, 57, 49, 48, 49, 49, 49, 50, 49, 51, 49, 52, 49, 53, 49, 54, 49, 55, 49, 56, 49, 57, 50, 48, 50, 49, 50, 50, 50, 51, 50, 52].append [50, 53, 50, 54, 50, 55, 50, 56, 50, 57, 51, 48, 51, 49, 51, 50, 51, 51, 51, 52, 51, 53, 51, 54, 51, 55, 51, 56, 51, 57, 52, 48, 52, 49, 52, 50, 52, 51, 52, 52, 52, 53, 52, 54, 52, 55, 52, 56, 52, 57]).append ([53, 48, 53, 49, 53, 50, 53, 51, 53, 52, 53, 53, 53, 54, 53, 55, 53, 56, 53, 57, 54, 48, 54, 49, 54, 50, 54, 51, 54, 52, 54, 53, 54, 54, 54, 55, 54, 56, 54, 57, 55, 48, 55, 49, 55, 50, 55, 51, 55, 52].append [55, 53, 55, 54, 55, 55, 55, 56, 55, 57, 56, 48, 56, 49, 56, 50, 56, 51, 56, 52, 56, 53, 56, 54, 56, 55, 56, 56, 56, 57, 57, 48, 57, 49, 57, 50, 57, 51, 57, 52, 57, 53, 57, 54, 57, 55, 57, 56, 57, 57])).toArray })) v63 (fun v79 => pIndexAddr 1 (vget l56 0) v75 (fun v80 => pVal false 1 v78 (pStore v80 [v78] s74 (fun s81 => pIndexAddr 1 (vget l56 0) v76 (fun v82 => pVal false 1 v79 (pStore v82 [v79] s81 (fun s83 => pBin Tryd.prog 3 BinOp.sub (vget l56 2) (Value.int IntKind.i64 4) (fun v84 => pBin Tryd.prog 3 BinOp.geq v84 (Value.int IntKind.i64 2) (fun v85 => pIf v85 (pBin Tryd.prog 149 BinOp.rem v61 (Value.int IntKind.u32 100) (fun v86 => pBin Tryd.prog 149 BinOp.mul v86 (Value.int IntKind.u32 2) (fun v87 => pBin Tryd.prog 149 BinOp.quo v61 (Value.int IntKind.u32 100) (fun v88 => pBin Tryd.prog 3 BinOp.sub v84 (Value.int IntKind.i64 1) (fun v89 => pBin Tryd.prog 3 BinOp.sub v84 (Value.int IntKind.i64 2) (fun v90 => pBin Tryd.prog 149 BinOp.add v87 (Value.int IntKind.u32 1) (fun v91 => pIndexStr (Value.string ({ data := (([48, 48, 48, 49, 48, 50, 48, 51, 48, 52, 48, 53, 48, 54, 48, 55, 48, 56, 48, 57, 49, 48, 49, 49, 49, 50, 49, 51, 49, 52, 49, 53, 49, 54, 49, 55, 49, 56, 49, 57, 50, 48, 50, 49, 50, 50, 50, 51, 50, 52].append [50, 53, 50, 54, 50, 55, 50, 56, 50, 57, 51, 48, 51, 49, 51, 50, 51, 51, 51, 52, 51, 53, 51, 54, 51, 55, 51, 56, 51, 57, 52, 48, 52, 49, 52, 50, 52, 51, 52, 52, 52, 53, 52, 54, 52, 55, 52, 56, 52, 57]).append ([53, 48, 53, 49, 53, 50, 53, 51, 53, 52, 53, 53, 53, 54, 53, 55, 53, 56, 53, 57, 54, 48, 54, 49, 54, 50, 54, 51, 54, 52, 54, 53, 54, 54, 54, 55, 54, 56, 54, 57, 55, 48, 55, 49, 55, 50, 55, 51, 55, 52].append [55, 53, 55, 54, 55, 55, 55, 56, 55, 57, 56, 48, 56, 49, 56, 50, 56, 51, 56, 52, 56, 53, 56, 54, 56, 55, 56, 56, 56, 57, 57, 48, 57, 49, 57, 50, 57, 51, 57, 52, 57, 53, 57, 54, 57, 55, 57, 56, 57, 57])).toArray })) v91 (fun v92 => pIndexStr (Value.string ({ data := (([48, 48, 48, 49, 48, 50, 48, 51, 48, 52, 48, 53, 48, 54, 48, 55, 48, 56, 48, 57, 49, 48, 49, 49, 49, 50, 49, 51, 49, 52, 49, 53, 49, 54, 49, 55, 49, 56, 49, 57, 50, 48, 50, 49, 50, 50, 50, 51, 50, 52].append [50, 53, 50, 54, 50, 55, 50, 56, 50, 57, 51, 48, 51, 49, 51, 50, 51, 51, 51, 52, 51, 53, 51, 54, 51, 55, 51, 56, 51, 57, 52, 48, 52, 49, 52, 50, 52, 51, 52, 52, 52, 53, 52, 54, 52, 55, 52, 56, 52, 57]).append ([53, 48, 53, 49, 53, 50, 53, 51, 53, 52, 53, 53, 53, 54, 53, 55, 53, 56, 53, 57, 54, 48, 54, 49, 54, 50, 54, 51, 54, 52, 54, 53, 54, 54, 54, 55, 54, 56, 54, 57, 55, 48, 55, 49, 55, 50, 55, 51, 55, 52].append [55, 53, 55, 54, 55, 55, 55, 56, 55, 57, 56, 48, 56, 49, 56, 50, 56, 51, 56, 52, 56, 53, 56, 54, 56, 55, 56, 56, 56, 57, 57, 48, 57, 49, 57, 50, 57, 51, 57, 52, 57, 53, 57, 54, 57, 55, 57, 56, 57, 57])).toArray })) v87 (fun v93 => pIndexAddr 1 (vget l56 0) v89 (fun v94 => pVal false 1 v92 (pStore v94 [v92] s83 (fun s95 => pIndexAddr 1 (vget l56 0) v90 (fun v96 => pVal false 1 v93 (pStore v96 [v93] s95 (fun s97 => pBin Tryd.prog 3 BinOp.sub v84 (Value.int IntKind.i64 2) (fun v98 => pBin Tryd.prog 3 BinOp.gtr v98 (Value.int IntKind.i64 0) (fun v99 => pIf v99 (pBin Tryd.prog 149 BinOp.add (Value.int IntKind.u32 48) v88 (fun v100 => pConvInt IntKind.u8 v100 (fun v101 => pIndexAddr 1 (vget l56 0) (Value.int IntKind.i64 0) (fun v102 => pVal false 1 v101 (pStore v102 [v101] s97 (fun s103 => R (Value.tuple ⟨[]⟩) s103)))))) (R (Value.tuple ⟨[]⟩) s97)))))))))))))))))) (pBin Tryd.prog 3 BinOp.gtr v84 (Value.int IntKind.i64 0) (fun v104 => pIf v104 (pBin Tryd.prog 149 BinOp.add (Value.int IntKind.u32 48) v61 (fun v105 => pConvInt IntKind.u8 v105 (fun v106 => pIndexAddr 1 (vget l56 0) (Value.int IntKind.i64 0) (fun v107 => pVal false 1 v106 (pStore v107 [v106] s83 (fun s108 => R (Value.tuple ⟨[]⟩) s108)))))) (R (Value.tuple ⟨[]⟩) s83)))))))))))))))))))))))))))))))))) (pBin Tryd.prog 3 BinOp.geq (vget l56 2) (Value.int IntKind.i64 2) (fun v109 => pIf v109 (pBin Tryd.prog 149 BinOp.rem v58 (Value.int IntKind.u32 100) (fun v110 => pBin Tryd.prog 149 BinOp.mul v110 (Value.int IntKind.u32 2) (fun v111 => pBin Tryd.prog 149 BinOp.quo v58 (Value.int IntKind.u32 100) (fun v112 => pBin Tryd.prog 3 BinOp.sub (vget l56 2) (Value.int IntKind.i64 1) (fun v113 => pBin Tryd.prog 3 BinOp.sub (vget l56 2) (Value.int IntKind.i64 2) (fun v114 => pBin Tryd.prog 149 BinOp.add v111 (Value.int IntKind.u32 1) (fun v115 => pIndexStr (Value.string ({ data := (([48, 48, 48, 49, 48, 50, 48, 51, 48, 52, 48, 53, 48, 54, 48, 55, 48, 56, 48, 57, 49, 48, 49, 49, 49, 50, 49, 51, 49, 52, 49, 53, 49, 54, 49, 55, 49, 56, 49, 57, 50, 48, 50, 49, 50, 50, 50, 51, 50, 52].append [50, 53, 50, 54, 50, 55, 50, 56, 50, 57, 51, 48, 51, 49, 51, 50, 51, 51, 51, 52, 51, 53, 51, 54, 51, 55, 51, 56, 51, 57, 52, 48, 52, 49, 52, 50, 52, 51, 52, 52, 52, 53, 52, 54, 52, 55, 52, 56, 52, 57]).append ([53, 48, 53, 49, 53, 50, 53, 51, 53, 52, 53, 53, 53, 54, 53, 55, 53, 56, 53, 57, 54, 48, 54, 49, 54, 50, 54, 51, 54, 52, 54, 53, 54, 54, 54, 55, 54, 56, 54, 57, 55, 48, 55, 49, 55, 50, 55, 51, 55, 52].append [55, 53, 55, 54, 55, 55, 55, 56, 55, 57, 56, 48, 56, 49, 56, 50, 56, 51, 56, 52, 56, 53, 56, 54, 56, 55, 56, 56, 56, 57, 57, 48, 57, 49, 57, 50, 57, 51, 57, 52, 57, 53, 57, 54, 57, 55, 57, 56, 57, 57])).toArray })) v115 (fun v116 => pIndexStr (Value.string ({ data := (([48, 48, 48, 49, 48, 50, 48, 51, 48, 52, 48, 53, 48, 54, 48, 55, 48, 56, 48, 57, 49, 48, 49, 49, 49, 50, 49, 51, 49, 52, 49, 53, 49, 54, 49, 55, 49, 56, 49, 57, 50, 48, 50, 49, 50, 50, 50, 51, 50, 52].append [50, 53, 50, 54, 50, 55, 50, 56, 50, 57, 51, 48, 51, 49, 51, 50, 51, 51, 51, 52, 51, 53, 51, 54, 51, 55, 51, 56, 51, 57, 52, 48, 52, 49, 52, 50, 52, 51, 52, 52, 52, 53, 52, 54, 52, 55, 52, 56, 52, 57]).append ([53, 48, 53, 49, 53, 50, 53, 51, 53, 52, 53, 53, 53, 54, 53, 55, 53, 56, 53, 57, 54, 48, 54, 49, 54, 50, 54, 51, 54, 52, 54, 53, 54, 54, 54, 55, 54, 56, 54, 57, 55, 48, 55, 49, 55, 50, 55, 51, 55, 52].append [55, 53, 55, 54, 55, 55, 55, 56, 55, 57, 56, 48, 56, 49, 56, 50, 56, 51, 56, 52, 56, 53, 56, 54, 56, 55, 56, 56, 56, 57, 57, 48, 57, 49, 57, 50, 57, 51, 57, 52, 57, 53, 57, 54, 57, 55, 57, 56, 57, 57])).toArray })) v111 (fun v117 => pIndexAddr 1 (vget l56 0) v113 (fun v118 => pVal false 1 v116 (pStore v118 [v116] s57 (fun s119 => pIndexAddr 1 (vget l56 0) v114 (fun v120 => pVal false 1 v117 (pStore v120 [v117] s119 (fun s121 => pBin Tryd.prog 3 BinOp.sub (vget l56 2) (Value.int IntKind.i64 2) (fun v122 => pBin Tryd.prog 3 BinOp.gtr v122 (Value.int IntKind.i64 0) (fun v123 => pIf v123 (pBin Tryd.prog 149 BinOp.add (Value.int IntKind.u32 48) v112 (fun v124 => pConvInt IntKind.u8 v124 (fun v125 => pIndexAddr 1 (vget l56 0) (Value.int IntKind.i64 0) (fun v126 => pVal false 1 v125 (pStore v126 [v125] s121 (fun s127 => R (Value.tuple ⟨[]⟩) s127)))))) (R (Value.tuple ⟨[]⟩) s121)))))))))))))))))) (pBin Tryd.prog 3 BinOp.gtr (vget l56 2) (Value.int IntKind.i64 0) (fun v128 => pIf v128 (pBin Tryd.prog 149 BinOp.add (Value.int IntKind.u32 48) v58 (fun v129 => pConvInt IntKind.u8 v129 (fun v130 => pIndexAddr 1 (vget l56 0) (Value.int IntKind.i64 0) (fun v131 => pVal false 1 v130 (pStore v131 [v130] s57 (fun s132 => R (Value.tuple ⟨[]⟩) s132)))))) (R (Value.tuple ⟨[]⟩) s57))))))) | .ret => R (Value.tuple ⟨[]⟩) s57 | .exit i133 => (match Nat.beq i133 0 with | true => pConvInt IntKind.u32 (vget l56 1) (fun v134 => pBin Tryd.prog 3 BinOp.geq (vget l56 2) (Value.int IntKind.i64 4) (fun v135 => pIf v135 (pBin Tryd.prog 149 BinOp.rem v134 (Value.int IntKind.u32 10000) (fun v136 => pBin Tryd.prog 149 BinOp.quo v134 (Value.int IntKind.u32 10000) (fun v137 => pBin Tryd.prog 149 BinOp.quo v136 (Value.int IntKind.u32 100) (fun v138 => pBin Tryd.prog 149 BinOp.mul v138 (Value.int IntKind.u32 2) (fun v139 => pBin Tryd.prog 149 BinOp.rem v136 (Value.int IntKind.u32 100) (fun v140 => pBin Tryd.prog 149 BinOp.mul v140 (Value.int IntKind.u32 2) (fun v141 => pBin Tryd.prog 3 BinOp.sub (vget l56 2) (Value.int IntKind.i64 1) (fun v142 => pBin Tryd.prog 3 BinOp.sub (vget l56 2) (Value.int IntKind.i64 2) (fun v143 => pBin Tryd.prog 149 BinOp.add v141 (Value.int IntKind.u32 1) (fun v144 => pIndexStr (Value.string ({ data := (([48, 48, 48, 49, 48, 50, 48, 51, 48, 52, 48, 53, 48, 54, 48, 55, 48, 56, 48, 57, 49, 48, 49, 49, 49, 50, 49, 51, 49, 52, 49, 53, 49, 54, 49, 55, 49, 56, 49, 57, 50, 48, 50, 49, 50, 50, 50, 51, 50, 52].append [50, 53, 50, 54, 50, 55, 50, 56, 50, 57, 51, 48, 51, 49, 51, 50, 51, 51, 51, 52, 51, 53, 51, 54, 51, 55, 51, 56, 51, 57, 52, 48, 52, 49, 52, 50, 52, 51, 52, 52, 52, 53, 52, 54, 52, 55, 52, 56, 52, 57]).append ([53, 48, 53, 49, 53, 50, 53, 51, 53, 52, 53, 53, 53, 54, 53, 55, 53, 56, 53, 57, 54, 48, 54, 49, 54, 50, 54, 51, 54, 52, 54, 53, 54, 54, 54, 55, 54, 56, 54, 57, 55, 48, 55, 49, 55, 50, 55, 51, 55, 52].append [55, 53, 55, 54, 55, 55, 55, 56, 55, 57, 56, 48, 56, 49, 56, 50, 56, 51, 56, 52, 56, 53, 56, 54, 56, 55, 56, 56, 56, 57, 57, 48, 57, 49, 57, 50, 57, 51, 57, 52, 57, 53, 57, 54, 57, 55, 57, 56, 57, 57])).toArray })) v144 (fun v145 => pIndexStr (Value.string ({ data := (([48, 48, 48, 49, 48, 50, 48, 51, 48, 52, 48, 53, 48, 54, 48, 55, 48, 56, 48, 57, 49, 48, 49, 49, 49, 50, 49, 51, 49, 52, 49, 53, 49, 54, 49, 55, 49, 56, 49, 57, 50, 48, 50, 49, 50, 50, 50, 51, 50, 52].append [50, 53, 50, 54, 50, 55, 50, 56, 50, 57, 51, 48, 51, 49, 51, 50, 51, 51, 51, 52, 51, 53, 51, 54, 51, 55, 51, 56, 51, 57, 52, 48, 52, 49, 52, 50, 52, 51, 52, 52, 52, 53, 52, 54, 52, 55, 52, 56, 52, 57]).append ([53, 48, 53, 49, 53, 50, 53, 51, 53, 52, 53, 53, 53, 54, 53, 55, 53, 56, 53, 57, 54, 48, 54, 49, 54, 50, 54, 51, 54, 52, 54, 53, 54, 54, 54, 55, 54, 56, 54, 57, 55, 48, 55, 49, 55, 50, 55, 51, 55, 52].append [55, 53, 55, 54, 55, 55, 55, 56, 55, 57, 56, 48, 56, 49, 56, 50, 56, 51, 56, 52, 56, 53, 56, 54, 56, 55, 56, 56, 56, 57, 57, 48, 57, 49, 57, 50, 57, 51, 57, 52, 57, 53, 57, 54, 57, 55, 57, 56, 57, 57])).toArray })) v141 (fun v146 => pIndexAddr 1 (vget l56 0) v142 (fun v147 => pVal false 1 v145 (pStore v147 [v145] s57 (fun s148 => pIndexAddr 1 (vget l56 0) v143 (fun v149 => pVal false 1 v146 (pStore v149 [v146] s148 (fun s150 => pBin Tryd.prog 3 BinOp.sub (vget l56 2) (Value.int IntKind.i64 3) (fun v151 => pBin Tryd.prog 3 BinOp.sub (vget l56 2) (Value.int IntKind.i64 4) (fun v152 => pBin Tryd.prog 149 BinOp.add v139 (Value.int IntKind.u32 1) (fun v153 => pIndexStr (Value.string ({ data := (([48, 48, 48, 49, 48, 50, 48, 51, 48, 52, 48, 53, 48, 54, 48, 55, 48, 56, 48, 57, 49, 48, 49, 49, 49, 50, 49, 51, 49, 52, 49, 53, 49, 54, 49, 55, 49, 56, 49, 57, 50, 48, 50, 49, 50, 50, 50, 51, 50, 52].append [50, 53, 50, 54, 50, 55, 50, 56, 50, 57, 51, 48, 51, 49, 51, 50, 51, 51, 51, 52, 51, 53, 51, 54, 51, 55, 51, 56, 51, 57, 52, 48, 52, 49, 52, 50, 52, 51, 52, 52, 52, 53, 52, 54, 52, 55, 52, 56, 52, 57]).append ([53, 48, 53, 49, 53, 50, 53, 51, 53, 52, 53, 53, 53, 54, 53, 55, 53, 56, 53, 57, 54, 48, 54, 49, 54, 50, 54, 51, 54, 52, 54, 53, 54, 54, 54, 55, 54, 56, 54, 57, 55, 48, 55, 49, 55, 50, 55, 51, 55, 52].append [55, 53, 55, 54, 55, 55, 55, 56, 55, 57, 56, 48, 56, 49, 56, 50, 56, 51, 56, 52, 56, 53, 56, 54, 56, 55, 56, 56, 56, 57, 57, 48, 57, 49, 57, 50, 57, 51, 57, 52, 57, 53, 57, 54, 57, 55, 57, 56, 57, 57])).toArray })) v153 (fun v154 => pIndexStr (Value.string ({ data := (([48, 48, 48, 49, 48, 50, 48, 51, 48, 52, 48, 53, 48, 54, 48, 55, 48, 56, 48, 57, 49, 48, 49, 49, 49, 50, 49, 51, 49, 52, 49, 53, 49, 54, 49, 55, 49, 56, 49, 57, 50, 48, 50, 49, 50, 50, 50, 51, 50, 52].append [50, 53, 50, 54, 50, 55, 50, 56, 50, 57, 51, 48, 51, 49, 51, 50, 51, 51, 51, 52, 51, 53, 51, 54, 51, 55, 51, 56, 51, 57, 52, 48, 52, 49, 52, 50, 52, 51, 52, 52, 52, 53, 52, 54, 52, 55, 52, 56, 52, 57]).append ([53, 48, 53, 49, 53, 50, 53, 51, 53, 52, 53, 53, 53, 54, 53, 55, 53, 56, 53, 57, 54, 48, 54, 49, 54, 50, 54, 51, 54, 52, 54, 53, 54, 54, 54, 55, 54, 56, 54, 57, 55, 48, 55, 49, 55, 50, 55, 51, 55, 52].append [55, 53, 55, 54, 55, 55, 55, 56, 55, 57, 56, 48, 56, 49, 56, 50, 56, 51, 56, 52, 56, 53, 56, 54, 56, 55, 56, 56, 56, 57, 57, 48, 57, 49, 57, 50, 57, 51, 57, 52, 57, 53, 57, 54, 57, 55, 57, 56, 57, 57])).toArray })) v139 (fun v155 => pIndexAddr 1 (vget l56 0) v151 (fun v156 => pVal false 1 v154 (pStore v156 [v154] s150 (fun s157 => pIndexAddr 1 (vget l56 0) v152 (fun v158 => pVal false 1 v155 (pStore v158 [v155] s157 (fun s159 => pBin Tryd.prog 3 BinOp.sub (vget l56 2) (Value.int IntKind.i64 4) (fun v160 => pBin Tryd.prog 3 BinOp.geq v160 (Value.int IntKind.i64 2) (fun v161 => pIf v161 (pBin Tryd.prog 149 BinOp.rem v137 (Value.int IntKind.u32 100) (fun v162 => pBin Tryd.prog 149 BinOp.mul v162 (Value.int IntKind.u32 2) (fun v163 => pBin Tryd.prog 149 BinOp.quo v137 (Value.int IntKind.u32 100) (fun v164 => pBin Tryd.prog 3 BinOp.sub v160 (Value.int IntKind.i64 1) (fun v165 => pBin Tryd.prog 3 BinOp.sub v160 (Value.int IntKind.i64 2) (fun v166 => pBin Tryd.prog 149 BinOp.add v163 (Value.int IntKind.u32 1) (fun v167 => pIndexStr (Value.string ({ data := (([48, 48, 48, 49, 48, 50, 48, 51, 48, 52, 48, 53, 48, 54, 48, 55, 48, 56, 48, 57, 49, 48, 49, 49, 49, 50, 49, 51, 49, 52, 49, 53, 49, 54, 49, 55, 49, 56, 49, 57, 50, 48, 50, 49, 50, 50, 50, 51, 50, 52].append [50, 53, 50, 54, 50, 55, 50, 56, 50, 57, 51, 48, 51, 49, 51, 50, 51, 51, 51, 52, 51, 53, 51, 54, 51, 55, 51, 56, 51, 57, 52, 48, 52, 49, 52, 50, 52, 51, 52, 52, 52, 53, 52, 54, 52, 55, 52, 56, 52, 57]).append ([53, 48, 53, 49, 53, 50, 53, 51, 53, 52, 53, 53, 53, 54, 53, 55, 53, 56, 53, 57, 54, 48, 54, 49, 54, 50, 54, 51, 54, 52, 54, 53, 54, 54, 54, 55, 54, 56, 54, 57, 55, 48, 55, 49, 55, 50, 55, 51, 55, 52].append [55, 53, 55, 54, 55, 55, 55, 56, 55, 57, 56, 48, 56, 49, 56, 50, 56, 51, 56, 52, 56, 53, 56, 54, 56, 55, 56, 56, 56, 57, 57, 48, 57, 49, 57, 50, 57, 51, 57, 52, 57, 53, 57, 54, 57, 55, 57, 56, 57, 57])).toArray })) v167 (fun v168 => pIndexStr (Value.string ({ data := (([48, 48, 48, 49, 48, 50, 48, 51, 48, 52, 48, 53, 48, 54, 48, 55, 48, 56, 48, 57, 49, 48, 49, 49, 49, 50, 49, 51, 49, 52, 49, 53, 49, 54, 49, 55, 49, 56, 49, 57, 50, 48, 50, 49, 50, 50, 50, 51, 50, 52].append [50, 53, 50, 54, 50, 55, 50, 56, 50, 57, 51, 48, 51, 49, 51, 50, 51, 51, 51, 52, 51, 53, 51, 54, 51, 55, 51, 56, 51, 57, 52, 48, 52, 49, 52, 50, 52, 51, 52, 52, 52, 53, 52, 54, 52, 55, 52, 56, 52, 57]).append ([53, 48, 53, 49, 53, 50, 53, 51, 53, 52, 53, 53, 53, 54, 53, 55, 53, 56, 53, 57, 54, 48, 54, 49, 54, 50, 54, 51, 54, 52, 54, 53, 54, 54, 54, 55, 54, 56, 54, 57, 55, 48, 55, 49, 55, 50, 55, 51, 55, 52].append [55, 53, 55, 54, 55, 55, 55, 56, 55, 57, 56, 48, 56, 49, 56, 50, 56, 51, 56, 52, 56, 53, 56, 54, 56, 55, 56, 56, 56, 57, 57, 48, 57, 49, 57, 50, 57, 51, 57, 52, 57, 53, 57, 54, 57, 55, 57, 56, 57, 57])).toArray })) v163 (fun v169 => pIndexAddr 1 (vget l56 0) v165 (fun v170 => pVal false 1 v168 (pStore v170 [v168] s159 (fun s171 => pIndexAddr 1 (vget l56 0) v166 (fun v172 => pVal false 1 v169 (pStore v172 [v169] s171 (fun s173 => pBin Tryd.prog 3 BinOp.sub v160 (Value.int IntKind.i64 2) (fun v174 => pBin Tryd.prog 3 BinOp.gtr v174 (Value.int IntKind.i64 0) (fun v175 => pIf v175 (pBin Tryd.prog 149 BinOp.add (Value.int IntKind.u32 48) v164 (fun v176 => pConvInt IntKind.u8 v176 (fun v177 => pIndexAddr 1 (vget l56 0) (Value.int IntKind.i64 0) (fun v178 => pVal false 1 v177 (pStore v178 [v177] s173 (fun s179 => R (Value.tuple ⟨[]⟩) s179)))))) (R (Value.tuple ⟨[]⟩) s173)))))))))))))))))) (pBin Tryd.prog 3 BinOp.gtr v160 (Value.int IntKind.i64 0) (fun v180 => pIf v180 (pBin Tryd.prog 149 BinOp.add (Value.int IntKind.u32 48) v137 (fun v181 => pConvInt IntKind.u8 v181 (fun v182 => pIndexAddr 1 (vget l56 0) (Value.int IntKind.i64 0) (fun v183 => pVal false 1 v182 (pStore v183 [v182] s159 (fun s184 => R (Value.tuple ⟨[]⟩) s184)))))) (R (Value.tuple ⟨[]⟩) s159)))))))))))))))))))))))))))))))))) (pBin Tryd.prog 3 BinOp.geq (vget l56 2) (Value.int IntKind.i64 2) (fun v185 => pIf v185 (pBin Tryd.prog 149 BinOp.rem v134 (Value.int IntKind.u32 100) (fun v186 => pBin Tryd.prog 149 BinOp.mul v186 (Value.int IntKind.u32 2) (fun v187 => pBin Tryd.prog 149 BinOp.quo v134 (Value.int IntKind.u32 100) (fun v188 => pBin Tryd.prog 3 BinOp.sub (vget l56 2) (Value.int IntKind.i64 1) (fun v189 => pBin Tryd.prog 3 BinOp.sub (vget l56 2) (Value.int IntKind.i64 2) (fun v190 => pBin Tryd.prog 149 BinOp.add v187 (Value.int IntKind.u32 1) (fun v191 => pIndexStr (Value.string ({ data := (([48, 48, 48, 49, 48, 50, 48, 51, 48, 52, 48, 53, 48, 54, 48, 55, 48, 56, 48, 57, 49, 48, 49, 49, 49, 50, 49, 51, 49, 52, 49, 53, 49, 54, 49, 55, 49, 56, 49, 57, 50, 48, 50, 49, 50, 50, 50, 51, 50, 52].append [50, 53, 50, 54, 50, 55, 50, 56, 50, 57, 51, 48, 51, 49, 51, 50, 51, 51, 51, 52, 51, 53, 51, 54, 51, 55, 51, 56, 51, 57, 52, 48, 52, 49, 52, 50, 52, 51, 52, 52, 52, 53, 52, 54, 52, 55, 52, 56, 52, 57]).append ([53, 48, 53, 49, 53, 50, 53, 51, 53, 52, 53, 53, 53, 54, 53, 55, 53, 56, 53, 57, 54, 48, 54, 49, 54, 50, 54, 51, 54, 52, 54, 53, 54, 54, 54, 55, 54, 56, 54, 57, 55, 48, 55, 49, 55, 50, 55, 51, 55, 52].append [55, 53, 55, 54, 55, 55, 55, 56, 55, 57, 56, 48, 56, 49, 56, 50, 56, 51, 56, 52, 56, 53, 56, 54, 56, 55, 56, 56, 56, 57, 57, 48, 57, 49, 57, 50, 57, 51, 57, 52, 57, 53, 57, 54, 57, 55, 57, 56, 57, 57])).toArray })) v191 (fun v192 => pIndexStr (Value.string ({ data := (([48, 48, 48, 49, 48, 50, 48, 51, 48, 52, 48, 53, 48, 54, 48, 55, 48, 56, 48, 57, 49, 48, 49, 49, 49, 50, 49, 51, 49, 52, 49, 53, 49, 54, 49, 55, 49, 56, 49, 57, 50, 48, 50, 49, 50, 50, 50, 51, 50, 52].append [50, 53, 50, 54, 50, 55, 50, 56, 50, 57, 51, 48, 51, 49, 51, 50, 51, 51, 51, 52, 51, 53, 51, 54, 51, 55, 51, 56, 51, 57, 52, 48, 52, 49, 52, 50, 52, 51, 52, 52, 52, 53, 52, 54, 52, 55, 52, 56, 52, 57]).append ([53, 48, 53, 49, 53, 50, 53, 51, 53, 52, 53, 53, 53, 54, 53, 55, 53, 56, 53, 57, 54, 48, 54, 49, 54, 50, 54, 51, 54, 52, 54, 53, 54, 54, 54, 55, 54, 56, 54, 57, 55, 48, 55, 49, 55, 50, 55, 51, 55, 52].append [55, 53, 55, 54, 55, 55, 55, 56, 55, 57, 56, 48, 56, 49, 56, 50, 56, 51, 56, 52, 56, 53, 56, 54, 56, 55, 56, 56, 56, 57, 57, 48, 57, 49, 57, 50, 57, 51, 57, 52, 57, 53, 57, 54, 57, 55, 57, 56, 57, 57])).toArray })) v187 (fun v193 => pIndexAddr 1 (vget l56 0) v189 (fun v194 => pVal false 1 v192 (pStore v194 [v192] s57 (fun s195 => pIndexAddr 1 (vget l56 0) v190 (fun v196 => pVal false 1 v193 (pStore v196 [v193] s195 (fun s197 => pBin Tryd.prog 3 BinOp.sub (vget l56 2) (Value.int IntKind.i64 2) (fun v198 => pBin Tryd.prog 3 BinOp.gtr v198 (Value.int IntKind.i64 0) (fun v199 => pIf v199 (pBin Tryd.prog 149 BinOp.add (Value.int IntKind.u32 48) v188 (fun v200 => pConvInt IntKind.u8 v200 (fun v201 => pIndexAddr 1 (vget l56 0) (Value.int IntKind.i64 0) (fun v202 => pVal false 1 v201 (pStore v202 [v201] s197 (fun s203 => R (Value.tuple ⟨[]⟩) s203)))))) (R (Value.tuple ⟨[]⟩) s197)))))))))))))))))) (pBin Tryd.prog 3 BinOp.gtr (vget l56 2) (Value.int IntKind.i64 0) (fun v204 => pIf v204 (pBin Tryd.prog 149 BinOp.add (Value.int IntKind.u32 48) v134 (fun v205 => pConvInt IntKind.u8 v205 (fun v206 => pIndexAddr 1 (vget l56 0) (Value.int IntKind.i64 0) (fun v207 => pVal false 1 v206 (pStore v207 [v206] s57 (fun s208 => R (Value.tuple ⟨[]⟩) s208)))))) (R (Value.tuple ⟨[]⟩) s57))))))) | false => False)))
theorem vc_internal_strconv_formatBase10_eq (w0 : World) (a0 a1 : Value) (σ : Vw) (R : Value → Vw → Prop) : vc_internal_strconv_formatBase10 w0 a0 a1 σ R = den Tryd.prog w0 kp_internal_strconv_formatBase10 esc_internal_strconv_formatBase10 (Tryd.f154.body.getD .skip) (entry Tryd.f154.ntmps [a0, a1]) σ (retK Tryd.prog Tryd.f154.results.toList R) := by kernel_rfl
theorem ac_internal_strconv_formatBase10 {w0 : World} {a0 a1 : Value} {σ : Vw} {R : Value → Vw → Prop} (h : vc_internal_strconv_formatBase10 w0 a0 a1 σ R) : AC Tryd.prog w0 n_internal_strconv_formatBase10 [a0, a1] σ R := by
  refine ac_rule (fn := Tryd.f154) (c := Tryd.f154.body.getD .skip) kp_internal_strconv_formatBase10 esc_internal_strconv_formatBase10 Tryd.func154 (by kernel_rfl) (by kernel_rfl) ?_
  rw [← vc_internal_strconv_formatBase10_eq]
  exact h

/-- internal/strconv.formatBits -/
def kp_internal_strconv_formatBits : Nat → Keep
  | 11 => ⟨[0, 1, 3, 4, 10, 11, 12, 13, 14, 15, 16], [], [], .done, []⟩
  | 18 => ⟨[0, 1, 3, 4, 10, 11, 12, 13, 17], [], [], .done, []⟩
  | _ => ⟨[], [], [], .done, []⟩
def esc_internal_strconv_formatBits : Nat → Bool
  | 12 => true
  | _ => false
def vc_internal_strconv_formatBits (w0 : World) (a0 a1 a2 a3 a4 : Value) (σ : Vw) (R : Value → Vw → Prop) : Prop :=
  pBin Tryd.prog 3 BinOp.lss a2 (Value.int IntKind.i64 2) (fun v0 => pIf v0 False (pBin Tryd.prog 3 BinOp.eql a2 (Value.int IntKind.i64 10) (fun v1 => pIf v1 False (pBin Tryd.prog 3 BinOp.gtr a2 (Value.int IntKind.i64 36) (fun v2 => pIf v2 False (pNew w0 160 [Value.int IntKind.u8 0, Value.int IntKind.u8 0, Value.int IntKind.u8 0, Value.int IntKind.u8 0, Value.int IntKind.u8 0, Value.int IntKind.u8 0, Value.int IntKind.u8 0, Value.int IntKind.u8 0, Value.int IntKind.u8 0, Value.int IntKind.u8 0, Value.int IntKind.u8 0, Value.int IntKind.u8 0, Value.int IntKind.u8 0, Value.int IntKind.u8 0, Value.int IntKind.u8 0, Value.int IntKind.u8 0, Value.int IntKind.u8 0, Value.int IntKind.u8 0, Value.int IntKind.u8 0, Value.int IntKind.u8 0, Value.int IntKind.u8 0, Value.int IntKind.u8 0, Value.int IntKind.u8 0, Value.int IntKind.u8 0, Value.int IntKind.u8 0, Value.int IntKind.u8 0, Value.int IntKind.u8 0, Value.int IntKind.u8 0, Value.int IntKind.u8 0, Value.int IntKind.u8 0, Value.int IntKind.u8 0, Value.int IntKind.u8 0, Value.int IntKind.u8 0, Value.int IntKind.u8 0, Value.int IntKind.u8 0, Value.int IntKind.u8 0, Value.int IntKind.u8 0, Value.int IntKind.u8 0, Value.int IntKind.u8 0, Value.int IntKind.u8 0, Value.int IntKind.u8 0, Value.int IntKind.u8 0, Value.int IntKind.u8 0, Value.int IntKind.u8 0, Value.int IntKind.u8 0, Value.int IntKind.u8 0, Value.int IntKind.u8 0, Value.int IntKind.u8 0, Value.int IntKind.u8 0, Value.int IntKind.u8 0, Value.int IntKind.u8 0, Value.int IntKind.u8 0, Value.int IntKind.u8 0, Value.int IntKind.u8 0, Value.int IntKind.u8 0, Value.int IntKind.u8 0, Value.int IntKind.u8 0, Value.int IntKind.u8 0, Value.int IntKind.u8 0, Value.int IntKind.u8 0, Value.int IntKind.u8 0, Value.int IntKind.u8 0, Value.int IntKind.u8 0, Value.int IntKind.u8 0, Value.int IntKind.u8 0] σ (fun n3 s4 => pIf a3 (pUn UnOp.neg a1 (fun v5 => AC Tryd.prog w0 n_internal_strconv_isPowerOfTwo [a2] s4 (fun v6 s7 => pIf v6 (pConvInt IntKind.u64 a2 (fun v8 => AC Tryd.prog w0 n_math_bits_TrailingZeros [v8] s7 (fun v9 s10 => pConvInt IntKind.u64 v9 (fun v11 => pConvInt IntKind.u64 a2 (fun v12 => pConvInt IntKind.u64 a2 (fun v13 => pBin Tryd.prog 133 BinOp.sub v13 (Value.int IntKind.u64 1) (fun v14 => pLoop (fun l15 K16 s17 => pBin Tryd.prog 144 BinOp.geq (vget l15 1) (vget l15 9) (fun v18 => pIf v18 (pBin Tryd.prog 3 BinOp.sub (vget l15 7) (Value.int IntKind.i64 1) (fun v19 => pBin Tryd.prog 133 BinOp.and (vget l15 1) (vget l15 10) (fun v20 => pIndexStr (Value.string ({ data := #[48, 49, 50, 51, 52, 53, 54, 55, 56, 57, 97, 98, 99, 100, 101, 102, 103, 104, 105, 106, 107, 108, 109, 110, 111, 112, 113, 114, 115, 116, 117, 118, 119, 120, 121, 122] })) v20 (fun v21 => pIndexArr 65 1 (vget l15 6) v19 (fun v22 => pVal false 1 v21 (pStore v22 [v21] s17 (fun s23 => pBin Tryd.prog 144 BinOp.shr (vget l15 1) (vget l15 8) (fun v24 => K16 AX.normal [vget l15 0, v24, vget l15 2, vget l15 3, vget l15 4, vget l15 5, vget l15 6, v19, vget l15 8, vget l15 9, vget l15 10] s23)))))))) (K16 (AX.exit 0) [vget l15 0, vget l15 1, vget l15 2, vget l15 3, vget l15 4, vget l15 5, vget l15 6, vget l15 7, vget l15 8, vget l15 9, vget l15 10] s17))) ([a0, v5, a3, a4, Value.slice Option.none 0 0, Value.string ({ data := #[] }), Value.pointer (Option.some (Addr.mk n3 0 Option.none)), Value.int IntKind.i64 65, v11, v12, v14]) s10 (fun x25 l26 s27 => match x25 with | .normal => pBin Tryd.prog 3 BinOp.sub (vget l26 7) (Value.int IntKind.i64 1) (fun v28 => pIndexStr (Value.string ({ data := #[48, 49, 50, 51, 52, 53, 54, 55, 56, 57, 97, 98, 99, 100, 101, 102, 103, 104, 105, 106, 107, 108, 109, 110, 111, 112, 113, 114, 115, 116, 117, 118, 119, 120, 121, 122] })) (vget l26 1) (fun v29 => pIndexArr 65 1 (vget l26 6) v28 (fun v30 => pVal false 1 v29 (pStore v30 [v29] s27 (fun s31 => pIf (vget l26 2) (pBin Tryd.prog 3 BinOp.sub v28 (Value.int IntKind.i64 1) (fun v32 => pIndexArr 65 1 (vget l26 6) v32 (fun v33 => pVal false 1 (Value.int IntKind.u8 45) (pStore v33 [Value.int IntKind.u8 45] s31 (fun s34 => pIf (vget l26 3) False False))))) (pIf (vget l26 3) False False)))))) | .ret => R (Value.tuple (⟨[vget l26 4, vget l26 5]⟩)) s27 | .exit i35 => (match Nat.beq i35 0 with | true => pBin Tryd.prog 3 BinOp.sub (vget l26 7) (Value.int IntKind.i64 1) (fun v36 => pIndexStr (Value.string ({ data := #[48, 49, 50, 51, 52, 53, 54, 55, 56, 57, 97, 98, 99, 100, 101, 102, 103, 104, 105, 106, 107, 108, 109, 110, 111, 112, 113, 114, 115, 116, 117, 118, 119, 120, 121, 122] })) (vget l26 1) (fun v37 => pIndexArr 65 1 (vget l26 6) v36 (fun v38 => pVal false 1 v37 (pStore v38 [v37] s27 (fun s39 => pIf (vget l26 2) (pBin Tryd.prog 3 BinOp.sub v36 (Value.int IntKind.i64 1) (fun v40 => pIndexArr 65 1 (vget l26 6) v40 (fun v41 => pVal false 1 (Value.int IntKind.u8 45) (pStore v41 [Value.int IntKind.u8 45] s39 (fun s42 => pIf (vget l26 3) False False))))) (pIf (vget l26 3) False False)))))) | false => False))))))))) (pConvInt IntKind.u64 a2 (fun v43 => pLoop (fun l44 K45 s46 => pBin Tryd.prog 144 BinOp.geq (vget l44 1) (vget l44 8) (fun v47 => pIf v47 (pBin Tryd.prog 3 BinOp.sub (vget l44 7) (Value.int IntKind.i64 1) (fun v48 => pBin Tryd.prog 144 BinOp.quo (vget l44 1) (vget l44 8) (fun v49 => pBin Tryd.prog 144 BinOp.mul v49 (vget l44 8) (fun v50 => pBin Tryd.prog 144 BinOp.sub (vget l44 1) v50 (fun v51 => pIndexStr (Value.string ({ data := #[48, 49, 50, 51, 52, 53, 54, 55, 56, 57, 97, 98, 99, 100, 101, 102, 103, 104, 105, 106, 107, 108, 109, 110, 111, 112, 113, 114, 115, 116, 117, 118, 119, 120, 121, 122] })) v51 (fun v52 => pIndexArr 65 1 (vget l44 6) v48 (fun v53 => pVal false 1 v52 (pStore v53 [v52] s46 (fun s54 => K45 AX.normal [vget l44 0, v49, vget l44 2, vget l44 3, vget l44 4, vget l44 5, vget l44 6, v48, vget l44 8] s54))))))))) (K45 (AX.exit 2) [vget l44 0, vget l44 1, vget l44 2, vget l44 3, vget l44 4, vget l44 5, vget l44 6, vget l44 7, vget l44 8] s46))) ([a0, v5, a3, a4, Value.slice Option.none 0 0, Value.string ({ data := #[] }), Value.pointer (Option.some (Addr.mk n3 0 Option.none)), Value.int IntKind.i64 65, v43]) s7 (fun x55 l56 s57 => match x55 with | .normal => pBin Tryd.prog 3 BinOp.sub (vget l56 7) (Value.int IntKind.i64 1) (fun v58 => pIndexStr (Value.string ({ data := #[48, 49, 50, 51, 52, 53, 54, 55, 56, 57, 97, 98, 99, 100, 101, 102, 103, 104, 105, 106, 107, 108, 109, 110, 111, 112, 113, 114, 115, 116, 117, 118, 119, 120, 121, 122] })) (vget l56 1) (fun v59 => pIndexArr 65 1 (vget l56 6) v58 (fun v60 => pVal false 1 v59 (pStore v60 [v59] s57 (fun s61 => pIf (vget l56 2) (pBin Tryd.prog 3 BinOp.sub v58 (Value.int IntKind.i64 1) (fun v62 => pIndexArr 65 1 (vget l56 6) v62 (fun v63 => pVal false 1 (Value.int IntKind.u8 45) (pStore v63 [Value.int IntKind.u8 45] s61 (fun s64 => pIf (vget l56 3) False False))))) (pIf (vget l56 3) False False)))))) | .ret => R (Value.tuple (⟨[vget l56 4, vget l56 5]⟩)) s57 | .exit i65 => (match Nat.beq i65 2 with | true => pBin Tryd.prog 3 BinOp.sub (vget l56 7) (Value.int IntKind.i64 1) (fun v66 => pIndexStr (Value.string ({ data := #[48, 49, 50, 51, 52, 53, 54, 55, 56, 57, 97, 98, 99, 100, 101, 102, 103, 104, 105, 106, 107, 108, 109, 110, 111, 112, 113, 114, 115, 116, 117, 118, 119, 120, 121, 122] })) (vget l56 1) (fun v67 => pIndexArr 65 1 (vget l56 6) v66 (fun v68 => pVal false 1 v67 (pStore v68 [v67] s57 (fun s69 => pIf (vget l56 2) (pBin Tryd.prog 3 BinOp.sub v66 (Value.int IntKind.i64 1) (fun v70 => pIndexArr 65 1 (vget l56 6) v70 (fun v71 => pVal false 1 (Value.int IntKind.u8 45) (pStore v71 [Value.int IntKind.u8 45] s69 (fun s72 => pIf (vget l56 3) False False))))) (pIf (vget l56 3) False False)))))) | false => False))))))) (AC Tryd.prog w0 n_internal_strconv_isPowerOfTwo [a2] s4 (fun v73 s74 => pIf v73 (pConvInt IntKind.u64 a2 (fun v75 => AC Tryd.prog w0 n_math_bits_TrailingZeros [v75] s74 (fun v76 s77 => pConvInt IntKind.u64 v76 (fun v78 => pConvInt IntKind.u64 a2 (fun v79 => pConvInt IntKind.u64 a2 (fun v80 => pBin Tryd.prog 133 BinOp.sub v80 (Value.int IntKind.u64 1) (fun v81 => pLoop (fun l82 K83 s84 => pBin Tryd.prog 144 BinOp.geq (vget l82 1) (vget l82 9) (fun v85 => pIf v85 (pBin Tryd.prog 3 BinOp.sub (vget l82 7) (Value.int IntKind.i64 1) (fun v86 => pBin Tryd.prog 133 BinOp.and (vget l82 1) (vget l82 10) (fun v87 => pIndexStr (Value.string ({ data := #[48, 49, 50, 51, 52, 53, 54, 55, 56, 57, 97, 98, 99, 100, 101, 102, 103, 104, 105, 106, 107, 108, 109, 110, 111, 112, 113, 114, 115, 116, 117, 118, 119, 120, 121, 122] })) v87 (fun v88 => pIndexArr 65 1 (vget l82 6) v86 (fun v89 => pVal false 1 v88 (pStore v89 [v88] s84 (fun s90 => pBin Tryd.prog 144 BinOp.shr (vget l82 1) (vget l82 8) (fun v91 => K83 AX.normal [vget l82 0, v91, vget l82 2, vget l82 3, vget l82 4, vget l82 5, vget l82 6, v86, vget l82 8, vget l82 9, vget l82 10] s90)))))))) (K83 (AX.exit 0) [vget l82 0, vget l82 1, vget l82 2, vget l82 3, vget l82 4, vget l82 5, vget l82 6, vget l82 7, vget l82 8, vget l82 9, vget l82 10] s84))) ([a0, a1, a3, a4, Value.slice Option.none 0 0, Value.string ({ data := #[] }), Value.pointer (Option.some (Addr.mk n3 0 Option.none)), Value.int IntKind.i64 65, v78, v79, v81]) s77 (fun x92 l93 s94 => match x92 with | .normal => pBin Tryd.prog 3 BinOp.sub (vget l93 7) (Value.int IntKind.i64 1) (fun v95 => pIndexStr (Value.string ({ data := #[48, 49, 50, 51, 52, 53, 54, 55, 56, 57, 97, 98, 99, 100, 101, 102, 103, 104, 105, 106, 107, 108, 109, 110, 111, 112, 113, 114, 115, 116, 117, 118, 119, 120, 121, 122] })) (vget l93 1) (fun v96 => pIndexArr 65 1 (vget l93 6) v95 (fun v97 => pVal false 1 v96 (pStore v97 [v96] s94 (fun s98 => pIf (vget l93 2) (pBin Tryd.prog 3 BinOp.sub v95 (Value.int IntKind.i64 1) (fun v99 => pIndexArr 65 1 (vget l93 6) v99 (fun v100 => pVal false 1 (Value.int IntKind.u8 45) (pStore v100 [Value.int IntKind.u8 45] s98 (fun s101 => pIf (vget l93 3) False False))))) (pIf (vget l93 3) False False)))))) | .ret => R (Value.tuple (⟨[vget l93 4, vget l93 5]⟩)) s94 | .exit i102 => (match Nat.beq i102 0 with | true => pBin Tryd.prog 3 BinOp.sub (vget l93 7) (Value.int IntKind.i64 1) (fun v103 => pIndexStr (Value.string ({ data := #[48, 49, 50, 51, 52, 53, 54, 55, 56, 57, 97, 98, 99, 100, 101, 102, 103, 104, 105, 106, 107, 108, 109, 110, 111, 112, 113, 114, 115, 116, 117, 118, 119, 120, 121, 122] })) (vget l93 1) (fun v104 => pIndexArr 65 1 (vget l93 6) v103 (fun v105 => pVal false 1 v104 (pStore v105 [v104] s94 (fun s106 => pIf (vget l93 2) (pBin Tryd.prog 3 BinOp.sub v103 (Value.int IntKind.i64 1) (fun v107 => pIndexArr 65 1 (vget l93 6) v107 (fun v108 => pVal false 1 (Value.int IntKind.u8 45) (pStore v108 [Value.int IntKind.u8 45] s106 (fun s109 => pIf (vget l93 3) False False))))) (pIf (vget l93 3) False False)))))) | false => False))))))))) (pConvInt IntKind.u64 a2 (fun v110 => pLoop (fun l111 K112 s113 => pBin Tryd.prog 144 BinOp.geq (vget l111 1) (vget l111 8) (fun v114 => pIf v114 (pBin Tryd.prog 3 BinOp.sub (vget l111 7) (Value.int IntKind.i64 1) (fun v115 => pBin Tryd.prog 144 BinOp.quo (vget l111 1) (vget l111 8) (fun v116 => pBin Tryd.prog 144 BinOp.mul v116 (vget l111 8) (fun v117 => pBin Tryd.prog 144 BinOp.sub (vget l111 1) v117 (fun v118 => pIndexStr (Value.string ({ data := #[48, 49, 50, 51, 52, 53, 54, 55, 56, 57, 97, 98, 99, 100, 101, 102, 103, 104, 105, 106, 107, 108, 109, 110, 111, 112, 113, 114, 115, 116, 117, 118, 119, 120, 121, 122] })) v118 (fun v119 => pIndexArr 65 1 (vget l111 6) v115 (fun v120 => pVal false 1 v119 (pStore v120 [v119] s113 (fun s121 => K112 AX.normal [vget l111 0, v116, vget l111 2, vget l111 3, vget l111 4, vget l111 5, vget l111 6, v115, vget l111 8] s121))))))))) (K112 (AX.exit 2) [vget l111 0, vget l111 1, vget l111 2, vget l111 3, vget l111 4, vget l111 5, vget l111 6, vget l111 7, vget l111 8] s113))) ([a0, a1, a3, a4, Value.slice Option.none 0 0, Value.string ({ data := #[] }), Value.pointer (Option.some (Addr.mk n3 0 Option.none)), Value.int IntKind.i64 65, v110]) s74 (fun x122 l123 s124 => match x122 with | .normal => pBin Tryd.prog 3 BinOp.sub (vget l123 7) (Value.int IntKind.i64 1) (fun v125 => pIndexStr (Value.string ({ data := #[48, 49, 50, 51, 52, 53, 54, 55, 56, 57, 97, 98, 99, 100, 101, 102, 103, 104, 105, 106, 107, 108, 109, 110, 111, 112, 113, 114, 115, 116, 117, 118, 119, 120, 121, 122] })) (vget l123 1) (fun v126 => pIndexArr 65 1 (vget l123 6) v125 (fun v127 => pVal false 1 v126 (pStore v127 [v126] s124 (fun s128 => pIf (vget l123 2) (pBin Tryd.prog 3 BinOp.sub v125 (Value.int IntKind.i64 1) (fun v129 => pIndexArr 65 1 (vget l123 6) v129 (fun v130 => pVal false 1 (Value.int IntKind.u8 45) (pStore v130 [Value.int IntKind.u8 45] s128 (fun s131 => pIf (vget l123 3) False False))))) (pIf (vget l123 3) False False)))))) | .ret => R (Value.tuple (⟨[vget l123 4, vget l123 5]⟩)) s124 | .exit i132 => (match Nat.beq i132 2 with | true => pBin Tryd.prog 3 BinOp.sub (vget l123 7) (Value.int IntKind.i64 1) (fun v133 => pIndexStr (Value.string ({ data := #[48, 49, 50, 51, 52, 53, 54, 55, 56, 57, 97, 98, 99, 100, 101, 102, 103, 104, 105, 106, 107, 108, 109, 110, 111, 112, 113, 114, 115, 116, 117, 118, 119, 120, 121, 122] })) (vget l123 1) (fun v134 => pIndexArr 65 1 (vget l123 6) v133 (fun v135 => pVal false 1 v134 (pStore v135 [v134] s124 (fun s136 => pIf (vget l123 2) (pBin Tryd.prog 3 BinOp.sub v133 (Value.int IntKind.i64 1) (fun v137 => pIndexArr 65 1 (vget l123 6) v137 (fun v138 => pVal false 1 (Value.int IntKind.u8 45) (pStore v138 [Value.int IntKind.u8 45] s136 (fun s139 => pIf (vget l123 3) False False))))) (pIf (vget l123 3) False False)))))) | false => False)))))))))))))
theorem vc_internal_strconv_formatBits_eq (w0 : World) (a0 a1 a2 a3 a4 : Value) (σ : Vw) (R : Value → Vw → Prop) : vc_internal_strconv_formatBits w0 a0 a1 a2 a3 a4 σ R = den Tryd.prog w0 kp_internal_strconv_formatBits esc_internal_strconv_formatBits (Tryd.f155.body.getD .skip) (entry Tryd.f155.ntmps [a0, a1, a2, a3, a4]) σ (retK Tryd.prog Tryd.f155.results.toList R) := by kernel_rfl
theorem ac_internal_strconv_formatBits {w0 : World} {a0 a1 a2 a3 a4 : Value} {σ : Vw} {R : Value → Vw → Prop} (h : vc_internal_strconv_formatBits w0 a0 a1 a2 a3 a4 σ R) : AC Tryd.prog w0 n_internal_strconv_formatBits [a0, a1, a2, a3, a4] σ R := by
  refine ac_rule (fn := Tryd.f155) (c := Tryd.f155.body.getD .skip) kp_internal_strconv_formatBits esc_internal_strconv_formatBits Tryd.func155 (by kernel_rfl) (by kernel_rfl) ?_
  rw [← vc_internal_strconv_formatBits_eq]
  exact h

/-- internal/bytealg.hashStr[string] -/
def kp_internal_bytealg_hashStr_string : Nat → Keep
  | 3 => ⟨[0, 4, 5], [], [], .done, []⟩
  | 8 => ⟨[4, 6, 7, 8], [], [], .done, []⟩
  | _ => ⟨[], [], [], .done, []⟩
def esc_internal_bytealg_hashStr_string : Nat → Bool
  | _ => false
def vc_internal_bytealg_hashStr_string (w0 : World) (a0 : Value) (σ : Vw) (R : Value → Vw → Prop) : Prop :=
  pLoop (fun l0 K1 s2 => pLenS (vget l0 0) (fun v3 => pBin Tryd.prog 3 BinOp.lss (vget l0 2) v3 (fun v4 => pIf v4 (pBin Tryd.prog 149 BinOp.mul (vget l0 1) (Value.int IntKind.u32 16777619) (fun v5 => pIndexStr (vget l0 0) (vget l0 2) (fun v6 => pConvInt IntKind.u32 v6 (fun v7 => pBin Tryd.prog 149 BinOp.add v5 v7 (fun v8 => pBin Tryd.prog 3 BinOp.add (vget l0 2) (Value.int IntKind.i64 1) (fun v9 => K1 AX.normal [vget l0 0, v8, v9] s2)))))) (K1 (AX.exit 0) [vget l0 0, vget l0 1, vget l0 2] s2)))) [a0, Value.int IntKind.u32 0, Value.int IntKind.i64 0] σ (fun x10 l11 s12 => match x10 with | .normal => pLenS (vget l11 0) (fun v13 => pLoop (fun l14 K15 s16 => pBin Tryd.prog 3 BinOp.gtr (vget l14 3) (Value.int IntKind.i64 0) (fun v17 => pIf v17 (pBin Tryd.prog 3 BinOp.and (vget l14 3) (Value.int IntKind.i64 1) (fun v18 => pBin Tryd.prog 3 BinOp.neq v18 (Value.int IntKind.i64 0) (fun v19 => pIf v19 (pBin Tryd.prog 149 BinOp.mul (vget l14 1) (vget l14 2) (fun v20 => pBin Tryd.prog 149 BinOp.mul (vget l14 2) (vget l14 2) (fun v21 => pBin Tryd.prog 3 BinOp.shr (vget l14 3) (Value.int IntKind.u64 1) (fun v22 => K15 AX.normal [vget l14 0, v20, v21, v22] s16)))) (pBin Tryd.prog 149 BinOp.mul (vget l14 2) (vget l14 2) (fun v23 => pBin Tryd.prog 3 BinOp.shr (vget l14 3) (Value.int IntKind.u64 1) (fun v24 => K15 AX.normal [vget l14 0, vget l14 1, v23, v24] s16)))))) (K15 (AX.exit 2) [vget l14 0, vget l14 1, vget l14 2, vget l14 3] s16))) [vget l11 1, Value.int IntKind.u32 1, Value.int IntKind.u32 16777619, v13] s12 (fun x25 l26 s27 => match x25 with | .normal => R (Value.tuple (⟨[vget l26 0, vget l26 1]⟩)) s27 | .ret => False | .exit i28 => (match Nat.beq i28 2 with | true => R (Value.tuple (⟨[vget l26 0, vget l26 1]⟩)) s27 | false => False))) | .ret => False | .exit i29 => (match Nat.beq i29 0 with | true => pLenS (vget l11 0) (fun v30 => pLoop (fun l31 K32 s33 => pBin Tryd.prog 3 BinOp.gtr (vget l31 3) (Value.int IntKind.i64 0) (fun v34 => pIf v34 (pBin Tryd.prog 3 BinOp.and (vget l31 3) (Value.int IntKind.i64 1) (fun v35 => pBin Tryd.prog 3 BinOp.neq v35 (Value.int IntKind.i64 0) (fun v36 => pIf v36 (pBin Tryd.prog 149 BinOp.mul (vget l31 1) (vget l31 2) (fun v37 => pBin Tryd.prog 149 BinOp.mul (vget l31 2) (vget l31 2) (fun v38 => pBin Tryd.prog 3 BinOp.shr (vget l31 3) (Value.int IntKind.u64 1) (fun v39 => K32 AX.normal [vget l31 0, v37, v38, v39] s33)))) (pBin Tryd.prog 149 BinOp.mul (vget l31 2) (vget l31 2) (fun v40 => pBin Tryd.prog 3 BinOp.shr (vget l31 3) (Value.int IntKind.u64 1) (fun v41 => K32 AX.normal [vget l31 0, vget l31 1, v40, v41] s33)))))) (K32 (AX.exit 2) [vget l31 0, vget l31 1, vget l31 2, vget l31 3] s33))) [vget l11 1, Value.int IntKind.u32 1, Value.int IntKind.u32 16777619, v30] s12 (fun x42 l43 s44 => match x42 with | .normal => R (Value.tuple (⟨[vget l43 0, vget l43 1]⟩)) s44 | .ret => False | .exit i45 => (match Nat.beq i45 2 with | true => R (Value.tuple (⟨[vget l43 0, vget l43 1]⟩)) s44 | false => False))) | false => False))
theorem vc_internal_bytealg_hashStr_string_eq (w0 : World) (a0 : Value) (σ : Vw) (R : Value → Vw → Prop) : vc_internal_bytealg_hashStr_string w0 a0 σ R = den Tryd.prog w0 kp_internal_bytealg_hashStr_string esc_internal_bytealg_hashStr_string (Tryd.f157.body.getD .skip) (entry Tryd.f157.ntmps [a0]) σ (retK Tryd.prog Tryd.f157.results.toList R) := by kernel_rfl
theorem ac_internal_bytealg_hashStr_string {w0 : World} {a0 : Value} {σ : Vw} {R : Value → Vw → Prop} (h : vc_internal_bytealg_hashStr_string w0 a0 σ R) : AC Tryd.prog w0 n_internal_bytealg_hashStr_string [a0] σ R := by
  refine ac_rule (fn := Tryd.f157) (c := Tryd.f157.body.getD .skip) kp_internal_bytealg_hashStr_string esc_internal_bytealg_hashStr_string Tryd.func157 (by kernel_rfl) (by kernel_rfl) ?_
  rw [← vc_internal_bytealg_hashStr_string_eq]
  exact h

/-- unicode/utf8.decodeRuneInStringSlow -/
def kp_unicode_utf8_decodeRuneInStringSlow : Nat → Keep
  | _ => ⟨[], [], [], .done, []⟩
def esc_unicode_utf8_decodeRuneInStringSlow : Nat → Bool
  | _ => false
def vc_unicode_utf8_decodeRuneInStringSlow (w0 : World) (a0 : Value) (σ : Vw) (R : Value → Vw → Prop) : Prop :=
  pLenS a0 (fun v0 => pBin Tryd.prog 3 BinOp.lss v0 (Value.int IntKind.i64 1) (fun v1 => pIf v1 (R (Value.tuple (⟨[Value.int IntKind.i32 65533, Value.int IntKind.i64 0]⟩)) σ) (pIndexStr a0 (Value.int IntKind.i64 0) (fun v2 => pIndexArr 256 1 (Value.pointer (Option.some (Addr.mk 4 0 Option.none))) v2 (fun v3 => pLoad w0 1 v3 σ (fun g4 => pBin Tryd.prog 5 BinOp.geq (g4 0) (Value.int IntKind.u8 240) (fun v5 => pIf v5 (pConvInt IntKind.i32 (g4 0) (fun v6 => pBin Tryd.prog 21 BinOp.shl v6 (Value.int IntKind.u64 31) (fun v7 => pBin Tryd.prog 21 BinOp.shr v7 (Value.int IntKind.u64 31) (fun v8 => pIndexStr a0 (Value.int IntKind.i64 0) (fun v9 => pConvInt IntKind.i32 v9 (fun v10 => pBin Tryd.prog 21 BinOp.andNot v10 v8 (fun v11 => pBin Tryd.prog 21 BinOp.and (Value.int IntKind.i32 65533) v8 (fun v12 => pBin Tryd.prog 21 BinOp.or v11 v12 (fun v13 => R (Value.tuple (⟨[v13, Value.int IntKind.i64 1]⟩)) σ))))))))) (pBin Tryd.prog 5 BinOp.and (g4 0) (Value.int IntKind.u8 7) (fun v14 => pConvInt IntKind.i64 v14 (fun v15 => pBin Tryd.prog 5 BinOp.shr (g4 0) (Value.int IntKind.u64 4) (fun v16 => pIndexArr 16 2 (Value.pointer (Option.some (Addr.mk 5 0 Option.none))) v16 (fun v17 => pLoad w0 2 v17 σ (fun g18 => pVal true 2 (Value.agg (⟨[g18 0, g18 1]⟩)) (pBin Tryd.prog 3 BinOp.lss v0 v15 (fun v19 => pIf v19 (R (Value.tuple (⟨[Value.int IntKind.i32 65533, Value.int IntKind.i64 1]⟩)) σ) (pIndexStr a0 (Value.int IntKind.i64 1) (fun v20 => pBin Tryd.prog 5 BinOp.lss v20 (g18 0) (fun v21 => pIf v21 (R (Value.tuple (⟨[Value.int IntKind.i32 65533, Value.int IntKind.i64 1]⟩)) σ) (pBin Tryd.prog 5 BinOp.lss (g18 1) v20 (fun v22 => pIf v22 (R (Value.tuple (⟨[Value.int IntKind.i32 65533, Value.int IntKind.i64 1]⟩)) σ) (pBin Tryd.prog 3 BinOp.leq v15 (Value.int IntKind.i64 2) (fun v23 => pIf v23 (pBin Tryd.prog 5 BinOp.and v2 (Value.int IntKind.u8 31) (fun v24 => pConvInt IntKind.i32 v24 (fun v25 => pBin Tryd.prog 21 BinOp.shl v25 (Value.int IntKind.u64 6) (fun v26 => pBin Tryd.prog 5 BinOp.and v20 (Value.int IntKind.u8 63) (fun v27 => pConvInt IntKind.i32 v27 (fun v28 => pBin Tryd.prog 21 BinOp.or v26 v28 (fun v29 => R (Value.tuple (⟨[v29, Value.int IntKind.i64 2]⟩)) σ))))))) (pIndexStr a0 (Value.int IntKind.i64 2) (fun v30 => pBin Tryd.prog 5 BinOp.lss v30 (Value.int IntKind.u8 128) (fun v31 => pIf v31 (R (Value.tuple (⟨[Value.int IntKind.i32 65533, Value.int IntKind.i64 1]⟩)) σ) (pBin Tryd.prog 5 BinOp.lss (Value.int IntKind.u8 191) v30 (fun v32 => pIf v32 (R (Value.tuple (⟨[Value.int IntKind.i32 65533, Value.int IntKind.i64 1]⟩)) σ) (pBin Tryd.prog 3 BinOp.leq v15 (Value.int IntKind.i64 3) (fun v33 => pIf v33 (pBin Tryd.prog 5 BinOp.and v2 (Value.int IntKind.u8 15) (fun v34 => pConvInt IntKind.i32 v34 (fun v35 => pBin Tryd.prog 21 BinOp.shl v35 (Value.int IntKind.u64 12) (fun v36 => pBin Tryd.prog 5 BinOp.and v20 (Value.int IntKind.u8 63) (fun v37 => pConvInt IntKind.i32 v37 (fun v38 => pBin Tryd.prog 21 BinOp.shl v38 (Value.int IntKind.u64 6) (fun v39 => pBin Tryd.prog 21 BinOp.or v36 v39 (fun v40 => pBin Tryd.prog 5 BinOp.and v30 (Value.int IntKind.u8 63) (fun v41 => pConvInt IntKind.i32 v41 (fun v42 => pBin Tryd.prog 21 BinOp.or v40 v42 (fun v43 => R (Value.tuple (⟨[v43, Value.int IntKind.i64 3]⟩)) σ))))))))))) (pIndexStr a0 (Value.int IntKind.i64 3) (fun v44 => pBin Tryd.prog 5 BinOp.lss v44 (Value.int IntKind.u8 128) (fun v45 => pIf v45 (R (Value.tuple (⟨[Value.int IntKind.i32 65533, Value.int IntKind.i64 1]⟩)) σ) (pBin Tryd.prog 5 BinOp.lss (Value.int IntKind.u8 191) v44 (fun v46 => pIf v46 (R (Value.tuple (⟨[Value.int IntKind.i32 65533, Value.int IntKind.i64 1]⟩)) σ) (pBin Tryd.prog 5 BinOp.and v2 (Value.int IntKind.u8 7) (fun v47 => pConvInt IntKind.i32 v47 (fun v48 => pBin Tryd.prog 21 BinOp.shl v48 (Value.int IntKind.u64 18) (fun v49 => pBin Tryd.prog 5 BinOp.and v20 (Value.int IntKind.u8 63) (fun v50 => pConvInt IntKind.i32 v50 (fun v51 => pBin Tryd.prog 21 BinOp.shl v51 (Value.int IntKind.u64 12) (fun v52 => pBin Tryd.prog 21 BinOp.or v49 v52 (fun v53 => pBin Tryd.prog 5 BinOp.and v30 (Value.int IntKind.u8 63) (fun v54 => pConvInt IntKind.i32 v54 (fun v55 => pBin Tryd.prog 21 BinOp.shl v55 (Value.int IntKind.u64 6) (fun v56 => pBin Tryd.prog 21 BinOp.or v53 v56 (fun v57 => pBin Tryd.prog 5 BinOp.and v44 (Value.int IntKind.u8 63) (fun v58 => pConvInt IntKind.i32 v58 (fun v59 => pBin Tryd.prog 21 BinOp.or v57 v59 (fun v60 => R (Value.tuple (⟨[v60, Value.int IntKind.i64 4]⟩)) σ)))))))))))))))))))))))))))))))))))))))))))))))))
theorem vc_unicode_utf8_decodeRuneInStringSlow_eq (w0 : World) (a0 : Value) (σ : Vw) (R : Value → Vw → Prop) : vc_unicode_utf8_decodeRuneInStringSlow w0 a0 σ R = den Tryd.prog w0 kp_unicode_utf8_decodeRuneInStringSlow esc_unicode_utf8_decodeRuneInStringSlow (Tryd.f158.body.getD .skip) (entry Tryd.f158.ntmps [a0]) σ (retK Tryd.prog Tryd.f158.results.toList R) := by kernel_rfl
theorem ac_unicode_utf8_decodeRuneInStringSlow {w0 : World} {a0 : Value} {σ : Vw} {R : Value → Vw → Prop} (h : vc_unicode_utf8_decodeRuneInStringSlow w0 a0 σ R) : AC Tryd.prog w0 n_unicode_utf8_decodeRuneInStringSlow [a0] σ R := by
  refine ac_rule (fn := Tryd.f158) (c := Tryd.f158.body.getD .skip) kp_unicode_utf8_decodeRuneInStringSlow esc_unicode_utf8_decodeRuneInStringSlow Tryd.func158 (by kernel_rfl) (by kernel_rfl) ?_
  rw [← vc_unicode_utf8_decodeRuneInStringSlow_eq]
  exact h

/-- internal/stringslite.Clone -/
def kp_internal_stringslite_Clone : Nat → Keep
  | _ => ⟨[], [], [], .done, []⟩
def esc_internal_stringslite_Clone : Nat → Bool
  | _ => false
def vc_internal_stringslite_Clone (w0 : World) (a0 : Value) (σ : Vw) (R : Value → Vw → Prop) : Prop :=
  pLenS a0 (fun v0 => pBin Tryd.prog 3 BinOp.eql v0 (Value.int IntKind.i64 0) (fun v1 => pIf v1 (R (Value.string ({ data := #[] })) σ) (pLenS a0 (fun v2 => pMake w0 5 1 1 [Value.int IntKind.u8 0] v2 v2 σ (fun v3 s4 => False)))))
theorem vc_internal_stringslite_Clone_eq (w0 : World) (a0 : Value) (σ : Vw) (R : Value → Vw → Prop) : vc_internal_stringslite_Clone w0 a0 σ R = den Tryd.prog w0 kp_internal_stringslite_Clone esc_internal_stringslite_Clone (Tryd.f160.body.getD .skip) (entry Tryd.f160.ntmps [a0]) σ (retK Tryd.prog Tryd.f160.results.toList R) := by kernel_rfl
theorem ac_internal_stringslite_Clone {w0 : World} {a0 : Value} {σ : Vw} {R : Value → Vw → Prop} (h : vc_internal_stringslite_Clone w0 a0 σ R) : AC Tryd.prog w0 n_internal_stringslite_Clone [a0] σ R := by
  refine ac_rule (fn := Tryd.f160) (c := Tryd.f160.body.getD .skip) kp_internal_stringslite_Clone esc_internal_stringslite_Clone Tryd.func160 (by kernel_rfl) (by kernel_rfl) ?_
  rw [← vc_internal_stringslite_Clone_eq]
  exact h

/-- errors.New -/
def kp_errors_New : Nat → Keep
  | _ => ⟨[], [], [], .done, []⟩
def esc_errors_New : Nat → Bool
  | 5 => true
  | _ => false
def vc_errors_New (w0 : World) (a0 : Value) (σ : Vw) (R : Value → Vw → Prop) : Prop :=
  pVal false 1 a0 (pVal true 1 (Value.agg ⟨[a0]⟩) (pNew w0 169 [a0] σ (fun n0 s1 => False)))
theorem vc_errors_New_eq (w0 : World) (a0 : Value) (σ : Vw) (R : Value → Vw → Prop) : vc_errors_New w0 a0 σ R = den Tryd.prog w0 kp_errors_New esc_errors_New (Tryd.f161.body.getD .skip) (entry Tryd.f161.ntmps [a0]) σ (retK Tryd.prog Tryd.f161.results.toList R) := by kernel_rfl
theorem ac_errors_New {w0 : World} {a0 : Value} {σ : Vw} {R : Value → Vw → Prop} (h : vc_errors_New w0 a0 σ R) : AC Tryd.prog w0 n_errors_New [a0] σ R := by
  refine ac_rule (fn := Tryd.f161) (c := Tryd.f161.body.getD .skip) kp_errors_New esc_errors_New Tryd.func161 (by kernel_rfl) (by kernel_rfl) ?_
  rw [← vc_errors_New_eq]
  exact h

/-- internal/strconv.log10Pow2 -/
def kp_internal_strconv_log10Pow2 : Nat → Keep
  | _ => ⟨[], [], [], .done, []⟩
def esc_internal_strconv_log10Pow2 : Nat → Bool
  | _ => false
def vc_internal_strconv_log10Pow2 (w0 : World) (a0 : Value) (σ : Vw) (R : Value → Vw → Prop) : Prop :=
  pBin Tryd.prog 3 BinOp.mul a0 (Value.int IntKind.i64 78913) (fun v0 => pBin Tryd.prog 3 BinOp.shr v0 (Value.int IntKind.u64 18) (fun v1 => R v1 σ))
theorem vc_internal_strconv_log10Pow2_eq (w0 : World) (a0 : Value) (σ : Vw) (R : Value → Vw → Prop) : vc_internal_strconv_log10Pow2 w0 a0 σ R = den Tryd.prog w0 kp_internal_strconv_log10Pow2 esc_internal_strconv_log10Pow2 (Tryd.f163.body.getD .skip) (entry Tryd.f163.ntmps [a0]) σ (retK Tryd.prog Tryd.f163.results.toList R) := by kernel_rfl
theorem ac_internal_strconv_log10Pow2 {w0 : World} {a0 : Value} {σ : Vw} {R : Value → Vw → Prop} (h : vc_internal_strconv_log10Pow2 w0 a0 σ R) : AC Tryd.prog w0 n_internal_strconv_log10Pow2 [a0] σ R := by
  refine ac_rule (fn := Tryd.f163) (c := Tryd.f163.body.getD .skip) kp_internal_strconv_log10Pow2 esc_internal_strconv_log10Pow2 Tryd.func163 (by kernel_rfl) (by kernel_rfl) ?_
  rw [← vc_internal_strconv_log10Pow2_eq]
  exact h

/-- math/bits.Len64 -/
def kp_math_bits_Len64 : Nat → Keep
  | _ => ⟨[], [], [], .done, []⟩
def esc_math_bits_Len64 : Nat → Bool
  | _ => false
def vc_math_bits_Len64 (w0 : World) (a0 : Value) (σ : Vw) (R : Value → Vw → Prop) : Prop :=
  pBin Tryd.prog 144 BinOp.geq a0 (Value.int IntKind.u64 4294967296) (fun v0 => pIf v0 (pBin Tryd.prog 144 BinOp.shr a0 (Value.int IntKind.u64 32) (fun v1 => pBin Tryd.prog 144 BinOp.geq v1 (Value.int IntKind.u64 65536) (fun v2 => pIf v2 (pBin Tryd.prog 144 BinOp.shr v1 (Value.int IntKind.u64 16) (fun v3 => pBin Tryd.prog 3 BinOp.add (Value.int IntKind.i64 32) (Value.int IntKind.i64 16) (fun v4 => pBin Tryd.prog 144 BinOp.geq v3 (Value.int IntKind.u64 256) (fun v5 => pIf v5 (pBin Tryd.prog 144 BinOp.shr v3 (Value.int IntKind.u64 8) (fun v6 => pBin Tryd.prog 3 BinOp.add v4 (Value.int IntKind.i64 8) (fun v7 => pConvInt IntKind.u8 v6 (fun v8 => pIndexStr (Value.string ({ data := (([0, 1, 2, 2, 3, 3, 3, 3, 4, 4, 4, 4, 4, 4, 4, 4, 5, 5, 5, 5, 5, 5, 5, 5, 5, 5, 5, 5, 5, 5, 5, 5, 6, 6, 6, 6, 6, 6, 6, 6, 6, 6, 6, 6, 6, 6, 6, 6, 6, 6, 6, 6, 6, 6, 6, 6, 6, 6, 6, 6, 6, 6, 6, 6].append [7, 7, 7, 7, 7, 7, 7, 7, 7, 7, 7, 7, 7, 7, 7, 7, 7, 7, 7, 7, 7, 7, 7, 7, 7, 7, 7, 7, 7, 7, 7, 7, 7, 7, 7, 7, 7, 7, 7, 7, 7, 7, 7, 7, 7, 7, 7, 7, 7, 7, 7, 7, 7, 7, 7, 7, 7, 7, 7, 7, 7, 7, 7, 7]).append ([8, 8, 8, 8, 8, 8, 8, 8, 8, 8, 8, 8, 8, 8, 8, 8, 8, 8, 8, 8, 8, 8, 8, 8, 8, 8, 8, 8, 8, 8, 8, 8, 8, 8, 8, 8, 8, 8, 8, 8, 8, 8, 8, 8, 8, 8, 8, 8, 8, 8, 8, 8, 8, 8, 8, 8, 8, 8, 8, 8, 8, 8, 8, 8].append [8, 8, 8, 8, 8, 8, 8, 8, 8, 8, 8, 8, 8, 8, 8, 8, 8, 8, 8, 8, 8, 8, 8, 8, 8, 8, 8, 8, 8, 8, 8, 8, 8, 8, 8, 8, 8, 8, 8, 8, 8, 8, 8, 8, 8, 8, 8, 8, 8, 8, 8, 8, 8, 8, 8, 8, 8, 8, 8, 8, 8, 8, 8, 8])).toArray })) v8 (fun v9 => pConvInt IntKind.i64 v9 (fun v10 => pBin Tryd.prog 3 BinOp.add v7 v10 (fun v11 => R v11 σ))))))) (pConvInt IntKind.u8 v3 (fun v12 => pIndexStr (Value.string ({ data := (([0, 1, 2, 2, 3, 3, 3, 3, 4, 4, 4, 4, 4, 4, 4, 4, 5, 5, 5, 5, 5, 5, 5, 5, 5, 5, 5, 5, 5, 5, 5, 5, 6, 6, 6, 6, 6, 6, 6, 6, 6, 6, 6, 6, 6, 6, 6, 6, 6, 6, 6, 6, 6, 6, 6, 6, 6, 6, 6, 6, 6, 6, 6, 6].append [7, 7, 7, 7, 7, 7, 7, 7, 7, 7, 7, 7, 7, 7, 7, 7, 7, 7, 7, 7, 7, 7, 7, 7, 7, 7, 7, 7, 7, 7, 7, 7, 7, 7, 7, 7, 7, 7, 7, 7, 7, 7, 7, 7, 7, 7, 7, 7, 7, 7, 7, 7, 7, 7, 7, 7, 7, 7, 7, 7, 7, 7, 7, 7]).append ([8, 8, 8, 8, 8, 8, 8, 8, 8, 8, 8, 8, 8, 8, 8, 8, 8, 8, 8, 8, 8, 8, 8, 8, 8, 8, 8, 8, 8, 8, 8, 8, 8, 8, 8, 8, 8, 8, 8, 8, 8, 8, 8, 8, 8, 8, 8, 8, 8, 8, 8, 8, 8, 8, 8, 8, 8, 8, 8, 8, 8, 8, 8, 8].append [8, 8, 8, 8, 8, 8, 8, 8, 8, 8, 8, 8, 8, 8, 8, 8, 8, 8, 8, 8, 8, 8, 8, 8, 8, 8, 8, 8, 8, 8, 8, 8, 8, 8, 8, 8, 8, 8, 8, 8, 8, 8, 8, 8, 8, 8, 8, 8, 8, 8, 8, 8, 8, 8, 8, 8, 8, 8, 8, 8, 8, 8, 8, 8])).toArray })) v12 (fun v13 => pConvInt IntKind.i64 v13 (fun v14 => pBin Tryd.prog 3 BinOp.add v4 v14 (fun v15 => R v15 σ))))))))) (pBin Tryd.prog 144 BinOp.geq v1 (Value.int IntKind.u64 256) (fun v16 => pIf v16 (pBin Tryd.prog 144 BinOp.shr v1 (Value.int IntKind.u64 8) (fun v17 => pBin Tryd.prog 3 BinOp.add (Value.int IntKind.i64 32) (Value.int IntKind.i64 8) (fun v18 => pConvInt IntKind.u8 v17 (fun v19 => pIndexStr (Value.string ({ data := (([0, 1, 2, 2, 3, 3, 3, 3, 4, 4, 4, 4, 4, 4, 4, 4, 5, 5, 5, 5, 5, 5, 5, 5, 5, 5, 5, 5, 5, 5, 5, 5, 6, 6, 6, 6, 6, 6, 6, 6, 6, 6, 6, 6, 6, 6, 6, 6, 6, 6, 6, 6, 6, 6, 6, 6, 6, 6, 6, 6, 6, 6, 6, 6].append [7, 7, 7, 7, 7, 7, 7, 7, 7, 7, 7, 7, 7, 7, 7, 7, 7, 7, 7, 7, 7, 7, 7, 7, 7, 7, 7, 7, 7, 7, 7, 7, 7, 7, 7, 7, 7, 7, 7, 7, 7, 7, 7, 7, 7, 7, 7, 7, 7, 7, 7, 7, 7, 7, 7, 7, 7, 7, 7, 7, 7, 7, 7, 7]).append ([8, 8, 8, 8, 8, 8, 8, 8, 8, 8, 8, 8, 8, 8, 8, 8, 8, 8, 8, 8, 8, 8, 8, 8, 8, 8, 8, 8, 8, 8, 8, 8, 8, 8, 8, 8, 8, 8, 8, 8, 8, 8, 8, 8, 8, 8, 8, 8, 8, 8, 8, 8, 8, 8, 8, 8, 8, 8, 8, 8, 8, 8, 8, 8].append [8, 8, 8, 8, 8, 8, 8, 8, 8, 8, 8, 8, 8, 8, 8, 8, 8, 8, 8, 8, 8, 8, 8, 8, 8, 8, 8, 8, 8, 8, 8, 8, 8, 8, 8, 8, 8, 8, 8, 8, 8, 8, 8, 8, 8, 8, 8, 8, 8, 8, 8, 8, 8, 8, 8, 8, 8, 8, 8, 8, 8, 8, 8, 8])).toArray })) v19 (fun v20 => pConvInt IntKind.i64 v20 (fun v21 => pBin Tryd.prog 3 BinOp.add v18 v21 (fun v22 => R v22 σ))))))) (pConvInt IntKind.u8 v1 (fun v23 => pIndexStr (Value.string ({ data := (([0, 1, 2, 2, 3, 3, 3, 3, 4, 4, 4, 4, 4, 4, 4, 4, 5, 5, 5, 5, 5, 5, 5, 5, 5, 5, 5, 5, 5, 5, 5, 5, 6, 6, 6, 6, 6, 6, 6, 6, 6, 6, 6, 6, 6, 6, 6, 6, 6, 6, 6, 6, 6, 6, 6, 6, 6, 6, 6, 6, 6, 6, 6, 6].append [7, 7, 7, 7, 7, 7, 7, 7, 7, 7, 7, 7, 7, 7, 7, 7, 7, 7, 7, 7, 7, 7, 7, 7, 7, 7, 7, 7, 7, 7, 7, 7, 7, 7, 7, 7, 7, 7, 7, 7, 7, 7, 7, 7, 7, 7, 7, 7, 7, 7, 7, 7, 7, 7, 7, 7, 7, 7, 7, 7, 7, 7, 7, 7]).append ([8, 8, 8, 8, 8, 8, 8, 8, 8, 8, 8, 8, 8, 8, 8, 8, 8, 8, 8, 8, 8, 8, 8, 8, 8, 8, 8, 8, 8, 8, 8, 8, 8, 8, 8, 8, 8, 8, 8, 8, 8, 8, 8, 8, 8, 8, 8, 8, 8, 8, 8, 8, 8, 8, 8, 8, 8, 8, 8, 8, 8, 8, 8, 8].append [8, 8, 8, 8, 8, 8, 8, 8, 8, 8, 8, 8, 8, 8, 8, 8, 8, 8, 8, 8, 8, 8, 8, 8, 8, 8, 8, 8, 8, 8, 8, 8, 8, 8, 8, 8, 8, 8, 8, 8, 8, 8, 8, 8, 8, 8, 8, 8, 8, 8, 8, 8, 8, 8, 8, 8, 8, 8, 8, 8, 8, 8, 8, 8])).toArray })) v23 (fun v24 => pConvInt IntKind.i64 v24 (fun v25 => pBin Tryd.prog 3 BinOp.add (Value.int IntKind.i64 32) v25 (fun v26 => R v26 σ)))))))))) (pBin Tryd.prog 144 BinOp.geq a0 (Value.int IntKind.u64 65536) (fun v27 => pIf v27 (pBin Tryd.prog 144 BinOp.shr a0 (Value.int IntKind.u64 16) (fun v28 => pBin Tryd.prog 3 BinOp.add (Value.int IntKind.i64 0) (Value.int IntKind.i64 16) (fun v29 => pBin Tryd.prog 144 BinOp.geq v28 (Value.int IntKind.u64 256) (fun v30 => pIf v30 (pBin Tryd.prog 144 BinOp.shr v28 (Value.int IntKind.u64 8) (fun v31 => pBin Tryd.prog 3 BinOp.add v29 (Value.int IntKind.i64 8) (fun v32 => pConvInt IntKind.u8 v31 (fun v33 => pIndexStr (Value.string ({ data := (([0, 1, 2, 2, 3, 3, 3, 3, 4, 4, 4, 4, 4, 4, 4, 4, 5, 5, 5, 5, 5, 5, 5, 5, 5, 5, 5, 5, 5, 5, 5, 5, 6, 6, 6, 6, 6, 6, 6, 6, 6, 6, 6, 6, 6, 6, 6, 6, 6, 6, 6, 6, 6, 6, 6, 6, 6, 6, 6, 6, 6, 6, 6, 6].append [7, 7, 7, 7, 7, 7, 7, 7, 7, 7, 7, 7, 7, 7, 7, 7, 7, 7, 7, 7, 7, 7, 7, 7, 7, 7, 7, 7, 7, 7, 7, 7, 7, 7, 7, 7, 7, 7, 7, 7, 7, 7, 7, 7, 7, 7, 7, 7, 7, 7, 7, 7, 7, 7, 7, 7, 7, 7, 7, 7, 7, 7, 7, 7]).append ([8, 8, 8, 8, 8, 8, 8, 8, 8, 8, 8, 8, 8, 8, 8, 8, 8, 8, 8, 8, 8, 8, 8, 8, 8, 8, 8, 8, 8, 8, 8, 8, 8, 8, 8, 8, 8, 8, 8, 8, 8, 8, 8, 8, 8, 8, 8, 8, 8, 8, 8, 8, 8, 8, 8, 8, 8, 8, 8, 8, 8, 8, 8, 8].append [8, 8, 8, 8, 8, 8, 8, 8, 8, 8, 8, 8, 8, 8, 8, 8, 8, 8, 8, 8, 8, 8, 8, 8, 8, 8, 8, 8, 8, 8, 8, 8, 8, 8, 8, 8, 8, 8, 8, 8, 8, 8, 8, 8, 8, 8, 8, 8, 8, 8, 8, 8, 8, 8, 8, 8, 8, 8, 8, 8, 8, 8, 8, 8])).toArray })) v33 (fun v34 => pConvInt IntKind.i64 v34 (fun v35 => pBin Tryd.prog 3 BinOp.add v32 v35 (fun v36 => R v36 σ))))))) (pConvInt IntKind.u8 v28 (fun v37 => pIndexStr (Value.string ({ data := (([0, 1, 2, 2, 3, 3, 3, 3, 4, 4, 4, 4, 4, 4, 4, 4, 5, 5, 5, 5, 5, 5, 5, 5, 5, 5, 5, 5, 5, 5, 5, 5, 6, 6, 6, 6, 6, 6, 6, 6, 6, 6, 6, 6, 6, 6, 6, 6, 6, 6, 6, 6, 6, 6, 6, 6, 6, 6, 6, 6, 6, 6, 6, 6].append [7, 7, 7, 7, 7, 7, 7, 7, 7, 7, 7, 7, 7, 7, 7, 7, 7, 7, 7, 7, 7, 7, 7, 7, 7, 7, 7, 7, 7, 7, 7, 7, 7, 7, 7, 7, 7, 7, 7, 7, 7, 7, 7, 7, 7, 7, 7, 7, 7, 7, 7, 7, 7, 7, 7, 7, 7, 7, 7, 7, 7, 7, 7, 7]).append ([8, 8, 8, 8, 8, 8, 8, 8, 8, 8, 8, 8, 8, 8, 8, 8, 8, 8, 8, 8, 8, 8, 8, 8, 8, 8, 8, 8, 8, 8, 8, 8, 8, 8, 8, 8, 8, 8, 8, 8, 8, 8, 8, 8, 8, 8, 8, 8, 8, 8, 8, 8, 8, 8, 8, 8, 8, 8, 8, 8, 8, 8, 8, 8].append [8, 8, 8, 8, 8, 8, 8, 8, 8, 8, 8, 8, 8, 8, 8, 8, 8, 8, 8, 8, 8, 8, 8, 8, 8, 8, 8, 8, 8, 8, 8, 8, 8, 8, 8, 8, 8, 8, 8, 8, 8, 8, 8, 8, 8, 8, 8, 8, 8, 8, 8, 8, 8, 8, 8, 8, 8, 8, 8, 8, 8, 8, 8, 8])).toArray })) v37 (fun v38 => pConvInt IntKind.i64 v38 (fun v39 => pBin Tryd.prog 3 BinOp.add v29 v39 (fun v40 => R v40 σ))))))))) (pBin Tryd.prog 144 BinOp.geq a0 (Value.int IntKind.u64 256) (fun v41 => pIf v41 (pBin Tryd.prog 144 BinOp.shr a0 (Value.int IntKind.u64 8) (fun v42 => pBin Tryd.prog 3 BinOp.add (Value.int IntKind.i64 0) (Value.int IntKind.i64 8) (fun v43 => pConvInt IntKind.u8 v42 (fun v44 => pIndexStr (Value.string ({ data := (([0, 1, 2, 2, 3, 3, 3, 3, 4, 4, 4, 4, 4, 4, 4, 4, 5, 5, 5, 5, 5, 5, 5, 5, 5, 5, 5, 5, 5, 5, 5, 5, 6, 6, 6, 6, 6, 6, 6, 6, 6, 6, 6, 6, 6, 6, 6, 6, 6, 6, 6, 6, 6, 6, 6, 6, 6, 6, 6, 6, 6, 6, 6, 6].append [7, 7, 7, 7, 7, 7, 7, 7, 7, 7, 7, 7, 7, 7, 7, 7, 7, 7, 7, 7, 7, 7, 7, 7, 7, 7, 7, 7, 7, 7, 7, 7, 7, 7, 7, 7, 7, 7, 7, 7, 7, 7, 7, 7, 7, 7, 7, 7, 7, 7, 7, 7, 7, 7, 7, 7, 7, 7, 7, 7, 7, 7, 7, 7]).append ([8, 8, 8, 8, 8, 8, 8, 8, 8, 8, 8, 8, 8, 8, 8, 8, 8, 8, 8, 8, 8, 8, 8, 8, 8, 8, 8, 8, 8, 8, 8, 8, 8, 8, 8, 8, 8, 8, 8, 8, 8, 8, 8, 8, 8, 8, 8, 8, 8, 8, 8, 8, 8, 8, 8, 8, 8, 8, 8, 8, 8, 8, 8, 8].append [8, 8, 8, 8, 8, 8, 8, 8, 8, 8, 8, 8, 8, 8, 8, 8, 8, 8, 8, 8, 8, 8, 8, 8, 8, 8, 8, 8, 8, 8, 8, 8, 8, 8, 8, 8, 8, 8, 8, 8, 8, 8, 8, 8, 8, 8, 8, 8, 8, 8, 8, 8, 8, 8, 8, 8, 8, 8, 8, 8, 8, 8, 8, 8])).toArray })) v44 (fun v45 => pConvInt IntKind.i64 v45 (fun v46 => pBin Tryd.prog 3 BinOp.add v43 v46 (fun v47 => R v47 σ))))))) (pConvInt IntKind.u8 a0 (fun v48 => pIndexStr (Value.string ({ data := (([0, 1, 2, 2, 3, 3, 3, 3, 4, 4, 4, 4, 4, 4, 4, 4, 5, 5, 5, 5, 5, 5, 5, 5, 5, 5, 5, 5, 5, 5, 5, 5, 6, 6, 6, 6, 6, 6, 6, 6, 6, 6, 6, 6, 6, 6, 6, 6, 6, 6, 6, 6, 6, 6, 6, 6, 6, 6, 6, 6, 6, 6, 6, 6].append [7, 7, 7, 7, 7, 7, 7, 7, 7, 7, 7, 7, 7, 7, 7, 7, 7, 7, 7, 7, 7, 7, 7, 7, 7, 7, 7, 7, 7, 7, 7, 7, 7, 7, 7, 7, 7, 7, 7, 7, 7, 7, 7, 7, 7, 7, 7, 7, 7, 7, 7, 7, 7, 7, 7, 7, 7, 7, 7, 7, 7, 7, 7, 7]).append ([8, 8, 8, 8, 8, 8, 8, 8, 8, 8, 8, 8, 8, 8, 8, 8, 8, 8, 8, 8, 8, 8, 8, 8, 8, 8, 8, 8, 8, 8, 8, 8, 8, 8, 8, 8, 8, 8, 8, 8, 8, 8, 8, 8, 8, 8, 8, 8, 8, 8, 8, 8, 8, 8, 8, 8, 8, 8, 8, 8, 8, 8, 8, 8].append [8, 8, 8, 8, 8, 8, 8, 8, 8, 8, 8, 8, 8, 8, 8, 8, 8, 8, 8, 8, 8, 8, 8, 8, 8, 8, 8, 8, 8, 8, 8, 8, 8, 8, 8, 8, 8, 8, 8, 8, 8, 8, 8, 8, 8, 8, 8, 8, 8, 8, 8, 8, 8, 8, 8, 8, 8, 8, 8, 8, 8, 8, 8, 8])).toArray })) v48 (fun v49 => pConvInt IntKind.i64 v49 (fun v50 => pBin Tryd.prog 3 BinOp.add (Value.int IntKind.i64 0) v50 (fun v51 => R v51 σ))))))))))
theorem vc_math_bits_Len64_eq (w0 : World) (a0 : Value) (σ : Vw) (R : Value → Vw → Prop) : vc_math_bits_Len64 w0 a0 σ R = den Tryd.prog w0 kp_math_bits_Len64 esc_math_bits_Len64 (Tryd.f164.body.getD .skip) (entry Tryd.f164.ntmps [a0]) σ (retK Tryd.prog Tryd.f164.results.toList R) := by kernel_rfl
theorem ac_math_bits_Len64 {w0 : World} {a0 : Value} {σ : Vw} {R : Value → Vw → Prop} (h : vc_math_bits_Len64 w0 a0 σ R) : AC Tryd.prog w0 n_math_bits_Len64 [a0] σ R := by
  refine ac_rule (fn := Tryd.f164) (c := Tryd.f164.body.getD .skip) kp_math_bits_Len64 esc_math_bits_Len64 Tryd.func164 (by kernel_rfl) (by kernel_rfl) ?_
  rw [← vc_math_bits_Len64_eq]
  exact h

/-- internal/strconv.bool2[int] -/
def kp_internal_strconv_bool2_int : Nat → Keep
  | _ => ⟨[], [], [], .done, []⟩
def esc_internal_strconv_bool2_int : Nat → Bool
  | _ => false
def vc_internal_strconv_bool2_int (w0 : World) (a0 : Value) (σ : Vw) (R : Value → Vw → Prop) : Prop :=
  pIf a0 (R (Value.int IntKind.i64 1) σ) (R (Value.int IntKind.i64 0) σ)
theorem vc_internal_strconv_bool2_int_eq (w0 : World) (a0 : Value) (σ : Vw) (R : Value → Vw → Prop) : vc_internal_strconv_bool2_int w0 a0 σ R = den Tryd.prog w0 kp_internal_strconv_bool2_int esc_internal_strconv_bool2_int (Tryd.f165.body.getD .skip) (entry Tryd.f165.ntmps [a0]) σ (retK Tryd.prog Tryd.f165.results.toList R) := by kernel_rfl
theorem ac_internal_strconv_bool2_int {w0 : World} {a0 : Value} {σ : Vw} {R : Value → Vw → Prop} (h : vc_internal_strconv_bool2_int w0 a0 σ R) : AC Tryd.prog w0 n_internal_strconv_bool2_int [a0] σ R := by
  refine ac_rule (fn := Tryd.f165) (c := Tryd.f165.body.getD .skip) kp_internal_strconv_bool2_int esc_internal_strconv_bool2_int Tryd.func165 (by kernel_rfl) (by kernel_rfl) ?_
  rw [← vc_internal_strconv_bool2_int_eq]
  exact h

/-- internal/strconv.isPowerOfTwo -/
def kp_internal_strconv_isPowerOfTwo : Nat → Keep
  | _ => ⟨[], [], [], .done, []⟩
def esc_internal_strconv_isPowerOfTwo : Nat → Bool
  | _ => false
def vc_internal_strconv_isPowerOfTwo (w0 : World) (a0 : Value) (σ : Vw) (R : Value → Vw → Prop) : Prop :=
  pBin Tryd.prog 3 BinOp.sub a0 (Value.int IntKind.i64 1) (fun v0 => pBin Tryd.prog 3 BinOp.and a0 v0 (fun v1 => pBin Tryd.prog 3 BinOp.eql v1 (Value.int IntKind.i64 0) (fun v2 => R v2 σ)))
theorem vc_internal_strconv_isPowerOfTwo_eq (w0 : World) (a0 : Value) (σ : Vw) (R : Value → Vw → Prop) : vc_internal_strconv_isPowerOfTwo w0 a0 σ R = den Tryd.prog w0 kp_internal_strconv_isPowerOfTwo esc_internal_strconv_isPowerOfTwo (Tryd.f166.body.getD .skip) (entry Tryd.f166.ntmps [a0]) σ (retK Tryd.prog Tryd.f166.results.toList R) := by kernel_rfl
theorem ac_internal_strconv_isPowerOfTwo {w0 : World} {a0 : Value} {σ : Vw} {R : Value → Vw → Prop} (h : vc_internal_strconv_isPowerOfTwo w0 a0 σ R) : AC Tryd.prog w0 n_internal_strconv_isPowerOfTwo [a0] σ R := by
  refine ac_rule (fn := Tryd.f166) (c := Tryd.f166.body.getD .skip) kp_internal_strconv_isPowerOfTwo esc_internal_strconv_isPowerOfTwo Tryd.func166 (by kernel_rfl) (by kernel_rfl) ?_
  rw [← vc_internal_strconv_isPowerOfTwo_eq]
  exact h

/-- math/bits.TrailingZeros -/
def kp_math_bits_TrailingZeros : Nat → Keep
  | _ => ⟨[], [], [], .done, []⟩
def esc_math_bits_TrailingZeros : Nat → Bool
  | _ => false
def vc_math_bits_TrailingZeros (w0 : World) (a0 : Value) (σ : Vw) (R : Value → Vw → Prop) : Prop :=
  AC Tryd.prog w0 n_math_bits_TrailingZeros64 [a0] σ (fun v0 s1 => R v0 s1)
theorem vc_math_bits_TrailingZeros_eq (w0 : World) (a0 : Value) (σ : Vw) (R : Value → Vw → Prop) : vc_math_bits_TrailingZeros w0 a0 σ R = den Tryd.prog w0 kp_math_bits_TrailingZeros esc_math_bits_TrailingZeros (Tryd.f167.body.getD .skip) (entry Tryd.f167.ntmps [a0]) σ (retK Tryd.prog Tryd.f167.results.toList R) := by kernel_rfl
theorem ac_math_bits_TrailingZeros {w0 : World} {a0 : Value} {σ : Vw} {R : Value → Vw → Prop} (h : vc_math_bits_TrailingZeros w0 a0 σ R) : AC Tryd.prog w0 n_math_bits_TrailingZeros [a0] σ R := by
  refine ac_rule (fn := Tryd.f167) (c := Tryd.f167.body.getD .skip) kp_math_bits_TrailingZeros esc_math_bits_TrailingZeros Tryd.func167 (by kernel_rfl) (by kernel_rfl) ?_
  rw [← vc_math_bits_TrailingZeros_eq]
  exact h

/-- internal/strconv.lower -/
def kp_internal_strconv_lower : Nat → Keep
  | _ => ⟨[], [], [], .done, []⟩
def esc_internal_strconv_lower : Nat → Bool
  | _ => false
def vc_internal_strconv_lower (w0 : World) (a0 : Value) (σ : Vw) (R : Value → Vw → Prop) : Prop :=
  pBin Tryd.prog 5 BinOp.or a0 (Value.int IntKind.u8 32) (fun v0 => R v0 σ)
theorem vc_internal_strconv_lower_eq (w0 : World) (a0 : Value) (σ : Vw) (R : Value → Vw → Prop) : vc_internal_strconv_lower w0 a0 σ R = den Tryd.prog w0 kp_internal_strconv_lower esc_internal_strconv_lower (Tryd.f168.body.getD .skip) (entry Tryd.f168.ntmps [a0]) σ (retK Tryd.prog Tryd.f168.results.toList R) := by kernel_rfl
theorem ac_internal_strconv_lower {w0 : World} {a0 : Value} {σ : Vw} {R : Value → Vw → Prop} (h : vc_internal_strconv_lower w0 a0 σ R) : AC Tryd.prog w0 n_internal_strconv_lower [a0] σ R := by
  refine ac_rule (fn := Tryd.f168) (c := Tryd.f168.body.getD .skip) kp_internal_strconv_lower esc_internal_strconv_lower Tryd.func168 (by kernel_rfl) (by kernel_rfl) ?_
  rw [← vc_internal_strconv_lower_eq]
  exact h

/-- math/bits.TrailingZeros32 -/
def kp_math_bits_TrailingZeros32 : Nat → Keep
  | _ => ⟨[], [], [], .done, []⟩
def esc_math_bits_TrailingZeros32 : Nat → Bool
  | _ => false
def vc_math_bits_TrailingZeros32 (w0 : World) (a0 : Value) (σ : Vw) (R : Value → Vw → Prop) : Prop :=
  pBin Tryd.prog 149 BinOp.eql a0 (Value.int IntKind.u32 0) (fun v0 => pIf v0 (R (Value.int IntKind.i64 32) σ) (pUn UnOp.neg a0 (fun v1 => pBin Tryd.prog 149 BinOp.and a0 v1 (fun v2 => pBin Tryd.prog 149 BinOp.mul v2 (Value.int IntKind.u32 125613361) (fun v3 => pBin Tryd.prog 149 BinOp.shr v3 (Value.int IntKind.u64 27) (fun v4 => pIndexArr 32 1 (Value.pointer (Option.some (Addr.mk 6 0 Option.none))) v4 (fun v5 => pLoad w0 1 v5 σ (fun g6 => pConvInt IntKind.i64 (g6 0) (fun v7 => R v7 σ)))))))))
theorem vc_math_bits_TrailingZeros32_eq (w0 : World) (a0 : Value) (σ : Vw) (R : Value → Vw → Prop) : vc_math_bits_TrailingZeros32 w0 a0 σ R = den Tryd.prog w0 kp_math_bits_TrailingZeros32 esc_math_bits_TrailingZeros32 (Tryd.f170.body.getD .skip) (entry Tryd.f170.ntmps [a0]) σ (retK Tryd.prog Tryd.f170.results.toList R) := by kernel_rfl
theorem ac_math_bits_TrailingZeros32 {w0 : World} {a0 : Value} {σ : Vw} {R : Value → Vw → Prop} (h : vc_math_bits_TrailingZeros32 w0 a0 σ R) : AC Tryd.prog w0 n_math_bits_TrailingZeros32 [a0] σ R := by
  refine ac_rule (fn := Tryd.f170) (c := Tryd.f170.body.getD .skip) kp_math_bits_TrailingZeros32 esc_math_bits_TrailingZeros32 Tryd.func170 (by kernel_rfl) (by kernel_rfl) ?_
  rw [← vc_math_bits_TrailingZeros32_eq]
  exact h

/-- math/bits.TrailingZeros64 -/
def kp_math_bits_TrailingZeros64 : Nat → Keep
  | _ => ⟨[], [], [], .done, []⟩
def esc_math_bits_TrailingZeros64 : Nat → Bool
  | _ => false
def vc_math_bits_TrailingZeros64 (w0 : World) (a0 : Value) (σ : Vw) (R : Value → Vw → Prop) : Prop :=
  pBin Tryd.prog 144 BinOp.eql a0 (Value.int IntKind.u64 0) (fun v0 => pIf v0 (R (Value.int IntKind.i64 64) σ) (pUn UnOp.neg a0 (fun v1 => pBin Tryd.prog 144 BinOp.and a0 v1 (fun v2 => pBin Tryd.prog 144 BinOp.mul v2 (Value.int IntKind.u64 285870213051353865) (fun v3 => pBin Tryd.prog 144 BinOp.shr v3 (Value.int IntKind.u64 58) (fun v4 => pIndexArr 64 1 (Value.pointer (Option.some (Addr.mk 7 0 Option.none))) v4 (fun v5 => pLoad w0 1 v5 σ (fun g6 => pConvInt IntKind.i64 (g6 0) (fun v7 => R v7 σ)))))))))
theorem vc_math_bits_TrailingZeros64_eq (w0 : World) (a0 : Value) (σ : Vw) (R : Value → Vw → Prop) : vc_math_bits_TrailingZeros64 w0 a0 σ R = den Tryd.prog w0 kp_math_bits_TrailingZeros64 esc_math_bits_TrailingZeros64 (Tryd.f171.body.getD .skip) (entry Tryd.f171.ntmps [a0]) σ (retK Tryd.prog Tryd.f171.results.toList R) := by kernel_rfl
theorem ac_math_bits_TrailingZeros64 {w0 : World} {a0 : Value} {σ : Vw} {R : Value → Vw → Prop} (h : vc_math_bits_TrailingZeros64 w0 a0 σ R) : AC Tryd.prog w0 n_math_bits_TrailingZeros64 [a0] σ R := by
  refine ac_rule (fn := Tryd.f171) (c := Tryd.f171.body.getD .skip) kp_math_bits_TrailingZeros64 esc_math_bits_TrailingZeros64 Tryd.func171 (by kernel_rfl) (by kernel_rfl) ?_
  rw [← vc_math_bits_TrailingZeros64_eq]
  exact h

/-- gosem.cut.vars -/
def kp_gosem_cut_vars : Nat → Keep
  | _ => ⟨[], [], [], .done, []⟩
def esc_gosem_cut_vars : Nat → Bool
  | _ => false
def vc_gosem_cut_vars (w0 : World) (σ : Vw) (R : Value → Vw → Prop) : Prop :=
  pVal false 1 (Value.int IntKind.u8 0) (pVal false 1 (Value.int IntKind.u8 1) (pVal false 1 (Value.int IntKind.u8 28) (pVal false 1 (Value.int IntKind.u8 2) (pVal false 1 (Value.int IntKind.u8 29) (pVal false 1 (Value.int IntKind.u8 14) (pVal false 1 (Value.int IntKind.u8 24) (pVal false 1 (Value.int IntKind.u8 3) (pVal false 1 (Value.int IntKind.u8 30) (pVal false 1 (Value.int IntKind.u8 22) (pVal false 1 (Value.int IntKind.u8 20) (pVal false 1 (Value.int IntKind.u8 15) (pVal false 1 (Value.int IntKind.u8 25) (pVal false 1 (Value.int IntKind.u8 17) (pVal false 1 (Value.int IntKind.u8 4) (pVal false 1 (Value.int IntKind.u8 8) (pVal false 1 (Value.int IntKind.u8 31) (pVal false 1 (Value.int IntKind.u8 27) (pVal false 1 (Value.int IntKind.u8 13) (pVal false 1 (Value.int IntKind.u8 23) (pVal false 1 (Value.int IntKind.u8 21) (pVal false 1 (Value.int IntKind.u8 19) (pVal false 1 (Value.int IntKind.u8 16) (pVal false 1 (Value.int IntKind.u8 7) (pVal false 1 (Value.int IntKind.u8 26) (pVal false 1 (Value.int IntKind.u8 12) (pVal false 1 (Value.int IntKind.u8 18) (pVal false 1 (Value.int IntKind.u8 6) (pVal false 1 (Value.int IntKind.u8 11) (pVal false 1 (Value.int IntKind.u8 5) (pVal false 1 (Value.int IntKind.u8 10) (pVal false 1 (Value.int IntKind.u8 9) (pVal true 32 (Value.agg (⟨[Value.int IntKind.u8 0, Value.int IntKind.u8 1, Value.int IntKind.u8 28, Value.int IntKind.u8 2, Value.int IntKind.u8 29, Value.int IntKind.u8 14, Value.int IntKind.u8 24, Value.int IntKind.u8 3, Value.int IntKind.u8 30, Value.int IntKind.u8 22, Value.int IntKind.u8 20, Value.int IntKind.u8 15, Value.int IntKind.u8 25, Value.int IntKind.u8 17, Value.int IntKind.u8 4, Value.int IntKind.u8 8, Value.int IntKind.u8 31, Value.int IntKind.u8 27, Value.int IntKind.u8 13, Value.int IntKind.u8 23, Value.int IntKind.u8 21, Value.int IntKind.u8 19, Value.int IntKind.u8 16, Value.int IntKind.u8 7, Value.int IntKind.u8 26, Value.int IntKind.u8 12, Value.int IntKind.u8 18, Value.int IntKind.u8 6, Value.int IntKind.u8 11, Value.int IntKind.u8 5, Value.int IntKind.u8 10, Value.int IntKind.u8 9]⟩)) (pStore (Value.pointer (Option.some (Addr.mk 6 0 Option.none))) [Value.int IntKind.u8 0, Value.int IntKind.u8 1, Value.int IntKind.u8 28, Value.int IntKind.u8 2, Value.int IntKind.u8 29, Value.int IntKind.u8 14, Value.int IntKind.u8 24, Value.int IntKind.u8 3, Value.int IntKind.u8 30, Value.int IntKind.u8 22, Value.int IntKind.u8 20, Value.int IntKind.u8 15, Value.int IntKind.u8 25, Value.int IntKind.u8 17, Value.int IntKind.u8 4, Value.int IntKind.u8 8, Value.int IntKind.u8 31, Value.int IntKind.u8 27, Value.int IntKind.u8 13, Value.int IntKind.u8 23, Value.int IntKind.u8 21, Value.int IntKind.u8 19, Value.int IntKind.u8 16, Value.int IntKind.u8 7, Value.int IntKind.u8 26, Value.int IntKind.u8 12, Value.int IntKind.u8 18, Value.int IntKind.u8 6, Value.int IntKind.u8 11, Value.int IntKind.u8 5, Value.int IntKind.u8 10, Value.int IntKind.u8 9] σ (fun s0 => pVal false 1 (Value.int IntKind.u8 0) (pVal false 1 (Value.int IntKind.u8 1) (pVal false 1 (Value.int IntKind.u8 56) (pVal false 1 (Value.int IntKind.u8 2) (pVal false 1 (Value.int IntKind.u8 57) (pVal false 1 (Value.int IntKind.u8 49) (pVal false 1 (Value.int IntKind.u8 28) (pVal false 1 (Value.int IntKind.u8 3) (pVal false 1 (Value.int IntKind.u8 61) (pVal false 1 (Value.int IntKind.u8 58) (pVal false 1 (Value.int IntKind.u8 42) (pVal false 1 (Value.int IntKind.u8 50) (pVal false 1 (Value.int IntKind.u8 38) (pVal false 1 (Value.int IntKind.u8 29) (pVal false 1 (Value.int IntKind.u8 17) (pVal false 1 (Value.int IntKind.u8 4) (pVal false 1 (Value.int IntKind.u8 62) (pVal false 1 (Value.int IntKind.u8 47) (pVal false 1 (Value.int IntKind.u8 59) (pVal false 1 (Value.int IntKind.u8 36) (pVal false 1 (Value.int IntKind.u8 45) (pVal false 1 (Value.int IntKind.u8 43) (pVal false 1 (Value.int IntKind.u8 51) (pVal false 1 (Value.int IntKind.u8 22) (pVal false 1 (Value.int IntKind.u8 53) (pVal false 1 (Value.int IntKind.u8 39) (pVal false 1 (Value.int IntKind.u8 33) (pVal false 1 (Value.int IntKind.u8 30) (pVal false 1 (Value.int IntKind.u8 24) (pVal false 1 (Value.int IntKind.u8 18) (pVal false 1 (Value.int IntKind.u8 12) (pVal false 1 (Value.int IntKind.u8 5) (pVal false 1 (Value.int IntKind.u8 63) (pVal false 1 (Value.int IntKind.u8 55) (pVal false 1 (Value.int IntKind.u8 48) (pVal false 1 (Value.int IntKind.u8 27) (pVal false 1 (Value.int IntKind.u8 60) (pVal false 1 (Value.int IntKind.u8 41) (pVal false 1 (Value.int IntKind.u8 37) (pVal false 1 (Value.int IntKind.u8 16) (pVal false 1 (Value.int IntKind.u8 46) (pVal false 1 (Value.int IntKind.u8 35) (pVal false 1 (Value.int IntKind.u8 44) (pVal false 1 (Value.int IntKind.u8 21) (pVal false 1 (Value.int IntKind.u8 52) (pVal false 1 (Value.int IntKind.u8 32) (pVal false 1 (Value.int IntKind.u8 23) (pVal false 1 (Value.int IntKind.u8 11) (pVal false 1 (Value.int IntKind.u8 54) (pVal false 1 (Value.int IntKind.u8 26) (pVal false 1 (Value.int IntKind.u8 40) (pVal false 1 (Value.int IntKind.u8 15) (pVal false 1 (Value.int IntKind.u8 34) (pVal false 1 (Value.int IntKind.u8 20) (pVal false 1 (Value.int IntKind.u8 31) (pVal false 1 (Value.int IntKind.u8 10) (pVal false 1 (Value.int IntKind.u8 25) (pVal false 1 (Value.int IntKind.u8 14) (pVal false 1 (Value.int IntKind.u8 19) (pVal false 1 (Value.int IntKind.u8 9) (pVal false 1 (Value.int IntKind.u8 13) (pVal false 1 (Value.int IntKind.u8 8) (pVal false 1 (Value.int IntKind.u8 7) (pVal false 1 (Value.int IntKind.u8 6) (pVal true 64 (Value.agg (⟨[Value.int IntKind.u8 0, Value.int IntKind.u8 1, Value.int IntKind.u8 56, Value.int IntKind.u8 2, Value.int IntKind.u8 57, Value.int IntKind.u8 49, Value.int IntKind.u8 28, Value.int IntKind.u8 3, Value.int IntKind.u8 61, Value.int IntKind.u8 58, Value.int IntKind.u8 42, Value.int IntKind.u8 50, Value.int IntKind.u8 38, Value.int IntKind.u8 29, Value.int IntKind.u8 17, Value.int IntKind.u8 4, Value.int IntKind.u8 62, Value.int IntKind.u8 47, Value.int IntKind.u8 59, Value.int IntKind.u8 36, Value.int IntKind.u8 45, Value.int IntKind.u8 43, Value.int IntKind.u8 51, Value.int IntKind.u8 22, Value.int IntKind.u8 53, Value.int IntKind.u8 39, Value.int IntKind.u8 33, Value.int IntKind.u8 30, Value.int IntKind.u8 24, Value.int IntKind.u8 18, Value.int IntKind.u8 12, Value.int IntKind.u8 5, Value.int IntKind.u8 63, Value.int IntKind.u8 55, Value.int IntKind.u8 48, Value.int IntKind.u8 27, Value.int IntKind.u8 60, Value.int IntKind.u8 41, Value.int IntKind.u8 37, Value.int IntKind.u8 16, Value.int IntKind.u8 46, Value.int IntKind.u8 35, Value.int IntKind.u8 44, Value.int IntKind.u8 21, Value.int IntKind.u8 52, Value.int IntKind.u8 32, Value.int IntKind.u8 23, Value.int IntKind.u8 11, Value.int IntKind.u8 54, Value.int IntKind.u8 26, Value.int IntKind.u8 40, Value.int IntKind.u8 15, Value.int IntKind.u8 34, Value.int IntKind.u8 20, Value.int IntKind.u8 31, Value.int IntKind.u8 10, Value.int IntKind.u8 25, Value.int IntKind.u8 14, Value.int IntKind.u8 19, Value.int IntKind.u8 9, Value.int IntKind.u8 13, Value.int IntKind.u8 8, Value.int IntKind.u8 7, Value.int IntKind.u8 6]⟩)) (pStore (Value.pointer (Option.some (Addr.mk 7 0 Option.none))) [Value.int IntKind.u8 0, Value.int IntKind.u8 1, Value.int IntKind.u8 56, Value.int IntKind.u8 2, Value.int IntKind.u8 57, Value.int IntKind.u8 49, Value.int IntKind.u8 28, Value.int IntKind.u8 3, Value.int IntKind.u8 61, Value.int IntKind.u8 58, Value.int IntKind.u8 42, Value.int IntKind.u8 50, Value.int IntKind.u8 38, Value.int IntKind.u8 29, Value.int IntKind.u8 17, Value.int IntKind.u8 4, Value.int IntKind.u8 62, Value.int IntKind.u8 47, Value.int IntKind.u8 59, Value.int IntKind.u8 36, Value.int IntKind.u8 45, Value.int IntKind.u8 43, Value.int IntKind.u8 51, Value.int IntKind.u8 22, Value.int IntKind.u8 53, Value.int IntKind.u8 39, Value.int IntKind.u8 33, Value.int IntKind.u8 30, Value.int IntKind.u8 24, Value.int IntKind.u8 18, Value.int IntKind.u8 12, Value.int IntKind.u8 5, Value.int IntKind.u8 63, Value.int IntKind.u8 55, Value.int IntKind.u8 48, Value.int IntKind.u8 27, Value.int IntKind.u8 60, Value.int IntKind.u8 41, Value.int IntKind.u8 37, Value.int IntKind.u8 16, Value.int IntKind.u8 46, Value.int IntKind.u8 35, Value.int IntKind.u8 44, Value.int IntKind.u8 21, Value.int IntKind.u8 52, Value.int IntKind.u8 32, Value.int IntKind.u8 23, Value.int IntKind.u8 11, Value.int IntKind.u8 54, Value.int IntKind.u8 26, Value.int IntKind.u8 40, Value.int IntKind.u8 15, Value.int IntKind.u8 34, Value.int IntKind.u8 20, Value.int IntKind.u8 31, Value.int IntKind.u8 10, Value.int IntKind.u8 25, Value.int IntKind.u8 14, Value.int IntKind.u8 19, Value.int IntKind.u8 9, Value.int IntKind.u8 13, Value.int IntKind.u8 8, Value.int IntKind.u8 7, Value.int IntKind.u8 6] s0 (fun s1 => pVal false 1 (Value.int IntKind.u64 1) (pVal false 1 (Value.int IntKind.u64 10) (pVal false 1 (Value.int IntKind.u64 100) (pVal false 1 (Value.int IntKind.u64 1000) (pVal false 1 (Value.int IntKind.u64 10000) (pVal false 1 (Value.int IntKind.u64 100000) (pVal false 1 (Value.int IntKind.u64 1000000) (pVal false 1 (Value.int IntKind.u64 10000000) (pVal false 1 (Value.int IntKind.u64 100000000) (pVal false 1 (Value.int IntKind.u64 1000000000) (pVal false 1 (Value.int IntKind.u64 10000000000) (pVal false 1 (Value.int IntKind.u64 100000000000) (pVal false 1 (Value.int IntKind.u64 1000000000000) (pVal false 1 (Value.int IntKind.u64 10000000000000) (pVal false 1 (Value.int IntKind.u64 100000000000000) (pVal false 1 (Value.int IntKind.u64 1000000000000000) (pVal false 1 (Value.int IntKind.u64 10000000000000000) (pVal false 1 (Value.int IntKind.u64 100000000000000000) (pVal false 1 (Value.int IntKind.u64 1000000000000000000) (pVal false 1 (Value.int IntKind.u64 10000000000000000000) (pVal true 20 (Value.agg (⟨[Value.int IntKind.u64 1, Value.int IntKind.u64 10, Value.int IntKind.u64 100, Value.int IntKind.u64 1000, Value.int IntKind.u64 10000, Value.int IntKind.u64 100000, Value.int IntKind.u64 1000000, Value.int IntKind.u64 10000000, Value.int IntKind.u64 100000000, Value.int IntKind.u64 1000000000, Value.int IntKind.u64 10000000000, Value.int IntKind.u64 100000000000, Value.int IntKind.u64 1000000000000, Value.int IntKind.u64 10000000000000, Value.int IntKind.u64 100000000000000, Value.int IntKind.u64 1000000000000000, Value.int IntKind.u64 10000000000000000, Value.int IntKind.u64 100000000000000000, Value.int IntKind.u64 1000000000000000000, Value.int IntKind.u64 10000000000000000000]⟩)) (pStore (Value.pointer (Option.some (Addr.mk 3 0 Option.none))) [Value.int IntKind.u64 1, Value.int IntKind.u64 10, Value.int IntKind.u64 100, Value.int IntKind.u64 1000, Value.int IntKind.u64 10000, Value.int IntKind.u64 100000, Value.int IntKind.u64 1000000, Value.int IntKind.u64 10000000, Value.int IntKind.u64 100000000, Value.int IntKind.u64 1000000000, Value.int IntKind.u64 10000000000, Value.int IntKind.u64 100000000000, Value.int IntKind.u64 1000000000000, Value.int IntKind.u64 10000000000000, Value.int IntKind.u64 100000000000000, Value.int IntKind.u64 1000000000000000, Value.int IntKind.u64 10000000000000000, Value.int IntKind.u64 100000000000000000, Value.int IntKind.u64 1000000000000000000, Value.int IntKind.u64 10000000000000000000] s1 (fun s2 => pVal false 1 (Value.int IntKind.u8 128) (pVal false 1 (Value.int IntKind.u8 191) (pVal false 1 (Value.int IntKind.u8 160) (pVal false 1 (Value.int IntKind.u8 191) (pVal false 1 (Value.int IntKind.u8 128) (pVal false 1 (Value.int IntKind.u8 159) (pVal false 1 (Value.int IntKind.u8 144) (pVal false 1 (Value.int IntKind.u8 191) (pVal false 1 (Value.int IntKind.u8 128) (pVal false 1 (Value.int IntKind.u8 143) (pVal true 2 (Value.agg (⟨[Value.int IntKind.u8 128, Value.int IntKind.u8 191]⟩)) (pVal true 2 (Value.agg (⟨[Value.int IntKind.u8 160, Value.int IntKind.u8 191]⟩)) (pVal true 2 (Value.agg (⟨[Value.int IntKind.u8 128, Value.int IntKind.u8 159]⟩)) (pVal true 2 (Value.agg (⟨[Value.int IntKind.u8 144, Value.int IntKind.u8 191]⟩)) (pVal true 2 (Value.agg (⟨[Value.int IntKind.u8 128, Value.int IntKind.u8 143]⟩)) (pVal true 32 (Value.agg (⟨[Value.int IntKind.u8 128, Value.int IntKind.u8 191, Value.int IntKind.u8 160, Value.int IntKind.u8 191, Value.int IntKind.u8 128, Value.int IntKind.u8 159, Value.int IntKind.u8 144, Value.int IntKind.u8 191, Value.int IntKind.u8 128, Value.int IntKind.u8 143, Value.int IntKind.u8 0, Value.int IntKind.u8 0, Value.int IntKind.u8 0, Value.int IntKind.u8 0, Value.int IntKind.u8 0, Value.int IntKind.u8 0, Value.int IntKind.u8 0, Value.int IntKind.u8 0, Value.int IntKind.u8 0, Value.int IntKind.u8 0, Value.int IntKind.u8 0, Value.int IntKind.u8 0, Value.int IntKind.u8 0, Value.int IntKind.u8 0, Value.int IntKind.u8 0, Value.int IntKind.u8 0, Value.int IntKind.u8 0, Value.int IntKind.u8 0, Value.int IntKind.u8 0, Value.int IntKind.u8 0, Value.int IntKind.u8 0, Value.int IntKind.u8 0]⟩)) (pStore (Value.pointer (Option.some (Addr.mk 5 0 Option.none))) [Value.int IntKind.u8 128, Value.int IntKind.u8 191, Value.int IntKind.u8 160, Value.int IntKind.u8 191, Value.int IntKind.u8 128, Value.int IntKind.u8 159, Value.int IntKind.u8 144, Value.int IntKind.u8 191, Value.int IntKind.u8 128, Value.int IntKind.u8 143, Value.int IntKind.u8 0, Value.int IntKind.u8 0, Value.int IntKind.u8 0, Value.int IntKind.u8 0, Value.int IntKind.u8 0, Value.int IntKind.u8 0, Value.int IntKind.u8 0, Value.int IntKind.u8 0, Value.int IntKind.u8 0, Value.int IntKind.u8 0, Value.int IntKind.u8 0, Value.int IntKind.u8 0, Value.int IntKind.u8 0, Value.int IntKind.u8 0, Value.int IntKind.u8 0, Value.int IntKind.u8 0, Value.int IntKind.u8 0, Value.int IntKind.u8 0, Value.int IntKind.u8 0, Value.int IntKind.u8 0, Value.int IntKind.u8 0, Value.int IntKind.u8 0] s2 (fun s3 => AC Tryd.prog w0 n_errors_New ([Value.string ({ data := #[118, 97, 108, 117, 101, 32, 111, 117, 116, 32, 111, 102, 32, 114, 97, 110, 103, 101] })]) s3 (fun v4 s5 => pVal false 1 v4 (pStore (Value.pointer (Option.some (Addr.mk 2 0 Option.none))) [v4] s5 (fun s6 => AC Tryd.prog w0 n_errors_New ([Value.string ({ data := #[105, 110, 118, 97, 108, 105, 100, 32, 115, 121, 110, 116, 97, 120] })]) s6 (fun v7 s8 => pVal false 1 v7 (pStore (Value.pointer (Option.some (Addr.mk 1 0 Option.none))) [v7] s8 (fun s9 => R (Value.tuple ⟨[]⟩) s9)))))))))))))))))))))))))))))))))))))))))))))))))))))))))))))))))))))))))))))))))))))))))))))))))))))))))))))))))))))))))))))))))))))))))))))))))
theorem vc_gosem_cut_vars_eq (w0 : World) (σ : Vw) (R : Value → Vw → Prop) : vc_gosem_cut_vars w0 σ R = den Tryd.prog w0 kp_gosem_cut_vars esc_gosem_cut_vars (Tryd.f201.body.getD .skip) (entry Tryd.f201.ntmps []) σ (retK Tryd.prog Tryd.f201.results.toList R) := by kernel_rfl
theorem ac_gosem_cut_vars {w0 : World} {σ : Vw} {R : Value → Vw → Prop} (h : vc_gosem_cut_vars w0 σ R) : AC Tryd.prog w0 n_gosem_cut_vars [] σ R := by
  refine ac_rule (fn := Tryd.f201) (c := Tryd.f201.body.getD .skip) kp_gosem_cut_vars esc_gosem_cut_vars Tryd.func201 (by kernel_rfl) (by kernel_rfl) ?_
  rw [← vc_gosem_cut_vars_eq]
  exact h

end Go.Proofs.YtlbpnfhhoalenaaDoor

/- What each function owes: all parts. MADE BY PROGRAM (emit.py). -/


/- The lists of texts: their size, their copy, their comparison. -/
set_option linter.unusedVariables false
set_option linter.unusedSimpArgs false
namespace Go.Proofs.YtlbpnfhhoalenaaDoor
open Go Go.Av

section
variable {w0 : World} {σ : Vw}

def sumS : List ByteArray → Nat
  | [] => 0
  | s :: r => s.size + sumS r
theorem sumS_take {xs : List ByteArray} : ∀ {j : Nat} {x : ByteArray}, xs[j]? = some x → sumS (xs.take (j + 1)) = sumS (xs.take j) + x.size := by
  induction xs with
  | nil => intro j x h; simp at h
  | cons a r ih =>
    intro j x h
    cases j with
    | zero => simp at h; subst h; simp [sumS]
    | succ j =>
      simp at h
      have := ih h
      simp only [List.take_succ_cons, sumS, this]
      omega
theorem sumS_le {xs : List ByteArray} : ∀ (j : Nat), sumS (xs.take j) ≤ sumS xs := by
  induction xs with
  | nil => intro j; simp [sumS]
  | cons a r ih =>
    intro j
    cases j with
    | zero => simp [sumS]
    | succ j => have := ih j; simp only [List.take_succ_cons, sumS]; omega

/-- What is left of n. -/
def left (n : Int) (t : Nat) : Int := if n - t < 0 then -1 else n - t

theorem szStringS {v : Value} {xs : List ByteArray} {n : Int} (h : RSl 1 RS (Av.get w0 σ) v xs) (hn : 0 ≤ n ∧ n ≤ 9223372036854775807) {R : Value → Vw → Prop} (hR : R (.int .i64 (left n (xs.length + sumS xs))) σ) : AC Tryd.prog w0 n_laws_szStringS [v, .int .i64 n] σ R := by
  refine ac_laws_szStringS ?_
  unfold vc_laws_szStringS
  have hl : xs.length ≤ 9223372036854775807 := by obtain ⟨_, _, _, h2, _⟩ := h; exact Nat.le_trans h2.1 h2.2
  rw [h.len, pBin_sub (by omega), pBin_lt, pIf_d]
  refine ⟨fun hlt => ?_, fun hge => ?_⟩
  · have : left n (xs.length + sumS xs) = -1 := by unfold left; rw [if_pos (by omega)]
    rw [this] at hR; exact hR
  · refine loop_rule (m := xs.length) (fun m l s => ∃ j, s = σ ∧ m + j = xs.length ∧ 0 ≤ n - xs.length - sumS (xs.take j) ∧ l = [v, .int .i64 (n - xs.length - sumS (xs.take j)), .int .i64 0, .int .i64 (j : Nat)]) ?_ ⟨0, rfl, by omega, by simp [sumS]; omega, by simp [sumS]⟩
    rintro m l s L ⟨j, rfl, hm, h0, rfl⟩ hL
    simp only [vget, List.getD_cons_zero, List.getD_cons_succ]
    rw [h.len, pBin_lt, pIf_d]
    refine ⟨fun hj => ?_, fun hj => ?_⟩
    · have hj' : j < xs.length := by omega
      have hx := List.getElem?_eq_getElem hj'
      refine h.at hx fun g hg => ?_
      obtain ⟨hg, hs⟩ := hg
      simp only [expl, List.cons.injEq, and_true] at hg
      have ht := sumS_take hx
      have hle := sumS_le (xs := xs) (j + 1)
      rw [hg, pLenS_s, pBin_sub (by omega), pBin_lt, pIf_d]
      refine ⟨fun hlt => ?_, fun hge => ?_⟩
      · have : left n (xs.length + sumS xs) = -1 := by unfold left; rw [if_pos (by omega)]
        rw [this] at hR; exact hR
      · rw [pBin_add (by omega)]
        refine hL _ _ (m - 1) (by omega) ⟨j + 1, rfl, by omega, by omega, ?_⟩
        rw [ht]
        congr 2
        · congr 1; omega
    · have hj' : j = xs.length := by omega
      subst hj'
      rw [List.take_length] at h0 ⊢
      have : left n (xs.length + sumS xs) = n - xs.length - sumS xs := by unfold left; rw [if_neg (by omega)]; omega
      rw [this] at hR
      exact hR
end
end Go.Proofs.YtlbpnfhhoalenaaDoor

/- The lists of texts: their copy, their comparison. -/
set_option linter.unusedVariables false
set_option linter.unusedSimpArgs false
namespace Go.Proofs.YtlbpnfhhoalenaaDoor
open Go Go.Av

section
variable {w0 : World} {σ : Vw}


theorem toStringS {v : Value} {xs : List ByteArray} (h : RSl 1 RS (Av.get w0 σ) v xs) (hb : xs.length ≤ 1000000000000) {R : Value → Vw → Prop}
    (hR : ∀ b ety, w0.heap.size ≤ b → σ b = none → R (.slice (some ⟨b, 0, none⟩) xs.length xs.length) (σ.put b ⟨ety, xs.map .string, xs.length, (0, 0)⟩)) : AC Tryd.prog w0 n_laws_toStringS [v] σ R := by
  refine ac_laws_toStringS ?_
  unfold vc_laws_toStringS
  rw [h.len]
  refine pMake_s (by omega) (by omega) fun b ety h1 h2 => ?_
  refine loop_rule (m := xs.length) (fun m l s => ∃ j, m + j = xs.length ∧ s = σ.put b ⟨ety, (xs.take j).map .string ++ List.replicate m (.string ⟨#[]⟩), xs.length * 1, (0, 0)⟩ ∧ l = [v, .slice (some ⟨b, 0, none⟩) xs.length xs.length, .int .i64 (j : Nat)]) ?_ ⟨0, by omega, by simp, rfl⟩
  rintro m l s L ⟨j, hm, rfl, rfl⟩ hL
  simp only [vget, List.getD_cons_zero, List.getD_cons_succ]
  rw [h.len, pBin_lt, pIf_d]
  refine ⟨fun hj => ?_, fun hj => ?_⟩
  · have hj' : j < xs.length := by omega
    have hx := List.getElem?_eq_getElem hj'
    refine RSl.at (h.mono (Keeps.put h2).le fun _ _ h => h) hx fun g hg => ?_
    obtain ⟨hg, hs⟩ := hg
    simp only [expl, List.cons.injEq, and_true] at hg
    obtain ⟨m', rfl⟩ : ∃ m', m = m' + 1 := ⟨m - 1, by omega⟩
    rw [hg]
    have e1 : ∀ A : Prop, pVal false 1 (.string xs[j]) A = A := fun A => propext (pVal1 rfl)
    simp only [e1]
    refine own_store (r := ⟨ety, (xs.take j).map .string ++ List.replicate (m' + 1) (.string ⟨#[]⟩), xs.length * 1, (0, 0)⟩) (A := (xs.take j).map .string) (old := [.string ⟨#[]⟩]) (new := [.string xs[j]]) (C := List.replicate m' (.string ⟨#[]⟩)) put_at (by simp [List.replicate_succ]) (by simp; omega) rfl rfl hj' ?_
    rw [pBin_add (by omega)]
    refine hL _ _ m' rfl ⟨j + 1, by omega, ?_, rfl⟩
    rw [put_put, List.take_add_one, hx]
    simp only [Option.toList_some, List.map_append, List.map_cons, List.map_nil, List.append_assoc]
  · have hj' : j = xs.length := by omega
    subst hj'
    have : m = 0 := by omega
    subst this
    have := hR b ety h1 h2
    simpa using this

theorem eqStringS {v v' : Value} {xs ys : List ByteArray} (h : RSl 1 RS (Av.get w0 σ) v xs) (h' : RSl 1 RS (Av.get w0 σ) v' ys) {R : Value → Vw → Prop} (hR : R (.bool (decide (xs = ys))) σ) : AC Tryd.prog w0 n_laws_eqStringS [v, v'] σ R := by
  refine ac_laws_eqStringS ?_
  unfold vc_laws_eqStringS
  have hl : xs.length ≤ 9223372036854775807 := by obtain ⟨_, _, _, h2, _⟩ := h; exact Nat.le_trans h2.1 h2.2
  rw [h.len, h'.len, pBin_ne, pIf_d]
  refine ⟨fun hne => ?_, fun heq => ?_⟩
  · have : xs ≠ ys := fun e => hne (by rw [e])
    simpa [this] using hR
  · have hlen : xs.length = ys.length := by omega
    refine loop_rule (m := xs.length) (fun m l s => ∃ j, s = σ ∧ m + j = xs.length ∧ xs.take j = ys.take j ∧ l = [v, v', .bool false, .int .i64 (j : Nat)]) ?_ ⟨0, rfl, by omega, by simp, rfl⟩
    rintro m l s L ⟨j, rfl, hm, ht, rfl⟩ hL
    simp only [vget, List.getD_cons_zero, List.getD_cons_succ]
    rw [h.len, pBin_lt, pIf_d]
    refine ⟨fun hj => ?_, fun hj => ?_⟩
    · have hj' : j < xs.length := by omega
      have hx := List.getElem?_eq_getElem hj'
      have hy := List.getElem?_eq_getElem (show j < ys.length by omega)
      refine h.at hx fun g hg => ?_
      obtain ⟨hg, hs⟩ := hg
      simp only [expl, List.cons.injEq, and_true] at hg
      refine h'.at hy fun g' hg' => ?_
      obtain ⟨hg', hs'⟩ := hg'
      simp only [expl, List.cons.injEq, and_true] at hg'
      rw [hg, hg', pBin_sne, pIf_d]
      refine ⟨fun hne => ?_, fun heq => ?_⟩
      · have : xs ≠ ys := fun e => by subst e; exact hne rfl
        simpa [this] using hR
      · rw [pBin_add (by omega)]
        have heq' : xs[j] = ys[j] := Decidable.not_not.1 heq
        refine hL _ _ (m - 1) (by omega) ⟨j + 1, rfl, by omega, ?_, rfl⟩
        rw [List.take_add_one, List.take_add_one, hx, hy, ht, heq']
    · have hj' : j = xs.length := by omega
      subst hj'
      rw [List.take_length, hlen, List.take_length] at ht
      subst ht
      simpa using hR
end
end Go.Proofs.YtlbpnfhhoalenaaDoor

/- A disk's rows: the law 'DiskOk', of the functions alone. -/
set_option linter.unusedVariables false
set_option linter.unusedSimpArgs false
namespace Go.Proofs.YtlbpnfhhoalenaaDoor
open Go Go.Av

section
variable {w0 : World} {σ : Vw}

theorem left_neg {n : Int} {t : Nat} : left n t < 0 ↔ n < t := by unfold left; split <;> omega
theorem left_le {n : Int} {t : Nat} : -1 ≤ left n t ∧ (0 ≤ n → left n t ≤ n) := by unfold left; split <;> omega

/-- The list that a row of ours holds. -/
theorem own_strs0 {b cap : Nat} {r : Row} {xs : List ByteArray} (hb : w0.heap.size ≤ b) (hr : σ b = some r) (hc : r.cells = xs.map .string) (hm : xs.length ≤ cap ∧ cap ≤ 9223372036854775807) (hs : ∀ x, x ∈ xs → x.size ≤ 9223372036854775807) : RSl 1 RS (Av.get w0 σ) (.slice (some ⟨b, 0, none⟩) xs.length cap) xs := by
  refine RSl.own (cs := xs.map fun s => [.string s]) (tail := []) hb hr (by rw [hc, List.append_nil]; clear hc hm hs; induction xs with | nil => rfl | cons x r ih => simp [ih]) (by simp) (by simp) hm ?_
  intro j c x h1 h2
  rw [List.getElem?_map, h2] at h1
  cases h1
  exact ⟨rfl, hs x (List.mem_of_getElem? h2)⟩
theorem strs_le0 {v : Value} {xs : List ByteArray} (h : RSl 1 RS (Av.get w0 σ) v xs) : ∀ x, x ∈ xs → x.size ≤ 9223372036854775807 := by
  obtain ⟨A, cap, _, _, h3⟩ := h
  intro x hx
  obtain ⟨j, hj⟩ := List.getElem?_of_mem hx
  obtain ⟨a, es, _, _, _, h4⟩ := h3 j x hj
  exact h4.2

def okD : List ByteArray → Bool
  | [] => true
  | s :: r => decide (s.size ≤ 64) && okD r
theorem okD_iff {xs : List ByteArray} : okD xs = true ↔ ∀ (j : Nat) (x : ByteArray), xs[j]? = some x → x.size ≤ 64 := by
  induction xs with
  | nil => simp [okD]
  | cons a r ih =>
    simp only [okD, Bool.and_eq_true, decide_eq_true_eq, ih]
    constructor
    · rintro ⟨h1, h2⟩ j x hj
      cases j with
      | zero => simp at hj; subst hj; exact h1
      | succ j => exact h2 j x (by simpa using hj)
    · intro h
      exact ⟨h 0 a rfl, fun j x hj => h (j + 1) x (by simpa using hj)⟩
def diskOk (xs : List ByteArray) : Bool := okD xs && decide (xs.length = 194)

end
end Go.Proofs.YtlbpnfhhoalenaaDoor

/- The lists of texts in rows of their own; marks (a path and a bool) and their lists: size, copy, comparison. -/
set_option linter.unusedVariables false
set_option linter.unusedSimpArgs false
namespace Go.Proofs.YtlbpnfhhoalenaaDoor
open Go Go.Av

/-- A text needs no row. -/
def OStr (σ : Vw) (F : List Nat) (es : List Value) (s : ByteArray) : Prop := F = [] ∧ es = [.string s] ∧ s.size ≤ 9223372036854775807

section
variable {w0 : World} {σ : Vw}

theorem ok_str (w0 : World) : OOk w0 1 RS OStr := by
  refine ⟨?_, ?_, ?_, ?_, ?_, ?_⟩
  · rintro σ F es x ⟨_, h1, h2⟩; exact ⟨h1, h2⟩
  · rintro σ σ' F es x h _; exact h
  · rintro σ F es x ⟨rfl, _, _⟩ b hb; cases hb
  · rintro σ F es x ⟨rfl, _, _⟩; exact List.nodup_nil
  · rintro σ F es x ⟨_, rfl, _⟩; rfl
  · rintro σ F es x ⟨_, rfl, _⟩ c hc; rw [List.mem_singleton.1 hc]; rfl

abbrev OStrs (w0 : World) := OSl w0 1 OStr
theorem mono_rs {rd rd' : Addr → Option Value} {es : List Value} {x : ByteArray} (_ : Le rd rd') (h : RS rd es x) : RS rd' es x := h

theorem strs_le {rd : Addr → Option Value} {v : Value} {xs : List ByteArray} (h : RSl 1 RS rd v xs) : ∀ x, x ∈ xs → x.size ≤ 9223372036854775807 := by
  obtain ⟨A, cap, _, _, h3⟩ := h
  intro x hx
  obtain ⟨j, hj⟩ := List.getElem?_of_mem hx
  obtain ⟨a, es, _, _, _, h4⟩ := h3 j x hj
  exact h4.2

theorem flat_strs (xs : List ByteArray) : xs.map Value.string = (xs.map fun s => [Value.string s]).flatten := by
  induction xs with
  | nil => rfl
  | cons a r ih => simp [ih]

theorem own_strs {b cap : Nat} {r : Row} {xs : List ByteArray} (hb : w0.heap.size ≤ b) (hr : σ b = some r) (hc : r.cells = xs.map .string) (hm : xs.length ≤ cap ∧ cap ≤ 9223372036854775807) (hs : ∀ x, x ∈ xs → x.size ≤ 9223372036854775807) : OStrs w0 σ [b] (.slice (some ⟨b, 0, none⟩) xs.length cap) xs := by
  have hnil : (List.replicate xs.length ([] : List Nat)).flatten = [] := by simp
  refine ⟨Nat.le_trans hm.1 hm.2, by simp, .inr ⟨b, 0, cap, r, [], [], xs.map fun s => [.string s], List.replicate xs.length [], rfl, hm, hb, hr, by rw [hc, flat_strs]; simp, rfl, by simp, by simp, by rw [hnil], fun j c x f e1 e2 e3 => ?_⟩⟩
  rw [List.getElem?_map, e2] at e1
  cases e1
  refine ⟨?_, rfl, hs x (List.mem_of_getElem? e2)⟩
  rw [List.getElem?_replicate] at e3
  split at e3
  · cases e3; rfl
  · cases e3

theorem toStringS' {v : Value} {xs : List ByteArray} (h : RSl 1 RS (Av.get w0 σ) v xs) (hb : xs.length ≤ 1000000000000) {R : Value → Vw → Prop}
    (hR : ∀ v' F σ', Keeps σ σ' → OStrs w0 σ' F v' xs → (∀ b, b ∈ F → σ b = none) → R v' σ') : AC Tryd.prog w0 n_laws_toStringS [v] σ R :=
  toStringS h hb fun b ety h1 h2 => hR _ [b] _ (Keeps.put h2) (own_strs h1 put_at rfl ⟨Nat.le_refl _, h.le⟩ (strs_le h)) fun i hi => by rw [List.mem_singleton.1 hi]; exact h2

/-- A mark: a path, and a bool. -/
abbrev Mk := List ByteArray × Bool
def RMk (rd : Addr → Option Value) (es : List Value) (m : Mk) : Prop := ∃ v, es = [v, .bool m.2] ∧ RSl 1 RS rd v m.1
def OMk (w0 : World) (σ : Vw) (F : List Nat) (es : List Value) (m : Mk) : Prop := ∃ v, es = [v, .bool m.2] ∧ OStrs w0 σ F v m.1
def szMk (m : Mk) : Nat := m.1.length + sumS m.1

theorem OSl.one' {α : Type} {n : Nat} {O : Vw → List Nat → List Value → α → Prop} {F : List Nat} {v : Value} {xs : List α} (h : OSl w0 n O σ F v xs) : v.oneCell' = true := by
  obtain ⟨_, _, ⟨rfl, _⟩ | ⟨_, _, _, _, _, _, _, _, rfl, _⟩⟩ := h <;> rfl

theorem ok_mk (w0 : World) : OOk w0 2 RMk (OMk w0) := by
  refine ⟨?_, ?_, ?_, ?_, ?_, ?_⟩
  · rintro σ F es x ⟨v, h1, h2⟩; exact ⟨v, h1, h2.rel (ok_str w0)⟩
  · rintro σ σ' F es x ⟨v, h1, h2⟩ hF; exact ⟨v, h1, h2.frame (ok_str w0) hF⟩
  · rintro σ F es x ⟨v, h1, h2⟩; exact h2.dom (ok_str w0)
  · rintro σ F es x ⟨v, h1, h2⟩; exact h2.2.1
  · rintro σ F es x ⟨v, rfl, h2⟩; rfl
  · rintro σ F es x ⟨v, rfl, h2⟩ c hc
    simp at hc
    rcases hc with rfl | rfl
    · exact OSl.one' h2
    · rfl
theorem mono_mk {rd rd' : Addr → Option Value} {es : List Value} {x : Mk} (hl : Le rd rd') (h : RMk rd es x) : RMk rd' es x := by
  obtain ⟨v, h1, h2⟩ := h; exact ⟨v, h1, h2.mono hl fun _ _ h => h⟩

theorem sumS_eq (xs : List ByteArray) : sumS xs = sumBy ByteArray.size xs := by
  induction xs with
  | nil => rfl
  | cons a r ih => simp [sumS, sumBy, ih]

theorem eqMark {es es' : List Value} {x y : Mk} {R : Value → Vw → Prop} (h : RMk (Av.get w0 σ) es x) (h' : RMk (Av.get w0 σ) es' y) (hR : R (.bool (decide (x = y))) σ) : AC Tryd.prog w0 n_laws_eqMark [.agg ⟨es⟩, .agg ⟨es'⟩] σ R := by
  obtain ⟨v, rfl, h2⟩ := h
  obtain ⟨v', rfl, h2'⟩ := h'
  refine ac_laws_eqMark ?_
  unfold vc_laws_eqMark
  rw [pVal_2 h2.one rfl, pVal_2 h2'.one rfl]
  refine eqStringS h2 h2' ?_
  obtain ⟨a, p⟩ := x
  obtain ⟨b, q⟩ := y
  have eb : ∀ K : Value → Prop, pBin Tryd.prog 4 .neq (.bool p) (.bool q) K ↔ K (.bool !(p == q)) := fun K => pBin_b (by kernel_rfl) rfl
  rw [pUn_not, pIf_b]
  simp only [cellOf_agg, List.getD_cons_zero, List.getD_cons_succ]
  rw [eb, pIf_b]
  by_cases e1 : a = b
  · subst e1
    by_cases e2 : p = q
    · subst e2; simpa using hR
    · simpa [e2] using hR
  · simpa [e1] using hR

theorem eqMarkS {v v' : Value} {xs ys : List Mk} (h : RSl 2 RMk (Av.get w0 σ) v xs) (h' : RSl 2 RMk (Av.get w0 σ) v' ys) {R : Value → Vw → Prop} (hR : R (.bool (decide (xs = ys))) σ) : AC Tryd.prog w0 n_laws_eqMarkS [v, v'] σ R := by
  refine ac_laws_eqMarkS ?_
  have e : vc_laws_eqMarkS w0 v v' σ R = VeqS Tryd.prog w0 3 2 n_laws_eqMark v v' σ R := by kernel_rfl
  rw [e]
  exact eqS_gen (fun x _ y es es' R' h h' hR => eqMark h h' hR) h h' hR
end
end Go.Proofs.YtlbpnfhhoalenaaDoor

/- Names: their letters and their length. -/
set_option linter.unusedVariables false
set_option linter.unusedSimpArgs false
namespace Go.Proofs.YtlbpnfhhoalenaaDoor
open Go Go.Av

theorem pIndexStr_s {s : ByteArray} {j : Nat} {K : Value → Prop} (h : j < s.size) (hK : K (.int .u8 ((s[j]'h).toNat : Int))) : pIndexStr (.string s) (.int .i64 j) K :=
  ⟨s, .i64, j, rfl, rfl, by omega, h, hK⟩

def okB (n : Nat) : Prop := (97 ≤ n ∧ n ≤ 122) ∨ (48 ≤ n ∧ n ≤ 57)
/-- Within two bounds. -/
def inB (n lo hi : Int) : Bool := decide (lo ≤ n ∧ n ≤ hi)
def lettersOk (s : ByteArray) : Prop := ∀ (i : Nat) (h : i < s.size), okB (s[i]'h).toNat
open Classical in
noncomputable def nameOk (s : ByteArray) : Bool := decide (lettersOk s) && inB s.size 1 5

section
variable {w0 : World} {σ : Vw}

theorem spec_In {n lo hi : Int} {R : Value → Vw → Prop} (hR : R (.bool (inB n lo hi)) σ) : AC Tryd.prog w0 n_spec_l1In [.int .i64 n, .int .i64 lo, .int .i64 hi] σ R := by
  refine ac_spec_l1In ?_
  unfold vc_spec_l1In
  rw [pBin_ge, pIf_d]
  refine ⟨fun h => ?_, fun h => ?_⟩
  · rw [pBin_le]
    have : inB n lo hi = decide (n ≤ hi) := by simp [inB, h]
    rw [this] at hR; exact hR
  · have : inB n lo hi = false := by simp [inB, h]
    rw [this] at hR; exact hR
theorem impl_within {n lo hi : Int} {R : Value → Vw → Prop} (hR : R (.bool (inB n lo hi)) σ) : AC Tryd.prog w0 n_impl_within [.int .i64 n, .int .i64 lo, .int .i64 hi] σ R := by
  refine ac_impl_within ?_
  unfold vc_impl_within
  rw [pBin_ge, pIf_d]
  refine ⟨fun h => ?_, fun h => ?_⟩
  · rw [pBin_le]
    have : inB n lo hi = decide (n ≤ hi) := by simp [inB, h]
    rw [this] at hR; exact hR
  · have : inB n lo hi = false := by simp [inB, h]
    rw [this] at hR; exact hR

theorem nameOk_bad {s : ByteArray} {j : Nat} (h : j < s.size) (hb : ¬ okB (s[j]'h).toNat) : nameOk s = false := by
  have : ¬ lettersOk s := fun h' => hb (h' j h)
  simp [nameOk, this]
theorem nameOk_good {s : ByteArray} (h : lettersOk s) : nameOk s = inB s.size 1 5 := by simp [nameOk, h]

theorem spec_nameOk {s : ByteArray} (hs : s.size ≤ 9223372036854775807) {R : Value → Vw → Prop} (hR : R (.bool (nameOk s)) σ) : AC Tryd.prog w0 n_spec_l1NameOk [.string s] σ R := by
  refine ac_spec_l1NameOk ?_
  unfold vc_spec_l1NameOk
  refine loop_rule (m := s.size) (fun m l t => ∃ j, t = σ ∧ m + j = s.size ∧ (∀ (i : Nat) (h : i < s.size), i < j → okB (s[i]'h).toNat) ∧ l = [.string s, .bool false, .int .i64 (j : Nat)]) ?_ ⟨0, rfl, by omega, fun i h h' => by omega, rfl⟩
  rintro m l t L ⟨j, rfl, hm, ht, rfl⟩ hL
  simp only [vget, List.getD_cons_zero, List.getD_cons_succ]
  rw [pLenS_s, pBin_lt, pIf_d]
  refine ⟨fun hj => ?_, fun hj => ?_⟩
  · have hj' : j < s.size := by omega
    have bad : ¬ okB (s[j]'hj').toNat → R (.bool false) t := fun h => by rw [nameOk_bad hj' h] at hR; exact hR
    have good : okB (s[j]'hj').toNat → L [.string s, .bool false, .int .i64 ((j + 1 : Nat) : Int)] t := fun h => hL _ _ (m - 1) (by omega) ⟨j + 1, rfl, by omega, fun i hi hij => by
      by_cases e : i = j
      · subst e; exact h
      · exact ht i hi (by omega), rfl⟩
    have add : ∀ K : Value → Prop, pBin Tryd.prog 3 .add (.int .i64 j) (.int .i64 1) K ↔ K (.int .i64 ((j + 1 : Nat) : Int)) := fun K => pBin_add (by omega)
    have idx : ∀ K : Value → Prop, K (.int .u8 ((s[j]'hj').toNat : Int)) → pIndexStr (.string s) (.int .i64 j) K := fun K hK => pIndexStr_s hj' hK
    simp only [add, pUn_not, pIf_b, Bool.not_true, Bool.not_false, forall_const, Bool.false_eq_true, false_imp_iff, true_imp_iff, true_and, and_true, reduceCtorEq]
    refine idx _ ?_
    rw [pBin_ge, pIf_d]
    refine ⟨fun h1 => idx _ ?_, fun h1 => idx _ ?_⟩
    · rw [pBin_le, pIf_d]
      refine ⟨fun h2 => good (.inl ⟨by omega, by omega⟩), fun h2 => idx _ ?_⟩
      rw [pBin_ge, pIf_d]
      refine ⟨fun h3 => idx _ ?_, fun h3 => bad fun h => by unfold okB at h; omega⟩
      rw [pBin_le, pUn_not, pIf_b]
      refine ⟨fun h4 => bad fun h => ?_, fun h4 => good ?_⟩
      · unfold okB at h; simp at h4; omega
      · simp at h4; exact .inr ⟨by omega, by omega⟩
    · rw [pBin_ge, pIf_d]
      refine ⟨fun h3 => idx _ ?_, fun h3 => bad fun h => by unfold okB at h; omega⟩
      rw [pBin_le, pUn_not, pIf_b]
      refine ⟨fun h4 => bad fun h => ?_, fun h4 => good ?_⟩
      · unfold okB at h; simp at h4; omega
      · simp at h4; exact .inr ⟨by omega, by omega⟩
  · have hj' : j = s.size := by omega
    subst hj'
    show pLenS (.string s) _
    rw [pLenS_s]
    refine spec_In ?_
    rw [nameOk_good fun i h => ht i h h] at hR
    exact hR

theorem impl_nameOk {s : ByteArray} (hs : s.size ≤ 9223372036854775807) {R : Value → Vw → Prop} (hR : R (.bool (nameOk s)) σ) : AC Tryd.prog w0 n_impl_nameOk [.string s] σ R := by
  refine ac_impl_nameOk ?_
  unfold vc_impl_nameOk
  rw [pLenS_s]
  refine loop_rule (m := s.size) (fun m l t => ∃ j, t = σ ∧ m + j = s.size ∧ (∀ (i : Nat) (h : i < s.size), i < j → okB (s[i]'h).toNat) ∧ l = [.string s, .bool false, .int .i64 s.size, .int .i64 (j : Nat)]) ?_ ⟨0, rfl, by omega, fun i h h' => by omega, rfl⟩
  rintro m l t L ⟨j, rfl, hm, ht, rfl⟩ hL
  simp only [vget, List.getD_cons_zero, List.getD_cons_succ]
  rw [pBin_lt, pIf_d]
  refine ⟨fun hj => ?_, fun hj => ?_⟩
  · have hj' : j < s.size := by omega
    have bad : ¬ okB (s[j]'hj').toNat → R (.bool false) t := fun h => by rw [nameOk_bad hj' h] at hR; exact hR
    have good : okB (s[j]'hj').toNat → L [.string s, .bool false, .int .i64 s.size, .int .i64 ((j + 1 : Nat) : Int)] t := fun h => hL _ _ (m - 1) (by omega) ⟨j + 1, rfl, by omega, fun i hi hij => by
      by_cases e : i = j
      · subst e; exact h
      · exact ht i hi (by omega), rfl⟩
    have add : ∀ K : Value → Prop, pBin Tryd.prog 3 .add (.int .i64 j) (.int .i64 1) K ↔ K (.int .i64 ((j + 1 : Nat) : Int)) := fun K => pBin_add (by omega)
    have idx : ∀ K : Value → Prop, K (.int .u8 ((s[j]'hj').toNat : Int)) → pIndexStr (.string s) (.int .i64 j) K := fun K hK => pIndexStr_s hj' hK
    simp only [add]
    refine idx _ ?_
    rw [pBin_lt, pIf_d]
    refine ⟨fun h1 => idx _ ?_, fun h1 => idx _ ?_⟩
    · rw [pBin_lt, pIf_d]
      refine ⟨fun h2 => bad fun h => by unfold okB at h; omega, fun h2 => idx _ ?_⟩
      rw [pBin_gt, pIf_d]
      exact ⟨fun h3 => bad fun h => by unfold okB at h; omega, fun h3 => good (.inr ⟨by omega, by omega⟩)⟩
    · rw [pBin_gt, pIf_d]
      refine ⟨fun h2 => idx _ ?_, fun h2 => good (.inl ⟨by omega, by omega⟩)⟩
      rw [pBin_lt, pIf_d]
      refine ⟨fun h2 => bad fun h => by unfold okB at h; omega, fun h2 => idx _ ?_⟩
      rw [pBin_gt, pIf_d]
      exact ⟨fun h3 => bad fun h => by unfold okB at h; omega, fun h3 => good (.inr ⟨by omega, by omega⟩)⟩
  · have hj' : j = s.size := by omega
    subst hj'
    show pLenS (.string s) _
    rw [pLenS_s]
    refine impl_within ?_
    rw [nameOk_good fun i h => ht i h h] at hR
    exact hR
end
end Go.Proofs.YtlbpnfhhoalenaaDoor

/- Marks of texts. -/
set_option linter.unusedVariables false
set_option linter.unusedSimpArgs false
namespace Go.Proofs.YtlbpnfhhoalenaaDoor
open Go Go.Av

/-- How many figures a number has. -/
def figs (k : Nat) : Nat := if h : k = 0 then 0 else figs (k / 10) + 1
termination_by k
theorem figs_le (k : Nat) : figs k ≤ k := by
  induction k using Nat.strongRecOn with
  | _ k ih =>
    rw [figs]
    by_cases h : k = 0
    · simp [h]
    · rw [dif_neg h]
      have := ih (k / 10) (by omega)
      omega
def digit (n : Nat) : ByteArray := strOfNums [((48 + n % 10 : Nat) : Int)]
theorem size_strOfNums (xs : List Int) : (strOfNums xs).size = xs.length := by
  simp [strOfNums, ByteArray.size]
/-- The figures of a number, ahead of a text. -/
def mtxt (k : Nat) (out : ByteArray) : ByteArray := if h : k = 0 then out else mtxt (k / 10) (digit k ++ out)
termination_by k
theorem mtxt_size (k : Nat) : ∀ out, (mtxt k out).size = out.size + figs k := by
  induction k using Nat.strongRecOn with
  | _ k ih =>
    intro out
    rw [mtxt, figs]
    by_cases h : k = 0
    · simp [h]
    · rw [dif_neg h, dif_neg h, ih (k / 10) (by omega), ByteArray.size_append, digit, size_strOfNums]
      simp; omega
/-- What marks the number k. -/
def mtext (k : Nat) : ByteArray := if k = 0 then ⟨#[109, 48]⟩ else ⟨#[109]⟩ ++ mtxt k ⟨#[]⟩
theorem mtext_size {k : Nat} (h : k ≤ 1000000000000) : (mtext k).size ≤ 9223372036854775807 := by
  unfold mtext
  split
  · show 2 ≤ _; omega
  · rw [ByteArray.size_append, mtxt_size]
    have := figs_le k
    show 1 + (0 + _) ≤ _
    omega

section
variable {w0 : World} {σ : Vw}

theorem markText {k : Nat} (hk : k ≤ 1000000000000) {R : Value → Vw → Prop} (hR : ∀ σ', Keeps σ σ' → R (.string (mtext k)) σ') : AC Tryd.prog w0 n_laws_markText [.int .i64 (k : Nat)] σ R := by
  refine ac_laws_markText ?_
  unfold vc_laws_markText
  rw [pBin_le, pIf_d]
  refine ⟨fun h => ?_, fun h => ?_⟩
  · have : k = 0 := by omega
    subst this
    exact hR σ (Keeps.refl σ)
  · have hk0 : k ≠ 0 := by omega
    have e : mtext k = ⟨#[109]⟩ ++ mtxt k ⟨#[]⟩ := by rw [mtext, if_neg hk0]
    rw [e] at hR
    have hf := figs_le k
    refine loop_rule (m := figs k) (fun m l s => ∃ (n : Nat) (out : ByteArray), m = figs n ∧ n ≤ k ∧ out.size + figs n ≤ 1000000000000 ∧ mtxt n out = mtxt k ⟨#[]⟩ ∧ Keeps σ s ∧ l = [.int .i64 (n : Nat), .string out]) ?_ ⟨k, ⟨#[]⟩, rfl, Nat.le_refl _, by show 0 + _ ≤ _; omega, rfl, Keeps.refl σ, rfl⟩
    rintro m l s L ⟨n, out, rfl, hn, hsz, hm, hkp, rfl⟩ hL
    simp only [vget, List.getD_cons_zero, List.getD_cons_succ]
    rw [pBin_gt, pIf_d]
    refine ⟨fun hpos => ?_, fun h0 => ?_⟩
    · have hn0 : n ≠ 0 := by omega
      have hfig : figs n = figs (n / 10) + 1 := by rw [figs, dif_neg hn0]
      rw [pBin_rem (by omega), pBin_add (by omega)]
      show pConvInt .u8 _ _
      rw [pConv_u8 (by omega), show (48 + ((n : Int) % 10)) = ((48 + n % 10 : Nat) : Int) by omega, pVal1 rfl]
      intro b h1 h2
      refine pStr1 (by rw [get_row h1 put_at]; rfl) ?_
      show pBin Tryd.prog 9 .add (.string (digit n)) _ _
      have hd : (digit n).size = 1 := by rw [digit, size_strOfNums]; rfl
      rw [pBin_cat (by omega)]
      rw [pBin_quo (by omega), show ((n : Int) / 10) = ((n / 10 : Nat) : Int) by omega]
      refine hL _ _ (figs (n / 10)) hfig.symm ⟨n / 10, digit n ++ out, rfl, by omega, by rw [ByteArray.size_append, hd]; omega, ?_, hkp.trans (Keeps.put h2), rfl⟩
      rw [← hm]; conv => rhs; rw [mtxt, dif_neg hn0]
    · have hn0 : n = 0 := by omega
      subst hn0
      rw [mtxt, dif_pos rfl] at hm
      subst hm
      have hs := mtxt_size k ⟨#[]⟩
      show pBin Tryd.prog 9 .add (.string ⟨#[109]⟩) _ _
      rw [pBin_cat (by rw [hs]; show 1 + (0 + _) ≤ _; omega)]
      exact hR s hkp

abbrev mkTexts (k : Nat) (xs : List ByteArray) : List ByteArray := mkS (fun k _ => mtext k) (fun _ => 1) k xs
theorem sum_one {α : Type} (xs : List α) : sumBy (fun _ => 1) xs = xs.length := by
  induction xs with
  | nil => rfl
  | cons a r ih => simp only [sumBy, ih, List.length_cons]; omega

theorem markStringS {F : List Nat} {v : Value} {xs : List ByteArray} {k : Nat} (h : OStrs w0 σ F v xs) (hk : k + xs.length ≤ 1000000000000) {R : Value → Vw → Prop}
    (hR : ∀ σ', KeepsBut F σ σ' → OStrs w0 σ' F v (mkTexts k xs) → R (.int .i64 ((k + xs.length : Nat) : Int)) σ') : AC Tryd.prog w0 n_laws_markStringS [v, .int .i64 (k : Nat)] σ R := by
  refine ac_laws_markStringS ?_
  unfold vc_laws_markStringS
  have e := sum_one xs
  rw [← e] at hk hR
  refine mark_loop (ok_str w0) (mk := fun k _ => mtext k) (cnt := fun _ => 1) h hk ?_ hR
  intro j x k' s ys K hj hlen hkb hx hk' hO hyj hK
  simp only [vget, List.getD_cons_zero, List.getD_cons_succ]
  refine markText (by omega) fun s1 k1 => ?_
  have hO1 := hO.frame (ok_str w0) (σ' := s1) (fun b hb => by
    cases hs : s b with
    | none => exact absurd hs (hO.dom (ok_str w0) b hb).2
    | some r => exact k1 b r hs)
  obtain ⟨b, o, f, c, A, C, r, hix, hb, hr, hc, hA, hOx, hbF, hf, hput⟩ := hO1.focus (ok_str w0) hyj
  obtain ⟨rfl, rfl, hsz⟩ := hOx
  refine hix _ ?_
  refine elem_store hr hc hA rfl ?_
  rw [pBin_add (by omega)]
  rw [pBin_add (by have := h.1; omega)]
  have hO2 := hput (s1.put b { r with cells := A ++ ([.string (mtext k')] ++ C) }) [.string (mtext k')] (mtext k') _ put_at rfl ⟨rfl, rfl, mtext_size (by omega)⟩ (fun i hi hne _ => by simp [Vw.put, hne])
  have := hK _ (k1.but.trans (KeepsBut.put hbF)) hO2
  simpa using this

theorem heldStringS {v : Value} {xs : List ByteArray} {k : Nat} (h : RSl 1 RS (Av.get w0 σ) v (mkTexts k xs)) (hk : k + xs.length ≤ 1000000000000) {R : Value → Vw → Prop}
    (hR : ∀ σ', Keeps σ σ' → R (.int .i64 ((k + xs.length : Nat) : Int)) σ') : AC Tryd.prog w0 n_laws_heldStringS [v, .int .i64 (k : Nat)] σ R := by
  refine ac_laws_heldStringS ?_
  unfold vc_laws_heldStringS
  have e := sum_one xs
  rw [← e] at hk hR
  refine held_loop (n := 1) (Rel := RS) (fun _ _ _ _ hl h => mono_rs hl h) (mk := fun k _ => mtext k) (cnt := fun _ => 1) h hk ?_ hR
  intro j x k' s K hj hkb hx hk' hrd hyj hK
  simp only [vget, List.getD_cons_zero, List.getD_cons_succ]
  have hl := h.le
  rw [mkS_len] at hl
  refine RSl.atp hrd hyj fun p g hg => ?_
  obtain ⟨hg, hs⟩ := hg
  simp only [expl, List.cons.injEq, and_true] at hg
  refine markText (by omega) fun s1 k1 => ⟨k1.stay, ?_⟩
  rw [hg, pBin_sne, pIf_d]
  refine ⟨fun h => absurd rfl h, fun _ => ?_⟩
  rw [pBin_add (by omega)]
  rw [pBin_add (by omega)]
  have := hK _ k1
  simpa using this
end
end Go.Proofs.YtlbpnfhhoalenaaDoor

/- Writes of a disk: the law 'DiskWrite', of the functions alone. -/
set_option linter.unusedVariables false
set_option linter.unusedSimpArgs false
namespace Go.Proofs.YtlbpnfhhoalenaaDoor
open Go Go.Av

abbrev Rw := Int × ByteArray
def encRaw (x : Rw) : List Value := [.int .i64 x.1, .string x.2]
def goodRaw (x : Rw) : Prop := (-9223372036854775808 ≤ x.1 ∧ x.1 ≤ 9223372036854775807) ∧ x.2.size ≤ 9223372036854775807
def szRw (x : Rw) : Nat := x.2.size
abbrev RRaw := RFl encRaw goodRaw
abbrev ORaw := OFl encRaw goodRaw
theorem rok_raw : ROk 2 RRaw := rok_fl (n := 2) (enc := encRaw) (good := goodRaw) (fun _ => rfl) (fun x c h => by simp [encRaw] at h; rcases h with rfl | rfl <;> rfl)
theorem ok_raw (w0 : World) : OOk w0 2 RRaw ORaw := ok_fl (n := 2) (enc := encRaw) (good := goodRaw) (fun _ => rfl) (fun x c h => by simp [encRaw] at h; rcases h with rfl | rfl <;> rfl) w0
theorem rok_str : ROk 1 RS := ⟨fun _ _ _ _ _ h => h, fun _ _ _ h => by rw [h.1]; rfl, fun _ _ _ h c hc => by rw [h.1] at hc; rw [List.mem_singleton.1 hc]; rfl⟩

section
variable {w0 : World} {σ : Vw}

def mkRaw (k : Nat) (_ : Rw) : Rw := ((k : Int), mtext (k + 1))
end
end Go.Proofs.YtlbpnfhhoalenaaDoor

/- The law 'DiskWrite', of the functions alone. -/
set_option linter.unusedVariables false
set_option linter.unusedSimpArgs false
namespace Go.Proofs.YtlbpnfhhoalenaaDoor
open Go Go.Av

/-- One write. -/
def setD (bs : List ByteArray) (x : Rw) : List ByteArray := if inB x.1 0 193 = true ∧ x.2.size ≤ 64 then bs.set x.1.toNat x.2 else bs
def runD (bs : List ByteArray) (xs : List Rw) : List ByteArray := xs.foldl setD bs
theorem runD_len (bs : List ByteArray) (xs : List Rw) : (runD bs xs).length = bs.length := by
  induction xs generalizing bs with
  | nil => rfl
  | cons x r ih =>
    have : runD bs (x :: r) = runD (setD bs x) r := rfl
    rw [this, ih]
    unfold setD; split
    · rw [List.length_set]
    · rfl
def cutN (cut : Int) (n : Nat) : Nat := (min (max cut 0) n).toNat
def writeD (bs : List ByteArray) (xs : List Rw) (cut : Int) : List ByteArray := if diskOk bs = true then runD bs (xs.take (cutN cut xs.length)) else []

section
variable {w0 : World} {σ : Vw}

theorem take_all {xs : List Rw} {bs : List ByteArray} {j : Nat} {x : Rw} (hj : xs[j]? = some x) : runD bs (xs.take (j + 1)) = setD (runD bs (xs.take j)) x := foldl_take hj

/-- A text of a list of our own is written. -/
theorem str_store {F : List Nat} {v : Value} {xs : List ByteArray} (h : OStrs w0 σ F v xs) {j : Nat} {x y : ByteArray} (hj : xs[j]? = some x) (hy : y.size ≤ 9223372036854775807) {K : Vw → Prop}
    (hK : ∀ σ', KeepsBut F σ σ' → OStrs w0 σ' F v (xs.set j y) → K σ') : pIndexAddr 1 v (.int .i64 j) fun p => pVal false 1 (.string y) (pStore p [.string y] σ K) := by
  obtain ⟨b, o, f, c, A, C, r, hix, hb, hr, hc, hA, hOx, hbF, hf, hput⟩ := h.focus (ok_str w0) hj
  obtain ⟨rfl, rfl, hsz⟩ := hOx
  refine hix _ ?_
  refine elem_store hr hc hA rfl ?_
  exact hK _ (KeepsBut.put hbF) (hput _ [.string y] y _ put_at rfl ⟨rfl, rfl, hy⟩ fun i hi hne _ => by simp [Vw.put, hne])

end
end Go.Proofs.YtlbpnfhhoalenaaDoor
