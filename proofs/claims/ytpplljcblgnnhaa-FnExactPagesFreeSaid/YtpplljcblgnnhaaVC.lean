/- What each function owes, reckoned out. MADE BY PROGRAM (emit.py). -/
import Derived.Test.YtpplljcblgnnhaaProg
import Derived.Test.YtpplljcblgnnhaaA14
set_option linter.unusedVariables false
namespace Go.Proofs.Ytpplljcblgnnhaa
open Go Go.Av

abbrev t_int64 : Nat := 2
abbrev t_int : Nat := 3
abbrev t_bool : Nat := 4
abbrev t_uint8 : Nat := 5
abbrev t_abi_BoundsErrorCode : Nat := 6
abbrev t_runtime_boundsError : Nat := 8
abbrev t_string : Nat := 9
abbrev t_runtime_errorString : Nat := 10
abbrev t_runtime_plainError : Nat := 11
abbrev t_uintptr : Nat := 12
abbrev t_runtime_errorAddressString : Nat := 14
abbrev t_p_runtime_TypeAssertionError : Nat := 15
abbrev t_p_runtime_PanicNilError : Nat := 16
abbrev t_p_abi_Type : Nat := 17
abbrev t_maps_unhashableTypeError : Nat := 19
abbrev t_int32 : Nat := 21
abbrev t_s_string : Nat := 25
abbrev t_laws_Disk : Nat := 27
abbrev t_impl_Disk : Nat := 30
abbrev t_s_impl_Page : Nat := 34
abbrev t_s_impl_PageName : Nat := 35
abbrev t_impl_Pages : Nat := 37
abbrev t_s_laws_Tree : Nat := 41
abbrev t_laws_Tree : Nat := 43
abbrev t_s_impl_Tree : Nat := 46
abbrev t_impl_Tree : Nat := 48
abbrev t_s_laws_Raw : Nat := 53
abbrev t_s_impl_Raw : Nat := 56
abbrev t_s_laws_Mark : Nat := 62
abbrev t_s_impl_Mark : Nat := 65
abbrev t_s_laws_Page : Nat := 69
abbrev t_s_laws_PageName : Nat := 70
abbrev t_laws_Pages : Nat := 72
abbrev t_impl_Page : Nat := 90
abbrev t_laws_Raw : Nat := 103
abbrev t_impl_Raw : Nat := 106
abbrev t_laws_Mark : Nat := 113
abbrev t_impl_Mark : Nat := 115
abbrev t_s_bool : Nat := 122
abbrev t_impl_PageName : Nat := 124
abbrev t_s_int : Nat := 125
abbrev t_a96_bool : Nat := 130
abbrev t_p_impl_Tree : Nat := 134
abbrev t_s_uint8 : Nat := 139
abbrev t_laws_Page : Nat := 144
abbrev t_laws_PageName : Nat := 146
abbrev t_runtime_TypeAssertionError : Nat := 156
abbrev t_a0_p_runtime_PanicNilError : Nat := 157
abbrev t_runtime_PanicNilError : Nat := 159
abbrev t_uint32 : Nat := 160
abbrev t_abi_TFlag : Nat := 161
abbrev t_abi_Kind : Nat := 162
abbrev t_p_uint8 : Nat := 164
abbrev t_abi_NameOff : Nat := 165
abbrev t_abi_TypeOff : Nat := 166
abbrev t_abi_Type : Nat := 168
abbrev t_unsafe_Pointer : Nat := 170
abbrev n_laws_FnExactConstants : Nat := 3
abbrev n_laws_FnExactPagesNeed : Nat := 4
abbrev n_laws_FnExactDiskOk : Nat := 5
abbrev n_laws_FnExactPagesNew : Nat := 6
abbrev n_laws_FnExactTreeOk : Nat := 7
abbrev n_laws_FnExactTreeCount : Nat := 8
abbrev n_laws_FnExactDiskWrite : Nat := 9
abbrev n_laws_FnExactTrailOk : Nat := 10
abbrev n_laws_FnExactPagesOk : Nat := 11
abbrev n_laws_FnExactTreeRead : Nat := 12
abbrev n_laws_FnExactPagesFree : Nat := 13
abbrev n_laws_FnExactTreeList : Nat := 14
abbrev n_spec_PagesNeed : Nat := 15
abbrev n_impl_PagesNeed : Nat := 16
abbrev n_laws_szDisk : Nat := 17
abbrev n_spec_DiskOk : Nat := 18
abbrev n_laws_toDisk : Nat := 19
abbrev n_impl_DiskOk : Nat := 20
abbrev n_laws_eqDisk : Nat := 21
abbrev n_spec_PagesNew : Nat := 22
abbrev n_impl_PagesNew : Nat := 23
abbrev n_laws_eqPages : Nat := 24
abbrev n_laws_markPages : Nat := 25
abbrev n_laws_heldPages : Nat := 26
abbrev n_laws_szTree : Nat := 27
abbrev n_spec_TreeOk : Nat := 28
abbrev n_laws_toTree : Nat := 29
abbrev n_impl_TreeOk : Nat := 30
abbrev n_laws_eqTree : Nat := 31
abbrev n_spec_TreeCount : Nat := 32
abbrev n_impl_TreeCount : Nat := 33
abbrev n_laws_szRawS : Nat := 34
abbrev n_spec_DiskWrite : Nat := 35
abbrev n_laws_toRawS : Nat := 36
abbrev n_impl_DiskWrite : Nat := 37
abbrev n_laws_eqRawS : Nat := 38
abbrev n_laws_markDisk : Nat := 39
abbrev n_laws_markRawS : Nat := 40
abbrev n_laws_heldDisk : Nat := 41
abbrev n_laws_szMarkS : Nat := 42
abbrev n_spec_TrailOk : Nat := 43
abbrev n_laws_toMarkS : Nat := 44
abbrev n_impl_TrailOk : Nat := 45
abbrev n_laws_eqMarkS : Nat := 46
abbrev n_laws_szPages : Nat := 47
abbrev n_spec_PagesOk : Nat := 48
abbrev n_laws_toPages : Nat := 49
abbrev n_impl_PagesOk : Nat := 50
abbrev n_laws_szStringS : Nat := 51
abbrev n_spec_TreeRead : Nat := 52
abbrev n_laws_toStringS : Nat := 53
abbrev n_impl_TreeRead : Nat := 54
abbrev n_laws_eqStringS : Nat := 55
abbrev n_spec_PagesFree : Nat := 56
abbrev n_impl_PagesFree : Nat := 57
abbrev n_spec_TreeList : Nat := 58
abbrev n_impl_TreeList : Nat := 59
abbrev n_laws_markTree : Nat := 60
abbrev n_laws_markStringS : Nat := 61
abbrev n_laws_heldStringS : Nat := 62
abbrev n_impl_pieces : Nat := 63
abbrev n_laws_eqPageS : Nat := 64
abbrev n_laws_eqPageNameS : Nat := 65
abbrev n_laws_markPageS : Nat := 66
abbrev n_laws_markPageNameS : Nat := 67
abbrev n_laws_heldPageS : Nat := 68
abbrev n_laws_heldPageNameS : Nat := 69
abbrev n_laws_szTreeS : Nat := 70
abbrev n_spec_l1Parts : Nat := 71
abbrev n_spec_l1Count : Nat := 72
abbrev n_laws_toTreeS : Nat := 73
abbrev n_impl_Tree_sound : Nat := 74
abbrev n_impl_Tree_paths : Nat := 75
abbrev n_laws_eqTreeS : Nat := 76
abbrev n_laws_szRaw : Nat := 77
abbrev n_spec_l21Copy : Nat := 78
abbrev n_spec_l21RawOk : Nat := 79
abbrev n_laws_toRaw : Nat := 80
abbrev n_impl_cloneDisk : Nat := 81
abbrev n_impl_within : Nat := 82
abbrev n_laws_eqRaw : Nat := 83
abbrev n_laws_markText : Nat := 84
abbrev n_laws_szMark : Nat := 85
abbrev n_spec_l11MarkOk : Nat := 86
abbrev n_spec_l11Less : Nat := 87
abbrev n_spec_l2Within : Nat := 88
abbrev n_laws_toMark : Nat := 89
abbrev n_impl_markOk : Nat := 90
abbrev n_slices_Compare_string_string : Nat := 91
abbrev n_impl_under : Nat := 92
abbrev n_laws_eqMark : Nat := 93
abbrev n_laws_szPageS : Nat := 94
abbrev n_laws_szPageNameS : Nat := 95
abbrev n_spec_l1NameOk : Nat := 96
abbrev n_spec_l1In : Nat := 97
abbrev n_spec_l32Chain : Nat := 98
abbrev n_laws_toPageS : Nat := 99
abbrev n_laws_toPageNameS : Nat := 100
abbrev n_impl_nameOk : Nat := 101
abbrev n_impl_Pages_chain : Nat := 102
abbrev n_spec_l1At : Nat := 103
abbrev n_p_impl_Tree_at : Nat := 104
abbrev n_spec_l32Free : Nat := 105
abbrev n_impl_Pages_free : Nat := 106
abbrev n_laws_markTreeS : Nat := 107
abbrev n_laws_eqPage : Nat := 108
abbrev n_laws_eqPageName : Nat := 109
abbrev n_spec_l1Plain : Nat := 110
abbrev n_impl_modeOk : Nat := 111
abbrev n_spec_l21In : Nat := 112
abbrev n_spec_l2PathOk : Nat := 113
abbrev n_impl_namesOk : Nat := 114
abbrev n_cmp_Compare_string : Nat := 115
abbrev n_impl_begins : Nat := 116
abbrev n_laws_szPage : Nat := 117
abbrev n_laws_szPageName : Nat := 118
abbrev n_laws_toPage : Nat := 119
abbrev n_laws_toPageName : Nat := 120
abbrev n_slices_Contains_int_int : Nat := 121
abbrev n_spec_l1Find : Nat := 122
abbrev n_p_impl_Tree_kid : Nat := 123
abbrev n_cmp_isNaN_string : Nat := 124
abbrev n_slices_Index_int_int : Nat := 125
abbrev n_slices_Index_string_string : Nat := 126
abbrev n_runtime_boundsError_Error : Nat := 127
abbrev n_runtime_boundsError_RuntimeError : Nat := 128
abbrev n_runtime_errorString_Error : Nat := 129
abbrev n_runtime_errorString_RuntimeError : Nat := 130
abbrev n_runtime_plainError_Error : Nat := 131
abbrev n_runtime_plainError_RuntimeError : Nat := 132
abbrev n_runtime_errorAddressString_Error : Nat := 133
abbrev n_runtime_errorAddressString_RuntimeError : Nat := 134
abbrev n_p_runtime_TypeAssertionError_Error : Nat := 135
abbrev n_p_runtime_TypeAssertionError_RuntimeError : Nat := 136
abbrev n_p_runtime_PanicNilError_Error : Nat := 137
abbrev n_p_runtime_PanicNilError_RuntimeError : Nat := 138
abbrev n_p_internal_abi_Type_Align : Nat := 139
abbrev n_internal_runtime_maps_unhashableTypeError_Error : Nat := 140
abbrev n_internal_runtime_maps_unhashableTypeError_RuntimeError : Nat := 141
abbrev n_impl_Tree_id : Nat := 142
abbrev n_p_impl_Tree_drop : Nat := 143
abbrev n_internal_abi_Kind_String : Nat := 144
/-- laws.FnExactConstants -/
def kp_laws_FnExactConstants : Nat → Keep
  | _ => ⟨[], [], [], [], []⟩
def esc_laws_FnExactConstants : Nat → Bool
  | _ => false
def vc_laws_FnExactConstants (w0 : World) (σ : Vw) (R : Value → Vw → Prop) : Prop :=
  R (Value.bool true) σ
theorem vc_laws_FnExactConstants_eq (w0 : World) (σ : Vw) (R : Value → Vw → Prop) : vc_laws_FnExactConstants w0 σ R = den Try.prog w0 kp_laws_FnExactConstants esc_laws_FnExactConstants (Try.f3.body.getD .skip) (entry Try.f3.ntmps []) σ (retK Try.prog Try.f3.results.toList R) := by kernel_rfl
theorem ac_laws_FnExactConstants {w0 : World} {σ : Vw} {R : Value → Vw → Prop} (h : vc_laws_FnExactConstants w0 σ R) : AC Try.prog w0 n_laws_FnExactConstants [] σ R := by
  refine ac_rule (fn := Try.f3) (c := Try.f3.body.getD .skip) kp_laws_FnExactConstants esc_laws_FnExactConstants Try.func3 (by kernel_rfl) (by kernel_rfl) ?_
  rw [← vc_laws_FnExactConstants_eq]
  exact h

/-- laws.FnExactPagesNeed -/
def kp_laws_FnExactPagesNeed : Nat → Keep
  | _ => ⟨[], [], [], [], []⟩
def esc_laws_FnExactPagesNeed : Nat → Bool
  | _ => false
def vc_laws_FnExactPagesNeed (w0 : World) (a0 : Value) (σ : Vw) (R : Value → Vw → Prop) : Prop :=
  pLenS a0 (fun v0 => pBin Try.prog 3 BinOp.gtr v0 (Value.int IntKind.i64 1048576) (fun v1 => pIf v1 (R (Value.bool true) σ) (AC Try.prog w0 n_spec_PagesNeed [a0] σ (fun v2 s3 => AC Try.prog w0 n_impl_PagesNeed [a0] s3 (fun v4 s5 => pBin Try.prog 3 BinOp.neq v4 v2 (fun v6 => pIf v6 (R (Value.bool false) s5) (R (Value.bool true) s5)))))))
theorem vc_laws_FnExactPagesNeed_eq (w0 : World) (a0 : Value) (σ : Vw) (R : Value → Vw → Prop) : vc_laws_FnExactPagesNeed w0 a0 σ R = den Try.prog w0 kp_laws_FnExactPagesNeed esc_laws_FnExactPagesNeed (Try.f4.body.getD .skip) (entry Try.f4.ntmps [a0]) σ (retK Try.prog Try.f4.results.toList R) := by kernel_rfl
theorem ac_laws_FnExactPagesNeed {w0 : World} {a0 : Value} {σ : Vw} {R : Value → Vw → Prop} (h : vc_laws_FnExactPagesNeed w0 a0 σ R) : AC Try.prog w0 n_laws_FnExactPagesNeed [a0] σ R := by
  refine ac_rule (fn := Try.f4) (c := Try.f4.body.getD .skip) kp_laws_FnExactPagesNeed esc_laws_FnExactPagesNeed Try.func4 (by kernel_rfl) (by kernel_rfl) ?_
  rw [← vc_laws_FnExactPagesNeed_eq]
  exact h

/-- laws.FnExactDiskOk -/
def kp_laws_FnExactDiskOk : Nat → Keep
  | 10 => ⟨[], [], [], [0, 1, 2, 3, 4], [(2, [1]), (3, [0, 1, 2]), (4, [0, 1, 2, 3])]⟩
  | _ => ⟨[], [], [], [], []⟩
def esc_laws_FnExactDiskOk : Nat → Bool
  | _ => false
def vc_laws_FnExactDiskOk (w0 : World) (a0 : Value) (σ : Vw) (R : Value → Vw → Prop) : Prop :=
  pVal true 1 a0 (AC Try.prog w0 n_laws_szDisk ([Value.agg (⟨[cellOf a0 0]⟩), Value.int IntKind.i64 1048576]) σ (fun v0 s1 => pBin Try.prog 3 BinOp.lss v0 (Value.int IntKind.i64 0) (fun v2 => pIf v2 (R (Value.bool true) s1) (AC Try.prog w0 n_laws_toDisk ([Value.agg (⟨[cellOf a0 0]⟩)]) s1 (fun v3 s4 => AC Try.prog w0 n_spec_DiskOk [v3] s4 (fun v5 s6 => AC Try.prog w0 n_laws_toDisk ([Value.agg (⟨[cellOf a0 0]⟩)]) s6 (fun v7 s8 => pVal true 1 v7 (AC Try.prog w0 n_impl_DiskOk ([Value.agg (⟨[cellOf v7 0]⟩)]) s8 (fun v9 s10 => pBin Try.prog 4 BinOp.neq v9 v5 (fun v11 => pIf v11 (R (Value.bool false) s10) (AC Try.prog w0 n_laws_toDisk ([Value.agg (⟨[cellOf a0 0]⟩)]) s10 (fun v12 s13 => (Ext s10 s13) ∧ (AC Try.prog w0 n_laws_eqDisk ([Value.agg (⟨[cellOf v7 0]⟩), v12]) s13 (fun v14 s15 => pUn UnOp.not v14 (fun v16 => pIf v16 (R (Value.bool false) s15) (R (Value.bool true) s15))))))))))))))))
theorem vc_laws_FnExactDiskOk_eq (w0 : World) (a0 : Value) (σ : Vw) (R : Value → Vw → Prop) : vc_laws_FnExactDiskOk w0 a0 σ R = den Try.prog w0 kp_laws_FnExactDiskOk esc_laws_FnExactDiskOk (Try.f5.body.getD .skip) (entry Try.f5.ntmps [a0]) σ (retK Try.prog Try.f5.results.toList R) := by kernel_rfl
theorem ac_laws_FnExactDiskOk {w0 : World} {a0 : Value} {σ : Vw} {R : Value → Vw → Prop} (h : vc_laws_FnExactDiskOk w0 a0 σ R) : AC Try.prog w0 n_laws_FnExactDiskOk [a0] σ R := by
  refine ac_rule (fn := Try.f5) (c := Try.f5.body.getD .skip) kp_laws_FnExactDiskOk esc_laws_FnExactDiskOk Try.func5 (by kernel_rfl) (by kernel_rfl) ?_
  rw [← vc_laws_FnExactDiskOk_eq]
  exact h

/-- laws.FnExactPagesNew -/
def kp_laws_FnExactPagesNew : Nat → Keep
  | _ => ⟨[], [], [], [], []⟩
def esc_laws_FnExactPagesNew : Nat → Bool
  | _ => false
def vc_laws_FnExactPagesNew (w0 : World) (σ : Vw) (R : Value → Vw → Prop) : Prop :=
  AC Try.prog w0 n_spec_PagesNew [] σ (fun v0 s1 => pVal true 2 v0 (AC Try.prog w0 n_impl_PagesNew [] s1 (fun v2 s3 => pVal true 2 v2 (AC Try.prog w0 n_laws_eqPages ([Value.agg (⟨[cellOf v2 0, cellOf v2 1]⟩), Value.agg (⟨[cellOf v0 0, cellOf v0 1]⟩)]) s3 (fun v4 s5 => pUn UnOp.not v4 (fun v6 => pIf v6 (R (Value.bool false) s5) (AC Try.prog w0 n_laws_markPages ([Value.agg (⟨[cellOf v2 0, cellOf v2 1]⟩), Value.int IntKind.i64 1]) s5 (fun v7 s8 => AC Try.prog w0 n_laws_heldPages ([Value.agg (⟨[cellOf v2 0, cellOf v2 1]⟩), Value.int IntKind.i64 1]) s8 (fun v9 s10 => pBin Try.prog 3 BinOp.lss v9 (Value.int IntKind.i64 0) (fun v11 => pIf v11 (R (Value.bool false) s10) (pBin Try.prog 3 BinOp.neq v9 v7 (fun v12 => pIf v12 (R (Value.bool false) s10) (AC Try.prog w0 n_impl_PagesNew [] s10 (fun v13 s14 => pVal true 2 v13 (AC Try.prog w0 n_laws_eqPages ([Value.agg (⟨[cellOf v13 0, cellOf v13 1]⟩), Value.agg (⟨[cellOf v0 0, cellOf v0 1]⟩)]) s14 (fun v15 s16 => pUn UnOp.not v15 (fun v17 => pIf v17 (R (Value.bool false) s16) (AC Try.prog w0 n_laws_heldPages ([Value.agg (⟨[cellOf v2 0, cellOf v2 1]⟩), Value.int IntKind.i64 1]) s16 (fun v18 s19 => pBin Try.prog 3 BinOp.lss v18 (Value.int IntKind.i64 0) (fun v20 => pIf v20 (R (Value.bool false) s19) (pBin Try.prog 3 BinOp.neq v18 v7 (fun v21 => pIf v21 (R (Value.bool false) s19) (R (Value.bool true) s19)))))))))))))))))))))))
theorem vc_laws_FnExactPagesNew_eq (w0 : World) (σ : Vw) (R : Value → Vw → Prop) : vc_laws_FnExactPagesNew w0 σ R = den Try.prog w0 kp_laws_FnExactPagesNew esc_laws_FnExactPagesNew (Try.f6.body.getD .skip) (entry Try.f6.ntmps []) σ (retK Try.prog Try.f6.results.toList R) := by kernel_rfl
theorem ac_laws_FnExactPagesNew {w0 : World} {σ : Vw} {R : Value → Vw → Prop} (h : vc_laws_FnExactPagesNew w0 σ R) : AC Try.prog w0 n_laws_FnExactPagesNew [] σ R := by
  refine ac_rule (fn := Try.f6) (c := Try.f6.body.getD .skip) kp_laws_FnExactPagesNew esc_laws_FnExactPagesNew Try.func6 (by kernel_rfl) (by kernel_rfl) ?_
  rw [← vc_laws_FnExactPagesNew_eq]
  exact h

/-- laws.FnExactTreeOk -/
def kp_laws_FnExactTreeOk : Nat → Keep
  | 10 => ⟨[], [], [], [0, 1, 2, 3, 4], [(2, [1]), (3, [0, 1, 2]), (4, [0, 1, 2, 3])]⟩
  | _ => ⟨[], [], [], [], []⟩
def esc_laws_FnExactTreeOk : Nat → Bool
  | _ => false
def vc_laws_FnExactTreeOk (w0 : World) (a0 : Value) (σ : Vw) (R : Value → Vw → Prop) : Prop :=
  pVal true 5 a0 (AC Try.prog w0 n_laws_szTree ([Value.agg (⟨[cellOf a0 0, cellOf a0 1, cellOf a0 2, cellOf a0 3, cellOf a0 4]⟩), Value.int IntKind.i64 1048576]) σ (fun v0 s1 => pBin Try.prog 3 BinOp.lss v0 (Value.int IntKind.i64 0) (fun v2 => pIf v2 (R (Value.bool true) s1) (AC Try.prog w0 n_laws_toTree ([Value.agg (⟨[cellOf a0 0, cellOf a0 1, cellOf a0 2, cellOf a0 3, cellOf a0 4]⟩)]) s1 (fun v3 s4 => AC Try.prog w0 n_spec_TreeOk [v3] s4 (fun v5 s6 => AC Try.prog w0 n_laws_toTree ([Value.agg (⟨[cellOf a0 0, cellOf a0 1, cellOf a0 2, cellOf a0 3, cellOf a0 4]⟩)]) s6 (fun v7 s8 => pVal true 5 v7 (AC Try.prog w0 n_impl_TreeOk ([Value.agg (⟨[cellOf v7 0, cellOf v7 1, cellOf v7 2, cellOf v7 3, cellOf v7 4]⟩)]) s8 (fun v9 s10 => pBin Try.prog 4 BinOp.neq v9 v5 (fun v11 => pIf v11 (R (Value.bool false) s10) (AC Try.prog w0 n_laws_toTree ([Value.agg (⟨[cellOf a0 0, cellOf a0 1, cellOf a0 2, cellOf a0 3, cellOf a0 4]⟩)]) s10 (fun v12 s13 => (Ext s10 s13) ∧ (AC Try.prog w0 n_laws_eqTree ([Value.agg (⟨[cellOf v7 0, cellOf v7 1, cellOf v7 2, cellOf v7 3, cellOf v7 4]⟩), v12]) s13 (fun v14 s15 => pUn UnOp.not v14 (fun v16 => pIf v16 (R (Value.bool false) s15) (R (Value.bool true) s15))))))))))))))))
theorem vc_laws_FnExactTreeOk_eq (w0 : World) (a0 : Value) (σ : Vw) (R : Value → Vw → Prop) : vc_laws_FnExactTreeOk w0 a0 σ R = den Try.prog w0 kp_laws_FnExactTreeOk esc_laws_FnExactTreeOk (Try.f7.body.getD .skip) (entry Try.f7.ntmps [a0]) σ (retK Try.prog Try.f7.results.toList R) := by kernel_rfl
theorem ac_laws_FnExactTreeOk {w0 : World} {a0 : Value} {σ : Vw} {R : Value → Vw → Prop} (h : vc_laws_FnExactTreeOk w0 a0 σ R) : AC Try.prog w0 n_laws_FnExactTreeOk [a0] σ R := by
  refine ac_rule (fn := Try.f7) (c := Try.f7.body.getD .skip) kp_laws_FnExactTreeOk esc_laws_FnExactTreeOk Try.func7 (by kernel_rfl) (by kernel_rfl) ?_
  rw [← vc_laws_FnExactTreeOk_eq]
  exact h

/-- laws.FnExactTreeCount -/
def kp_laws_FnExactTreeCount : Nat → Keep
  | 10 => ⟨[], [], [], [0, 1, 2, 3, 4], [(2, [1]), (3, [0, 1, 2]), (4, [0, 1, 2, 3])]⟩
  | _ => ⟨[], [], [], [], []⟩
def esc_laws_FnExactTreeCount : Nat → Bool
  | _ => false
def vc_laws_FnExactTreeCount (w0 : World) (a0 : Value) (σ : Vw) (R : Value → Vw → Prop) : Prop :=
  pVal true 5 a0 (AC Try.prog w0 n_laws_szTree ([Value.agg (⟨[cellOf a0 0, cellOf a0 1, cellOf a0 2, cellOf a0 3, cellOf a0 4]⟩), Value.int IntKind.i64 1048576]) σ (fun v0 s1 => pBin Try.prog 3 BinOp.lss v0 (Value.int IntKind.i64 0) (fun v2 => pIf v2 (R (Value.bool true) s1) (AC Try.prog w0 n_laws_toTree ([Value.agg (⟨[cellOf a0 0, cellOf a0 1, cellOf a0 2, cellOf a0 3, cellOf a0 4]⟩)]) s1 (fun v3 s4 => AC Try.prog w0 n_spec_TreeCount [v3] s4 (fun v5 s6 => AC Try.prog w0 n_laws_toTree ([Value.agg (⟨[cellOf a0 0, cellOf a0 1, cellOf a0 2, cellOf a0 3, cellOf a0 4]⟩)]) s6 (fun v7 s8 => pVal true 5 v7 (AC Try.prog w0 n_impl_TreeCount ([Value.agg (⟨[cellOf v7 0, cellOf v7 1, cellOf v7 2, cellOf v7 3, cellOf v7 4]⟩)]) s8 (fun v9 s10 => pBin Try.prog 3 BinOp.neq v9 v5 (fun v11 => pIf v11 (R (Value.bool false) s10) (AC Try.prog w0 n_laws_toTree ([Value.agg (⟨[cellOf a0 0, cellOf a0 1, cellOf a0 2, cellOf a0 3, cellOf a0 4]⟩)]) s10 (fun v12 s13 => (Ext s10 s13) ∧ (AC Try.prog w0 n_laws_eqTree ([Value.agg (⟨[cellOf v7 0, cellOf v7 1, cellOf v7 2, cellOf v7 3, cellOf v7 4]⟩), v12]) s13 (fun v14 s15 => pUn UnOp.not v14 (fun v16 => pIf v16 (R (Value.bool false) s15) (R (Value.bool true) s15))))))))))))))))
theorem vc_laws_FnExactTreeCount_eq (w0 : World) (a0 : Value) (σ : Vw) (R : Value → Vw → Prop) : vc_laws_FnExactTreeCount w0 a0 σ R = den Try.prog w0 kp_laws_FnExactTreeCount esc_laws_FnExactTreeCount (Try.f8.body.getD .skip) (entry Try.f8.ntmps [a0]) σ (retK Try.prog Try.f8.results.toList R) := by kernel_rfl
theorem ac_laws_FnExactTreeCount {w0 : World} {a0 : Value} {σ : Vw} {R : Value → Vw → Prop} (h : vc_laws_FnExactTreeCount w0 a0 σ R) : AC Try.prog w0 n_laws_FnExactTreeCount [a0] σ R := by
  refine ac_rule (fn := Try.f8) (c := Try.f8.body.getD .skip) kp_laws_FnExactTreeCount esc_laws_FnExactTreeCount Try.func8 (by kernel_rfl) (by kernel_rfl) ?_
  rw [← vc_laws_FnExactTreeCount_eq]
  exact h

/-- laws.FnExactDiskWrite -/
def kp_laws_FnExactDiskWrite : Nat → Keep
  | 14 => ⟨[], [], [], [0, 1, 2, 3, 4], [(2, [1]), (3, [0, 1, 2]), (4, [0, 1, 2, 3])]⟩
  | _ => ⟨[], [], [], [], []⟩
def esc_laws_FnExactDiskWrite : Nat → Bool
  | _ => false
def vc_laws_FnExactDiskWrite (w0 : World) (a0 a1 a2 : Value) (σ : Vw) (R : Value → Vw → Prop) : Prop :=
  pVal true 1 a0 (AC Try.prog w0 n_laws_szDisk ([Value.agg (⟨[cellOf a0 0]⟩), Value.int IntKind.i64 1048576]) σ (fun v0 s1 => pBin Try.prog 3 BinOp.lss v0 (Value.int IntKind.i64 0) (fun v2 => pIf v2 (R (Value.bool true) s1) (AC Try.prog w0 n_laws_szRawS [a1, v0] s1 (fun v3 s4 => pBin Try.prog 3 BinOp.lss v3 (Value.int IntKind.i64 0) (fun v5 => pIf v5 (R (Value.bool true) s4) (AC Try.prog w0 n_laws_toDisk ([Value.agg (⟨[cellOf a0 0]⟩)]) s4 (fun v6 s7 => AC Try.prog w0 n_laws_toRawS [a1] s7 (fun v8 s9 => AC Try.prog w0 n_spec_DiskWrite [v6, v8, a2] s9 (fun v10 s11 => pVal true 1 v10 (AC Try.prog w0 n_laws_toDisk ([Value.agg (⟨[cellOf a0 0]⟩)]) s11 (fun v12 s13 => pVal true 1 v12 (AC Try.prog w0 n_laws_toRawS [a1] s13 (fun v14 s15 => AC Try.prog w0 n_impl_DiskWrite ([Value.agg (⟨[cellOf v12 0]⟩), v14, a2]) s15 (fun v16 s17 => pVal true 1 v16 (AC Try.prog w0 n_laws_eqDisk ([Value.agg (⟨[cellOf v16 0]⟩), Value.agg (⟨[cellOf v10 0]⟩)]) s17 (fun v18 s19 => pUn UnOp.not v18 (fun v20 => pIf v20 (R (Value.bool false) s19) (AC Try.prog w0 n_laws_toDisk ([Value.agg (⟨[cellOf a0 0]⟩)]) s19 (fun v21 s22 => (Ext s19 s22) ∧ (AC Try.prog w0 n_laws_eqDisk ([Value.agg (⟨[cellOf v12 0]⟩), v21]) s22 (fun v23 s24 => pUn UnOp.not v23 (fun v25 => pIf v25 (R (Value.bool false) s24) (AC Try.prog w0 n_laws_toRawS [a1] s24 (fun v26 s27 => AC Try.prog w0 n_laws_eqRawS [v14, v26] s27 (fun v28 s29 => pUn UnOp.not v28 (fun v30 => pIf v30 (R (Value.bool false) s29) (AC Try.prog w0 n_laws_markDisk ([Value.agg (⟨[cellOf v12 0]⟩), Value.int IntKind.i64 1]) s29 (fun v31 s32 => AC Try.prog w0 n_laws_markRawS [v14, v31] s32 (fun v33 s34 => pBin Try.prog 3 BinOp.lss v33 (Value.int IntKind.i64 0) (fun v35 => pIf v35 (R (Value.bool false) s34) (AC Try.prog w0 n_laws_eqDisk ([Value.agg (⟨[cellOf v16 0]⟩), Value.agg (⟨[cellOf v10 0]⟩)]) s34 (fun v36 s37 => pUn UnOp.not v36 (fun v38 => pIf v38 (R (Value.bool false) s37) (AC Try.prog w0 n_laws_markDisk ([Value.agg (⟨[cellOf v16 0]⟩), Value.int IntKind.i64 1]) s37 (fun v39 s40 => AC Try.prog w0 n_laws_heldDisk ([Value.agg (⟨[cellOf v16 0]⟩), Value.int IntKind.i64 1]) s40 (fun v41 s42 => pBin Try.prog 3 BinOp.lss v41 (Value.int IntKind.i64 0) (fun v43 => pIf v43 (R (Value.bool false) s42) (pBin Try.prog 3 BinOp.neq v41 v39 (fun v44 => pIf v44 (R (Value.bool false) s42) (AC Try.prog w0 n_laws_toDisk ([Value.agg (⟨[cellOf a0 0]⟩)]) s42 (fun v45 s46 => AC Try.prog w0 n_laws_toRawS [a1] s46 (fun v47 s48 => AC Try.prog w0 n_impl_DiskWrite [v45, v47, a2] s48 (fun v49 s50 => pVal true 1 v49 (AC Try.prog w0 n_laws_eqDisk ([Value.agg (⟨[cellOf v49 0]⟩), Value.agg (⟨[cellOf v10 0]⟩)]) s50 (fun v51 s52 => pUn UnOp.not v51 (fun v53 => pIf v53 (R (Value.bool false) s52) (AC Try.prog w0 n_laws_heldDisk ([Value.agg (⟨[cellOf v16 0]⟩), Value.int IntKind.i64 1]) s52 (fun v54 s55 => pBin Try.prog 3 BinOp.lss v54 (Value.int IntKind.i64 0) (fun v56 => pIf v56 (R (Value.bool false) s55) (pBin Try.prog 3 BinOp.neq v54 v39 (fun v57 => pIf v57 (R (Value.bool false) s55) (R (Value.bool true) s55)))))))))))))))))))))))))))))))))))))))))))))))))))))
theorem vc_laws_FnExactDiskWrite_eq (w0 : World) (a0 a1 a2 : Value) (σ : Vw) (R : Value → Vw → Prop) : vc_laws_FnExactDiskWrite w0 a0 a1 a2 σ R = den Try.prog w0 kp_laws_FnExactDiskWrite esc_laws_FnExactDiskWrite (Try.f9.body.getD .skip) (entry Try.f9.ntmps [a0, a1, a2]) σ (retK Try.prog Try.f9.results.toList R) := by kernel_rfl
theorem ac_laws_FnExactDiskWrite {w0 : World} {a0 a1 a2 : Value} {σ : Vw} {R : Value → Vw → Prop} (h : vc_laws_FnExactDiskWrite w0 a0 a1 a2 σ R) : AC Try.prog w0 n_laws_FnExactDiskWrite [a0, a1, a2] σ R := by
  refine ac_rule (fn := Try.f9) (c := Try.f9.body.getD .skip) kp_laws_FnExactDiskWrite esc_laws_FnExactDiskWrite Try.func9 (by kernel_rfl) (by kernel_rfl) ?_
  rw [← vc_laws_FnExactDiskWrite_eq]
  exact h

/-- laws.FnExactTrailOk -/
def kp_laws_FnExactTrailOk : Nat → Keep
  | _ => ⟨[], [], [], [], []⟩
def esc_laws_FnExactTrailOk : Nat → Bool
  | _ => false
def vc_laws_FnExactTrailOk (w0 : World) (a0 : Value) (σ : Vw) (R : Value → Vw → Prop) : Prop :=
  AC Try.prog w0 n_laws_szMarkS [a0, Value.int IntKind.i64 1048576] σ (fun v0 s1 => pBin Try.prog 3 BinOp.lss v0 (Value.int IntKind.i64 0) (fun v2 => pIf v2 (R (Value.bool true) s1) (AC Try.prog w0 n_laws_toMarkS [a0] s1 (fun v3 s4 => AC Try.prog w0 n_spec_TrailOk [v3] s4 (fun v5 s6 => AC Try.prog w0 n_laws_toMarkS [a0] s6 (fun v7 s8 => AC Try.prog w0 n_impl_TrailOk [v7] s8 (fun v9 s10 => pBin Try.prog 4 BinOp.neq v9 v5 (fun v11 => pIf v11 (R (Value.bool false) s10) (AC Try.prog w0 n_laws_toMarkS [a0] s10 (fun v12 s13 => AC Try.prog w0 n_laws_eqMarkS [v7, v12] s13 (fun v14 s15 => pUn UnOp.not v14 (fun v16 => pIf v16 (R (Value.bool false) s15) (R (Value.bool true) s15)))))))))))))
theorem vc_laws_FnExactTrailOk_eq (w0 : World) (a0 : Value) (σ : Vw) (R : Value → Vw → Prop) : vc_laws_FnExactTrailOk w0 a0 σ R = den Try.prog w0 kp_laws_FnExactTrailOk esc_laws_FnExactTrailOk (Try.f10.body.getD .skip) (entry Try.f10.ntmps [a0]) σ (retK Try.prog Try.f10.results.toList R) := by kernel_rfl
theorem ac_laws_FnExactTrailOk {w0 : World} {a0 : Value} {σ : Vw} {R : Value → Vw → Prop} (h : vc_laws_FnExactTrailOk w0 a0 σ R) : AC Try.prog w0 n_laws_FnExactTrailOk [a0] σ R := by
  refine ac_rule (fn := Try.f10) (c := Try.f10.body.getD .skip) kp_laws_FnExactTrailOk esc_laws_FnExactTrailOk Try.func10 (by kernel_rfl) (by kernel_rfl) ?_
  rw [← vc_laws_FnExactTrailOk_eq]
  exact h

/-- laws.FnExactPagesOk -/
def kp_laws_FnExactPagesOk : Nat → Keep
  | 10 => ⟨[], [], [], [0, 1, 2, 3, 4], [(2, [1]), (3, [0, 1, 2]), (4, [0, 1, 2, 3])]⟩
  | _ => ⟨[], [], [], [], []⟩
def esc_laws_FnExactPagesOk : Nat → Bool
  | _ => false
def vc_laws_FnExactPagesOk (w0 : World) (a0 : Value) (σ : Vw) (R : Value → Vw → Prop) : Prop :=
  pVal true 2 a0 (AC Try.prog w0 n_laws_szPages ([Value.agg (⟨[cellOf a0 0, cellOf a0 1]⟩), Value.int IntKind.i64 1048576]) σ (fun v0 s1 => pBin Try.prog 3 BinOp.lss v0 (Value.int IntKind.i64 0) (fun v2 => pIf v2 (R (Value.bool true) s1) (AC Try.prog w0 n_laws_toPages ([Value.agg (⟨[cellOf a0 0, cellOf a0 1]⟩)]) s1 (fun v3 s4 => AC Try.prog w0 n_spec_PagesOk [v3] s4 (fun v5 s6 => AC Try.prog w0 n_laws_toPages ([Value.agg (⟨[cellOf a0 0, cellOf a0 1]⟩)]) s6 (fun v7 s8 => pVal true 2 v7 (AC Try.prog w0 n_impl_PagesOk ([Value.agg (⟨[cellOf v7 0, cellOf v7 1]⟩)]) s8 (fun v9 s10 => pBin Try.prog 4 BinOp.neq v9 v5 (fun v11 => pIf v11 (R (Value.bool false) s10) (AC Try.prog w0 n_laws_toPages ([Value.agg (⟨[cellOf a0 0, cellOf a0 1]⟩)]) s10 (fun v12 s13 => (Ext s10 s13) ∧ (AC Try.prog w0 n_laws_eqPages ([Value.agg (⟨[cellOf v7 0, cellOf v7 1]⟩), v12]) s13 (fun v14 s15 => pUn UnOp.not v14 (fun v16 => pIf v16 (R (Value.bool false) s15) (R (Value.bool true) s15))))))))))))))))
theorem vc_laws_FnExactPagesOk_eq (w0 : World) (a0 : Value) (σ : Vw) (R : Value → Vw → Prop) : vc_laws_FnExactPagesOk w0 a0 σ R = den Try.prog w0 kp_laws_FnExactPagesOk esc_laws_FnExactPagesOk (Try.f11.body.getD .skip) (entry Try.f11.ntmps [a0]) σ (retK Try.prog Try.f11.results.toList R) := by kernel_rfl
theorem ac_laws_FnExactPagesOk {w0 : World} {a0 : Value} {σ : Vw} {R : Value → Vw → Prop} (h : vc_laws_FnExactPagesOk w0 a0 σ R) : AC Try.prog w0 n_laws_FnExactPagesOk [a0] σ R := by
  refine ac_rule (fn := Try.f11) (c := Try.f11.body.getD .skip) kp_laws_FnExactPagesOk esc_laws_FnExactPagesOk Try.func11 (by kernel_rfl) (by kernel_rfl) ?_
  rw [← vc_laws_FnExactPagesOk_eq]
  exact h

/-- laws.FnExactTreeRead -/
def kp_laws_FnExactTreeRead : Nat → Keep
  | 14 => ⟨[], [], [], [0, 1, 2, 3, 4], [(2, [1]), (3, [0, 1, 2]), (4, [0, 1, 2, 3])]⟩
  | _ => ⟨[], [], [], [], []⟩
def esc_laws_FnExactTreeRead : Nat → Bool
  | _ => false
def vc_laws_FnExactTreeRead (w0 : World) (a0 a1 a2 a3 : Value) (σ : Vw) (R : Value → Vw → Prop) : Prop :=
  pVal true 5 a0 (AC Try.prog w0 n_laws_szTree ([Value.agg (⟨[cellOf a0 0, cellOf a0 1, cellOf a0 2, cellOf a0 3, cellOf a0 4]⟩), Value.int IntKind.i64 1048576]) σ (fun v0 s1 => pBin Try.prog 3 BinOp.lss v0 (Value.int IntKind.i64 0) (fun v2 => pIf v2 (R (Value.bool true) s1) (AC Try.prog w0 n_laws_szStringS [a1, v0] s1 (fun v3 s4 => pBin Try.prog 3 BinOp.lss v3 (Value.int IntKind.i64 0) (fun v5 => pIf v5 (R (Value.bool true) s4) (AC Try.prog w0 n_laws_toTree ([Value.agg (⟨[cellOf a0 0, cellOf a0 1, cellOf a0 2, cellOf a0 3, cellOf a0 4]⟩)]) s4 (fun v6 s7 => AC Try.prog w0 n_laws_toStringS [a1] s7 (fun v8 s9 => AC Try.prog w0 n_spec_TreeRead [v6, v8, a2, a3] s9 (fun v10 s11 => pExtract v10 0 (fun v12 => pExtract v10 1 (fun v13 => AC Try.prog w0 n_laws_toTree ([Value.agg (⟨[cellOf a0 0, cellOf a0 1, cellOf a0 2, cellOf a0 3, cellOf a0 4]⟩)]) s11 (fun v14 s15 => pVal true 5 v14 (AC Try.prog w0 n_laws_toStringS [a1] s15 (fun v16 s17 => AC Try.prog w0 n_impl_TreeRead ([Value.agg (⟨[cellOf v14 0, cellOf v14 1, cellOf v14 2, cellOf v14 3, cellOf v14 4]⟩), v16, a2, a3]) s17 (fun v18 s19 => pExtract v18 0 (fun v20 => pExtract v18 1 (fun v21 => pBin Try.prog 9 BinOp.neq v20 v12 (fun v22 => pIf v22 (R (Value.bool false) s19) (pBin Try.prog 3 BinOp.neq v21 v13 (fun v23 => pIf v23 (R (Value.bool false) s19) (AC Try.prog w0 n_laws_toTree ([Value.agg (⟨[cellOf a0 0, cellOf a0 1, cellOf a0 2, cellOf a0 3, cellOf a0 4]⟩)]) s19 (fun v24 s25 => (Ext s19 s25) ∧ (AC Try.prog w0 n_laws_eqTree ([Value.agg (⟨[cellOf v14 0, cellOf v14 1, cellOf v14 2, cellOf v14 3, cellOf v14 4]⟩), v24]) s25 (fun v26 s27 => pUn UnOp.not v26 (fun v28 => pIf v28 (R (Value.bool false) s27) (AC Try.prog w0 n_laws_toStringS [a1] s27 (fun v29 s30 => AC Try.prog w0 n_laws_eqStringS [v16, v29] s30 (fun v31 s32 => pUn UnOp.not v31 (fun v33 => pIf v33 (R (Value.bool false) s32) (R (Value.bool true) s32)))))))))))))))))))))))))))))))
theorem vc_laws_FnExactTreeRead_eq (w0 : World) (a0 a1 a2 a3 : Value) (σ : Vw) (R : Value → Vw → Prop) : vc_laws_FnExactTreeRead w0 a0 a1 a2 a3 σ R = den Try.prog w0 kp_laws_FnExactTreeRead esc_laws_FnExactTreeRead (Try.f12.body.getD .skip) (entry Try.f12.ntmps [a0, a1, a2, a3]) σ (retK Try.prog Try.f12.results.toList R) := by kernel_rfl
theorem ac_laws_FnExactTreeRead {w0 : World} {a0 a1 a2 a3 : Value} {σ : Vw} {R : Value → Vw → Prop} (h : vc_laws_FnExactTreeRead w0 a0 a1 a2 a3 σ R) : AC Try.prog w0 n_laws_FnExactTreeRead [a0, a1, a2, a3] σ R := by
  refine ac_rule (fn := Try.f12) (c := Try.f12.body.getD .skip) kp_laws_FnExactTreeRead esc_laws_FnExactTreeRead Try.func12 (by kernel_rfl) (by kernel_rfl) ?_
  rw [← vc_laws_FnExactTreeRead_eq]
  exact h

/-- laws.FnExactPagesFree -/
def kp_laws_FnExactPagesFree : Nat → Keep
  | 10 => ⟨[], [], [], [0, 1, 2, 3, 4], [(2, [1]), (3, [0, 1, 2]), (4, [0, 1, 2, 3])]⟩
  | _ => ⟨[], [], [], [], []⟩
def esc_laws_FnExactPagesFree : Nat → Bool
  | _ => false
def vc_laws_FnExactPagesFree (w0 : World) (a0 : Value) (σ : Vw) (R : Value → Vw → Prop) : Prop :=
  pVal true 2 a0 (AC Try.prog w0 n_laws_szPages ([Value.agg (⟨[cellOf a0 0, cellOf a0 1]⟩), Value.int IntKind.i64 1048576]) σ (fun v0 s1 => pBin Try.prog 3 BinOp.lss v0 (Value.int IntKind.i64 0) (fun v2 => pIf v2 (R (Value.bool true) s1) (AC Try.prog w0 n_laws_toPages ([Value.agg (⟨[cellOf a0 0, cellOf a0 1]⟩)]) s1 (fun v3 s4 => AC Try.prog w0 n_spec_PagesFree [v3] s4 (fun v5 s6 => AC Try.prog w0 n_laws_toPages ([Value.agg (⟨[cellOf a0 0, cellOf a0 1]⟩)]) s6 (fun v7 s8 => pVal true 2 v7 (AC Try.prog w0 n_impl_PagesFree ([Value.agg (⟨[cellOf v7 0, cellOf v7 1]⟩)]) s8 (fun v9 s10 => pBin Try.prog 3 BinOp.neq v9 v5 (fun v11 => pIf v11 (R (Value.bool false) s10) (AC Try.prog w0 n_laws_toPages ([Value.agg (⟨[cellOf a0 0, cellOf a0 1]⟩)]) s10 (fun v12 s13 => (Ext s10 s13) ∧ (AC Try.prog w0 n_laws_eqPages ([Value.agg (⟨[cellOf v7 0, cellOf v7 1]⟩), v12]) s13 (fun v14 s15 => pUn UnOp.not v14 (fun v16 => pIf v16 (R (Value.bool false) s15) (R (Value.bool true) s15))))))))))))))))
theorem vc_laws_FnExactPagesFree_eq (w0 : World) (a0 : Value) (σ : Vw) (R : Value → Vw → Prop) : vc_laws_FnExactPagesFree w0 a0 σ R = den Try.prog w0 kp_laws_FnExactPagesFree esc_laws_FnExactPagesFree (Try.f13.body.getD .skip) (entry Try.f13.ntmps [a0]) σ (retK Try.prog Try.f13.results.toList R) := by kernel_rfl
theorem ac_laws_FnExactPagesFree {w0 : World} {a0 : Value} {σ : Vw} {R : Value → Vw → Prop} (h : vc_laws_FnExactPagesFree w0 a0 σ R) : AC Try.prog w0 n_laws_FnExactPagesFree [a0] σ R := by
  refine ac_rule (fn := Try.f13) (c := Try.f13.body.getD .skip) kp_laws_FnExactPagesFree esc_laws_FnExactPagesFree Try.func13 (by kernel_rfl) (by kernel_rfl) ?_
  rw [← vc_laws_FnExactPagesFree_eq]
  exact h

/-- laws.FnExactTreeList -/
def kp_laws_FnExactTreeList : Nat → Keep
  | 14 => ⟨[], [], [], [0, 1, 2, 3, 4], [(2, [1]), (3, [0, 1, 2]), (4, [0, 1, 2, 3])]⟩
  | _ => ⟨[], [], [], [], []⟩
def esc_laws_FnExactTreeList : Nat → Bool
  | _ => false
def vc_laws_FnExactTreeList (w0 : World) (a0 a1 : Value) (σ : Vw) (R : Value → Vw → Prop) : Prop :=
  pVal true 5 a0 (AC Try.prog w0 n_laws_szTree ([Value.agg (⟨[cellOf a0 0, cellOf a0 1, cellOf a0 2, cellOf a0 3, cellOf a0 4]⟩), Value.int IntKind.i64 1048576]) σ (fun v0 s1 => pBin Try.prog 3 BinOp.lss v0 (Value.int IntKind.i64 0) (fun v2 => pIf v2 (R (Value.bool true) s1) (AC Try.prog w0 n_laws_szStringS [a1, v0] s1 (fun v3 s4 => pBin Try.prog 3 BinOp.lss v3 (Value.int IntKind.i64 0) (fun v5 => pIf v5 (R (Value.bool true) s4) (AC Try.prog w0 n_laws_toTree ([Value.agg (⟨[cellOf a0 0, cellOf a0 1, cellOf a0 2, cellOf a0 3, cellOf a0 4]⟩)]) s4 (fun v6 s7 => AC Try.prog w0 n_laws_toStringS [a1] s7 (fun v8 s9 => AC Try.prog w0 n_spec_TreeList [v6, v8] s9 (fun v10 s11 => pExtract v10 0 (fun v12 => pExtract v10 1 (fun v13 => AC Try.prog w0 n_laws_toTree ([Value.agg (⟨[cellOf a0 0, cellOf a0 1, cellOf a0 2, cellOf a0 3, cellOf a0 4]⟩)]) s11 (fun v14 s15 => pVal true 5 v14 (AC Try.prog w0 n_laws_toStringS [a1] s15 (fun v16 s17 => AC Try.prog w0 n_impl_TreeList ([Value.agg (⟨[cellOf v14 0, cellOf v14 1, cellOf v14 2, cellOf v14 3, cellOf v14 4]⟩), v16]) s17 (fun v18 s19 => pExtract v18 0 (fun v20 => pExtract v18 1 (fun v21 => AC Try.prog w0 n_laws_eqStringS [v20, v12] s19 (fun v22 s23 => pUn UnOp.not v22 (fun v24 => pIf v24 (R (Value.bool false) s23) (pBin Try.prog 3 BinOp.neq v21 v13 (fun v25 => pIf v25 (R (Value.bool false) s23) (AC Try.prog w0 n_laws_toTree ([Value.agg (⟨[cellOf a0 0, cellOf a0 1, cellOf a0 2, cellOf a0 3, cellOf a0 4]⟩)]) s23 (fun v26 s27 => (Ext s23 s27) ∧ (AC Try.prog w0 n_laws_eqTree ([Value.agg (⟨[cellOf v14 0, cellOf v14 1, cellOf v14 2, cellOf v14 3, cellOf v14 4]⟩), v26]) s27 (fun v28 s29 => pUn UnOp.not v28 (fun v30 => pIf v30 (R (Value.bool false) s29) (AC Try.prog w0 n_laws_toStringS [a1] s29 (fun v31 s32 => AC Try.prog w0 n_laws_eqStringS [v16, v31] s32 (fun v33 s34 => pUn UnOp.not v33 (fun v35 => pIf v35 (R (Value.bool false) s34) (AC Try.prog w0 n_laws_markTree ([Value.agg (⟨[cellOf v14 0, cellOf v14 1, cellOf v14 2, cellOf v14 3, cellOf v14 4]⟩), Value.int IntKind.i64 1]) s34 (fun v36 s37 => AC Try.prog w0 n_laws_markStringS [v16, v36] s37 (fun v38 s39 => pBin Try.prog 3 BinOp.lss v38 (Value.int IntKind.i64 0) (fun v40 => pIf v40 (R (Value.bool false) s39) (AC Try.prog w0 n_laws_eqStringS [v20, v12] s39 (fun v41 s42 => pUn UnOp.not v41 (fun v43 => pIf v43 (R (Value.bool false) s42) (pBin Try.prog 3 BinOp.neq v21 v13 (fun v44 => pIf v44 (R (Value.bool false) s42) (AC Try.prog w0 n_laws_markStringS [v20, Value.int IntKind.i64 1] s42 (fun v45 s46 => AC Try.prog w0 n_laws_heldStringS [v20, Value.int IntKind.i64 1] s46 (fun v47 s48 => pBin Try.prog 3 BinOp.lss v47 (Value.int IntKind.i64 0) (fun v49 => pIf v49 (R (Value.bool false) s48) (pBin Try.prog 3 BinOp.neq v47 v45 (fun v50 => pIf v50 (R (Value.bool false) s48) (AC Try.prog w0 n_laws_toTree ([Value.agg (⟨[cellOf a0 0, cellOf a0 1, cellOf a0 2, cellOf a0 3, cellOf a0 4]⟩)]) s48 (fun v51 s52 => AC Try.prog w0 n_laws_toStringS [a1] s52 (fun v53 s54 => AC Try.prog w0 n_impl_TreeList [v51, v53] s54 (fun v55 s56 => pExtract v55 0 (fun v57 => pExtract v55 1 (fun v58 => AC Try.prog w0 n_laws_eqStringS [v57, v12] s56 (fun v59 s60 => pUn UnOp.not v59 (fun v61 => pIf v61 (R (Value.bool false) s60) (pBin Try.prog 3 BinOp.neq v58 v13 (fun v62 => pIf v62 (R (Value.bool false) s60) (AC Try.prog w0 n_laws_heldStringS [v20, Value.int IntKind.i64 1] s60 (fun v63 s64 => pBin Try.prog 3 BinOp.lss v63 (Value.int IntKind.i64 0) (fun v65 => pIf v65 (R (Value.bool false) s64) (pBin Try.prog 3 BinOp.neq v63 v45 (fun v66 => pIf v66 (R (Value.bool false) s64) (R (Value.bool true) s64))))))))))))))))))))))))))))))))))))))))))))))))))))))))))))))
theorem vc_laws_FnExactTreeList_eq (w0 : World) (a0 a1 : Value) (σ : Vw) (R : Value → Vw → Prop) : vc_laws_FnExactTreeList w0 a0 a1 σ R = den Try.prog w0 kp_laws_FnExactTreeList esc_laws_FnExactTreeList (Try.f14.body.getD .skip) (entry Try.f14.ntmps [a0, a1]) σ (retK Try.prog Try.f14.results.toList R) := by kernel_rfl
theorem ac_laws_FnExactTreeList {w0 : World} {a0 a1 : Value} {σ : Vw} {R : Value → Vw → Prop} (h : vc_laws_FnExactTreeList w0 a0 a1 σ R) : AC Try.prog w0 n_laws_FnExactTreeList [a0, a1] σ R := by
  refine ac_rule (fn := Try.f14) (c := Try.f14.body.getD .skip) kp_laws_FnExactTreeList esc_laws_FnExactTreeList Try.func14 (by kernel_rfl) (by kernel_rfl) ?_
  rw [← vc_laws_FnExactTreeList_eq]
  exact h

/-- spec.PagesNeed -/
def kp_spec_PagesNeed : Nat → Keep
  | _ => ⟨[], [], [], [], []⟩
def esc_spec_PagesNeed : Nat → Bool
  | _ => false
def vc_spec_PagesNeed (w0 : World) (a0 : Value) (σ : Vw) (R : Value → Vw → Prop) : Prop :=
  pLenS a0 (fun v0 => pBin Try.prog 3 BinOp.add v0 (Value.int IntKind.i64 40) (fun v1 => pBin Try.prog 3 BinOp.sub v1 (Value.int IntKind.i64 1) (fun v2 => pBin Try.prog 3 BinOp.quo v2 (Value.int IntKind.i64 40) (fun v3 => R v3 σ))))
theorem vc_spec_PagesNeed_eq (w0 : World) (a0 : Value) (σ : Vw) (R : Value → Vw → Prop) : vc_spec_PagesNeed w0 a0 σ R = den Try.prog w0 kp_spec_PagesNeed esc_spec_PagesNeed (Try.f15.body.getD .skip) (entry Try.f15.ntmps [a0]) σ (retK Try.prog Try.f15.results.toList R) := by kernel_rfl
theorem ac_spec_PagesNeed {w0 : World} {a0 : Value} {σ : Vw} {R : Value → Vw → Prop} (h : vc_spec_PagesNeed w0 a0 σ R) : AC Try.prog w0 n_spec_PagesNeed [a0] σ R := by
  refine ac_rule (fn := Try.f15) (c := Try.f15.body.getD .skip) kp_spec_PagesNeed esc_spec_PagesNeed Try.func15 (by kernel_rfl) (by kernel_rfl) ?_
  rw [← vc_spec_PagesNeed_eq]
  exact h

/-- impl.PagesNeed -/
def kp_impl_PagesNeed : Nat → Keep
  | _ => ⟨[], [], [], [], []⟩
def esc_impl_PagesNeed : Nat → Bool
  | _ => false
def vc_impl_PagesNeed (w0 : World) (a0 : Value) (σ : Vw) (R : Value → Vw → Prop) : Prop :=
  pLenS a0 (fun v0 => AC Try.prog w0 n_impl_pieces [v0, Value.int IntKind.i64 40] σ (fun v1 s2 => R v1 s2))
theorem vc_impl_PagesNeed_eq (w0 : World) (a0 : Value) (σ : Vw) (R : Value → Vw → Prop) : vc_impl_PagesNeed w0 a0 σ R = den Try.prog w0 kp_impl_PagesNeed esc_impl_PagesNeed (Try.f16.body.getD .skip) (entry Try.f16.ntmps [a0]) σ (retK Try.prog Try.f16.results.toList R) := by kernel_rfl
theorem ac_impl_PagesNeed {w0 : World} {a0 : Value} {σ : Vw} {R : Value → Vw → Prop} (h : vc_impl_PagesNeed w0 a0 σ R) : AC Try.prog w0 n_impl_PagesNeed [a0] σ R := by
  refine ac_rule (fn := Try.f16) (c := Try.f16.body.getD .skip) kp_impl_PagesNeed esc_impl_PagesNeed Try.func16 (by kernel_rfl) (by kernel_rfl) ?_
  rw [← vc_impl_PagesNeed_eq]
  exact h

/-- laws.szDisk -/
def kp_laws_szDisk : Nat → Keep
  | _ => ⟨[], [], [], [], []⟩
def esc_laws_szDisk : Nat → Bool
  | _ => false
def vc_laws_szDisk (w0 : World) (a0 a1 : Value) (σ : Vw) (R : Value → Vw → Prop) : Prop :=
  pVal true 1 a0 (AC Try.prog w0 n_laws_szStringS [cellOf a0 0, a1] σ (fun v0 s1 => pBin Try.prog 3 BinOp.lss v0 (Value.int IntKind.i64 0) (fun v2 => pIf v2 (R (Value.int IntKind.i64 (-1)) s1) (R v0 s1))))
theorem vc_laws_szDisk_eq (w0 : World) (a0 a1 : Value) (σ : Vw) (R : Value → Vw → Prop) : vc_laws_szDisk w0 a0 a1 σ R = den Try.prog w0 kp_laws_szDisk esc_laws_szDisk (Try.f17.body.getD .skip) (entry Try.f17.ntmps [a0, a1]) σ (retK Try.prog Try.f17.results.toList R) := by kernel_rfl
theorem ac_laws_szDisk {w0 : World} {a0 a1 : Value} {σ : Vw} {R : Value → Vw → Prop} (h : vc_laws_szDisk w0 a0 a1 σ R) : AC Try.prog w0 n_laws_szDisk [a0, a1] σ R := by
  refine ac_rule (fn := Try.f17) (c := Try.f17.body.getD .skip) kp_laws_szDisk esc_laws_szDisk Try.func17 (by kernel_rfl) (by kernel_rfl) ?_
  rw [← vc_laws_szDisk_eq]
  exact h

/-- spec.DiskOk -/
def kp_spec_DiskOk : Nat → Keep
  | 2 => ⟨[2, 3], [(1, 1)], [1], [], []⟩
  | _ => ⟨[], [], [], [], []⟩
def esc_spec_DiskOk : Nat → Bool
  | _ => false
def vc_spec_DiskOk (w0 : World) (a0 : Value) (σ : Vw) (R : Value → Vw → Prop) : Prop :=
  pVal true 1 a0 (pLoop (fun l0 K1 s2 => pLen (vget l0 2) (fun v3 => pBin Try.prog 3 BinOp.lss (vget l0 1) v3 (fun v4 => pIf v4 (pIndexAddr 1 (vget l0 2) (vget l0 1) (fun v5 => pLoad w0 1 v5 s2 (fun g6 => pLenS (g6 0) (fun v7 => pBin Try.prog 3 BinOp.gtr v7 (Value.int IntKind.i64 64) (fun v8 => pIf v8 (K1 AX.ret [Value.bool false, vget l0 1, vget l0 2] s2) (pBin Try.prog 3 BinOp.add (vget l0 1) (Value.int IntKind.i64 1) (fun v9 => K1 AX.normal [vget l0 0, v9, vget l0 2] s2))))))) (K1 (AX.exit 0) [vget l0 0, vget l0 1, vget l0 2] s2)))) [Value.bool false, Value.int IntKind.i64 0, cellOf a0 0] σ (fun x10 l11 s12 => match x10 with | .normal => pLen (vget l11 2) (fun v13 => pBin Try.prog 3 BinOp.eql v13 (Value.int IntKind.i64 194) (fun v14 => R v14 s12)) | .ret => R (vget l11 0) s12 | .exit i15 => (match Nat.beq i15 0 with | true => pLen (vget l11 2) (fun v16 => pBin Try.prog 3 BinOp.eql v16 (Value.int IntKind.i64 194) (fun v17 => R v17 s12)) | false => False)))
theorem vc_spec_DiskOk_eq (w0 : World) (a0 : Value) (σ : Vw) (R : Value → Vw → Prop) : vc_spec_DiskOk w0 a0 σ R = den Try.prog w0 kp_spec_DiskOk esc_spec_DiskOk (Try.f18.body.getD .skip) (entry Try.f18.ntmps [a0]) σ (retK Try.prog Try.f18.results.toList R) := by kernel_rfl
theorem ac_spec_DiskOk {w0 : World} {a0 : Value} {σ : Vw} {R : Value → Vw → Prop} (h : vc_spec_DiskOk w0 a0 σ R) : AC Try.prog w0 n_spec_DiskOk [a0] σ R := by
  refine ac_rule (fn := Try.f18) (c := Try.f18.body.getD .skip) kp_spec_DiskOk esc_spec_DiskOk Try.func18 (by kernel_rfl) (by kernel_rfl) ?_
  rw [← vc_spec_DiskOk_eq]
  exact h

/-- laws.toDisk -/
def kp_laws_toDisk : Nat → Keep
  | _ => ⟨[], [], [], [], []⟩
def esc_laws_toDisk : Nat → Bool
  | _ => false
def vc_laws_toDisk (w0 : World) (a0 : Value) (σ : Vw) (R : Value → Vw → Prop) : Prop :=
  pVal true 1 a0 (AC Try.prog w0 n_laws_toStringS [cellOf a0 0] σ (fun v0 s1 => pVal false 1 v0 (pVal true 1 (Value.agg ⟨[v0]⟩) (R (Value.agg ⟨[v0]⟩) s1))))
theorem vc_laws_toDisk_eq (w0 : World) (a0 : Value) (σ : Vw) (R : Value → Vw → Prop) : vc_laws_toDisk w0 a0 σ R = den Try.prog w0 kp_laws_toDisk esc_laws_toDisk (Try.f19.body.getD .skip) (entry Try.f19.ntmps [a0]) σ (retK Try.prog Try.f19.results.toList R) := by kernel_rfl
theorem ac_laws_toDisk {w0 : World} {a0 : Value} {σ : Vw} {R : Value → Vw → Prop} (h : vc_laws_toDisk w0 a0 σ R) : AC Try.prog w0 n_laws_toDisk [a0] σ R := by
  refine ac_rule (fn := Try.f19) (c := Try.f19.body.getD .skip) kp_laws_toDisk esc_laws_toDisk Try.func19 (by kernel_rfl) (by kernel_rfl) ?_
  rw [← vc_laws_toDisk_eq]
  exact h

/-- impl.DiskOk -/
def kp_impl_DiskOk : Nat → Keep
  | 2 => ⟨[2, 6, 7, 8], [(1, 1)], [1], [], []⟩
  | _ => ⟨[], [], [], [], []⟩
def esc_impl_DiskOk : Nat → Bool
  | _ => false
def vc_impl_DiskOk (w0 : World) (a0 : Value) (σ : Vw) (R : Value → Vw → Prop) : Prop :=
  pVal true 1 a0 (pLen (cellOf a0 0) (fun v0 => pLoop (fun l1 K2 s3 => pBin Try.prog 3 BinOp.lss (vget l1 3) (vget l1 2) (fun v4 => pIf v4 (pIndexAddr 1 (vget l1 1) (vget l1 3) (fun v5 => pLoad w0 1 v5 s3 (fun g6 => pLenS (g6 0) (fun v7 => pBin Try.prog 3 BinOp.gtr v7 (Value.int IntKind.i64 64) (fun v8 => pIf v8 (K2 AX.ret [Value.bool false, vget l1 1, vget l1 2, vget l1 3, vget l1 4] s3) (pBin Try.prog 3 BinOp.add (vget l1 3) (Value.int IntKind.i64 1) (fun v9 => K2 AX.normal [vget l1 0, vget l1 1, vget l1 2, v9, vget l1 4] s3))))))) (K2 (AX.exit 0) [vget l1 0, vget l1 1, vget l1 2, vget l1 3, vget l1 4] s3))) [Value.bool false, cellOf a0 0, v0, Value.int IntKind.i64 0, cellOf a0 0] σ (fun x10 l11 s12 => match x10 with | .normal => pLen (vget l11 4) (fun v13 => pBin Try.prog 3 BinOp.eql v13 (Value.int IntKind.i64 194) (fun v14 => R v14 s12)) | .ret => R (vget l11 0) s12 | .exit i15 => (match Nat.beq i15 0 with | true => pLen (vget l11 4) (fun v16 => pBin Try.prog 3 BinOp.eql v16 (Value.int IntKind.i64 194) (fun v17 => R v17 s12)) | false => False))))
theorem vc_impl_DiskOk_eq (w0 : World) (a0 : Value) (σ : Vw) (R : Value → Vw → Prop) : vc_impl_DiskOk w0 a0 σ R = den Try.prog w0 kp_impl_DiskOk esc_impl_DiskOk (Try.f20.body.getD .skip) (entry Try.f20.ntmps [a0]) σ (retK Try.prog Try.f20.results.toList R) := by kernel_rfl
theorem ac_impl_DiskOk {w0 : World} {a0 : Value} {σ : Vw} {R : Value → Vw → Prop} (h : vc_impl_DiskOk w0 a0 σ R) : AC Try.prog w0 n_impl_DiskOk [a0] σ R := by
  refine ac_rule (fn := Try.f20) (c := Try.f20.body.getD .skip) kp_impl_DiskOk esc_impl_DiskOk Try.func20 (by kernel_rfl) (by kernel_rfl) ?_
  rw [← vc_impl_DiskOk_eq]
  exact h

/-- laws.eqDisk -/
def kp_laws_eqDisk : Nat → Keep
  | _ => ⟨[], [], [], [], []⟩
def esc_laws_eqDisk : Nat → Bool
  | _ => false
def vc_laws_eqDisk (w0 : World) (a0 a1 : Value) (σ : Vw) (R : Value → Vw → Prop) : Prop :=
  pVal true 1 a0 (pVal true 1 a1 (AC Try.prog w0 n_laws_eqStringS [cellOf a0 0, cellOf a1 0] σ (fun v0 s1 => pUn UnOp.not v0 (fun v2 => pIf v2 (R (Value.bool false) s1) (R (Value.bool true) s1)))))
theorem vc_laws_eqDisk_eq (w0 : World) (a0 a1 : Value) (σ : Vw) (R : Value → Vw → Prop) : vc_laws_eqDisk w0 a0 a1 σ R = den Try.prog w0 kp_laws_eqDisk esc_laws_eqDisk (Try.f21.body.getD .skip) (entry Try.f21.ntmps [a0, a1]) σ (retK Try.prog Try.f21.results.toList R) := by kernel_rfl
theorem ac_laws_eqDisk {w0 : World} {a0 a1 : Value} {σ : Vw} {R : Value → Vw → Prop} (h : vc_laws_eqDisk w0 a0 a1 σ R) : AC Try.prog w0 n_laws_eqDisk [a0, a1] σ R := by
  refine ac_rule (fn := Try.f21) (c := Try.f21.body.getD .skip) kp_laws_eqDisk esc_laws_eqDisk Try.func21 (by kernel_rfl) (by kernel_rfl) ?_
  rw [← vc_laws_eqDisk_eq]
  exact h

/-- spec.PagesNew -/
def kp_spec_PagesNew : Nat → Keep
  | 3 => ⟨[2], [(0, 2), (1, 2)], [0, 1], [], []⟩
  | _ => ⟨[], [], [], [], []⟩
def esc_spec_PagesNew : Nat → Bool
  | _ => false
def vc_spec_PagesNew (w0 : World) (σ : Vw) (R : Value → Vw → Prop) : Prop :=
  pVal true 2 (Value.agg (⟨[Value.slice Option.none 0 0, Value.slice Option.none 0 0]⟩)) (pLoop (fun l0 K1 s2 => pBin Try.prog 3 BinOp.lss (vget l0 0) (Value.int IntKind.i64 96) (fun v3 => pIf v3 (pVal false 1 (Value.int IntKind.i64 (-1)) (pVal true 3 (Value.agg (⟨[Value.bool false, Value.string ({ data := #[] }), Value.int IntKind.i64 (-1)]⟩)) ((allOne ([Value.bool false, Value.string ({ data := #[] }), Value.int IntKind.i64 (-1)])) ∧ (pAppend w0 90 3 32 (vget l0 3) 1 ([Value.bool false, Value.string ({ data := #[] }), Value.int IntKind.i64 (-1)]) s2 (fun v4 s5 => pVal false 1 v4 (pBin Try.prog 3 BinOp.add (vget l0 0) (Value.int IntKind.i64 1) (fun v6 => K1 AX.normal [v6, vget l0 1, vget l0 2, v4, vget l0 4] s5))))))) (K1 (AX.exit 0) [vget l0 0, vget l0 1, vget l0 2, vget l0 3, vget l0 4] s2))) [Value.int IntKind.i64 0, Value.slice Option.none 0 0, Value.slice Option.none 0 0, Value.slice Option.none 0 0, Value.slice Option.none 0 0] σ (fun x7 l8 s9 => match x7 with | .normal => pVal true 2 (Value.agg (⟨[vget l8 3, vget l8 4]⟩)) (R (Value.agg (⟨[vget l8 3, vget l8 4]⟩)) s9) | .ret => R (Value.agg (⟨[vget l8 1, vget l8 2]⟩)) s9 | .exit i10 => (match Nat.beq i10 0 with | true => pVal true 2 (Value.agg (⟨[vget l8 3, vget l8 4]⟩)) (R (Value.agg (⟨[vget l8 3, vget l8 4]⟩)) s9) | false => False)))
theorem vc_spec_PagesNew_eq (w0 : World) (σ : Vw) (R : Value → Vw → Prop) : vc_spec_PagesNew w0 σ R = den Try.prog w0 kp_spec_PagesNew esc_spec_PagesNew (Try.f22.body.getD .skip) (entry Try.f22.ntmps []) σ (retK Try.prog Try.f22.results.toList R) := by kernel_rfl
theorem ac_spec_PagesNew {w0 : World} {σ : Vw} {R : Value → Vw → Prop} (h : vc_spec_PagesNew w0 σ R) : AC Try.prog w0 n_spec_PagesNew [] σ R := by
  refine ac_rule (fn := Try.f22) (c := Try.f22.body.getD .skip) kp_spec_PagesNew esc_spec_PagesNew Try.func22 (by kernel_rfl) (by kernel_rfl) ?_
  rw [← vc_spec_PagesNew_eq]
  exact h

/-- impl.PagesNew -/
def kp_impl_PagesNew : Nat → Keep
  | 3 => ⟨[5], [(0, 2), (1, 2)], [0, 1], [], []⟩
  | _ => ⟨[], [], [], [], []⟩
def esc_impl_PagesNew : Nat → Bool
  | 2 => true
  | 3 => true
  | _ => false
def vc_impl_PagesNew (w0 : World) (σ : Vw) (R : Value → Vw → Prop) : Prop :=
  pNew w0 90 [] σ (fun n0 s1 => pNew w0 124 [] s1 (fun n2 s3 => pVal false 1 (Value.slice (Option.some (Addr.mk n0 0 Option.none)) 0 0) (pVal false 1 (Value.slice (Option.some (Addr.mk n2 0 Option.none)) 0 0) (pVal true 2 (Value.agg (⟨[Value.slice (Option.some (Addr.mk n0 0 Option.none)) 0 0, Value.slice (Option.some (Addr.mk n2 0 Option.none)) 0 0]⟩)) (pLoop (fun l4 K5 s6 => pBin Try.prog 3 BinOp.lss (vget l4 0) (Value.int IntKind.i64 96) (fun v7 => pIf v7 (pVal false 1 (Value.int IntKind.i64 (-1)) (pVal true 3 (Value.agg (⟨[Value.bool false, Value.string ({ data := #[] }), Value.int IntKind.i64 (-1)]⟩)) ((allOne ([Value.bool false, Value.string ({ data := #[] }), Value.int IntKind.i64 (-1)])) ∧ (pAppend w0 90 3 32 (vget l4 3) 1 ([Value.bool false, Value.string ({ data := #[] }), Value.int IntKind.i64 (-1)]) s6 (fun v8 s9 => pVal false 1 v8 (pBin Try.prog 3 BinOp.add (vget l4 0) (Value.int IntKind.i64 1) (fun v10 => K5 AX.normal [v10, vget l4 1, vget l4 2, v8, vget l4 4] s9))))))) (K5 (AX.exit 0) [vget l4 0, vget l4 1, vget l4 2, vget l4 3, vget l4 4] s6))) [Value.int IntKind.i64 0, Value.slice Option.none 0 0, Value.slice Option.none 0 0, Value.slice (Option.some (Addr.mk n0 0 Option.none)) 0 0, Value.slice (Option.some (Addr.mk n2 0 Option.none)) 0 0] s3 (fun x11 l12 s13 => match x11 with | .normal => pVal true 2 (Value.agg (⟨[vget l12 3, vget l12 4]⟩)) (R (Value.agg (⟨[vget l12 3, vget l12 4]⟩)) s13) | .ret => R (Value.agg (⟨[vget l12 1, vget l12 2]⟩)) s13 | .exit i14 => (match Nat.beq i14 0 with | true => pVal true 2 (Value.agg (⟨[vget l12 3, vget l12 4]⟩)) (R (Value.agg (⟨[vget l12 3, vget l12 4]⟩)) s13) | false => False)))))))
theorem vc_impl_PagesNew_eq (w0 : World) (σ : Vw) (R : Value → Vw → Prop) : vc_impl_PagesNew w0 σ R = den Try.prog w0 kp_impl_PagesNew esc_impl_PagesNew (Try.f23.body.getD .skip) (entry Try.f23.ntmps []) σ (retK Try.prog Try.f23.results.toList R) := by kernel_rfl
theorem ac_impl_PagesNew {w0 : World} {σ : Vw} {R : Value → Vw → Prop} (h : vc_impl_PagesNew w0 σ R) : AC Try.prog w0 n_impl_PagesNew [] σ R := by
  refine ac_rule (fn := Try.f23) (c := Try.f23.body.getD .skip) kp_impl_PagesNew esc_impl_PagesNew Try.func23 (by kernel_rfl) (by kernel_rfl) ?_
  rw [← vc_impl_PagesNew_eq]
  exact h

/-- laws.eqPages -/
def kp_laws_eqPages : Nat → Keep
  | _ => ⟨[], [], [], [], []⟩
def esc_laws_eqPages : Nat → Bool
  | _ => false
def vc_laws_eqPages (w0 : World) (a0 a1 : Value) (σ : Vw) (R : Value → Vw → Prop) : Prop :=
  pVal true 2 a0 (pVal true 2 a1 (AC Try.prog w0 n_laws_eqPageS [cellOf a0 0, cellOf a1 0] σ (fun v0 s1 => pUn UnOp.not v0 (fun v2 => pIf v2 (R (Value.bool false) s1) (AC Try.prog w0 n_laws_eqPageNameS [cellOf a0 1, cellOf a1 1] s1 (fun v3 s4 => pUn UnOp.not v3 (fun v5 => pIf v5 (R (Value.bool false) s4) (R (Value.bool true) s4))))))))
theorem vc_laws_eqPages_eq (w0 : World) (a0 a1 : Value) (σ : Vw) (R : Value → Vw → Prop) : vc_laws_eqPages w0 a0 a1 σ R = den Try.prog w0 kp_laws_eqPages esc_laws_eqPages (Try.f24.body.getD .skip) (entry Try.f24.ntmps [a0, a1]) σ (retK Try.prog Try.f24.results.toList R) := by kernel_rfl
theorem ac_laws_eqPages {w0 : World} {a0 a1 : Value} {σ : Vw} {R : Value → Vw → Prop} (h : vc_laws_eqPages w0 a0 a1 σ R) : AC Try.prog w0 n_laws_eqPages [a0, a1] σ R := by
  refine ac_rule (fn := Try.f24) (c := Try.f24.body.getD .skip) kp_laws_eqPages esc_laws_eqPages Try.func24 (by kernel_rfl) (by kernel_rfl) ?_
  rw [← vc_laws_eqPages_eq]
  exact h

/-- laws.markPages -/
def kp_laws_markPages : Nat → Keep
  | _ => ⟨[], [], [], [], []⟩
def esc_laws_markPages : Nat → Bool
  | _ => false
def vc_laws_markPages (w0 : World) (a0 a1 : Value) (σ : Vw) (R : Value → Vw → Prop) : Prop :=
  pVal true 2 a0 (AC Try.prog w0 n_laws_markPageS [cellOf a0 0, a1] σ (fun v0 s1 => AC Try.prog w0 n_laws_markPageNameS [cellOf a0 1, v0] s1 (fun v2 s3 => R v2 s3)))
theorem vc_laws_markPages_eq (w0 : World) (a0 a1 : Value) (σ : Vw) (R : Value → Vw → Prop) : vc_laws_markPages w0 a0 a1 σ R = den Try.prog w0 kp_laws_markPages esc_laws_markPages (Try.f25.body.getD .skip) (entry Try.f25.ntmps [a0, a1]) σ (retK Try.prog Try.f25.results.toList R) := by kernel_rfl
theorem ac_laws_markPages {w0 : World} {a0 a1 : Value} {σ : Vw} {R : Value → Vw → Prop} (h : vc_laws_markPages w0 a0 a1 σ R) : AC Try.prog w0 n_laws_markPages [a0, a1] σ R := by
  refine ac_rule (fn := Try.f25) (c := Try.f25.body.getD .skip) kp_laws_markPages esc_laws_markPages Try.func25 (by kernel_rfl) (by kernel_rfl) ?_
  rw [← vc_laws_markPages_eq]
  exact h

/-- laws.heldPages -/
def kp_laws_heldPages : Nat → Keep
  | _ => ⟨[], [], [], [], []⟩
def esc_laws_heldPages : Nat → Bool
  | _ => false
def vc_laws_heldPages (w0 : World) (a0 a1 : Value) (σ : Vw) (R : Value → Vw → Prop) : Prop :=
  pVal true 2 a0 (AC Try.prog w0 n_laws_heldPageS [cellOf a0 0, a1] σ (fun v0 s1 => pBin Try.prog 3 BinOp.lss v0 (Value.int IntKind.i64 0) (fun v2 => pIf v2 (R (Value.int IntKind.i64 (-1)) s1) (AC Try.prog w0 n_laws_heldPageNameS [cellOf a0 1, v0] s1 (fun v3 s4 => pBin Try.prog 3 BinOp.lss v3 (Value.int IntKind.i64 0) (fun v5 => pIf v5 (R (Value.int IntKind.i64 (-1)) s4) (R v3 s4)))))))
theorem vc_laws_heldPages_eq (w0 : World) (a0 a1 : Value) (σ : Vw) (R : Value → Vw → Prop) : vc_laws_heldPages w0 a0 a1 σ R = den Try.prog w0 kp_laws_heldPages esc_laws_heldPages (Try.f26.body.getD .skip) (entry Try.f26.ntmps [a0, a1]) σ (retK Try.prog Try.f26.results.toList R) := by kernel_rfl
theorem ac_laws_heldPages {w0 : World} {a0 a1 : Value} {σ : Vw} {R : Value → Vw → Prop} (h : vc_laws_heldPages w0 a0 a1 σ R) : AC Try.prog w0 n_laws_heldPages [a0, a1] σ R := by
  refine ac_rule (fn := Try.f26) (c := Try.f26.body.getD .skip) kp_laws_heldPages esc_laws_heldPages Try.func26 (by kernel_rfl) (by kernel_rfl) ?_
  rw [← vc_laws_heldPages_eq]
  exact h

/-- laws.szTree -/
def kp_laws_szTree : Nat → Keep
  | _ => ⟨[], [], [], [], []⟩
def esc_laws_szTree : Nat → Bool
  | _ => false
def vc_laws_szTree (w0 : World) (a0 a1 : Value) (σ : Vw) (R : Value → Vw → Prop) : Prop :=
  pVal true 5 a0 (pLenS (cellOf a0 2) (fun v0 => pBin Try.prog 3 BinOp.sub a1 v0 (fun v1 => pBin Try.prog 3 BinOp.lss v1 (Value.int IntKind.i64 0) (fun v2 => pIf v2 (R (Value.int IntKind.i64 (-1)) σ) (AC Try.prog w0 n_laws_szStringS [cellOf a0 3, v1] σ (fun v3 s4 => pBin Try.prog 3 BinOp.lss v3 (Value.int IntKind.i64 0) (fun v5 => pIf v5 (R (Value.int IntKind.i64 (-1)) s4) (AC Try.prog w0 n_laws_szTreeS [cellOf a0 4, v3] s4 (fun v6 s7 => pBin Try.prog 3 BinOp.lss v6 (Value.int IntKind.i64 0) (fun v8 => pIf v8 (R (Value.int IntKind.i64 (-1)) s7) (R v6 s7)))))))))))
theorem vc_laws_szTree_eq (w0 : World) (a0 a1 : Value) (σ : Vw) (R : Value → Vw → Prop) : vc_laws_szTree w0 a0 a1 σ R = den Try.prog w0 kp_laws_szTree esc_laws_szTree (Try.f27.body.getD .skip) (entry Try.f27.ntmps [a0, a1]) σ (retK Try.prog Try.f27.results.toList R) := by kernel_rfl
theorem ac_laws_szTree {w0 : World} {a0 a1 : Value} {σ : Vw} {R : Value → Vw → Prop} (h : vc_laws_szTree w0 a0 a1 σ R) : AC Try.prog w0 n_laws_szTree [a0, a1] σ R := by
  refine ac_rule (fn := Try.f27) (c := Try.f27.body.getD .skip) kp_laws_szTree esc_laws_szTree Try.func27 (by kernel_rfl) (by kernel_rfl) ?_
  rw [← vc_laws_szTree_eq]
  exact h

/-- spec.TreeOk -/
def kp_spec_TreeOk : Nat → Keep
  | _ => ⟨[], [], [], [], []⟩
def esc_spec_TreeOk : Nat → Bool
  | _ => false
def vc_spec_TreeOk (w0 : World) (a0 : Value) (σ : Vw) (R : Value → Vw → Prop) : Prop :=
  pVal true 5 a0 (pIf (cellOf a0 0) (AC Try.prog w0 n_spec_l1Parts ([Value.agg (⟨[cellOf a0 0, cellOf a0 1, cellOf a0 2, cellOf a0 3, cellOf a0 4]⟩), Value.int IntKind.i64 0]) σ (fun v0 s1 => pIf v0 (AC Try.prog w0 n_spec_l1Count ([Value.agg (⟨[cellOf a0 0, cellOf a0 1, cellOf a0 2, cellOf a0 3, cellOf a0 4]⟩)]) s1 (fun v2 s3 => pBin Try.prog 3 BinOp.leq v2 (Value.int IntKind.i64 30) (fun v4 => R v4 s3))) (R (Value.bool false) s1))) (R (Value.bool false) σ))
theorem vc_spec_TreeOk_eq (w0 : World) (a0 : Value) (σ : Vw) (R : Value → Vw → Prop) : vc_spec_TreeOk w0 a0 σ R = den Try.prog w0 kp_spec_TreeOk esc_spec_TreeOk (Try.f28.body.getD .skip) (entry Try.f28.ntmps [a0]) σ (retK Try.prog Try.f28.results.toList R) := by kernel_rfl
theorem ac_spec_TreeOk {w0 : World} {a0 : Value} {σ : Vw} {R : Value → Vw → Prop} (h : vc_spec_TreeOk w0 a0 σ R) : AC Try.prog w0 n_spec_TreeOk [a0] σ R := by
  refine ac_rule (fn := Try.f28) (c := Try.f28.body.getD .skip) kp_spec_TreeOk esc_spec_TreeOk Try.func28 (by kernel_rfl) (by kernel_rfl) ?_
  rw [← vc_spec_TreeOk_eq]
  exact h

/-- laws.toTree -/
def kp_laws_toTree : Nat → Keep
  | _ => ⟨[], [], [], [], []⟩
def esc_laws_toTree : Nat → Bool
  | _ => false
def vc_laws_toTree (w0 : World) (a0 : Value) (σ : Vw) (R : Value → Vw → Prop) : Prop :=
  pVal true 5 a0 (pVal false 1 (cellOf a0 0) (pVal false 1 (cellOf a0 1) (pVal false 1 (cellOf a0 2) (AC Try.prog w0 n_laws_toStringS [cellOf a0 3] σ (fun v0 s1 => pVal false 1 v0 (AC Try.prog w0 n_laws_toTreeS [cellOf a0 4] s1 (fun v2 s3 => pVal false 1 v2 (pVal true 5 (Value.agg (⟨[cellOf a0 0, cellOf a0 1, cellOf a0 2, v0, v2]⟩)) (R (Value.agg (⟨[cellOf a0 0, cellOf a0 1, cellOf a0 2, v0, v2]⟩)) s3)))))))))
theorem vc_laws_toTree_eq (w0 : World) (a0 : Value) (σ : Vw) (R : Value → Vw → Prop) : vc_laws_toTree w0 a0 σ R = den Try.prog w0 kp_laws_toTree esc_laws_toTree (Try.f29.body.getD .skip) (entry Try.f29.ntmps [a0]) σ (retK Try.prog Try.f29.results.toList R) := by kernel_rfl
theorem ac_laws_toTree {w0 : World} {a0 : Value} {σ : Vw} {R : Value → Vw → Prop} (h : vc_laws_toTree w0 a0 σ R) : AC Try.prog w0 n_laws_toTree [a0] σ R := by
  refine ac_rule (fn := Try.f29) (c := Try.f29.body.getD .skip) kp_laws_toTree esc_laws_toTree Try.func29 (by kernel_rfl) (by kernel_rfl) ?_
  rw [← vc_laws_toTree_eq]
  exact h

/-- impl.TreeOk -/
def kp_impl_TreeOk : Nat → Keep
  | _ => ⟨[], [], [], [], []⟩
def esc_impl_TreeOk : Nat → Bool
  | _ => false
def vc_impl_TreeOk (w0 : World) (a0 : Value) (σ : Vw) (R : Value → Vw → Prop) : Prop :=
  pVal true 5 a0 (pIf (cellOf a0 0) (AC Try.prog w0 n_impl_Tree_sound ([Value.agg (⟨[cellOf a0 0, cellOf a0 1, cellOf a0 2, cellOf a0 3, cellOf a0 4]⟩), Value.int IntKind.i64 0]) σ (fun v0 s1 => pIf v0 (AC Try.prog w0 n_impl_Tree_paths ([Value.agg (⟨[cellOf a0 0, cellOf a0 1, cellOf a0 2, cellOf a0 3, cellOf a0 4]⟩)]) s1 (fun v2 s3 => pBin Try.prog 3 BinOp.leq v2 (Value.int IntKind.i64 31) (fun v4 => R v4 s3))) (R (Value.bool false) s1))) (R (Value.bool false) σ))
theorem vc_impl_TreeOk_eq (w0 : World) (a0 : Value) (σ : Vw) (R : Value → Vw → Prop) : vc_impl_TreeOk w0 a0 σ R = den Try.prog w0 kp_impl_TreeOk esc_impl_TreeOk (Try.f30.body.getD .skip) (entry Try.f30.ntmps [a0]) σ (retK Try.prog Try.f30.results.toList R) := by kernel_rfl
theorem ac_impl_TreeOk {w0 : World} {a0 : Value} {σ : Vw} {R : Value → Vw → Prop} (h : vc_impl_TreeOk w0 a0 σ R) : AC Try.prog w0 n_impl_TreeOk [a0] σ R := by
  refine ac_rule (fn := Try.f30) (c := Try.f30.body.getD .skip) kp_impl_TreeOk esc_impl_TreeOk Try.func30 (by kernel_rfl) (by kernel_rfl) ?_
  rw [← vc_impl_TreeOk_eq]
  exact h

/-- laws.eqTree -/
def kp_laws_eqTree : Nat → Keep
  | _ => ⟨[], [], [], [], []⟩
def esc_laws_eqTree : Nat → Bool
  | _ => false
def vc_laws_eqTree (w0 : World) (a0 a1 : Value) (σ : Vw) (R : Value → Vw → Prop) : Prop :=
  pVal true 5 a0 (pVal true 5 a1 (pBin Try.prog 4 BinOp.neq (cellOf a0 0) (cellOf a1 0) (fun v0 => pIf v0 (R (Value.bool false) σ) (pBin Try.prog 3 BinOp.neq (cellOf a0 1) (cellOf a1 1) (fun v1 => pIf v1 (R (Value.bool false) σ) (pBin Try.prog 9 BinOp.neq (cellOf a0 2) (cellOf a1 2) (fun v2 => pIf v2 (R (Value.bool false) σ) (AC Try.prog w0 n_laws_eqStringS [cellOf a0 3, cellOf a1 3] σ (fun v3 s4 => pUn UnOp.not v3 (fun v5 => pIf v5 (R (Value.bool false) s4) (AC Try.prog w0 n_laws_eqTreeS [cellOf a0 4, cellOf a1 4] s4 (fun v6 s7 => pUn UnOp.not v6 (fun v8 => pIf v8 (R (Value.bool false) s7) (R (Value.bool true) s7))))))))))))))
theorem vc_laws_eqTree_eq (w0 : World) (a0 a1 : Value) (σ : Vw) (R : Value → Vw → Prop) : vc_laws_eqTree w0 a0 a1 σ R = den Try.prog w0 kp_laws_eqTree esc_laws_eqTree (Try.f31.body.getD .skip) (entry Try.f31.ntmps [a0, a1]) σ (retK Try.prog Try.f31.results.toList R) := by kernel_rfl
theorem ac_laws_eqTree {w0 : World} {a0 a1 : Value} {σ : Vw} {R : Value → Vw → Prop} (h : vc_laws_eqTree w0 a0 a1 σ R) : AC Try.prog w0 n_laws_eqTree [a0, a1] σ R := by
  refine ac_rule (fn := Try.f31) (c := Try.f31.body.getD .skip) kp_laws_eqTree esc_laws_eqTree Try.func31 (by kernel_rfl) (by kernel_rfl) ?_
  rw [← vc_laws_eqTree_eq]
  exact h

/-- spec.TreeCount -/
def kp_spec_TreeCount : Nat → Keep
  | _ => ⟨[], [], [], [], []⟩
def esc_spec_TreeCount : Nat → Bool
  | _ => false
def vc_spec_TreeCount (w0 : World) (a0 : Value) (σ : Vw) (R : Value → Vw → Prop) : Prop :=
  pVal true 5 a0 (AC Try.prog w0 n_spec_TreeOk ([Value.agg (⟨[cellOf a0 0, cellOf a0 1, cellOf a0 2, cellOf a0 3, cellOf a0 4]⟩)]) σ (fun v0 s1 => pUn UnOp.not v0 (fun v2 => pIf v2 (R (Value.int IntKind.i64 0) s1) (AC Try.prog w0 n_spec_l1Count ([Value.agg (⟨[cellOf a0 0, cellOf a0 1, cellOf a0 2, cellOf a0 3, cellOf a0 4]⟩)]) s1 (fun v3 s4 => R v3 s4)))))
theorem vc_spec_TreeCount_eq (w0 : World) (a0 : Value) (σ : Vw) (R : Value → Vw → Prop) : vc_spec_TreeCount w0 a0 σ R = den Try.prog w0 kp_spec_TreeCount esc_spec_TreeCount (Try.f32.body.getD .skip) (entry Try.f32.ntmps [a0]) σ (retK Try.prog Try.f32.results.toList R) := by kernel_rfl
theorem ac_spec_TreeCount {w0 : World} {a0 : Value} {σ : Vw} {R : Value → Vw → Prop} (h : vc_spec_TreeCount w0 a0 σ R) : AC Try.prog w0 n_spec_TreeCount [a0] σ R := by
  refine ac_rule (fn := Try.f32) (c := Try.f32.body.getD .skip) kp_spec_TreeCount esc_spec_TreeCount Try.func32 (by kernel_rfl) (by kernel_rfl) ?_
  rw [← vc_spec_TreeCount_eq]
  exact h

/-- impl.TreeCount -/
def kp_impl_TreeCount : Nat → Keep
  | _ => ⟨[], [], [], [], []⟩
def esc_impl_TreeCount : Nat → Bool
  | _ => false
def vc_impl_TreeCount (w0 : World) (a0 : Value) (σ : Vw) (R : Value → Vw → Prop) : Prop :=
  pVal true 5 a0 (AC Try.prog w0 n_impl_TreeOk ([Value.agg (⟨[cellOf a0 0, cellOf a0 1, cellOf a0 2, cellOf a0 3, cellOf a0 4]⟩)]) σ (fun v0 s1 => pUn UnOp.not v0 (fun v2 => pIf v2 (R (Value.int IntKind.i64 0) s1) (AC Try.prog w0 n_impl_Tree_paths ([Value.agg (⟨[cellOf a0 0, cellOf a0 1, cellOf a0 2, cellOf a0 3, cellOf a0 4]⟩)]) s1 (fun v3 s4 => pBin Try.prog 3 BinOp.sub v3 (Value.int IntKind.i64 1) (fun v5 => R v5 s4))))))
theorem vc_impl_TreeCount_eq (w0 : World) (a0 : Value) (σ : Vw) (R : Value → Vw → Prop) : vc_impl_TreeCount w0 a0 σ R = den Try.prog w0 kp_impl_TreeCount esc_impl_TreeCount (Try.f33.body.getD .skip) (entry Try.f33.ntmps [a0]) σ (retK Try.prog Try.f33.results.toList R) := by kernel_rfl
theorem ac_impl_TreeCount {w0 : World} {a0 : Value} {σ : Vw} {R : Value → Vw → Prop} (h : vc_impl_TreeCount w0 a0 σ R) : AC Try.prog w0 n_impl_TreeCount [a0] σ R := by
  refine ac_rule (fn := Try.f33) (c := Try.f33.body.getD .skip) kp_impl_TreeCount esc_impl_TreeCount Try.func33 (by kernel_rfl) (by kernel_rfl) ?_
  rw [← vc_impl_TreeCount_eq]
  exact h

/-- laws.szRawS -/
def kp_laws_szRawS : Nat → Keep
  | 5 => ⟨[0, 1, 4, 5], [], [], [], []⟩
  | _ => ⟨[], [], [], [], []⟩
def esc_laws_szRawS : Nat → Bool
  | _ => false
def vc_laws_szRawS (w0 : World) (a0 a1 : Value) (σ : Vw) (R : Value → Vw → Prop) : Prop :=
  pLen a0 (fun v0 => pBin Try.prog 3 BinOp.sub a1 v0 (fun v1 => pBin Try.prog 3 BinOp.lss v1 (Value.int IntKind.i64 0) (fun v2 => pIf v2 (R (Value.int IntKind.i64 (-1)) σ) (pLoop (fun l3 K4 s5 => pLen (vget l3 0) (fun v6 => pBin Try.prog 3 BinOp.lss (vget l3 3) v6 (fun v7 => pIf v7 (pIndexAddr 2 (vget l3 0) (vget l3 3) (fun v8 => pLoad w0 2 v8 s5 (fun g9 => AC Try.prog w0 n_laws_szRaw ([Value.agg (⟨[g9 0, g9 1]⟩), vget l3 1]) s5 (fun v10 s11 => pBin Try.prog 3 BinOp.lss v10 (Value.int IntKind.i64 0) (fun v12 => pIf v12 (K4 AX.ret [vget l3 0, v10, Value.int IntKind.i64 (-1), vget l3 3] s11) (pBin Try.prog 3 BinOp.add (vget l3 3) (Value.int IntKind.i64 1) (fun v13 => K4 AX.normal [vget l3 0, v10, vget l3 2, v13] s11))))))) (K4 (AX.exit 0) [vget l3 0, vget l3 1, vget l3 2, vget l3 3] s5)))) [a0, v1, Value.int IntKind.i64 0, Value.int IntKind.i64 0] σ (fun x14 l15 s16 => match x14 with | .normal => R (vget l15 1) s16 | .ret => R (vget l15 2) s16 | .exit i17 => (match Nat.beq i17 0 with | true => R (vget l15 1) s16 | false => False))))))
theorem vc_laws_szRawS_eq (w0 : World) (a0 a1 : Value) (σ : Vw) (R : Value → Vw → Prop) : vc_laws_szRawS w0 a0 a1 σ R = den Try.prog w0 kp_laws_szRawS esc_laws_szRawS (Try.f34.body.getD .skip) (entry Try.f34.ntmps [a0, a1]) σ (retK Try.prog Try.f34.results.toList R) := by kernel_rfl
theorem ac_laws_szRawS {w0 : World} {a0 a1 : Value} {σ : Vw} {R : Value → Vw → Prop} (h : vc_laws_szRawS w0 a0 a1 σ R) : AC Try.prog w0 n_laws_szRawS [a0, a1] σ R := by
  refine ac_rule (fn := Try.f34) (c := Try.f34.body.getD .skip) kp_laws_szRawS esc_laws_szRawS Try.func34 (by kernel_rfl) (by kernel_rfl) ?_
  rw [← vc_laws_szRawS_eq]
  exact h

/-- spec.DiskWrite -/
def kp_spec_DiskWrite : Nat → Keep
  | 5 => ⟨[1, 2, 8], [(6, 1), (7, 1)], [6, 7], [], []⟩
  | 8 => ⟨[], [], [], [0, 1, 2, 3, 4, 5, 6, 7, 8, 9, 10, 11, 12, 13], [(1, [0]), (4, [2, 3]), (5, [2, 3, 4]), (6, [2, 3, 4, 5]), (9, [7, 8]), (10, [7, 8, 9]), (11, [7, 8, 9, 10]), (12, [0, 1, 2, 3, 4, 5, 6, 7, 8, 9, 10, 11]), (13, [0, 1, 2, 3, 4, 5, 6, 7, 8, 9, 10, 11, 12])]⟩
  | _ => ⟨[], [], [], [], []⟩
def esc_spec_DiskWrite : Nat → Bool
  | _ => false
def vc_spec_DiskWrite (w0 : World) (a0 a1 a2 : Value) (σ : Vw) (R : Value → Vw → Prop) : Prop :=
  pVal true 1 a0 (AC Try.prog w0 n_spec_DiskOk ([Value.agg (⟨[cellOf a0 0]⟩)]) σ (fun v0 s1 => pUn UnOp.not v0 (fun v2 => pIf v2 (pVal true 1 (Value.agg (⟨[Value.slice Option.none 0 0]⟩)) (R (Value.agg (⟨[Value.slice Option.none 0 0]⟩)) s1)) (AC Try.prog w0 n_spec_l21Copy ([Value.agg (⟨[cellOf a0 0]⟩)]) s1 (fun v3 s4 => pVal true 1 v3 (pLoop (fun l5 K6 s7 => pLen (vget l5 0) (fun v8 => pBin Try.prog 3 BinOp.lss (vget l5 2) v8 (fun v9 => pIf v9 (pBin Try.prog 3 BinOp.lss (vget l5 2) (vget l5 1) (fun v10 => pIf v10 (pIndexAddr 2 (vget l5 0) (vget l5 2) (fun v11 => pLoad w0 2 v11 s7 (fun g12 => AC Try.prog w0 n_spec_l21RawOk ([Value.agg (⟨[g12 0, g12 1]⟩)]) s7 (fun v13 s14 => pIf v13 (pIndexAddr 2 (vget l5 0) (vget l5 2) (fun v15 => pField 0 v15 (fun v16 => pLoad w0 1 v16 s14 (fun g17 => pIndexAddr 2 (vget l5 0) (vget l5 2) (fun v18 => pField 1 v18 (fun v19 => pLoad w0 1 v19 s14 (fun g20 => pIndexAddr 1 (vget l5 4) (g17 0) (fun v21 => pVal false 1 (g20 0) (pStore v21 [g20 0] s14 (fun s22 => pBin Try.prog 3 BinOp.add (vget l5 2) (Value.int IntKind.i64 1) (fun v23 => K6 AX.normal [vget l5 0, vget l5 1, v23, vget l5 3, vget l5 4] s22))))))))))) (pBin Try.prog 3 BinOp.add (vget l5 2) (Value.int IntKind.i64 1) (fun v24 => K6 AX.normal [vget l5 0, vget l5 1, v24, vget l5 3, vget l5 4] s14)))))) (K6 (AX.exit 0) [vget l5 0, vget l5 1, vget l5 2, vget l5 3, vget l5 4] s7))) (K6 (AX.exit 0) [vget l5 0, vget l5 1, vget l5 2, vget l5 3, vget l5 4] s7)))) [a1, a2, Value.int IntKind.i64 0, Value.slice Option.none 0 0, cellOf v3 0] s4 (fun x25 l26 s27 => match x25 with | .normal => pVal true 1 (Value.agg (⟨[vget l26 4]⟩)) (R (Value.agg (⟨[vget l26 4]⟩)) s27) | .ret => R (Value.agg (⟨[vget l26 3]⟩)) s27 | .exit i28 => (match Nat.beq i28 0 with | true => pVal true 1 (Value.agg (⟨[vget l26 4]⟩)) (R (Value.agg (⟨[vget l26 4]⟩)) s27) | false => False))))))))
theorem vc_spec_DiskWrite_eq (w0 : World) (a0 a1 a2 : Value) (σ : Vw) (R : Value → Vw → Prop) : vc_spec_DiskWrite w0 a0 a1 a2 σ R = den Try.prog w0 kp_spec_DiskWrite esc_spec_DiskWrite (Try.f35.body.getD .skip) (entry Try.f35.ntmps [a0, a1, a2]) σ (retK Try.prog Try.f35.results.toList R) := by kernel_rfl
theorem ac_spec_DiskWrite {w0 : World} {a0 a1 a2 : Value} {σ : Vw} {R : Value → Vw → Prop} (h : vc_spec_DiskWrite w0 a0 a1 a2 σ R) : AC Try.prog w0 n_spec_DiskWrite [a0, a1, a2] σ R := by
  refine ac_rule (fn := Try.f35) (c := Try.f35.body.getD .skip) kp_spec_DiskWrite esc_spec_DiskWrite Try.func35 (by kernel_rfl) (by kernel_rfl) ?_
  rw [← vc_spec_DiskWrite_eq]
  exact h

/-- laws.toRawS -/
def kp_laws_toRawS : Nat → Keep
  | 3 => ⟨[0, 3, 4], [], [], [], []⟩
  | _ => ⟨[], [], [], [], []⟩
def esc_laws_toRawS : Nat → Bool
  | _ => false
def vc_laws_toRawS (w0 : World) (a0 : Value) (σ : Vw) (R : Value → Vw → Prop) : Prop :=
  pLen a0 (fun v0 => pMake w0 106 2 24 ([Value.int IntKind.i64 0, Value.string ({ data := #[] })]) v0 v0 σ (fun v1 s2 => pLoop (fun l3 K4 s5 => pLen (vget l3 0) (fun v6 => pBin Try.prog 3 BinOp.lss (vget l3 2) v6 (fun v7 => pIf v7 (pIndexAddr 2 (vget l3 0) (vget l3 2) (fun v8 => pLoad w0 2 v8 s5 (fun g9 => AC Try.prog w0 n_laws_toRaw ([Value.agg (⟨[g9 0, g9 1]⟩)]) s5 (fun v10 s11 => pIndexAddr 2 (vget l3 1) (vget l3 2) (fun v12 => pVal true 2 v10 (pStore v12 [cellOf v10 0, cellOf v10 1] s11 (fun s13 => pBin Try.prog 3 BinOp.add (vget l3 2) (Value.int IntKind.i64 1) (fun v14 => K4 AX.normal [vget l3 0, vget l3 1, v14] s13)))))))) (K4 (AX.exit 0) [vget l3 0, vget l3 1, vget l3 2] s5)))) [a0, v1, Value.int IntKind.i64 0] s2 (fun x15 l16 s17 => match x15 with | .normal => R (vget l16 1) s17 | .ret => False | .exit i18 => (match Nat.beq i18 0 with | true => R (vget l16 1) s17 | false => False))))
theorem vc_laws_toRawS_eq (w0 : World) (a0 : Value) (σ : Vw) (R : Value → Vw → Prop) : vc_laws_toRawS w0 a0 σ R = den Try.prog w0 kp_laws_toRawS esc_laws_toRawS (Try.f36.body.getD .skip) (entry Try.f36.ntmps [a0]) σ (retK Try.prog Try.f36.results.toList R) := by kernel_rfl
theorem ac_laws_toRawS {w0 : World} {a0 : Value} {σ : Vw} {R : Value → Vw → Prop} (h : vc_laws_toRawS w0 a0 σ R) : AC Try.prog w0 n_laws_toRawS [a0] σ R := by
  refine ac_rule (fn := Try.f36) (c := Try.f36.body.getD .skip) kp_laws_toRawS esc_laws_toRawS Try.func36 (by kernel_rfl) (by kernel_rfl) ?_
  rw [← vc_laws_toRawS_eq]
  exact h

/-- impl.DiskWrite -/
def kp_impl_DiskWrite : Nat → Keep
  | 5 => ⟨[22, 23, 24], [(6, 1), (7, 1)], [6, 7], [], []⟩
  | _ => ⟨[], [], [], [], []⟩
def esc_impl_DiskWrite : Nat → Bool
  | _ => false
def vc_impl_DiskWrite (w0 : World) (a0 a1 a2 : Value) (σ : Vw) (R : Value → Vw → Prop) : Prop :=
  pVal true 1 a0 (AC Try.prog w0 n_impl_DiskOk ([Value.agg (⟨[cellOf a0 0]⟩)]) σ (fun v0 s1 => pUn UnOp.not v0 (fun v2 => pIf v2 (pVal true 1 (Value.agg (⟨[Value.slice Option.none 0 0]⟩)) (R (Value.agg (⟨[Value.slice Option.none 0 0]⟩)) s1)) (AC Try.prog w0 n_impl_cloneDisk ([Value.agg (⟨[cellOf a0 0]⟩)]) s1 (fun v3 s4 => pVal true 1 v3 (pMax a2 (Value.int IntKind.i64 0) (fun v5 => pLen a1 (fun v6 => pMin v5 v6 (fun v7 => pSlice 2 a1 Option.none (Option.some v7) (fun v8 => pLen v8 (fun v9 => pLoop (fun l10 K11 s12 => pBin Try.prog 3 BinOp.lss (vget l10 2) (vget l10 1) (fun v13 => pIf v13 (pIndexAddr 2 (vget l10 0) (vget l10 2) (fun v14 => pLoad w0 2 v14 s12 (fun g15 => pVal true 2 (Value.agg (⟨[g15 0, g15 1]⟩)) (AC Try.prog w0 n_impl_within [g15 0, Value.int IntKind.i64 0, Value.int IntKind.i64 193] s12 (fun v16 s17 => pIf v16 (pLenS (g15 1) (fun v18 => pBin Try.prog 3 BinOp.leq v18 (Value.int IntKind.i64 64) (fun v19 => pIf v19 (pIndexAddr 1 (vget l10 4) (g15 0) (fun v20 => pVal false 1 (g15 1) (pStore v20 [g15 1] s17 (fun s21 => pBin Try.prog 3 BinOp.add (vget l10 2) (Value.int IntKind.i64 1) (fun v22 => K11 AX.normal [vget l10 0, vget l10 1, v22, vget l10 3, vget l10 4] s21))))) (pBin Try.prog 3 BinOp.add (vget l10 2) (Value.int IntKind.i64 1) (fun v23 => K11 AX.normal [vget l10 0, vget l10 1, v23, vget l10 3, vget l10 4] s17))))) (pBin Try.prog 3 BinOp.add (vget l10 2) (Value.int IntKind.i64 1) (fun v24 => K11 AX.normal [vget l10 0, vget l10 1, v24, vget l10 3, vget l10 4] s17))))))) (K11 (AX.exit 0) [vget l10 0, vget l10 1, vget l10 2, vget l10 3, vget l10 4] s12))) [v8, v9, Value.int IntKind.i64 0, Value.slice Option.none 0 0, cellOf v3 0] s4 (fun x25 l26 s27 => match x25 with | .normal => pVal true 1 (Value.agg (⟨[vget l26 4]⟩)) (R (Value.agg (⟨[vget l26 4]⟩)) s27) | .ret => R (Value.agg (⟨[vget l26 3]⟩)) s27 | .exit i28 => (match Nat.beq i28 0 with | true => pVal true 1 (Value.agg (⟨[vget l26 4]⟩)) (R (Value.agg (⟨[vget l26 4]⟩)) s27) | false => False)))))))))))))
theorem vc_impl_DiskWrite_eq (w0 : World) (a0 a1 a2 : Value) (σ : Vw) (R : Value → Vw → Prop) : vc_impl_DiskWrite w0 a0 a1 a2 σ R = den Try.prog w0 kp_impl_DiskWrite esc_impl_DiskWrite (Try.f37.body.getD .skip) (entry Try.f37.ntmps [a0, a1, a2]) σ (retK Try.prog Try.f37.results.toList R) := by kernel_rfl
theorem ac_impl_DiskWrite {w0 : World} {a0 a1 a2 : Value} {σ : Vw} {R : Value → Vw → Prop} (h : vc_impl_DiskWrite w0 a0 a1 a2 σ R) : AC Try.prog w0 n_impl_DiskWrite [a0, a1, a2] σ R := by
  refine ac_rule (fn := Try.f37) (c := Try.f37.body.getD .skip) kp_impl_DiskWrite esc_impl_DiskWrite Try.func37 (by kernel_rfl) (by kernel_rfl) ?_
  rw [← vc_impl_DiskWrite_eq]
  exact h

/-- laws.eqRawS -/
def kp_laws_eqRawS : Nat → Keep
  | 4 => ⟨[0, 1, 4, 5], [], [], [], []⟩
  | 6 => ⟨[], [], [], [0, 1, 2, 3, 4, 5, 6, 7, 8, 9], [(2, [0, 1]), (3, [0, 1, 2]), (6, [4, 5]), (7, [4, 5, 6]), (8, [0, 1, 2, 3, 4, 5, 6, 7]), (9, [0, 1, 2, 3, 4, 5, 6, 7, 8])]⟩
  | _ => ⟨[], [], [], [], []⟩
def esc_laws_eqRawS : Nat → Bool
  | _ => false
def vc_laws_eqRawS (w0 : World) (a0 a1 : Value) (σ : Vw) (R : Value → Vw → Prop) : Prop :=
  pLen a0 (fun v0 => pLen a1 (fun v1 => pBin Try.prog 3 BinOp.neq v0 v1 (fun v2 => pIf v2 (R (Value.bool false) σ) (pLoop (fun l3 K4 s5 => pLen (vget l3 0) (fun v6 => pBin Try.prog 3 BinOp.lss (vget l3 3) v6 (fun v7 => pIf v7 (pIndexAddr 2 (vget l3 0) (vget l3 3) (fun v8 => pLoad w0 2 v8 s5 (fun g9 => pIndexAddr 2 (vget l3 1) (vget l3 3) (fun v10 => pLoad w0 2 v10 s5 (fun g11 => AC Try.prog w0 n_laws_eqRaw ([Value.agg (⟨[g9 0, g9 1]⟩), Value.agg (⟨[g11 0, g11 1]⟩)]) s5 (fun v12 s13 => pUn UnOp.not v12 (fun v14 => pIf v14 (K4 AX.ret [vget l3 0, vget l3 1, Value.bool false, vget l3 3] s13) (pBin Try.prog 3 BinOp.add (vget l3 3) (Value.int IntKind.i64 1) (fun v15 => K4 AX.normal [vget l3 0, vget l3 1, vget l3 2, v15] s13))))))))) (K4 (AX.exit 0) [vget l3 0, vget l3 1, vget l3 2, vget l3 3] s5)))) [a0, a1, Value.bool false, Value.int IntKind.i64 0] σ (fun x16 l17 s18 => match x16 with | .normal => R (Value.bool true) s18 | .ret => R (vget l17 2) s18 | .exit i19 => (match Nat.beq i19 0 with | true => R (Value.bool true) s18 | false => False))))))
theorem vc_laws_eqRawS_eq (w0 : World) (a0 a1 : Value) (σ : Vw) (R : Value → Vw → Prop) : vc_laws_eqRawS w0 a0 a1 σ R = den Try.prog w0 kp_laws_eqRawS esc_laws_eqRawS (Try.f38.body.getD .skip) (entry Try.f38.ntmps [a0, a1]) σ (retK Try.prog Try.f38.results.toList R) := by kernel_rfl
theorem ac_laws_eqRawS {w0 : World} {a0 a1 : Value} {σ : Vw} {R : Value → Vw → Prop} (h : vc_laws_eqRawS w0 a0 a1 σ R) : AC Try.prog w0 n_laws_eqRawS [a0, a1] σ R := by
  refine ac_rule (fn := Try.f38) (c := Try.f38.body.getD .skip) kp_laws_eqRawS esc_laws_eqRawS Try.func38 (by kernel_rfl) (by kernel_rfl) ?_
  rw [← vc_laws_eqRawS_eq]
  exact h

/-- laws.markDisk -/
def kp_laws_markDisk : Nat → Keep
  | _ => ⟨[], [], [], [], []⟩
def esc_laws_markDisk : Nat → Bool
  | _ => false
def vc_laws_markDisk (w0 : World) (a0 a1 : Value) (σ : Vw) (R : Value → Vw → Prop) : Prop :=
  pVal true 1 a0 (AC Try.prog w0 n_laws_markStringS [cellOf a0 0, a1] σ (fun v0 s1 => R v0 s1))
theorem vc_laws_markDisk_eq (w0 : World) (a0 a1 : Value) (σ : Vw) (R : Value → Vw → Prop) : vc_laws_markDisk w0 a0 a1 σ R = den Try.prog w0 kp_laws_markDisk esc_laws_markDisk (Try.f39.body.getD .skip) (entry Try.f39.ntmps [a0, a1]) σ (retK Try.prog Try.f39.results.toList R) := by kernel_rfl
theorem ac_laws_markDisk {w0 : World} {a0 a1 : Value} {σ : Vw} {R : Value → Vw → Prop} (h : vc_laws_markDisk w0 a0 a1 σ R) : AC Try.prog w0 n_laws_markDisk [a0, a1] σ R := by
  refine ac_rule (fn := Try.f39) (c := Try.f39.body.getD .skip) kp_laws_markDisk esc_laws_markDisk Try.func39 (by kernel_rfl) (by kernel_rfl) ?_
  rw [← vc_laws_markDisk_eq]
  exact h

/-- laws.markRawS -/
def kp_laws_markRawS : Nat → Keep
  | 2 => ⟨[0, 1, 5], [], [], [], []⟩
  | _ => ⟨[], [], [], [], []⟩
def esc_laws_markRawS : Nat → Bool
  | _ => false
def vc_laws_markRawS (w0 : World) (a0 a1 : Value) (σ : Vw) (R : Value → Vw → Prop) : Prop :=
  pLoop (fun l0 K1 s2 => pLen (vget l0 0) (fun v3 => pBin Try.prog 3 BinOp.lss (vget l0 2) v3 (fun v4 => pIf v4 (pIndexAddr 2 (vget l0 0) (vget l0 2) (fun v5 => pField 0 v5 (fun v6 => pVal false 1 (vget l0 1) (pStore v6 [vget l0 1] s2 (fun s7 => pBin Try.prog 3 BinOp.add (vget l0 1) (Value.int IntKind.i64 1) (fun v8 => AC Try.prog w0 n_laws_markText [v8] s7 (fun v9 s10 => pIndexAddr 2 (vget l0 0) (vget l0 2) (fun v11 => pField 1 v11 (fun v12 => pVal false 1 v9 (pStore v12 [v9] s10 (fun s13 => pBin Try.prog 3 BinOp.add v8 (Value.int IntKind.i64 1) (fun v14 => pBin Try.prog 3 BinOp.add (vget l0 2) (Value.int IntKind.i64 1) (fun v15 => K1 AX.normal [vget l0 0, v14, v15] s13))))))))))))) (K1 (AX.exit 0) [vget l0 0, vget l0 1, vget l0 2] s2)))) [a0, a1, Value.int IntKind.i64 0] σ (fun x16 l17 s18 => match x16 with | .normal => R (vget l17 1) s18 | .ret => False | .exit i19 => (match Nat.beq i19 0 with | true => R (vget l17 1) s18 | false => False))
theorem vc_laws_markRawS_eq (w0 : World) (a0 a1 : Value) (σ : Vw) (R : Value → Vw → Prop) : vc_laws_markRawS w0 a0 a1 σ R = den Try.prog w0 kp_laws_markRawS esc_laws_markRawS (Try.f40.body.getD .skip) (entry Try.f40.ntmps [a0, a1]) σ (retK Try.prog Try.f40.results.toList R) := by kernel_rfl
theorem ac_laws_markRawS {w0 : World} {a0 a1 : Value} {σ : Vw} {R : Value → Vw → Prop} (h : vc_laws_markRawS w0 a0 a1 σ R) : AC Try.prog w0 n_laws_markRawS [a0, a1] σ R := by
  refine ac_rule (fn := Try.f40) (c := Try.f40.body.getD .skip) kp_laws_markRawS esc_laws_markRawS Try.func40 (by kernel_rfl) (by kernel_rfl) ?_
  rw [← vc_laws_markRawS_eq]
  exact h

/-- laws.heldDisk -/
def kp_laws_heldDisk : Nat → Keep
  | _ => ⟨[], [], [], [], []⟩
def esc_laws_heldDisk : Nat → Bool
  | _ => false
def vc_laws_heldDisk (w0 : World) (a0 a1 : Value) (σ : Vw) (R : Value → Vw → Prop) : Prop :=
  pVal true 1 a0 (AC Try.prog w0 n_laws_heldStringS [cellOf a0 0, a1] σ (fun v0 s1 => pBin Try.prog 3 BinOp.lss v0 (Value.int IntKind.i64 0) (fun v2 => pIf v2 (R (Value.int IntKind.i64 (-1)) s1) (R v0 s1))))
theorem vc_laws_heldDisk_eq (w0 : World) (a0 a1 : Value) (σ : Vw) (R : Value → Vw → Prop) : vc_laws_heldDisk w0 a0 a1 σ R = den Try.prog w0 kp_laws_heldDisk esc_laws_heldDisk (Try.f41.body.getD .skip) (entry Try.f41.ntmps [a0, a1]) σ (retK Try.prog Try.f41.results.toList R) := by kernel_rfl
theorem ac_laws_heldDisk {w0 : World} {a0 a1 : Value} {σ : Vw} {R : Value → Vw → Prop} (h : vc_laws_heldDisk w0 a0 a1 σ R) : AC Try.prog w0 n_laws_heldDisk [a0, a1] σ R := by
  refine ac_rule (fn := Try.f41) (c := Try.f41.body.getD .skip) kp_laws_heldDisk esc_laws_heldDisk Try.func41 (by kernel_rfl) (by kernel_rfl) ?_
  rw [← vc_laws_heldDisk_eq]
  exact h

/-- laws.szMarkS -/
def kp_laws_szMarkS : Nat → Keep
  | 5 => ⟨[0, 1, 4, 5], [], [], [], []⟩
  | _ => ⟨[], [], [], [], []⟩
def esc_laws_szMarkS : Nat → Bool
  | _ => false
def vc_laws_szMarkS (w0 : World) (a0 a1 : Value) (σ : Vw) (R : Value → Vw → Prop) : Prop :=
  pLen a0 (fun v0 => pBin Try.prog 3 BinOp.sub a1 v0 (fun v1 => pBin Try.prog 3 BinOp.lss v1 (Value.int IntKind.i64 0) (fun v2 => pIf v2 (R (Value.int IntKind.i64 (-1)) σ) (pLoop (fun l3 K4 s5 => pLen (vget l3 0) (fun v6 => pBin Try.prog 3 BinOp.lss (vget l3 3) v6 (fun v7 => pIf v7 (pIndexAddr 2 (vget l3 0) (vget l3 3) (fun v8 => pLoad w0 2 v8 s5 (fun g9 => AC Try.prog w0 n_laws_szMark ([Value.agg (⟨[g9 0, g9 1]⟩), vget l3 1]) s5 (fun v10 s11 => pBin Try.prog 3 BinOp.lss v10 (Value.int IntKind.i64 0) (fun v12 => pIf v12 (K4 AX.ret [vget l3 0, v10, Value.int IntKind.i64 (-1), vget l3 3] s11) (pBin Try.prog 3 BinOp.add (vget l3 3) (Value.int IntKind.i64 1) (fun v13 => K4 AX.normal [vget l3 0, v10, vget l3 2, v13] s11))))))) (K4 (AX.exit 0) [vget l3 0, vget l3 1, vget l3 2, vget l3 3] s5)))) [a0, v1, Value.int IntKind.i64 0, Value.int IntKind.i64 0] σ (fun x14 l15 s16 => match x14 with | .normal => R (vget l15 1) s16 | .ret => R (vget l15 2) s16 | .exit i17 => (match Nat.beq i17 0 with | true => R (vget l15 1) s16 | false => False))))))
theorem vc_laws_szMarkS_eq (w0 : World) (a0 a1 : Value) (σ : Vw) (R : Value → Vw → Prop) : vc_laws_szMarkS w0 a0 a1 σ R = den Try.prog w0 kp_laws_szMarkS esc_laws_szMarkS (Try.f42.body.getD .skip) (entry Try.f42.ntmps [a0, a1]) σ (retK Try.prog Try.f42.results.toList R) := by kernel_rfl
theorem ac_laws_szMarkS {w0 : World} {a0 a1 : Value} {σ : Vw} {R : Value → Vw → Prop} (h : vc_laws_szMarkS w0 a0 a1 σ R) : AC Try.prog w0 n_laws_szMarkS [a0, a1] σ R := by
  refine ac_rule (fn := Try.f42) (c := Try.f42.body.getD .skip) kp_laws_szMarkS esc_laws_szMarkS Try.func42 (by kernel_rfl) (by kernel_rfl) ?_
  rw [← vc_laws_szMarkS_eq]
  exact h

/-- spec.TrailOk -/
def kp_spec_TrailOk : Nat → Keep
  | 2 => ⟨[0, 2, 3], [], [], [], []⟩
  | 4 => ⟨[], [], [], [0, 1, 2, 3, 4, 5, 6, 7, 8, 9, 10, 11, 12, 13, 14, 15, 16, 17, 18, 19, 20, 21, 22, 23, 24], [(2, [0, 1]), (3, [0, 1, 2]), (4, [0, 1, 2, 3]), (5, [0, 1, 2, 3, 4]), (6, [0, 1, 2, 3, 4, 5]), (7, [0, 1, 2, 3, 4, 5, 6]), (8, [0, 1, 2, 3, 4, 5, 6, 7]), (9, [0, 1, 2, 3, 4, 5, 6, 7, 8]), (10, [0, 1, 2, 3, 4, 5, 6, 7, 8, 9]), (11, [0, 1, 2, 3, 4, 5, 6, 7, 8, 9]), (12, [0, 1, 2, 3, 4, 5, 6, 7, 8, 9, 11]), (13, [0, 1, 2, 3, 4, 5, 6, 7, 8, 9, 10, 11, 12]), (14, [0, 1, 2, 3, 4, 5, 6, 7, 8, 9, 10, 11, 12, 13]), (15, [0, 1, 2, 3, 4, 5, 6, 7, 8, 9, 10, 11, 12, 13, 14]), (16, [0, 1, 2, 3, 4, 5, 6, 7, 8, 9]), (17, [0, 1, 2, 3, 4, 5, 6, 7, 8, 9]), (18, [0, 1, 2, 3, 4, 5, 6, 7, 8, 9, 16, 17]), (19, [0, 1, 2, 3, 4, 5, 6, 7, 8, 9, 16, 17, 18]), (20, [0, 1, 2, 3, 4, 5, 6, 7, 8, 9, 16, 17, 18, 19]), (21, [0, 1, 2, 3, 4, 5, 6, 7, 8, 9, 10, 11, 12, 13, 14, 15, 16, 17, 18, 19, 20]), (22, [0, 1, 2, 3, 4, 5, 6, 7, 8, 9, 10, 11, 12, 13, 14, 15, 16, 17, 18, 19, 20, 21]), (23, [0, 1, 2, 3, 4, 5, 6, 7, 8, 9, 10, 11, 12, 13, 14, 15, 16, 17, 18, 19, 20, 21, 22]), (24, [0, 1, 2, 3, 4, 5, 6, 7, 8, 9, 10, 11, 12, 13, 14, 15, 16, 17, 18, 19, 20, 21, 22, 23])]⟩
  | 7 => ⟨[0, 2, 3, 4], [], [], [], []⟩
  | 9 => ⟨[], [], [], [0, 1, 2, 3, 4, 5, 6, 7, 8, 9, 10, 11, 12, 13, 14, 15, 16, 17], [(2, [0, 1]), (3, [0, 1, 2]), (4, [0, 1, 2, 3]), (5, [0, 1, 2, 3, 4]), (6, [0, 1, 2, 3, 4, 5]), (7, [0, 1, 2, 3, 4, 5]), (8, [0, 1, 2, 3, 4, 5, 6, 7]), (9, [0, 1, 2, 3, 4, 5, 6, 7, 8]), (10, [0, 1, 2, 3, 4, 5, 6, 7, 8, 9]), (11, [0, 1, 2, 3, 4, 5]), (12, [0, 1, 2, 3, 4, 5]), (13, [0, 1, 2, 3, 4, 5, 11, 12]), (14, [0, 1, 2, 3, 4, 5, 11, 12, 13]), (15, [0, 1, 2, 3, 4, 5, 11, 12, 13, 14]), (16, [0, 1, 2, 3, 4, 5, 6, 7, 8, 9, 10, 11, 12, 13, 14, 15]), (17, [0, 1, 2, 3, 4, 5, 6, 7, 8, 9, 10, 11, 12, 13, 14, 15, 16])]⟩
  | _ => ⟨[], [], [], [], []⟩
def esc_spec_TrailOk : Nat → Bool
  | _ => false
def vc_spec_TrailOk (w0 : World) (a0 : Value) (σ : Vw) (R : Value → Vw → Prop) : Prop :=
  pLoop (fun l0 K1 s2 => pLen (vget l0 0) (fun v3 => pBin Try.prog 3 BinOp.lss (vget l0 2) v3 (fun v4 => pIf v4 (pIndexAddr 2 (vget l0 0) (vget l0 2) (fun v5 => pLoad w0 2 v5 s2 (fun g6 => AC Try.prog w0 n_spec_l11MarkOk ([Value.agg (⟨[g6 0, g6 1]⟩)]) s2 (fun v7 s8 => pUn UnOp.not v7 (fun v9 => pIf v9 (K1 AX.ret [vget l0 0, Value.bool false, vget l0 2] s8) (pBin Try.prog 3 BinOp.gtr (vget l0 2) (Value.int IntKind.i64 0) (fun v10 => pIf v10 (pBin Try.prog 3 BinOp.sub (vget l0 2) (Value.int IntKind.i64 1) (fun v11 => pIndexAddr 2 (vget l0 0) v11 (fun v12 => pField 0 v12 (fun v13 => pLoad w0 1 v13 s8 (fun g14 => pIndexAddr 2 (vget l0 0) (vget l0 2) (fun v15 => pField 0 v15 (fun v16 => pLoad w0 1 v16 s8 (fun g17 => AC Try.prog w0 n_spec_l11Less [g14 0, g17 0] s8 (fun v18 s19 => pUn UnOp.not v18 (fun v20 => pIf v20 (K1 AX.ret [vget l0 0, Value.bool false, vget l0 2] s19) (pLoop (fun l21 K22 s23 => pBin Try.prog 3 BinOp.lss (vget l21 3) (vget l21 2) (fun v24 => pIf v24 (pIndexAddr 2 (vget l21 0) (vget l21 3) (fun v25 => pField 1 v25 (fun v26 => pLoad w0 1 v26 s23 (fun g27 => pIf (g27 0) (pIndexAddr 2 (vget l21 0) (vget l21 2) (fun v28 => pField 0 v28 (fun v29 => pLoad w0 1 v29 s23 (fun g30 => pIndexAddr 2 (vget l21 0) (vget l21 3) (fun v31 => pField 0 v31 (fun v32 => pLoad w0 1 v32 s23 (fun g33 => AC Try.prog w0 n_spec_l2Within [g30 0, g33 0] s23 (fun v34 s35 => pIf v34 (K22 AX.ret [vget l21 0, Value.bool false, vget l21 2, vget l21 3] s35) (pBin Try.prog 3 BinOp.add (vget l21 3) (Value.int IntKind.i64 1) (fun v36 => K22 AX.normal [vget l21 0, vget l21 1, vget l21 2, v36] s35)))))))))) (pBin Try.prog 3 BinOp.add (vget l21 3) (Value.int IntKind.i64 1) (fun v37 => K22 AX.normal [vget l21 0, vget l21 1, vget l21 2, v37] s23)))))) (K22 (AX.exit 2) [vget l21 0, vget l21 1, vget l21 2, vget l21 3] s23))) [vget l0 0, vget l0 1, vget l0 2, Value.int IntKind.i64 0] s19 (fun x38 l39 s40 => match x38 with | .normal => pBin Try.prog 3 BinOp.add (vget l39 2) (Value.int IntKind.i64 1) (fun v41 => K1 AX.normal [vget l39 0, vget l39 1, v41] s40) | .ret => K1 AX.ret [vget l39 0, vget l39 1, vget l39 2] s40 | .exit i42 => (match Nat.beq i42 2 with | true => pBin Try.prog 3 BinOp.add (vget l39 2) (Value.int IntKind.i64 1) (fun v43 => K1 AX.normal [vget l39 0, vget l39 1, v43] s40) | false => (match Nat.beq i42 1 with | true => pBin Try.prog 3 BinOp.add (vget l39 2) (Value.int IntKind.i64 1) (fun v44 => K1 AX.normal [vget l39 0, vget l39 1, v44] s40) | false => K1 (AX.exit i42) [vget l39 0, vget l39 1, vget l39 2] s40)))))))))))))) (pLoop (fun l45 K46 s47 => pBin Try.prog 3 BinOp.lss (vget l45 3) (vget l45 2) (fun v48 => pIf v48 (pIndexAddr 2 (vget l45 0) (vget l45 3) (fun v49 => pField 1 v49 (fun v50 => pLoad w0 1 v50 s47 (fun g51 => pIf (g51 0) (pIndexAddr 2 (vget l45 0) (vget l45 2) (fun v52 => pField 0 v52 (fun v53 => pLoad w0 1 v53 s47 (fun g54 => pIndexAddr 2 (vget l45 0) (vget l45 3) (fun v55 => pField 0 v55 (fun v56 => pLoad w0 1 v56 s47 (fun g57 => AC Try.prog w0 n_spec_l2Within [g54 0, g57 0] s47 (fun v58 s59 => pIf v58 (K46 AX.ret [vget l45 0, Value.bool false, vget l45 2, vget l45 3] s59) (pBin Try.prog 3 BinOp.add (vget l45 3) (Value.int IntKind.i64 1) (fun v60 => K46 AX.normal [vget l45 0, vget l45 1, vget l45 2, v60] s59)))))))))) (pBin Try.prog 3 BinOp.add (vget l45 3) (Value.int IntKind.i64 1) (fun v61 => K46 AX.normal [vget l45 0, vget l45 1, vget l45 2, v61] s47)))))) (K46 (AX.exit 2) [vget l45 0, vget l45 1, vget l45 2, vget l45 3] s47))) [vget l0 0, vget l0 1, vget l0 2, Value.int IntKind.i64 0] s8 (fun x62 l63 s64 => match x62 with | .normal => pBin Try.prog 3 BinOp.add (vget l63 2) (Value.int IntKind.i64 1) (fun v65 => K1 AX.normal [vget l63 0, vget l63 1, v65] s64) | .ret => K1 AX.ret [vget l63 0, vget l63 1, vget l63 2] s64 | .exit i66 => (match Nat.beq i66 2 with | true => pBin Try.prog 3 BinOp.add (vget l63 2) (Value.int IntKind.i64 1) (fun v67 => K1 AX.normal [vget l63 0, vget l63 1, v67] s64) | false => (match Nat.beq i66 1 with | true => pBin Try.prog 3 BinOp.add (vget l63 2) (Value.int IntKind.i64 1) (fun v68 => K1 AX.normal [vget l63 0, vget l63 1, v68] s64) | false => K1 (AX.exit i66) [vget l63 0, vget l63 1, vget l63 2] s64))))))))))) (K1 (AX.exit 0) [vget l0 0, vget l0 1, vget l0 2] s2)))) [a0, Value.bool false, Value.int IntKind.i64 0] σ (fun x69 l70 s71 => match x69 with | .normal => pLen (vget l70 0) (fun v72 => pBin Try.prog 3 BinOp.leq v72 (Value.int IntKind.i64 6) (fun v73 => R v73 s71)) | .ret => R (vget l70 1) s71 | .exit i74 => (match Nat.beq i74 0 with | true => pLen (vget l70 0) (fun v75 => pBin Try.prog 3 BinOp.leq v75 (Value.int IntKind.i64 6) (fun v76 => R v76 s71)) | false => False))
theorem vc_spec_TrailOk_eq (w0 : World) (a0 : Value) (σ : Vw) (R : Value → Vw → Prop) : vc_spec_TrailOk w0 a0 σ R = den Try.prog w0 kp_spec_TrailOk esc_spec_TrailOk (Try.f43.body.getD .skip) (entry Try.f43.ntmps [a0]) σ (retK Try.prog Try.f43.results.toList R) := by kernel_rfl
theorem ac_spec_TrailOk {w0 : World} {a0 : Value} {σ : Vw} {R : Value → Vw → Prop} (h : vc_spec_TrailOk w0 a0 σ R) : AC Try.prog w0 n_spec_TrailOk [a0] σ R := by
  refine ac_rule (fn := Try.f43) (c := Try.f43.body.getD .skip) kp_spec_TrailOk esc_spec_TrailOk Try.func43 (by kernel_rfl) (by kernel_rfl) ?_
  rw [← vc_spec_TrailOk_eq]
  exact h

/-- laws.toMarkS -/
def kp_laws_toMarkS : Nat → Keep
  | 3 => ⟨[0, 3, 4], [], [], [], []⟩
  | _ => ⟨[], [], [], [], []⟩
def esc_laws_toMarkS : Nat → Bool
  | _ => false
def vc_laws_toMarkS (w0 : World) (a0 : Value) (σ : Vw) (R : Value → Vw → Prop) : Prop :=
  pLen a0 (fun v0 => pMake w0 115 2 32 [Value.slice Option.none 0 0, Value.bool false] v0 v0 σ (fun v1 s2 => pLoop (fun l3 K4 s5 => pLen (vget l3 0) (fun v6 => pBin Try.prog 3 BinOp.lss (vget l3 2) v6 (fun v7 => pIf v7 (pIndexAddr 2 (vget l3 0) (vget l3 2) (fun v8 => pLoad w0 2 v8 s5 (fun g9 => AC Try.prog w0 n_laws_toMark ([Value.agg (⟨[g9 0, g9 1]⟩)]) s5 (fun v10 s11 => pIndexAddr 2 (vget l3 1) (vget l3 2) (fun v12 => pVal true 2 v10 (pStore v12 [cellOf v10 0, cellOf v10 1] s11 (fun s13 => pBin Try.prog 3 BinOp.add (vget l3 2) (Value.int IntKind.i64 1) (fun v14 => K4 AX.normal [vget l3 0, vget l3 1, v14] s13)))))))) (K4 (AX.exit 0) [vget l3 0, vget l3 1, vget l3 2] s5)))) [a0, v1, Value.int IntKind.i64 0] s2 (fun x15 l16 s17 => match x15 with | .normal => R (vget l16 1) s17 | .ret => False | .exit i18 => (match Nat.beq i18 0 with | true => R (vget l16 1) s17 | false => False))))
theorem vc_laws_toMarkS_eq (w0 : World) (a0 : Value) (σ : Vw) (R : Value → Vw → Prop) : vc_laws_toMarkS w0 a0 σ R = den Try.prog w0 kp_laws_toMarkS esc_laws_toMarkS (Try.f44.body.getD .skip) (entry Try.f44.ntmps [a0]) σ (retK Try.prog Try.f44.results.toList R) := by kernel_rfl
theorem ac_laws_toMarkS {w0 : World} {a0 : Value} {σ : Vw} {R : Value → Vw → Prop} (h : vc_laws_toMarkS w0 a0 σ R) : AC Try.prog w0 n_laws_toMarkS [a0] σ R := by
  refine ac_rule (fn := Try.f44) (c := Try.f44.body.getD .skip) kp_laws_toMarkS esc_laws_toMarkS Try.func44 (by kernel_rfl) (by kernel_rfl) ?_
  rw [← vc_laws_toMarkS_eq]
  exact h

/-- impl.TrailOk -/
def kp_impl_TrailOk : Nat → Keep
  | 2 => ⟨[0, 2, 5, 6, 7], [], [], [], []⟩
  | 4 => ⟨[], [], [], [0, 1, 2, 3, 4, 5, 6, 7, 8, 9, 10, 11, 12, 13, 14, 15, 16, 17, 18, 19, 20, 21, 22, 23, 24, 25, 26], [(1, [0]), (2, [0, 1]), (3, [0, 1, 2]), (4, [0, 1, 2, 3]), (5, [0, 1, 2, 3, 4]), (6, [0, 1, 2, 3, 4, 5]), (7, [0, 1, 2, 3, 4, 5, 6]), (8, [0, 1, 2, 3, 4, 5, 6]), (9, [0, 1, 2, 3, 4, 5, 6, 8]), (10, [0, 1, 2, 3, 4, 5, 6, 7, 8, 9]), (11, [0, 1, 2, 3, 4, 5, 6, 7, 8, 9, 10]), (12, [0, 1, 2, 3, 4, 5, 6, 7, 8, 9, 10, 11]), (13, [0, 1, 2, 3, 4, 5, 6]), (14, [0, 1, 2, 3, 4, 5, 6, 13]), (15, [0, 1, 2, 3, 4, 5, 6, 7, 8, 9, 10, 11, 12, 13, 14]), (16, [0, 1, 2, 3, 4, 5, 6, 7, 8, 9, 10, 11, 12, 13, 14, 15]), (17, [0, 1, 2, 3, 4, 5, 6, 7, 8, 9, 10, 11, 12, 13, 14, 15, 16]), (18, [0, 1, 2, 3, 4, 5, 6, 7, 8, 9, 10, 11, 12, 13, 14, 15, 16, 17]), (19, [0, 1, 2, 3, 4, 5, 6, 7, 8, 9, 10, 11, 12, 13, 14, 15, 16, 17, 18]), (20, [0, 1, 2, 3, 4, 5, 6, 7, 8, 9, 10, 11, 12, 13, 14, 15, 16, 17, 18, 19]), (21, [0, 1, 2, 3, 4, 5, 6, 7, 8, 9, 10, 11, 12, 13, 14, 15, 16, 17, 18, 19]), (22, [0, 1, 2, 3, 4, 5, 6, 7, 8, 9, 10, 11, 12, 13, 14, 15, 16, 17, 18, 19, 20, 21]), (23, [0, 1, 2, 3, 4, 5, 6, 7, 8, 9, 10, 11, 12, 13, 14, 15, 16, 17, 18, 19]), (24, [0, 1, 2, 3, 4, 5, 6, 7, 8, 9, 10, 11, 12, 13, 14, 15, 16, 17, 18, 19, 23]), (25, [0, 1, 2, 3, 4, 5, 6, 7, 8, 9, 10, 11, 12, 13, 14, 15, 16, 17, 18, 19, 20, 21, 22, 23, 24]), (26, [0, 1, 2, 3, 4, 5, 6, 7, 8, 9, 10, 11, 12, 13, 14, 15, 16, 17, 18, 19, 20, 21, 22, 23, 24, 25])]⟩
  | _ => ⟨[], [], [], [], []⟩
def esc_impl_TrailOk : Nat → Bool
  | _ => false
def vc_impl_TrailOk (w0 : World) (a0 : Value) (σ : Vw) (R : Value → Vw → Prop) : Prop :=
  pLen a0 (fun v0 => pLoop (fun l1 K2 s3 => pBin Try.prog 3 BinOp.lss (vget l1 4) (vget l1 3) (fun v4 => pIf v4 (pIndexAddr 2 (vget l1 2) (vget l1 4) (fun v5 => pLoad w0 2 v5 s3 (fun g6 => pVal true 2 (Value.agg (⟨[g6 0, g6 1]⟩)) (AC Try.prog w0 n_impl_markOk ([Value.agg (⟨[g6 0, g6 1]⟩)]) s3 (fun v7 s8 => pUn UnOp.not v7 (fun v9 => pIf v9 (K2 AX.ret [vget l1 0, Value.bool false, vget l1 2, vget l1 3, vget l1 4] s8) (pBin Try.prog 3 BinOp.gtr (vget l1 4) (Value.int IntKind.i64 0) (fun v10 => pIf v10 (pBin Try.prog 3 BinOp.sub (vget l1 4) (Value.int IntKind.i64 1) (fun v11 => pIndexAddr 2 (vget l1 0) v11 (fun v12 => pField 0 v12 (fun v13 => pLoad w0 1 v13 s8 (fun g14 => AC Try.prog w0 n_slices_Compare_string_string [g14 0, g6 0] s8 (fun v15 s16 => pBin Try.prog 3 BinOp.geq v15 (Value.int IntKind.i64 0) (fun v17 => pIf v17 (K2 AX.ret [vget l1 0, Value.bool false, vget l1 2, vget l1 3, vget l1 4] s16) (pSlice 2 (vget l1 0) Option.none (Option.some (vget l1 4)) (fun v18 => AC Try.prog w0 n_impl_under [v18, g6 0] s16 (fun v19 s20 => pIf v19 (K2 AX.ret [vget l1 0, Value.bool false, vget l1 2, vget l1 3, vget l1 4] s20) (pBin Try.prog 3 BinOp.add (vget l1 4) (Value.int IntKind.i64 1) (fun v21 => K2 AX.normal [vget l1 0, vget l1 1, vget l1 2, vget l1 3, v21] s20)))))))))))) (pSlice 2 (vget l1 0) Option.none (Option.some (vget l1 4)) (fun v22 => AC Try.prog w0 n_impl_under [v22, g6 0] s8 (fun v23 s24 => pIf v23 (K2 AX.ret [vget l1 0, Value.bool false, vget l1 2, vget l1 3, vget l1 4] s24) (pBin Try.prog 3 BinOp.add (vget l1 4) (Value.int IntKind.i64 1) (fun v25 => K2 AX.normal [vget l1 0, vget l1 1, vget l1 2, vget l1 3, v25] s24))))))))))))) (K2 (AX.exit 0) [vget l1 0, vget l1 1, vget l1 2, vget l1 3, vget l1 4] s3))) [a0, Value.bool false, a0, v0, Value.int IntKind.i64 0] σ (fun x26 l27 s28 => match x26 with | .normal => pLen (vget l27 0) (fun v29 => pBin Try.prog 3 BinOp.leq v29 (Value.int IntKind.i64 6) (fun v30 => R v30 s28)) | .ret => R (vget l27 1) s28 | .exit i31 => (match Nat.beq i31 0 with | true => pLen (vget l27 0) (fun v32 => pBin Try.prog 3 BinOp.leq v32 (Value.int IntKind.i64 6) (fun v33 => R v33 s28)) | false => False)))
theorem vc_impl_TrailOk_eq (w0 : World) (a0 : Value) (σ : Vw) (R : Value → Vw → Prop) : vc_impl_TrailOk w0 a0 σ R = den Try.prog w0 kp_impl_TrailOk esc_impl_TrailOk (Try.f45.body.getD .skip) (entry Try.f45.ntmps [a0]) σ (retK Try.prog Try.f45.results.toList R) := by kernel_rfl
theorem ac_impl_TrailOk {w0 : World} {a0 : Value} {σ : Vw} {R : Value → Vw → Prop} (h : vc_impl_TrailOk w0 a0 σ R) : AC Try.prog w0 n_impl_TrailOk [a0] σ R := by
  refine ac_rule (fn := Try.f45) (c := Try.f45.body.getD .skip) kp_impl_TrailOk esc_impl_TrailOk Try.func45 (by kernel_rfl) (by kernel_rfl) ?_
  rw [← vc_impl_TrailOk_eq]
  exact h

/-- laws.eqMarkS -/
def kp_laws_eqMarkS : Nat → Keep
  | 4 => ⟨[0, 1, 4, 5], [], [], [], []⟩
  | 6 => ⟨[], [], [], [0, 1, 2, 3, 4, 5, 6, 7, 8, 9], [(2, [0, 1]), (3, [0, 1, 2]), (6, [4, 5]), (7, [4, 5, 6]), (8, [0, 1, 2, 3, 4, 5, 6, 7]), (9, [0, 1, 2, 3, 4, 5, 6, 7, 8])]⟩
  | _ => ⟨[], [], [], [], []⟩
def esc_laws_eqMarkS : Nat → Bool
  | _ => false
def vc_laws_eqMarkS (w0 : World) (a0 a1 : Value) (σ : Vw) (R : Value → Vw → Prop) : Prop :=
  pLen a0 (fun v0 => pLen a1 (fun v1 => pBin Try.prog 3 BinOp.neq v0 v1 (fun v2 => pIf v2 (R (Value.bool false) σ) (pLoop (fun l3 K4 s5 => pLen (vget l3 0) (fun v6 => pBin Try.prog 3 BinOp.lss (vget l3 3) v6 (fun v7 => pIf v7 (pIndexAddr 2 (vget l3 0) (vget l3 3) (fun v8 => pLoad w0 2 v8 s5 (fun g9 => pIndexAddr 2 (vget l3 1) (vget l3 3) (fun v10 => pLoad w0 2 v10 s5 (fun g11 => AC Try.prog w0 n_laws_eqMark ([Value.agg (⟨[g9 0, g9 1]⟩), Value.agg (⟨[g11 0, g11 1]⟩)]) s5 (fun v12 s13 => pUn UnOp.not v12 (fun v14 => pIf v14 (K4 AX.ret [vget l3 0, vget l3 1, Value.bool false, vget l3 3] s13) (pBin Try.prog 3 BinOp.add (vget l3 3) (Value.int IntKind.i64 1) (fun v15 => K4 AX.normal [vget l3 0, vget l3 1, vget l3 2, v15] s13))))))))) (K4 (AX.exit 0) [vget l3 0, vget l3 1, vget l3 2, vget l3 3] s5)))) [a0, a1, Value.bool false, Value.int IntKind.i64 0] σ (fun x16 l17 s18 => match x16 with | .normal => R (Value.bool true) s18 | .ret => R (vget l17 2) s18 | .exit i19 => (match Nat.beq i19 0 with | true => R (Value.bool true) s18 | false => False))))))
theorem vc_laws_eqMarkS_eq (w0 : World) (a0 a1 : Value) (σ : Vw) (R : Value → Vw → Prop) : vc_laws_eqMarkS w0 a0 a1 σ R = den Try.prog w0 kp_laws_eqMarkS esc_laws_eqMarkS (Try.f46.body.getD .skip) (entry Try.f46.ntmps [a0, a1]) σ (retK Try.prog Try.f46.results.toList R) := by kernel_rfl
theorem ac_laws_eqMarkS {w0 : World} {a0 a1 : Value} {σ : Vw} {R : Value → Vw → Prop} (h : vc_laws_eqMarkS w0 a0 a1 σ R) : AC Try.prog w0 n_laws_eqMarkS [a0, a1] σ R := by
  refine ac_rule (fn := Try.f46) (c := Try.f46.body.getD .skip) kp_laws_eqMarkS esc_laws_eqMarkS Try.func46 (by kernel_rfl) (by kernel_rfl) ?_
  rw [← vc_laws_eqMarkS_eq]
  exact h

/-- laws.szPages -/
def kp_laws_szPages : Nat → Keep
  | _ => ⟨[], [], [], [], []⟩
def esc_laws_szPages : Nat → Bool
  | _ => false
def vc_laws_szPages (w0 : World) (a0 a1 : Value) (σ : Vw) (R : Value → Vw → Prop) : Prop :=
  pVal true 2 a0 (AC Try.prog w0 n_laws_szPageS [cellOf a0 0, a1] σ (fun v0 s1 => pBin Try.prog 3 BinOp.lss v0 (Value.int IntKind.i64 0) (fun v2 => pIf v2 (R (Value.int IntKind.i64 (-1)) s1) (AC Try.prog w0 n_laws_szPageNameS [cellOf a0 1, v0] s1 (fun v3 s4 => pBin Try.prog 3 BinOp.lss v3 (Value.int IntKind.i64 0) (fun v5 => pIf v5 (R (Value.int IntKind.i64 (-1)) s4) (R v3 s4)))))))
theorem vc_laws_szPages_eq (w0 : World) (a0 a1 : Value) (σ : Vw) (R : Value → Vw → Prop) : vc_laws_szPages w0 a0 a1 σ R = den Try.prog w0 kp_laws_szPages esc_laws_szPages (Try.f47.body.getD .skip) (entry Try.f47.ntmps [a0, a1]) σ (retK Try.prog Try.f47.results.toList R) := by kernel_rfl
theorem ac_laws_szPages {w0 : World} {a0 a1 : Value} {σ : Vw} {R : Value → Vw → Prop} (h : vc_laws_szPages w0 a0 a1 σ R) : AC Try.prog w0 n_laws_szPages [a0, a1] σ R := by
  refine ac_rule (fn := Try.f47) (c := Try.f47.body.getD .skip) kp_laws_szPages esc_laws_szPages Try.func47 (by kernel_rfl) (by kernel_rfl) ?_
  rw [← vc_laws_szPages_eq]
  exact h

/-- spec.PagesOk -/
def kp_spec_PagesOk : Nat → Keep
  | 5 => ⟨[2, 3, 4], [(1, 2)], [1], [], []⟩
  | 8 => ⟨[], [], [], [0, 1, 2, 3, 4, 5, 6, 7, 8, 9, 10, 11, 12, 13, 14, 15, 16, 17, 18, 19, 20, 21, 22, 23, 24, 25, 26, 27, 28, 29, 30], [(1, [0]), (2, [0, 1]), (3, [0, 1, 2]), (4, [0, 1, 2, 3]), (5, [0, 1, 2, 3, 4]), (6, [0, 1, 2, 3, 4, 5]), (7, [0, 1, 2, 3, 4, 5, 6]), (8, [0, 1, 2, 3, 4, 5, 6, 7]), (9, [0, 1, 2, 3, 4, 5, 6, 7, 8]), (10, [0, 1, 2, 3, 4, 5, 6, 7]), (11, [0, 1, 2, 3, 4, 5, 6, 7, 10]), (12, [0, 1, 2, 3, 4, 5, 6, 7, 8, 9, 10, 11]), (13, [0, 1, 2, 3, 4, 5, 6, 7, 8, 9, 10, 11, 12]), (14, [0, 1, 2, 3, 4, 5, 6, 7, 8, 9, 10, 11, 12, 13]), (15, [0, 1, 2, 3, 4, 5, 6, 7]), (16, [0, 1, 2, 3, 4, 5, 6, 7, 15]), (17, [0, 1, 2, 3, 4, 5, 6, 7, 8, 9, 10, 11, 12, 13, 14, 15, 16]), (18, [0, 1, 2, 3, 4, 5, 6, 7, 8, 9, 10, 11, 12, 13, 14, 15, 16, 17]), (19, [0, 1, 2, 3, 4, 5, 6, 7, 8, 9, 10, 11, 12, 13, 14, 15, 16, 17, 18]), (20, [0, 1, 2, 3, 4, 5, 6, 7, 8, 9, 10, 11, 12, 13, 14, 15, 16, 17, 18, 19]), (21, [0, 1, 2, 3, 4, 5, 6, 7, 8, 9, 10, 11, 12, 13, 14, 15, 16, 17, 18, 19, 20]), (22, [0, 1, 2, 3, 4, 5, 6, 7, 8, 9, 10, 11, 12, 13, 14, 15, 16, 17, 18, 19, 20, 21]), (23, [0, 1, 2, 3, 4, 5, 6, 7, 8, 9, 10, 11, 12, 13, 14, 15, 16, 17, 18, 19, 20, 21, 22]), (24, [0, 1, 2, 3, 4, 5, 6, 7, 8, 9, 10, 11, 12, 13, 14, 15, 16, 17, 18, 19, 20, 21, 22, 23]), (25, [0, 1, 2, 3, 4, 5, 6, 7, 8, 9, 10, 11, 12, 13, 14, 15, 16, 17, 18, 19, 20, 21, 22, 23, 24]), (26, [0, 1, 2, 3, 4, 5, 6, 7, 8, 9, 10, 11, 12, 13, 14, 15, 16, 17, 18, 19, 20, 21, 22, 23, 24, 25]), (27, [0, 1, 2, 3, 4, 5, 6, 7, 8, 9, 10, 11, 12, 13, 14, 15, 16, 17, 18, 19, 20, 21, 22, 23, 24, 25, 26]), (28, [0, 1, 2, 3, 4, 5, 6, 7, 8, 9, 10, 11, 12, 13, 14, 15, 16, 17, 18, 19, 20, 21, 22, 23, 24, 25, 26, 27]), (29, [0, 1, 2, 3, 4, 5, 6, 7, 8, 9, 10, 11, 12, 13, 14, 15, 16, 17, 18, 19, 20, 21, 22, 23, 24, 25, 26, 27, 28]), (30, [0, 1, 2, 3, 4, 5, 6, 7, 8, 9, 10, 11, 12, 13, 14, 15, 16, 17, 18, 19, 20, 21, 22, 23, 24, 25, 26, 27, 28, 29])]⟩
  | 14 => ⟨[2, 3, 4, 6, 8], [(1, 2)], [1], [], []⟩
  | 20 => ⟨[2, 3, 9], [(1, 2)], [1], [], []⟩
  | 23 => ⟨[], [], [], [0, 1, 2, 3, 4, 5, 6, 7, 8, 9, 10, 11, 12, 13, 14, 15, 16, 17, 18, 19, 20, 21, 22, 23, 24, 25, 26], [(1, [0]), (4, [2, 3]), (5, [2, 3, 4]), (6, [0, 1, 2, 3, 4, 5]), (7, [0, 1, 2, 3, 4, 5, 6]), (8, [0, 1, 2, 3, 4, 5, 6, 7]), (9, [0, 1, 2, 3, 4, 5, 6, 7, 8]), (10, [0, 1, 2, 3, 4, 5, 6, 7, 8, 9]), (11, [0, 1, 2, 3, 4, 5, 6, 7, 8, 9, 10]), (12, [0, 1, 2, 3, 4, 5, 6, 7, 8, 9, 10, 11]), (13, [0, 1, 2, 3, 4, 5, 6, 7, 8, 9, 10, 11, 12]), (14, [0, 1, 2, 3, 4, 5, 6, 7, 8, 9, 10, 11, 12, 13]), (15, [0, 1, 2, 3, 4, 5, 6, 7, 8, 9, 10, 11, 12, 13, 14]), (16, [0, 1, 2, 3, 4, 5, 6, 7, 8, 9, 10, 11, 12, 13, 14, 15]), (17, [0, 1, 2, 3, 4, 5, 6, 7, 8, 9, 10, 11, 12, 13, 14, 15, 16]), (18, [0, 1, 2, 3, 4, 5, 6, 7, 8, 9, 10, 11, 12, 13, 14, 15, 16, 17]), (19, [0, 1, 2, 3, 4, 5, 6, 7, 8, 9, 10, 11, 12, 13, 14, 15, 16, 17, 18]), (20, [0, 1, 2, 3, 4, 5, 6, 7, 8, 9, 10, 11, 12, 13, 14, 15, 16, 17, 18, 19]), (21, [0, 1, 2, 3, 4, 5, 6, 7, 8, 9, 10, 11, 12, 13, 14, 15, 16, 17, 18, 19, 20]), (22, [0, 1, 2, 3, 4, 5, 6, 7, 8, 9, 10, 11, 12, 13, 14, 15, 16, 17, 18, 19, 20, 21]), (23, [0, 1, 2, 3, 4, 5, 6, 7, 8, 9, 10, 11, 12, 13, 14, 15, 16, 17, 18, 19, 20, 21, 22]), (24, [0, 1, 2, 3, 4, 5, 6, 7, 8, 9, 10, 11, 12, 13, 14, 15, 16, 17, 18, 19, 20, 21, 22, 23]), (25, [0, 1, 2, 3, 4, 5, 6, 7, 8, 9, 10, 11, 12, 13, 14, 15, 16, 17, 18, 19, 20, 21, 22, 23, 24]), (26, [0, 1, 2, 3, 4, 5, 6, 7, 8, 9, 10, 11, 12, 13, 14, 15, 16, 17, 18, 19, 20, 21, 22, 23, 24, 25])]⟩
  | _ => ⟨[], [], [], [], []⟩
def esc_spec_PagesOk : Nat → Bool
  | _ => false
def vc_spec_PagesOk (w0 : World) (a0 : Value) (σ : Vw) (R : Value → Vw → Prop) : Prop :=
  pVal true 2 a0 (pLen (cellOf a0 0) (fun v0 => pBin Try.prog 3 BinOp.neq v0 (Value.int IntKind.i64 96) (fun v1 => pIf v1 (R (Value.bool false) σ) (pLen (cellOf a0 1) (fun v2 => pBin Try.prog 3 BinOp.gtr v2 (Value.int IntKind.i64 16) (fun v3 => pIf v3 (R (Value.bool false) σ) (pMake w0 4 1 1 [Value.bool false] (Value.int IntKind.i64 96) (Value.int IntKind.i64 96) σ (fun v4 s5 => pLoop (fun l6 K7 s8 => pLen (vget l6 4) (fun v9 => pBin Try.prog 3 BinOp.lss (vget l6 2) v9 (fun v10 => pIf v10 (pIndexAddr 3 (vget l6 4) (vget l6 2) (fun v11 => pLoad w0 3 v11 s8 (fun g12 => pVal true 3 (Value.agg (⟨[g12 0, g12 1, g12 2]⟩)) (AC Try.prog w0 n_spec_l1NameOk [g12 0] s8 (fun v13 s14 => pUn UnOp.not v13 (fun v15 => pIf v15 (K7 AX.ret [Value.bool false, vget l6 1, vget l6 2, vget l6 3, vget l6 4] s14) (pBin Try.prog 3 BinOp.gtr (vget l6 2) (Value.int IntKind.i64 0) (fun v16 => pIf v16 (pBin Try.prog 3 BinOp.sub (vget l6 2) (Value.int IntKind.i64 1) (fun v17 => pIndexAddr 3 (vget l6 4) v17 (fun v18 => pField 0 v18 (fun v19 => pLoad w0 1 v19 s14 (fun g20 => pBin Try.prog 9 BinOp.geq (g20 0) (g12 0) (fun v21 => pIf v21 (K7 AX.ret [Value.bool false, vget l6 1, vget l6 2, vget l6 3, vget l6 4] s14) (AC Try.prog w0 n_spec_l1In [g12 2, Value.int IntKind.i64 0, Value.int IntKind.i64 3000] s14 (fun v22 s23 => pUn UnOp.not v22 (fun v24 => pIf v24 (K7 AX.ret [Value.bool false, vget l6 1, vget l6 2, vget l6 3, vget l6 4] s23) (pBin Try.prog 3 BinOp.lss (g12 1) (Value.int IntKind.i64 (-1)) (fun v25 => pIf v25 (K7 AX.ret [Value.bool false, vget l6 1, vget l6 2, vget l6 3, vget l6 4] s23) (AC Try.prog w0 n_spec_l32Chain ([Value.agg (⟨[vget l6 3, vget l6 4]⟩), Value.agg (⟨[g12 0, g12 1, g12 2]⟩)]) s23 (fun v26 s27 => pExtract v26 0 (fun v28 => pExtract v26 1 (fun v29 => pUn UnOp.not v29 (fun v30 => pIf v30 (K7 AX.ret [Value.bool false, vget l6 1, vget l6 2, vget l6 3, vget l6 4] s27) (pLoop (fun l31 K32 s33 => pLen (vget l31 3) (fun v34 => pBin Try.prog 3 BinOp.lss (vget l31 4) v34 (fun v35 => pIf v35 (pIndexAddr 1 (vget l31 3) (vget l31 4) (fun v36 => pLoad w0 1 v36 s33 (fun g37 => pIndexAddr 1 (vget l31 1) (g37 0) (fun v38 => pLoad w0 1 v38 s33 (fun g39 => pIf (g39 0) (K32 AX.ret [Value.bool false, vget l31 1, vget l31 2, vget l31 3, vget l31 4, vget l31 5, vget l31 6] s33) (pIndexAddr 1 (vget l31 3) (vget l31 4) (fun v40 => pLoad w0 1 v40 s33 (fun g41 => pIndexAddr 1 (vget l31 1) (g41 0) (fun v42 => pVal false 1 (Value.bool true) (pStore v42 [Value.bool true] s33 (fun s43 => pBin Try.prog 3 BinOp.add (vget l31 4) (Value.int IntKind.i64 1) (fun v44 => K32 AX.normal [vget l31 0, vget l31 1, vget l31 2, vget l31 3, v44, vget l31 5, vget l31 6] s43)))))))))))) (K32 (AX.exit 2) [vget l31 0, vget l31 1, vget l31 2, vget l31 3, vget l31 4, vget l31 5, vget l31 6] s33)))) [vget l6 0, vget l6 1, vget l6 2, v28, Value.int IntKind.i64 0, vget l6 3, vget l6 4] s27 (fun x45 l46 s47 => match x45 with | .normal => pBin Try.prog 3 BinOp.add (vget l46 2) (Value.int IntKind.i64 1) (fun v48 => K7 AX.normal [vget l46 0, vget l46 1, v48, vget l46 5, vget l46 6] s47) | .ret => K7 AX.ret [vget l46 0, vget l46 1, vget l46 2, vget l46 5, vget l46 6] s47 | .exit i49 => (match Nat.beq i49 2 with | true => pBin Try.prog 3 BinOp.add (vget l46 2) (Value.int IntKind.i64 1) (fun v50 => K7 AX.normal [vget l46 0, vget l46 1, v50, vget l46 5, vget l46 6] s47) | false => (match Nat.beq i49 1 with | true => pBin Try.prog 3 BinOp.add (vget l46 2) (Value.int IntKind.i64 1) (fun v51 => K7 AX.normal [vget l46 0, vget l46 1, v51, vget l46 5, vget l46 6] s47) | false => K7 (AX.exit i49) [vget l46 0, vget l46 1, vget l46 2, vget l46 5, vget l46 6] s47)))))))))))))))))))) (AC Try.prog w0 n_spec_l1In [g12 2, Value.int IntKind.i64 0, Value.int IntKind.i64 3000] s14 (fun v52 s53 => pUn UnOp.not v52 (fun v54 => pIf v54 (K7 AX.ret [Value.bool false, vget l6 1, vget l6 2, vget l6 3, vget l6 4] s53) (pBin Try.prog 3 BinOp.lss (g12 1) (Value.int IntKind.i64 (-1)) (fun v55 => pIf v55 (K7 AX.ret [Value.bool false, vget l6 1, vget l6 2, vget l6 3, vget l6 4] s53) (AC Try.prog w0 n_spec_l32Chain ([Value.agg (⟨[vget l6 3, vget l6 4]⟩), Value.agg (⟨[g12 0, g12 1, g12 2]⟩)]) s53 (fun v56 s57 => pExtract v56 0 (fun v58 => pExtract v56 1 (fun v59 => pUn UnOp.not v59 (fun v60 => pIf v60 (K7 AX.ret [Value.bool false, vget l6 1, vget l6 2, vget l6 3, vget l6 4] s57) (pLoop (fun l61 K62 s63 => pLen (vget l61 3) (fun v64 => pBin Try.prog 3 BinOp.lss (vget l61 4) v64 (fun v65 => pIf v65 (pIndexAddr 1 (vget l61 3) (vget l61 4) (fun v66 => pLoad w0 1 v66 s63 (fun g67 => pIndexAddr 1 (vget l61 1) (g67 0) (fun v68 => pLoad w0 1 v68 s63 (fun g69 => pIf (g69 0) (K62 AX.ret [Value.bool false, vget l61 1, vget l61 2, vget l61 3, vget l61 4, vget l61 5, vget l61 6] s63) (pIndexAddr 1 (vget l61 3) (vget l61 4) (fun v70 => pLoad w0 1 v70 s63 (fun g71 => pIndexAddr 1 (vget l61 1) (g71 0) (fun v72 => pVal false 1 (Value.bool true) (pStore v72 [Value.bool true] s63 (fun s73 => pBin Try.prog 3 BinOp.add (vget l61 4) (Value.int IntKind.i64 1) (fun v74 => K62 AX.normal [vget l61 0, vget l61 1, vget l61 2, vget l61 3, v74, vget l61 5, vget l61 6] s73)))))))))))) (K62 (AX.exit 2) [vget l61 0, vget l61 1, vget l61 2, vget l61 3, vget l61 4, vget l61 5, vget l61 6] s63)))) [vget l6 0, vget l6 1, vget l6 2, v58, Value.int IntKind.i64 0, vget l6 3, vget l6 4] s57 (fun x75 l76 s77 => match x75 with | .normal => pBin Try.prog 3 BinOp.add (vget l76 2) (Value.int IntKind.i64 1) (fun v78 => K7 AX.normal [vget l76 0, vget l76 1, v78, vget l76 5, vget l76 6] s77) | .ret => K7 AX.ret [vget l76 0, vget l76 1, vget l76 2, vget l76 5, vget l76 6] s77 | .exit i79 => (match Nat.beq i79 2 with | true => pBin Try.prog 3 BinOp.add (vget l76 2) (Value.int IntKind.i64 1) (fun v80 => K7 AX.normal [vget l76 0, vget l76 1, v80, vget l76 5, vget l76 6] s77) | false => (match Nat.beq i79 1 with | true => pBin Try.prog 3 BinOp.add (vget l76 2) (Value.int IntKind.i64 1) (fun v81 => K7 AX.normal [vget l76 0, vget l76 1, v81, vget l76 5, vget l76 6] s77) | false => K7 (AX.exit i79) [vget l76 0, vget l76 1, vget l76 2, vget l76 5, vget l76 6] s77)))))))))))))))))))))) (K7 (AX.exit 0) [vget l6 0, vget l6 1, vget l6 2, vget l6 3, vget l6 4] s8)))) [Value.bool false, v4, Value.int IntKind.i64 0, cellOf a0 0, cellOf a0 1] s5 (fun x82 l83 s84 => match x82 with | .normal => pLoop (fun l85 K86 s87 => pLen (vget l85 3) (fun v88 => pBin Try.prog 3 BinOp.lss (vget l85 2) v88 (fun v89 => pIf v89 (pIndexAddr 3 (vget l85 3) (vget l85 2) (fun v90 => pLoad w0 3 v90 s87 (fun g91 => pVal true 3 (Value.agg (⟨[g91 0, g91 1, g91 2]⟩)) (pIndexAddr 1 (vget l85 1) (vget l85 2) (fun v92 => pLoad w0 1 v92 s87 (fun g93 => pBin Try.prog 4 BinOp.neq (g91 0) (g93 0) (fun v94 => pIf v94 (K86 AX.ret [Value.bool false, vget l85 1, vget l85 2, vget l85 3, vget l85 4] s87) (pUn UnOp.not (g91 0) (fun v95 => pIf v95 (pBin Try.prog 9 BinOp.neq (g91 1) (Value.string ({ data := #[] })) (fun v96 => pIf v96 (K86 AX.ret [Value.bool false, vget l85 1, vget l85 2, vget l85 3, vget l85 4] s87) (pBin Try.prog 3 BinOp.neq (g91 2) (Value.int IntKind.i64 (-1)) (fun v97 => pIf v97 (K86 AX.ret [Value.bool false, vget l85 1, vget l85 2, vget l85 3, vget l85 4] s87) (pBin Try.prog 3 BinOp.lss (g91 2) (Value.int IntKind.i64 (-1)) (fun v98 => pIf v98 (K86 AX.ret [Value.bool false, vget l85 1, vget l85 2, vget l85 3, vget l85 4] s87) (pBin Try.prog 3 BinOp.add (vget l85 2) (Value.int IntKind.i64 1) (fun v99 => K86 AX.normal [vget l85 0, vget l85 1, v99, vget l85 3, vget l85 4] s87)))))))) (pBin Try.prog 3 BinOp.lss (g91 2) (Value.int IntKind.i64 (-1)) (fun v100 => pIf v100 (K86 AX.ret [Value.bool false, vget l85 1, vget l85 2, vget l85 3, vget l85 4] s87) (pBin Try.prog 3 BinOp.add (vget l85 2) (Value.int IntKind.i64 1) (fun v101 => K86 AX.normal [vget l85 0, vget l85 1, v101, vget l85 3, vget l85 4] s87))))))))))))) (K86 (AX.exit 4) [vget l85 0, vget l85 1, vget l85 2, vget l85 3, vget l85 4] s87)))) [vget l83 0, vget l83 1, Value.int IntKind.i64 0, vget l83 3, vget l83 4] s84 (fun x102 l103 s104 => match x102 with | .normal => R (Value.bool true) s104 | .ret => R (vget l103 0) s104 | .exit i105 => (match Nat.beq i105 4 with | true => R (Value.bool true) s104 | false => False)) | .ret => R (vget l83 0) s84 | .exit i106 => (match Nat.beq i106 0 with | true => pLoop (fun l107 K108 s109 => pLen (vget l107 3) (fun v110 => pBin Try.prog 3 BinOp.lss (vget l107 2) v110 (fun v111 => pIf v111 (pIndexAddr 3 (vget l107 3) (vget l107 2) (fun v112 => pLoad w0 3 v112 s109 (fun g113 => pVal true 3 (Value.agg (⟨[g113 0, g113 1, g113 2]⟩)) (pIndexAddr 1 (vget l107 1) (vget l107 2) (fun v114 => pLoad w0 1 v114 s109 (fun g115 => pBin Try.prog 4 BinOp.neq (g113 0) (g115 0) (fun v116 => pIf v116 (K108 AX.ret [Value.bool false, vget l107 1, vget l107 2, vget l107 3, vget l107 4] s109) (pUn UnOp.not (g113 0) (fun v117 => pIf v117 (pBin Try.prog 9 BinOp.neq (g113 1) (Value.string ({ data := #[] })) (fun v118 => pIf v118 (K108 AX.ret [Value.bool false, vget l107 1, vget l107 2, vget l107 3, vget l107 4] s109) (pBin Try.prog 3 BinOp.neq (g113 2) (Value.int IntKind.i64 (-1)) (fun v119 => pIf v119 (K108 AX.ret [Value.bool false, vget l107 1, vget l107 2, vget l107 3, vget l107 4] s109) (pBin Try.prog 3 BinOp.lss (g113 2) (Value.int IntKind.i64 (-1)) (fun v120 => pIf v120 (K108 AX.ret [Value.bool false, vget l107 1, vget l107 2, vget l107 3, vget l107 4] s109) (pBin Try.prog 3 BinOp.add (vget l107 2) (Value.int IntKind.i64 1) (fun v121 => K108 AX.normal [vget l107 0, vget l107 1, v121, vget l107 3, vget l107 4] s109)))))))) (pBin Try.prog 3 BinOp.lss (g113 2) (Value.int IntKind.i64 (-1)) (fun v122 => pIf v122 (K108 AX.ret [Value.bool false, vget l107 1, vget l107 2, vget l107 3, vget l107 4] s109) (pBin Try.prog 3 BinOp.add (vget l107 2) (Value.int IntKind.i64 1) (fun v123 => K108 AX.normal [vget l107 0, vget l107 1, v123, vget l107 3, vget l107 4] s109))))))))))))) (K108 (AX.exit 4) [vget l107 0, vget l107 1, vget l107 2, vget l107 3, vget l107 4] s109)))) [vget l83 0, vget l83 1, Value.int IntKind.i64 0, vget l83 3, vget l83 4] s84 (fun x124 l125 s126 => match x124 with | .normal => R (Value.bool true) s126 | .ret => R (vget l125 0) s126 | .exit i127 => (match Nat.beq i127 4 with | true => R (Value.bool true) s126 | false => False)) | false => False))))))))))
theorem vc_spec_PagesOk_eq (w0 : World) (a0 : Value) (σ : Vw) (R : Value → Vw → Prop) : vc_spec_PagesOk w0 a0 σ R = den Try.prog w0 kp_spec_PagesOk esc_spec_PagesOk (Try.f48.body.getD .skip) (entry Try.f48.ntmps [a0]) σ (retK Try.prog Try.f48.results.toList R) := by kernel_rfl
theorem ac_spec_PagesOk {w0 : World} {a0 : Value} {σ : Vw} {R : Value → Vw → Prop} (h : vc_spec_PagesOk w0 a0 σ R) : AC Try.prog w0 n_spec_PagesOk [a0] σ R := by
  refine ac_rule (fn := Try.f48) (c := Try.f48.body.getD .skip) kp_spec_PagesOk esc_spec_PagesOk Try.func48 (by kernel_rfl) (by kernel_rfl) ?_
  rw [← vc_spec_PagesOk_eq]
  exact h

/-- laws.toPages -/
def kp_laws_toPages : Nat → Keep
  | _ => ⟨[], [], [], [], []⟩
def esc_laws_toPages : Nat → Bool
  | _ => false
def vc_laws_toPages (w0 : World) (a0 : Value) (σ : Vw) (R : Value → Vw → Prop) : Prop :=
  pVal true 2 a0 (AC Try.prog w0 n_laws_toPageS [cellOf a0 0] σ (fun v0 s1 => pVal false 1 v0 (AC Try.prog w0 n_laws_toPageNameS [cellOf a0 1] s1 (fun v2 s3 => pVal false 1 v2 (pVal true 2 (Value.agg (⟨[v0, v2]⟩)) (R (Value.agg (⟨[v0, v2]⟩)) s3))))))
theorem vc_laws_toPages_eq (w0 : World) (a0 : Value) (σ : Vw) (R : Value → Vw → Prop) : vc_laws_toPages w0 a0 σ R = den Try.prog w0 kp_laws_toPages esc_laws_toPages (Try.f49.body.getD .skip) (entry Try.f49.ntmps [a0]) σ (retK Try.prog Try.f49.results.toList R) := by kernel_rfl
theorem ac_laws_toPages {w0 : World} {a0 : Value} {σ : Vw} {R : Value → Vw → Prop} (h : vc_laws_toPages w0 a0 σ R) : AC Try.prog w0 n_laws_toPages [a0] σ R := by
  refine ac_rule (fn := Try.f49) (c := Try.f49.body.getD .skip) kp_laws_toPages esc_laws_toPages Try.func49 (by kernel_rfl) (by kernel_rfl) ?_
  rw [← vc_laws_toPages_eq]
  exact h

/-- impl.PagesOk -/
def kp_impl_PagesOk : Nat → Keep
  | 5 => ⟨[2, 3, 24, 25, 26], [(1, 2)], [1], [], []⟩
  | 7 => ⟨[], [], [], [0, 1, 2, 3, 4, 5, 6, 7, 8, 9, 10, 11, 12, 13, 14, 15, 16, 17, 18, 19, 20, 21, 22, 23, 24, 25], [(1, [0]), (2, [0, 1]), (3, [0, 1, 2]), (4, [0, 1, 2, 3]), (5, [0, 1, 2, 3, 4]), (6, [0, 1, 2, 3, 4, 5]), (7, [0, 1, 2, 3, 4, 5, 6]), (8, [0, 1, 2, 3, 4, 5, 6, 7]), (9, [0, 1, 2, 3, 4, 5, 6, 7, 8]), (10, [0, 1, 2, 3, 4, 5, 6, 7]), (11, [0, 1, 2, 3, 4, 5, 6, 7, 10]), (12, [0, 1, 2, 3, 4, 5, 6, 7, 8, 9, 10, 11]), (13, [0, 1, 2, 3, 4, 5, 6, 7, 8, 9, 10, 11, 12]), (14, [0, 1, 2, 3, 4, 5, 6, 7, 8, 9, 10, 11, 12, 13]), (15, [0, 1, 2, 3, 4, 5, 6, 7]), (16, [0, 1, 2, 3, 4, 5, 6, 7, 15]), (17, [0, 1, 2, 3, 4, 5, 6, 7, 8, 9, 10, 11, 12, 13, 14, 15, 16]), (18, [0, 1, 2, 3, 4, 5, 6, 7, 8, 9, 10, 11, 12, 13, 14, 15, 16, 17]), (19, [0, 1, 2, 3, 4, 5, 6, 7, 8, 9, 10, 11, 12, 13, 14, 15, 16, 17, 18]), (20, [0, 1, 2, 3, 4, 5, 6, 7, 8, 9, 10, 11, 12, 13, 14, 15, 16, 17, 18, 19]), (21, [0, 1, 2, 3, 4, 5, 6, 7, 8, 9, 10, 11, 12, 13, 14, 15, 16, 17, 18, 19, 20]), (22, [0, 1, 2, 3, 4, 5, 6, 7, 8, 9, 10, 11, 12, 13, 14, 15, 16, 17, 18, 19, 20, 21]), (23, [0, 1, 2, 3, 4, 5, 6, 7, 8, 9, 10, 11, 12, 13, 14, 15, 16, 17, 18, 19, 20, 21, 22]), (24, [0, 1, 2, 3, 4, 5, 6, 7, 8, 9, 10, 11, 12, 13, 14, 15, 16, 17, 18, 19, 20, 21, 22, 23]), (25, [0, 1, 2, 3, 4, 5, 6, 7, 8, 9, 10, 11, 12, 13, 14, 15, 16, 17, 18, 19, 20, 21, 22, 23, 24])]⟩
  | 13 => ⟨[2, 3, 24, 25, 26, 65, 66, 67], [(1, 2)], [1], [], []⟩
  | 21 => ⟨[2, 3, 79, 80, 81], [], [], [], []⟩
  | _ => ⟨[], [], [], [], []⟩
def esc_impl_PagesOk : Nat → Bool
  | 3 => true
  | _ => false
def vc_impl_PagesOk (w0 : World) (a0 : Value) (σ : Vw) (R : Value → Vw → Prop) : Prop :=
  pVal true 2 a0 (pLen (cellOf a0 0) (fun v0 => pBin Try.prog 3 BinOp.neq v0 (Value.int IntKind.i64 96) (fun v1 => pIf v1 (R (Value.bool false) σ) (pLen (cellOf a0 1) (fun v2 => pBin Try.prog 3 BinOp.gtr v2 (Value.int IntKind.i64 16) (fun v3 => pIf v3 (R (Value.bool false) σ) (pNew w0 130 [Value.bool false, Value.bool false, Value.bool false, Value.bool false, Value.bool false, Value.bool false, Value.bool false, Value.bool false, Value.bool false, Value.bool false, Value.bool false, Value.bool false, Value.bool false, Value.bool false, Value.bool false, Value.bool false, Value.bool false, Value.bool false, Value.bool false, Value.bool false, Value.bool false, Value.bool false, Value.bool false, Value.bool false, Value.bool false, Value.bool false, Value.bool false, Value.bool false, Value.bool false, Value.bool false, Value.bool false, Value.bool false, Value.bool false, Value.bool false, Value.bool false, Value.bool false, Value.bool false, Value.bool false, Value.bool false, Value.bool false, Value.bool false, Value.bool false, Value.bool false, Value.bool false, Value.bool false, Value.bool false, Value.bool false, Value.bool false, Value.bool false, Value.bool false, Value.bool false, Value.bool false, Value.bool false, Value.bool false, Value.bool false, Value.bool false, Value.bool false, Value.bool false, Value.bool false, Value.bool false, Value.bool false, Value.bool false, Value.bool false, Value.bool false, Value.bool false, Value.bool false, Value.bool false, Value.bool false, Value.bool false, Value.bool false, Value.bool false, Value.bool false, Value.bool false, Value.bool false, Value.bool false, Value.bool false, Value.bool false, Value.bool false, Value.bool false, Value.bool false, Value.bool false, Value.bool false, Value.bool false, Value.bool false, Value.bool false, Value.bool false, Value.bool false, Value.bool false, Value.bool false, Value.bool false, Value.bool false, Value.bool false, Value.bool false, Value.bool false, Value.bool false, Value.bool false] σ (fun n4 s5 => pVal true 96 (Value.agg (⟨[Value.bool false, Value.bool false, Value.bool false, Value.bool false, Value.bool false, Value.bool false, Value.bool false, Value.bool false, Value.bool false, Value.bool false, Value.bool false, Value.bool false, Value.bool false, Value.bool false, Value.bool false, Value.bool false, Value.bool false, Value.bool false, Value.bool false, Value.bool false, Value.bool false, Value.bool false, Value.bool false, Value.bool false, Value.bool false, Value.bool false, Value.bool false, Value.bool false, Value.bool false, Value.bool false, Value.bool false, Value.bool false, Value.bool false, Value.bool false, Value.bool false, Value.bool false, Value.bool false, Value.bool false, Value.bool false, Value.bool false, Value.bool false, Value.bool false, Value.bool false, Value.bool false, Value.bool false, Value.bool false, Value.bool false, Value.bool false, Value.bool false, Value.bool false, Value.bool false, Value.bool false, Value.bool false, Value.bool false, Value.bool false, Value.bool false, Value.bool false, Value.bool false, Value.bool false, Value.bool false, Value.bool false, Value.bool false, Value.bool false, Value.bool false, Value.bool false, Value.bool false, Value.bool false, Value.bool false, Value.bool false, Value.bool false, Value.bool false, Value.bool false, Value.bool false, Value.bool false, Value.bool false, Value.bool false, Value.bool false, Value.bool false, Value.bool false, Value.bool false, Value.bool false, Value.bool false, Value.bool false, Value.bool false, Value.bool false, Value.bool false, Value.bool false, Value.bool false, Value.bool false, Value.bool false, Value.bool false, Value.bool false, Value.bool false, Value.bool false, Value.bool false, Value.bool false]⟩)) (pStore (Value.pointer (Option.some (Addr.mk n4 0 Option.none))) [Value.bool false, Value.bool false, Value.bool false, Value.bool false, Value.bool false, Value.bool false, Value.bool false, Value.bool false, Value.bool false, Value.bool false, Value.bool false, Value.bool false, Value.bool false, Value.bool false, Value.bool false, Value.bool false, Value.bool false, Value.bool false, Value.bool false, Value.bool false, Value.bool false, Value.bool false, Value.bool false, Value.bool false, Value.bool false, Value.bool false, Value.bool false, Value.bool false, Value.bool false, Value.bool false, Value.bool false, Value.bool false, Value.bool false, Value.bool false, Value.bool false, Value.bool false, Value.bool false, Value.bool false, Value.bool false, Value.bool false, Value.bool false, Value.bool false, Value.bool false, Value.bool false, Value.bool false, Value.bool false, Value.bool false, Value.bool false, Value.bool false, Value.bool false, Value.bool false, Value.bool false, Value.bool false, Value.bool false, Value.bool false, Value.bool false, Value.bool false, Value.bool false, Value.bool false, Value.bool false, Value.bool false, Value.bool false, Value.bool false, Value.bool false, Value.bool false, Value.bool false, Value.bool false, Value.bool false, Value.bool false, Value.bool false, Value.bool false, Value.bool false, Value.bool false, Value.bool false, Value.bool false, Value.bool false, Value.bool false, Value.bool false, Value.bool false, Value.bool false, Value.bool false, Value.bool false, Value.bool false, Value.bool false, Value.bool false, Value.bool false, Value.bool false, Value.bool false, Value.bool false, Value.bool false, Value.bool false, Value.bool false, Value.bool false, Value.bool false, Value.bool false, Value.bool false] s5 (fun s6 => pLen (cellOf a0 1) (fun v7 => pLoop (fun l8 K9 s10 => pBin Try.prog 3 BinOp.lss (vget l8 4) (vget l8 3) (fun v11 => pIf v11 (pIndexAddr 3 (vget l8 2) (vget l8 4) (fun v12 => pLoad w0 3 v12 s10 (fun g13 => pVal true 3 (Value.agg (⟨[g13 0, g13 1, g13 2]⟩)) (AC Try.prog w0 n_impl_nameOk [g13 0] s10 (fun v14 s15 => pUn UnOp.not v14 (fun v16 => pIf v16 (K9 AX.ret [Value.bool false, vget l8 1, vget l8 2, vget l8 3, vget l8 4, vget l8 5, vget l8 6] s15) (pBin Try.prog 3 BinOp.gtr (vget l8 4) (Value.int IntKind.i64 0) (fun v17 => pIf v17 (pBin Try.prog 3 BinOp.sub (vget l8 4) (Value.int IntKind.i64 1) (fun v18 => pIndexAddr 3 (vget l8 6) v18 (fun v19 => pField 0 v19 (fun v20 => pLoad w0 1 v20 s15 (fun g21 => pBin Try.prog 9 BinOp.geq (g21 0) (g13 0) (fun v22 => pIf v22 (K9 AX.ret [Value.bool false, vget l8 1, vget l8 2, vget l8 3, vget l8 4, vget l8 5, vget l8 6] s15) (AC Try.prog w0 n_impl_within [g13 2, Value.int IntKind.i64 0, Value.int IntKind.i64 3000] s15 (fun v23 s24 => pUn UnOp.not v23 (fun v25 => pIf v25 (K9 AX.ret [Value.bool false, vget l8 1, vget l8 2, vget l8 3, vget l8 4, vget l8 5, vget l8 6] s24) (AC Try.prog w0 n_impl_Pages_chain ([Value.agg (⟨[vget l8 5, vget l8 6]⟩), Value.agg (⟨[g13 0, g13 1, g13 2]⟩)]) s24 (fun v26 s27 => pExtract v26 0 (fun v28 => pExtract v26 1 (fun v29 => pUn UnOp.not v29 (fun v30 => pIf v30 (K9 AX.ret [Value.bool false, vget l8 1, vget l8 2, vget l8 3, vget l8 4, vget l8 5, vget l8 6] s27) (pLen v28 (fun v31 => pLoop (fun l32 K33 s34 => pBin Try.prog 3 BinOp.lss (vget l32 7) (vget l32 6) (fun v35 => pIf v35 (pIndexAddr 1 (vget l32 5) (vget l32 7) (fun v36 => pLoad w0 1 v36 s34 (fun g37 => pIndexArr 96 1 (vget l32 1) (g37 0) (fun v38 => pLoad w0 1 v38 s34 (fun g39 => pIf (g39 0) (K33 AX.ret [Value.bool false, vget l32 1, vget l32 2, vget l32 3, vget l32 4, vget l32 5, vget l32 6, vget l32 7, vget l32 8, vget l32 9] s34) (pIndexArr 96 1 (vget l32 1) (g37 0) (fun v40 => pVal false 1 (Value.bool true) (pStore v40 [Value.bool true] s34 (fun s41 => pBin Try.prog 3 BinOp.add (vget l32 7) (Value.int IntKind.i64 1) (fun v42 => K33 AX.normal [vget l32 0, vget l32 1, vget l32 2, vget l32 3, vget l32 4, vget l32 5, vget l32 6, v42, vget l32 8, vget l32 9] s41)))))))))) (K33 (AX.exit 2) [vget l32 0, vget l32 1, vget l32 2, vget l32 3, vget l32 4, vget l32 5, vget l32 6, vget l32 7, vget l32 8, vget l32 9] s34))) [vget l8 0, vget l8 1, vget l8 2, vget l8 3, vget l8 4, v28, v31, Value.int IntKind.i64 0, vget l8 5, vget l8 6] s27 (fun x43 l44 s45 => match x43 with | .normal => pBin Try.prog 3 BinOp.add (vget l44 4) (Value.int IntKind.i64 1) (fun v46 => K9 AX.normal [vget l44 0, vget l44 1, vget l44 2, vget l44 3, v46, vget l44 8, vget l44 9] s45) | .ret => K9 AX.ret [vget l44 0, vget l44 1, vget l44 2, vget l44 3, vget l44 4, vget l44 8, vget l44 9] s45 | .exit i47 => (match Nat.beq i47 2 with | true => pBin Try.prog 3 BinOp.add (vget l44 4) (Value.int IntKind.i64 1) (fun v48 => K9 AX.normal [vget l44 0, vget l44 1, vget l44 2, vget l44 3, v48, vget l44 8, vget l44 9] s45) | false => (match Nat.beq i47 1 with | true => pBin Try.prog 3 BinOp.add (vget l44 4) (Value.int IntKind.i64 1) (fun v49 => K9 AX.normal [vget l44 0, vget l44 1, vget l44 2, vget l44 3, v49, vget l44 8, vget l44 9] s45) | false => K9 (AX.exit i47) [vget l44 0, vget l44 1, vget l44 2, vget l44 3, vget l44 4, vget l44 8, vget l44 9] s45))))))))))))))))))) (AC Try.prog w0 n_impl_within [g13 2, Value.int IntKind.i64 0, Value.int IntKind.i64 3000] s15 (fun v50 s51 => pUn UnOp.not v50 (fun v52 => pIf v52 (K9 AX.ret [Value.bool false, vget l8 1, vget l8 2, vget l8 3, vget l8 4, vget l8 5, vget l8 6] s51) (AC Try.prog w0 n_impl_Pages_chain ([Value.agg (⟨[vget l8 5, vget l8 6]⟩), Value.agg (⟨[g13 0, g13 1, g13 2]⟩)]) s51 (fun v53 s54 => pExtract v53 0 (fun v55 => pExtract v53 1 (fun v56 => pUn UnOp.not v56 (fun v57 => pIf v57 (K9 AX.ret [Value.bool false, vget l8 1, vget l8 2, vget l8 3, vget l8 4, vget l8 5, vget l8 6] s54) (pLen v55 (fun v58 => pLoop (fun l59 K60 s61 => pBin Try.prog 3 BinOp.lss (vget l59 7) (vget l59 6) (fun v62 => pIf v62 (pIndexAddr 1 (vget l59 5) (vget l59 7) (fun v63 => pLoad w0 1 v63 s61 (fun g64 => pIndexArr 96 1 (vget l59 1) (g64 0) (fun v65 => pLoad w0 1 v65 s61 (fun g66 => pIf (g66 0) (K60 AX.ret [Value.bool false, vget l59 1, vget l59 2, vget l59 3, vget l59 4, vget l59 5, vget l59 6, vget l59 7, vget l59 8, vget l59 9] s61) (pIndexArr 96 1 (vget l59 1) (g64 0) (fun v67 => pVal false 1 (Value.bool true) (pStore v67 [Value.bool true] s61 (fun s68 => pBin Try.prog 3 BinOp.add (vget l59 7) (Value.int IntKind.i64 1) (fun v69 => K60 AX.normal [vget l59 0, vget l59 1, vget l59 2, vget l59 3, vget l59 4, vget l59 5, vget l59 6, v69, vget l59 8, vget l59 9] s68)))))))))) (K60 (AX.exit 2) [vget l59 0, vget l59 1, vget l59 2, vget l59 3, vget l59 4, vget l59 5, vget l59 6, vget l59 7, vget l59 8, vget l59 9] s61))) [vget l8 0, vget l8 1, vget l8 2, vget l8 3, vget l8 4, v55, v58, Value.int IntKind.i64 0, vget l8 5, vget l8 6] s54 (fun x70 l71 s72 => match x70 with | .normal => pBin Try.prog 3 BinOp.add (vget l71 4) (Value.int IntKind.i64 1) (fun v73 => K9 AX.normal [vget l71 0, vget l71 1, vget l71 2, vget l71 3, v73, vget l71 8, vget l71 9] s72) | .ret => K9 AX.ret [vget l71 0, vget l71 1, vget l71 2, vget l71 3, vget l71 4, vget l71 8, vget l71 9] s72 | .exit i74 => (match Nat.beq i74 2 with | true => pBin Try.prog 3 BinOp.add (vget l71 4) (Value.int IntKind.i64 1) (fun v75 => K9 AX.normal [vget l71 0, vget l71 1, vget l71 2, vget l71 3, v75, vget l71 8, vget l71 9] s72) | false => (match Nat.beq i74 1 with | true => pBin Try.prog 3 BinOp.add (vget l71 4) (Value.int IntKind.i64 1) (fun v76 => K9 AX.normal [vget l71 0, vget l71 1, vget l71 2, vget l71 3, v76, vget l71 8, vget l71 9] s72) | false => K9 (AX.exit i74) [vget l71 0, vget l71 1, vget l71 2, vget l71 3, vget l71 4, vget l71 8, vget l71 9] s72))))))))))))))))))))) (K9 (AX.exit 0) [vget l8 0, vget l8 1, vget l8 2, vget l8 3, vget l8 4, vget l8 5, vget l8 6] s10))) [Value.bool false, Value.pointer (Option.some (Addr.mk n4 0 Option.none)), cellOf a0 1, v7, Value.int IntKind.i64 0, cellOf a0 0, cellOf a0 1] s6 (fun x77 l78 s79 => match x77 with | .normal => pLen (vget l78 5) (fun v80 => pLoop (fun l81 K82 s83 => pBin Try.prog 3 BinOp.lss (vget l81 4) (vget l81 3) (fun v84 => pIf v84 (pIndexAddr 3 (vget l81 2) (vget l81 4) (fun v85 => pLoad w0 3 v85 s83 (fun g86 => pVal true 3 (Value.agg (⟨[g86 0, g86 1, g86 2]⟩)) (pIndexArr 96 1 (vget l81 1) (vget l81 4) (fun v87 => pLoad w0 1 v87 s83 (fun g88 => pUn UnOp.not (g88 0) (fun v89 => pIf v89 (pIf (g86 0) (K82 AX.ret [Value.bool false, vget l81 1, vget l81 2, vget l81 3, vget l81 4] s83) (pBin Try.prog 9 BinOp.neq (g86 1) (Value.string ({ data := #[] })) (fun v90 => pIf v90 (K82 AX.ret [Value.bool false, vget l81 1, vget l81 2, vget l81 3, vget l81 4] s83) (pBin Try.prog 3 BinOp.neq (g86 2) (Value.int IntKind.i64 (-1)) (fun v91 => pIf v91 (K82 AX.ret [Value.bool false, vget l81 1, vget l81 2, vget l81 3, vget l81 4] s83) (pBin Try.prog 3 BinOp.add (vget l81 4) (Value.int IntKind.i64 1) (fun v92 => K82 AX.normal [vget l81 0, vget l81 1, vget l81 2, vget l81 3, v92] s83))))))) (pBin Try.prog 3 BinOp.add (vget l81 4) (Value.int IntKind.i64 1) (fun v93 => K82 AX.normal [vget l81 0, vget l81 1, vget l81 2, vget l81 3, v93] s83))))))))) (K82 (AX.exit 4) [vget l81 0, vget l81 1, vget l81 2, vget l81 3, vget l81 4] s83))) [vget l78 0, vget l78 1, vget l78 5, v80, Value.int IntKind.i64 0] s79 (fun x94 l95 s96 => match x94 with | .normal => R (Value.bool true) s96 | .ret => R (vget l95 0) s96 | .exit i97 => (match Nat.beq i97 4 with | true => R (Value.bool true) s96 | false => False))) | .ret => R (vget l78 0) s79 | .exit i98 => (match Nat.beq i98 0 with | true => pLen (vget l78 5) (fun v99 => pLoop (fun l100 K101 s102 => pBin Try.prog 3 BinOp.lss (vget l100 4) (vget l100 3) (fun v103 => pIf v103 (pIndexAddr 3 (vget l100 2) (vget l100 4) (fun v104 => pLoad w0 3 v104 s102 (fun g105 => pVal true 3 (Value.agg (⟨[g105 0, g105 1, g105 2]⟩)) (pIndexArr 96 1 (vget l100 1) (vget l100 4) (fun v106 => pLoad w0 1 v106 s102 (fun g107 => pUn UnOp.not (g107 0) (fun v108 => pIf v108 (pIf (g105 0) (K101 AX.ret [Value.bool false, vget l100 1, vget l100 2, vget l100 3, vget l100 4] s102) (pBin Try.prog 9 BinOp.neq (g105 1) (Value.string ({ data := #[] })) (fun v109 => pIf v109 (K101 AX.ret [Value.bool false, vget l100 1, vget l100 2, vget l100 3, vget l100 4] s102) (pBin Try.prog 3 BinOp.neq (g105 2) (Value.int IntKind.i64 (-1)) (fun v110 => pIf v110 (K101 AX.ret [Value.bool false, vget l100 1, vget l100 2, vget l100 3, vget l100 4] s102) (pBin Try.prog 3 BinOp.add (vget l100 4) (Value.int IntKind.i64 1) (fun v111 => K101 AX.normal [vget l100 0, vget l100 1, vget l100 2, vget l100 3, v111] s102))))))) (pBin Try.prog 3 BinOp.add (vget l100 4) (Value.int IntKind.i64 1) (fun v112 => K101 AX.normal [vget l100 0, vget l100 1, vget l100 2, vget l100 3, v112] s102))))))))) (K101 (AX.exit 4) [vget l100 0, vget l100 1, vget l100 2, vget l100 3, vget l100 4] s102))) [vget l78 0, vget l78 1, vget l78 5, v99, Value.int IntKind.i64 0] s79 (fun x113 l114 s115 => match x113 with | .normal => R (Value.bool true) s115 | .ret => R (vget l114 0) s115 | .exit i116 => (match Nat.beq i116 4 with | true => R (Value.bool true) s115 | false => False))) | false => False)))))))))))))
theorem vc_impl_PagesOk_eq (w0 : World) (a0 : Value) (σ : Vw) (R : Value → Vw → Prop) : vc_impl_PagesOk w0 a0 σ R = den Try.prog w0 kp_impl_PagesOk esc_impl_PagesOk (Try.f50.body.getD .skip) (entry Try.f50.ntmps [a0]) σ (retK Try.prog Try.f50.results.toList R) := by kernel_rfl
theorem ac_impl_PagesOk {w0 : World} {a0 : Value} {σ : Vw} {R : Value → Vw → Prop} (h : vc_impl_PagesOk w0 a0 σ R) : AC Try.prog w0 n_impl_PagesOk [a0] σ R := by
  refine ac_rule (fn := Try.f50) (c := Try.f50.body.getD .skip) kp_impl_PagesOk esc_impl_PagesOk Try.func50 (by kernel_rfl) (by kernel_rfl) ?_
  rw [← vc_impl_PagesOk_eq]
  exact h

/-- laws.szStringS -/
def kp_laws_szStringS : Nat → Keep
  | 5 => ⟨[0, 1, 4, 5], [], [], [], []⟩
  | _ => ⟨[], [], [], [], []⟩
def esc_laws_szStringS : Nat → Bool
  | _ => false
def vc_laws_szStringS (w0 : World) (a0 a1 : Value) (σ : Vw) (R : Value → Vw → Prop) : Prop :=
  pLen a0 (fun v0 => pBin Try.prog 3 BinOp.sub a1 v0 (fun v1 => pBin Try.prog 3 BinOp.lss v1 (Value.int IntKind.i64 0) (fun v2 => pIf v2 (R (Value.int IntKind.i64 (-1)) σ) (pLoop (fun l3 K4 s5 => pLen (vget l3 0) (fun v6 => pBin Try.prog 3 BinOp.lss (vget l3 3) v6 (fun v7 => pIf v7 (pIndexAddr 1 (vget l3 0) (vget l3 3) (fun v8 => pLoad w0 1 v8 s5 (fun g9 => pLenS (g9 0) (fun v10 => pBin Try.prog 3 BinOp.sub (vget l3 1) v10 (fun v11 => pBin Try.prog 3 BinOp.lss v11 (Value.int IntKind.i64 0) (fun v12 => pIf v12 (K4 AX.ret [vget l3 0, v11, Value.int IntKind.i64 (-1), vget l3 3] s5) (pBin Try.prog 3 BinOp.add (vget l3 3) (Value.int IntKind.i64 1) (fun v13 => K4 AX.normal [vget l3 0, v11, vget l3 2, v13] s5)))))))) (K4 (AX.exit 0) [vget l3 0, vget l3 1, vget l3 2, vget l3 3] s5)))) [a0, v1, Value.int IntKind.i64 0, Value.int IntKind.i64 0] σ (fun x14 l15 s16 => match x14 with | .normal => R (vget l15 1) s16 | .ret => R (vget l15 2) s16 | .exit i17 => (match Nat.beq i17 0 with | true => R (vget l15 1) s16 | false => False))))))
theorem vc_laws_szStringS_eq (w0 : World) (a0 a1 : Value) (σ : Vw) (R : Value → Vw → Prop) : vc_laws_szStringS w0 a0 a1 σ R = den Try.prog w0 kp_laws_szStringS esc_laws_szStringS (Try.f51.body.getD .skip) (entry Try.f51.ntmps [a0, a1]) σ (retK Try.prog Try.f51.results.toList R) := by kernel_rfl
theorem ac_laws_szStringS {w0 : World} {a0 a1 : Value} {σ : Vw} {R : Value → Vw → Prop} (h : vc_laws_szStringS w0 a0 a1 σ R) : AC Try.prog w0 n_laws_szStringS [a0, a1] σ R := by
  refine ac_rule (fn := Try.f51) (c := Try.f51.body.getD .skip) kp_laws_szStringS esc_laws_szStringS Try.func51 (by kernel_rfl) (by kernel_rfl) ?_
  rw [← vc_laws_szStringS_eq]
  exact h

/-- spec.TreeRead -/
def kp_spec_TreeRead : Nat → Keep
  | _ => ⟨[], [], [], [], []⟩
def esc_spec_TreeRead : Nat → Bool
  | _ => false
def vc_spec_TreeRead (w0 : World) (a0 a1 a2 a3 : Value) (σ : Vw) (R : Value → Vw → Prop) : Prop :=
  pVal true 5 a0 (AC Try.prog w0 n_spec_TreeOk ([Value.agg (⟨[cellOf a0 0, cellOf a0 1, cellOf a0 2, cellOf a0 3, cellOf a0 4]⟩)]) σ (fun v0 s1 => pUn UnOp.not v0 (fun v2 => pIf v2 (R (Value.tuple (⟨[Value.string ({ data := #[] }), Value.int IntKind.i64 1]⟩)) s1) (AC Try.prog w0 n_spec_l1At ([Value.agg (⟨[cellOf a0 0, cellOf a0 1, cellOf a0 2, cellOf a0 3, cellOf a0 4]⟩), a1]) s1 (fun v3 s4 => pExtract v3 0 (fun v5 => pExtract v3 1 (fun v6 => pVal true 5 v5 (pBin Try.prog 3 BinOp.lss a2 (Value.int IntKind.i64 0) (fun v7 => pIf v7 (R (Value.tuple (⟨[Value.string ({ data := #[] }), Value.int IntKind.i64 2]⟩)) s4) (pBin Try.prog 3 BinOp.lss a3 (Value.int IntKind.i64 0) (fun v8 => pIf v8 (R (Value.tuple (⟨[Value.string ({ data := #[] }), Value.int IntKind.i64 2]⟩)) s4) (pUn UnOp.not v6 (fun v9 => pIf v9 (R (Value.tuple (⟨[Value.string ({ data := #[] }), Value.int IntKind.i64 3]⟩)) s4) (pIf (cellOf v5 0) (R (Value.tuple (⟨[Value.string ({ data := #[] }), Value.int IntKind.i64 4]⟩)) s4) (pLenS (cellOf v5 2) (fun v10 => pBin Try.prog 3 BinOp.geq a2 v10 (fun v11 => pIf v11 (R (Value.tuple (⟨[Value.string ({ data := #[] }), Value.int IntKind.i64 0]⟩)) s4) (pLenS (cellOf v5 2) (fun v12 => pBin Try.prog 3 BinOp.sub v12 a2 (fun v13 => pBin Try.prog 3 BinOp.gtr a3 v13 (fun v14 => pIf v14 (pSliceStr (cellOf v5 2) (Option.some a2) Option.none (fun v15 => R (Value.tuple (⟨[v15, Value.int IntKind.i64 0]⟩)) s4)) (pBin Try.prog 3 BinOp.add a2 a3 (fun v16 => pSliceStr (cellOf v5 2) (Option.some a2) (Option.some v16) (fun v17 => R (Value.tuple (⟨[v17, Value.int IntKind.i64 0]⟩)) s4))))))))))))))))))))))))
theorem vc_spec_TreeRead_eq (w0 : World) (a0 a1 a2 a3 : Value) (σ : Vw) (R : Value → Vw → Prop) : vc_spec_TreeRead w0 a0 a1 a2 a3 σ R = den Try.prog w0 kp_spec_TreeRead esc_spec_TreeRead (Try.f52.body.getD .skip) (entry Try.f52.ntmps [a0, a1, a2, a3]) σ (retK Try.prog Try.f52.results.toList R) := by kernel_rfl
theorem ac_spec_TreeRead {w0 : World} {a0 a1 a2 a3 : Value} {σ : Vw} {R : Value → Vw → Prop} (h : vc_spec_TreeRead w0 a0 a1 a2 a3 σ R) : AC Try.prog w0 n_spec_TreeRead [a0, a1, a2, a3] σ R := by
  refine ac_rule (fn := Try.f52) (c := Try.f52.body.getD .skip) kp_spec_TreeRead esc_spec_TreeRead Try.func52 (by kernel_rfl) (by kernel_rfl) ?_
  rw [← vc_spec_TreeRead_eq]
  exact h

/-- laws.toStringS -/
def kp_laws_toStringS : Nat → Keep
  | 3 => ⟨[0, 3, 4], [], [], [], []⟩
  | _ => ⟨[], [], [], [], []⟩
def esc_laws_toStringS : Nat → Bool
  | _ => false
def vc_laws_toStringS (w0 : World) (a0 : Value) (σ : Vw) (R : Value → Vw → Prop) : Prop :=
  pLen a0 (fun v0 => pMake w0 9 1 16 ([Value.string ({ data := #[] })]) v0 v0 σ (fun v1 s2 => pLoop (fun l3 K4 s5 => pLen (vget l3 0) (fun v6 => pBin Try.prog 3 BinOp.lss (vget l3 2) v6 (fun v7 => pIf v7 (pIndexAddr 1 (vget l3 0) (vget l3 2) (fun v8 => pLoad w0 1 v8 s5 (fun g9 => pIndexAddr 1 (vget l3 1) (vget l3 2) (fun v10 => pVal false 1 (g9 0) (pStore v10 [g9 0] s5 (fun s11 => pBin Try.prog 3 BinOp.add (vget l3 2) (Value.int IntKind.i64 1) (fun v12 => K4 AX.normal [vget l3 0, vget l3 1, v12] s11))))))) (K4 (AX.exit 0) [vget l3 0, vget l3 1, vget l3 2] s5)))) [a0, v1, Value.int IntKind.i64 0] s2 (fun x13 l14 s15 => match x13 with | .normal => R (vget l14 1) s15 | .ret => False | .exit i16 => (match Nat.beq i16 0 with | true => R (vget l14 1) s15 | false => False))))
theorem vc_laws_toStringS_eq (w0 : World) (a0 : Value) (σ : Vw) (R : Value → Vw → Prop) : vc_laws_toStringS w0 a0 σ R = den Try.prog w0 kp_laws_toStringS esc_laws_toStringS (Try.f53.body.getD .skip) (entry Try.f53.ntmps [a0]) σ (retK Try.prog Try.f53.results.toList R) := by kernel_rfl
theorem ac_laws_toStringS {w0 : World} {a0 : Value} {σ : Vw} {R : Value → Vw → Prop} (h : vc_laws_toStringS w0 a0 σ R) : AC Try.prog w0 n_laws_toStringS [a0] σ R := by
  refine ac_rule (fn := Try.f53) (c := Try.f53.body.getD .skip) kp_laws_toStringS esc_laws_toStringS Try.func53 (by kernel_rfl) (by kernel_rfl) ?_
  rw [← vc_laws_toStringS_eq]
  exact h

/-- impl.TreeRead -/
def kp_impl_TreeRead : Nat → Keep
  | 10 => ⟨[], [], [], [0, 1, 2, 3, 4, 5, 6, 7, 8, 9, 10, 11, 12], [(1, [0]), (2, [0, 1]), (3, [0, 1, 2]), (6, [5]), (7, [5, 6]), (8, [5, 6, 7]), (9, [5, 6, 7, 8]), (10, [4, 5, 6, 7, 8, 9]), (11, [0, 1, 2, 3, 4, 5, 6, 7, 8, 9, 10]), (12, [0, 1, 2, 3, 4, 5, 6, 7, 8, 9, 10, 11])]⟩
  | _ => ⟨[], [], [], [], []⟩
def esc_impl_TreeRead : Nat → Bool
  | 4 => true
  | _ => false
def vc_impl_TreeRead (w0 : World) (a0 a1 a2 a3 : Value) (σ : Vw) (R : Value → Vw → Prop) : Prop :=
  pVal true 5 a0 (pNew w0 48 [cellOf a0 0, cellOf a0 1, cellOf a0 2, cellOf a0 3, cellOf a0 4] σ (fun n0 s1 => pLoad w0 5 (Value.pointer (Option.some (Addr.mk n0 0 Option.none))) s1 (fun g2 => AC Try.prog w0 n_impl_TreeOk ([Value.agg (⟨[g2 0, g2 1, g2 2, g2 3, g2 4]⟩)]) s1 (fun v3 s4 => pUn UnOp.not v3 (fun v5 => pIf v5 (R (Value.tuple (⟨[Value.string ({ data := #[] }), Value.int IntKind.i64 1]⟩)) s4) (pBin Try.prog 3 BinOp.lss a2 (Value.int IntKind.i64 0) (fun v6 => pIf v6 (R (Value.tuple (⟨[Value.string ({ data := #[] }), Value.int IntKind.i64 2]⟩)) s4) (pBin Try.prog 3 BinOp.lss a3 (Value.int IntKind.i64 0) (fun v7 => pIf v7 (R (Value.tuple (⟨[Value.string ({ data := #[] }), Value.int IntKind.i64 2]⟩)) s4) (AC Try.prog w0 n_p_impl_Tree_at [Value.pointer (Option.some (Addr.mk n0 0 Option.none)), a1] s4 (fun v8 s9 => pBin Try.prog 134 BinOp.eql v8 (Value.pointer Option.none) (fun v10 => pIf v10 (R (Value.tuple (⟨[Value.string ({ data := #[] }), Value.int IntKind.i64 3]⟩)) s9) (pNil v8 (pField 0 v8 (fun v11 => pLoad w0 1 v11 s9 (fun g12 => pIf (g12 0) (R (Value.tuple (⟨[Value.string ({ data := #[] }), Value.int IntKind.i64 4]⟩)) s9) (pNil v8 (pField 2 v8 (fun v13 => pLoad w0 1 v13 s9 (fun g14 => pNil v8 (pField 2 v8 (fun v15 => pLoad w0 1 v15 s9 (fun g16 => pLenS (g16 0) (fun v17 => pMin a2 v17 (fun v18 => pSliceStr (g14 0) (Option.some v18) Option.none (fun v19 => pLenS v19 (fun v20 => pMin a3 v20 (fun v21 => pSliceStr v19 Option.none (Option.some v21) (fun v22 => R (Value.tuple (⟨[v22, Value.int IntKind.i64 0]⟩)) s9)))))))))))))))))))))))))))))
theorem vc_impl_TreeRead_eq (w0 : World) (a0 a1 a2 a3 : Value) (σ : Vw) (R : Value → Vw → Prop) : vc_impl_TreeRead w0 a0 a1 a2 a3 σ R = den Try.prog w0 kp_impl_TreeRead esc_impl_TreeRead (Try.f54.body.getD .skip) (entry Try.f54.ntmps [a0, a1, a2, a3]) σ (retK Try.prog Try.f54.results.toList R) := by kernel_rfl
theorem ac_impl_TreeRead {w0 : World} {a0 a1 a2 a3 : Value} {σ : Vw} {R : Value → Vw → Prop} (h : vc_impl_TreeRead w0 a0 a1 a2 a3 σ R) : AC Try.prog w0 n_impl_TreeRead [a0, a1, a2, a3] σ R := by
  refine ac_rule (fn := Try.f54) (c := Try.f54.body.getD .skip) kp_impl_TreeRead esc_impl_TreeRead Try.func54 (by kernel_rfl) (by kernel_rfl) ?_
  rw [← vc_impl_TreeRead_eq]
  exact h

/-- laws.eqStringS -/
def kp_laws_eqStringS : Nat → Keep
  | 4 => ⟨[0, 1, 4, 5], [], [], [], []⟩
  | 6 => ⟨[], [], [], [0, 1, 2, 3, 4, 5, 6, 7, 8], [(2, [0, 1]), (3, [0, 1, 2]), (6, [4, 5]), (7, [4, 5, 6]), (8, [0, 1, 2, 3, 4, 5, 6, 7])]⟩
  | _ => ⟨[], [], [], [], []⟩
def esc_laws_eqStringS : Nat → Bool
  | _ => false
def vc_laws_eqStringS (w0 : World) (a0 a1 : Value) (σ : Vw) (R : Value → Vw → Prop) : Prop :=
  pLen a0 (fun v0 => pLen a1 (fun v1 => pBin Try.prog 3 BinOp.neq v0 v1 (fun v2 => pIf v2 (R (Value.bool false) σ) (pLoop (fun l3 K4 s5 => pLen (vget l3 0) (fun v6 => pBin Try.prog 3 BinOp.lss (vget l3 3) v6 (fun v7 => pIf v7 (pIndexAddr 1 (vget l3 0) (vget l3 3) (fun v8 => pLoad w0 1 v8 s5 (fun g9 => pIndexAddr 1 (vget l3 1) (vget l3 3) (fun v10 => pLoad w0 1 v10 s5 (fun g11 => pBin Try.prog 9 BinOp.neq (g9 0) (g11 0) (fun v12 => pIf v12 (K4 AX.ret [vget l3 0, vget l3 1, Value.bool false, vget l3 3] s5) (pBin Try.prog 3 BinOp.add (vget l3 3) (Value.int IntKind.i64 1) (fun v13 => K4 AX.normal [vget l3 0, vget l3 1, vget l3 2, v13] s5)))))))) (K4 (AX.exit 0) [vget l3 0, vget l3 1, vget l3 2, vget l3 3] s5)))) [a0, a1, Value.bool false, Value.int IntKind.i64 0] σ (fun x14 l15 s16 => match x14 with | .normal => R (Value.bool true) s16 | .ret => R (vget l15 2) s16 | .exit i17 => (match Nat.beq i17 0 with | true => R (Value.bool true) s16 | false => False))))))
theorem vc_laws_eqStringS_eq (w0 : World) (a0 a1 : Value) (σ : Vw) (R : Value → Vw → Prop) : vc_laws_eqStringS w0 a0 a1 σ R = den Try.prog w0 kp_laws_eqStringS esc_laws_eqStringS (Try.f55.body.getD .skip) (entry Try.f55.ntmps [a0, a1]) σ (retK Try.prog Try.f55.results.toList R) := by kernel_rfl
theorem ac_laws_eqStringS {w0 : World} {a0 a1 : Value} {σ : Vw} {R : Value → Vw → Prop} (h : vc_laws_eqStringS w0 a0 a1 σ R) : AC Try.prog w0 n_laws_eqStringS [a0, a1] σ R := by
  refine ac_rule (fn := Try.f55) (c := Try.f55.body.getD .skip) kp_laws_eqStringS esc_laws_eqStringS Try.func55 (by kernel_rfl) (by kernel_rfl) ?_
  rw [← vc_laws_eqStringS_eq]
  exact h

/-- spec.PagesFree -/
def kp_spec_PagesFree : Nat → Keep
  | _ => ⟨[], [], [], [], []⟩
def esc_spec_PagesFree : Nat → Bool
  | _ => false
def vc_spec_PagesFree (w0 : World) (a0 : Value) (σ : Vw) (R : Value → Vw → Prop) : Prop :=
  pVal true 2 a0 (AC Try.prog w0 n_spec_PagesOk ([Value.agg (⟨[cellOf a0 0, cellOf a0 1]⟩)]) σ (fun v0 s1 => pUn UnOp.not v0 (fun v2 => pIf v2 (R (Value.int IntKind.i64 0) s1) (AC Try.prog w0 n_spec_l32Free ([Value.agg (⟨[cellOf a0 0, cellOf a0 1]⟩)]) s1 (fun v3 s4 => R v3 s4)))))
theorem vc_spec_PagesFree_eq (w0 : World) (a0 : Value) (σ : Vw) (R : Value → Vw → Prop) : vc_spec_PagesFree w0 a0 σ R = den Try.prog w0 kp_spec_PagesFree esc_spec_PagesFree (Try.f56.body.getD .skip) (entry Try.f56.ntmps [a0]) σ (retK Try.prog Try.f56.results.toList R) := by kernel_rfl
theorem ac_spec_PagesFree {w0 : World} {a0 : Value} {σ : Vw} {R : Value → Vw → Prop} (h : vc_spec_PagesFree w0 a0 σ R) : AC Try.prog w0 n_spec_PagesFree [a0] σ R := by
  refine ac_rule (fn := Try.f56) (c := Try.f56.body.getD .skip) kp_spec_PagesFree esc_spec_PagesFree Try.func56 (by kernel_rfl) (by kernel_rfl) ?_
  rw [← vc_spec_PagesFree_eq]
  exact h

/-- impl.PagesFree -/
def kp_impl_PagesFree : Nat → Keep
  | _ => ⟨[], [], [], [], []⟩
def esc_impl_PagesFree : Nat → Bool
  | _ => false
def vc_impl_PagesFree (w0 : World) (a0 : Value) (σ : Vw) (R : Value → Vw → Prop) : Prop :=
  pVal true 2 a0 (AC Try.prog w0 n_impl_PagesOk ([Value.agg (⟨[cellOf a0 0, cellOf a0 1]⟩)]) σ (fun v0 s1 => pUn UnOp.not v0 (fun v2 => pIf v2 (R (Value.int IntKind.i64 0) s1) (AC Try.prog w0 n_impl_Pages_free ([Value.agg (⟨[cellOf a0 0, cellOf a0 1]⟩)]) s1 (fun v3 s4 => R v3 s4)))))
theorem vc_impl_PagesFree_eq (w0 : World) (a0 : Value) (σ : Vw) (R : Value → Vw → Prop) : vc_impl_PagesFree w0 a0 σ R = den Try.prog w0 kp_impl_PagesFree esc_impl_PagesFree (Try.f57.body.getD .skip) (entry Try.f57.ntmps [a0]) σ (retK Try.prog Try.f57.results.toList R) := by kernel_rfl
theorem ac_impl_PagesFree {w0 : World} {a0 : Value} {σ : Vw} {R : Value → Vw → Prop} (h : vc_impl_PagesFree w0 a0 σ R) : AC Try.prog w0 n_impl_PagesFree [a0] σ R := by
  refine ac_rule (fn := Try.f57) (c := Try.f57.body.getD .skip) kp_impl_PagesFree esc_impl_PagesFree Try.func57 (by kernel_rfl) (by kernel_rfl) ?_
  rw [← vc_impl_PagesFree_eq]
  exact h

/-- spec.TreeList -/
def kp_spec_TreeList : Nat → Keep
  | _ => ⟨[], [], [], [], []⟩
def esc_spec_TreeList : Nat → Bool
  | 11 => true
  | 21 => true
  | 26 => true
  | 27 => true
  | _ => false
def vc_spec_TreeList (w0 : World) (a0 a1 : Value) (σ : Vw) (R : Value → Vw → Prop) : Prop :=
  pVal true 5 a0 (AC Try.prog w0 n_spec_TreeOk ([Value.agg (⟨[cellOf a0 0, cellOf a0 1, cellOf a0 2, cellOf a0 3, cellOf a0 4]⟩)]) σ (fun v0 s1 => pUn UnOp.not v0 (fun v2 => pIf v2 (pNew w0 9 [] s1 (fun n3 s4 => R (Value.tuple (⟨[Value.slice (Option.some (Addr.mk n3 0 Option.none)) 0 0, Value.int IntKind.i64 1]⟩)) s4)) (AC Try.prog w0 n_spec_l1At ([Value.agg (⟨[cellOf a0 0, cellOf a0 1, cellOf a0 2, cellOf a0 3, cellOf a0 4]⟩), a1]) s1 (fun v5 s6 => pExtract v5 0 (fun v7 => pExtract v5 1 (fun v8 => pVal true 5 v7 (pUn UnOp.not v8 (fun v9 => pIf v9 (pNew w0 9 [] s6 (fun n10 s11 => R (Value.tuple (⟨[Value.slice (Option.some (Addr.mk n10 0 Option.none)) 0 0, Value.int IntKind.i64 3]⟩)) s11)) (pUn UnOp.not (cellOf v7 0) (fun v12 => pIf v12 (pNew w0 9 [] s6 (fun n13 s14 => R (Value.tuple (⟨[Value.slice (Option.some (Addr.mk n13 0 Option.none)) 0 0, Value.int IntKind.i64 4]⟩)) s14)) (pNew w0 9 [] s6 (fun n15 s16 => pAppendS w0 9 1 16 (Value.slice (Option.some (Addr.mk n15 0 Option.none)) 0 0) (cellOf v7 3) s16 (fun v17 s18 => R (Value.tuple (⟨[v17, Value.int IntKind.i64 0]⟩)) s18))))))))))))))
theorem vc_spec_TreeList_eq (w0 : World) (a0 a1 : Value) (σ : Vw) (R : Value → Vw → Prop) : vc_spec_TreeList w0 a0 a1 σ R = den Try.prog w0 kp_spec_TreeList esc_spec_TreeList (Try.f58.body.getD .skip) (entry Try.f58.ntmps [a0, a1]) σ (retK Try.prog Try.f58.results.toList R) := by kernel_rfl
theorem ac_spec_TreeList {w0 : World} {a0 a1 : Value} {σ : Vw} {R : Value → Vw → Prop} (h : vc_spec_TreeList w0 a0 a1 σ R) : AC Try.prog w0 n_spec_TreeList [a0, a1] σ R := by
  refine ac_rule (fn := Try.f58) (c := Try.f58.body.getD .skip) kp_spec_TreeList esc_spec_TreeList Try.func58 (by kernel_rfl) (by kernel_rfl) ?_
  rw [← vc_spec_TreeList_eq]
  exact h

/-- impl.TreeList -/
def kp_impl_TreeList : Nat → Keep
  | _ => ⟨[], [], [], [], []⟩
def esc_impl_TreeList : Nat → Bool
  | 2 => true
  | 10 => true
  | 16 => true
  | 23 => true
  | 24 => true
  | _ => false
def vc_impl_TreeList (w0 : World) (a0 a1 : Value) (σ : Vw) (R : Value → Vw → Prop) : Prop :=
  pVal true 5 a0 (pNew w0 48 [cellOf a0 0, cellOf a0 1, cellOf a0 2, cellOf a0 3, cellOf a0 4] σ (fun n0 s1 => pLoad w0 5 (Value.pointer (Option.some (Addr.mk n0 0 Option.none))) s1 (fun g2 => AC Try.prog w0 n_impl_TreeOk ([Value.agg (⟨[g2 0, g2 1, g2 2, g2 3, g2 4]⟩)]) s1 (fun v3 s4 => pUn UnOp.not v3 (fun v5 => pIf v5 (pNew w0 9 [] s4 (fun n6 s7 => R (Value.tuple (⟨[Value.slice (Option.some (Addr.mk n6 0 Option.none)) 0 0, Value.int IntKind.i64 1]⟩)) s7)) (AC Try.prog w0 n_p_impl_Tree_at [Value.pointer (Option.some (Addr.mk n0 0 Option.none)), a1] s4 (fun v8 s9 => pBin Try.prog 134 BinOp.eql v8 (Value.pointer Option.none) (fun v10 => pIf v10 (pNew w0 9 [] s9 (fun n11 s12 => R (Value.tuple (⟨[Value.slice (Option.some (Addr.mk n11 0 Option.none)) 0 0, Value.int IntKind.i64 3]⟩)) s12)) (pNil v8 (pField 0 v8 (fun v13 => pLoad w0 1 v13 s9 (fun g14 => pUn UnOp.not (g14 0) (fun v15 => pIf v15 (pNew w0 9 [] s9 (fun n16 s17 => R (Value.tuple (⟨[Value.slice (Option.some (Addr.mk n16 0 Option.none)) 0 0, Value.int IntKind.i64 4]⟩)) s17)) (pNew w0 9 [] s9 (fun n18 s19 => pNil v8 (pField 3 v8 (fun v20 => pLoad w0 1 v20 s19 (fun g21 => pAppendS w0 9 1 16 (Value.slice (Option.some (Addr.mk n18 0 Option.none)) 0 0) (g21 0) s19 (fun v22 s23 => R (Value.tuple (⟨[v22, Value.int IntKind.i64 0]⟩)) s23)))))))))))))))))))
theorem vc_impl_TreeList_eq (w0 : World) (a0 a1 : Value) (σ : Vw) (R : Value → Vw → Prop) : vc_impl_TreeList w0 a0 a1 σ R = den Try.prog w0 kp_impl_TreeList esc_impl_TreeList (Try.f59.body.getD .skip) (entry Try.f59.ntmps [a0, a1]) σ (retK Try.prog Try.f59.results.toList R) := by kernel_rfl
theorem ac_impl_TreeList {w0 : World} {a0 a1 : Value} {σ : Vw} {R : Value → Vw → Prop} (h : vc_impl_TreeList w0 a0 a1 σ R) : AC Try.prog w0 n_impl_TreeList [a0, a1] σ R := by
  refine ac_rule (fn := Try.f59) (c := Try.f59.body.getD .skip) kp_impl_TreeList esc_impl_TreeList Try.func59 (by kernel_rfl) (by kernel_rfl) ?_
  rw [← vc_impl_TreeList_eq]
  exact h

/-- laws.markTree -/
def kp_laws_markTree : Nat → Keep
  | _ => ⟨[], [], [], [], []⟩
def esc_laws_markTree : Nat → Bool
  | _ => false
def vc_laws_markTree (w0 : World) (a0 a1 : Value) (σ : Vw) (R : Value → Vw → Prop) : Prop :=
  pVal true 5 a0 (AC Try.prog w0 n_laws_markStringS [cellOf a0 3, a1] σ (fun v0 s1 => AC Try.prog w0 n_laws_markTreeS [cellOf a0 4, v0] s1 (fun v2 s3 => R v2 s3)))
theorem vc_laws_markTree_eq (w0 : World) (a0 a1 : Value) (σ : Vw) (R : Value → Vw → Prop) : vc_laws_markTree w0 a0 a1 σ R = den Try.prog w0 kp_laws_markTree esc_laws_markTree (Try.f60.body.getD .skip) (entry Try.f60.ntmps [a0, a1]) σ (retK Try.prog Try.f60.results.toList R) := by kernel_rfl
theorem ac_laws_markTree {w0 : World} {a0 a1 : Value} {σ : Vw} {R : Value → Vw → Prop} (h : vc_laws_markTree w0 a0 a1 σ R) : AC Try.prog w0 n_laws_markTree [a0, a1] σ R := by
  refine ac_rule (fn := Try.f60) (c := Try.f60.body.getD .skip) kp_laws_markTree esc_laws_markTree Try.func60 (by kernel_rfl) (by kernel_rfl) ?_
  rw [← vc_laws_markTree_eq]
  exact h

/-- laws.markStringS -/
def kp_laws_markStringS : Nat → Keep
  | 2 => ⟨[0, 1, 5], [], [], [], []⟩
  | _ => ⟨[], [], [], [], []⟩
def esc_laws_markStringS : Nat → Bool
  | _ => false
def vc_laws_markStringS (w0 : World) (a0 a1 : Value) (σ : Vw) (R : Value → Vw → Prop) : Prop :=
  pLoop (fun l0 K1 s2 => pLen (vget l0 0) (fun v3 => pBin Try.prog 3 BinOp.lss (vget l0 2) v3 (fun v4 => pIf v4 (AC Try.prog w0 n_laws_markText [vget l0 1] s2 (fun v5 s6 => pIndexAddr 1 (vget l0 0) (vget l0 2) (fun v7 => pVal false 1 v5 (pStore v7 [v5] s6 (fun s8 => pBin Try.prog 3 BinOp.add (vget l0 1) (Value.int IntKind.i64 1) (fun v9 => pBin Try.prog 3 BinOp.add (vget l0 2) (Value.int IntKind.i64 1) (fun v10 => K1 AX.normal [vget l0 0, v9, v10] s8))))))) (K1 (AX.exit 0) [vget l0 0, vget l0 1, vget l0 2] s2)))) [a0, a1, Value.int IntKind.i64 0] σ (fun x11 l12 s13 => match x11 with | .normal => R (vget l12 1) s13 | .ret => False | .exit i14 => (match Nat.beq i14 0 with | true => R (vget l12 1) s13 | false => False))
theorem vc_laws_markStringS_eq (w0 : World) (a0 a1 : Value) (σ : Vw) (R : Value → Vw → Prop) : vc_laws_markStringS w0 a0 a1 σ R = den Try.prog w0 kp_laws_markStringS esc_laws_markStringS (Try.f61.body.getD .skip) (entry Try.f61.ntmps [a0, a1]) σ (retK Try.prog Try.f61.results.toList R) := by kernel_rfl
theorem ac_laws_markStringS {w0 : World} {a0 a1 : Value} {σ : Vw} {R : Value → Vw → Prop} (h : vc_laws_markStringS w0 a0 a1 σ R) : AC Try.prog w0 n_laws_markStringS [a0, a1] σ R := by
  refine ac_rule (fn := Try.f61) (c := Try.f61.body.getD .skip) kp_laws_markStringS esc_laws_markStringS Try.func61 (by kernel_rfl) (by kernel_rfl) ?_
  rw [← vc_laws_markStringS_eq]
  exact h

/-- laws.heldStringS -/
def kp_laws_heldStringS : Nat → Keep
  | 2 => ⟨[0, 1, 4, 5], [], [], [], []⟩
  | 4 => ⟨[], [], [], [0, 1, 2, 3, 4, 5, 6], [(2, [0, 1]), (3, [0, 1, 2]), (5, [4]), (6, [0, 1, 2, 3, 4, 5])]⟩
  | _ => ⟨[], [], [], [], []⟩
def esc_laws_heldStringS : Nat → Bool
  | _ => false
def vc_laws_heldStringS (w0 : World) (a0 a1 : Value) (σ : Vw) (R : Value → Vw → Prop) : Prop :=
  pLoop (fun l0 K1 s2 => pLen (vget l0 0) (fun v3 => pBin Try.prog 3 BinOp.lss (vget l0 3) v3 (fun v4 => pIf v4 (pIndexAddr 1 (vget l0 0) (vget l0 3) (fun v5 => pLoad w0 1 v5 s2 (fun g6 => AC Try.prog w0 n_laws_markText [vget l0 1] s2 (fun v7 s8 => (Ext s2 s8) ∧ (pBin Try.prog 9 BinOp.neq (g6 0) v7 (fun v9 => pIf v9 (K1 AX.ret [vget l0 0, vget l0 1, Value.int IntKind.i64 (-1), vget l0 3] s8) (pBin Try.prog 3 BinOp.add (vget l0 1) (Value.int IntKind.i64 1) (fun v10 => pBin Try.prog 3 BinOp.add (vget l0 3) (Value.int IntKind.i64 1) (fun v11 => K1 AX.normal [vget l0 0, v10, vget l0 2, v11] s8))))))))) (K1 (AX.exit 0) [vget l0 0, vget l0 1, vget l0 2, vget l0 3] s2)))) [a0, a1, Value.int IntKind.i64 0, Value.int IntKind.i64 0] σ (fun x12 l13 s14 => match x12 with | .normal => R (vget l13 1) s14 | .ret => R (vget l13 2) s14 | .exit i15 => (match Nat.beq i15 0 with | true => R (vget l13 1) s14 | false => False))
theorem vc_laws_heldStringS_eq (w0 : World) (a0 a1 : Value) (σ : Vw) (R : Value → Vw → Prop) : vc_laws_heldStringS w0 a0 a1 σ R = den Try.prog w0 kp_laws_heldStringS esc_laws_heldStringS (Try.f62.body.getD .skip) (entry Try.f62.ntmps [a0, a1]) σ (retK Try.prog Try.f62.results.toList R) := by kernel_rfl
theorem ac_laws_heldStringS {w0 : World} {a0 a1 : Value} {σ : Vw} {R : Value → Vw → Prop} (h : vc_laws_heldStringS w0 a0 a1 σ R) : AC Try.prog w0 n_laws_heldStringS [a0, a1] σ R := by
  refine ac_rule (fn := Try.f62) (c := Try.f62.body.getD .skip) kp_laws_heldStringS esc_laws_heldStringS Try.func62 (by kernel_rfl) (by kernel_rfl) ?_
  rw [← vc_laws_heldStringS_eq]
  exact h

/-- impl.pieces -/
def kp_impl_pieces : Nat → Keep
  | _ => ⟨[], [], [], [], []⟩
def esc_impl_pieces : Nat → Bool
  | _ => false
def vc_impl_pieces (w0 : World) (a0 a1 : Value) (σ : Vw) (R : Value → Vw → Prop) : Prop :=
  pBin Try.prog 3 BinOp.add a0 a1 (fun v0 => pBin Try.prog 3 BinOp.sub v0 (Value.int IntKind.i64 1) (fun v1 => pBin Try.prog 3 BinOp.quo v1 a1 (fun v2 => R v2 σ)))
theorem vc_impl_pieces_eq (w0 : World) (a0 a1 : Value) (σ : Vw) (R : Value → Vw → Prop) : vc_impl_pieces w0 a0 a1 σ R = den Try.prog w0 kp_impl_pieces esc_impl_pieces (Try.f63.body.getD .skip) (entry Try.f63.ntmps [a0, a1]) σ (retK Try.prog Try.f63.results.toList R) := by kernel_rfl
theorem ac_impl_pieces {w0 : World} {a0 a1 : Value} {σ : Vw} {R : Value → Vw → Prop} (h : vc_impl_pieces w0 a0 a1 σ R) : AC Try.prog w0 n_impl_pieces [a0, a1] σ R := by
  refine ac_rule (fn := Try.f63) (c := Try.f63.body.getD .skip) kp_impl_pieces esc_impl_pieces Try.func63 (by kernel_rfl) (by kernel_rfl) ?_
  rw [← vc_impl_pieces_eq]
  exact h

/-- laws.eqPageS -/
def kp_laws_eqPageS : Nat → Keep
  | 4 => ⟨[0, 1, 4, 5], [], [], [], []⟩
  | 6 => ⟨[], [], [], [0, 1, 2, 3, 4, 5, 6, 7, 8, 9], [(2, [0, 1]), (3, [0, 1, 2]), (6, [4, 5]), (7, [4, 5, 6]), (8, [0, 1, 2, 3, 4, 5, 6, 7]), (9, [0, 1, 2, 3, 4, 5, 6, 7, 8])]⟩
  | _ => ⟨[], [], [], [], []⟩
def esc_laws_eqPageS : Nat → Bool
  | _ => false
def vc_laws_eqPageS (w0 : World) (a0 a1 : Value) (σ : Vw) (R : Value → Vw → Prop) : Prop :=
  pLen a0 (fun v0 => pLen a1 (fun v1 => pBin Try.prog 3 BinOp.neq v0 v1 (fun v2 => pIf v2 (R (Value.bool false) σ) (pLoop (fun l3 K4 s5 => pLen (vget l3 0) (fun v6 => pBin Try.prog 3 BinOp.lss (vget l3 3) v6 (fun v7 => pIf v7 (pIndexAddr 3 (vget l3 0) (vget l3 3) (fun v8 => pLoad w0 3 v8 s5 (fun g9 => pIndexAddr 3 (vget l3 1) (vget l3 3) (fun v10 => pLoad w0 3 v10 s5 (fun g11 => AC Try.prog w0 n_laws_eqPage ([Value.agg (⟨[g9 0, g9 1, g9 2]⟩), Value.agg (⟨[g11 0, g11 1, g11 2]⟩)]) s5 (fun v12 s13 => pUn UnOp.not v12 (fun v14 => pIf v14 (K4 AX.ret [vget l3 0, vget l3 1, Value.bool false, vget l3 3] s13) (pBin Try.prog 3 BinOp.add (vget l3 3) (Value.int IntKind.i64 1) (fun v15 => K4 AX.normal [vget l3 0, vget l3 1, vget l3 2, v15] s13))))))))) (K4 (AX.exit 0) [vget l3 0, vget l3 1, vget l3 2, vget l3 3] s5)))) [a0, a1, Value.bool false, Value.int IntKind.i64 0] σ (fun x16 l17 s18 => match x16 with | .normal => R (Value.bool true) s18 | .ret => R (vget l17 2) s18 | .exit i19 => (match Nat.beq i19 0 with | true => R (Value.bool true) s18 | false => False))))))
theorem vc_laws_eqPageS_eq (w0 : World) (a0 a1 : Value) (σ : Vw) (R : Value → Vw → Prop) : vc_laws_eqPageS w0 a0 a1 σ R = den Try.prog w0 kp_laws_eqPageS esc_laws_eqPageS (Try.f64.body.getD .skip) (entry Try.f64.ntmps [a0, a1]) σ (retK Try.prog Try.f64.results.toList R) := by kernel_rfl
theorem ac_laws_eqPageS {w0 : World} {a0 a1 : Value} {σ : Vw} {R : Value → Vw → Prop} (h : vc_laws_eqPageS w0 a0 a1 σ R) : AC Try.prog w0 n_laws_eqPageS [a0, a1] σ R := by
  refine ac_rule (fn := Try.f64) (c := Try.f64.body.getD .skip) kp_laws_eqPageS esc_laws_eqPageS Try.func64 (by kernel_rfl) (by kernel_rfl) ?_
  rw [← vc_laws_eqPageS_eq]
  exact h

/-- laws.eqPageNameS -/
def kp_laws_eqPageNameS : Nat → Keep
  | 4 => ⟨[0, 1, 4, 5], [], [], [], []⟩
  | 6 => ⟨[], [], [], [0, 1, 2, 3, 4, 5, 6, 7, 8, 9], [(2, [0, 1]), (3, [0, 1, 2]), (6, [4, 5]), (7, [4, 5, 6]), (8, [0, 1, 2, 3, 4, 5, 6, 7]), (9, [0, 1, 2, 3, 4, 5, 6, 7, 8])]⟩
  | _ => ⟨[], [], [], [], []⟩
def esc_laws_eqPageNameS : Nat → Bool
  | _ => false
def vc_laws_eqPageNameS (w0 : World) (a0 a1 : Value) (σ : Vw) (R : Value → Vw → Prop) : Prop :=
  pLen a0 (fun v0 => pLen a1 (fun v1 => pBin Try.prog 3 BinOp.neq v0 v1 (fun v2 => pIf v2 (R (Value.bool false) σ) (pLoop (fun l3 K4 s5 => pLen (vget l3 0) (fun v6 => pBin Try.prog 3 BinOp.lss (vget l3 3) v6 (fun v7 => pIf v7 (pIndexAddr 3 (vget l3 0) (vget l3 3) (fun v8 => pLoad w0 3 v8 s5 (fun g9 => pIndexAddr 3 (vget l3 1) (vget l3 3) (fun v10 => pLoad w0 3 v10 s5 (fun g11 => AC Try.prog w0 n_laws_eqPageName ([Value.agg (⟨[g9 0, g9 1, g9 2]⟩), Value.agg (⟨[g11 0, g11 1, g11 2]⟩)]) s5 (fun v12 s13 => pUn UnOp.not v12 (fun v14 => pIf v14 (K4 AX.ret [vget l3 0, vget l3 1, Value.bool false, vget l3 3] s13) (pBin Try.prog 3 BinOp.add (vget l3 3) (Value.int IntKind.i64 1) (fun v15 => K4 AX.normal [vget l3 0, vget l3 1, vget l3 2, v15] s13))))))))) (K4 (AX.exit 0) [vget l3 0, vget l3 1, vget l3 2, vget l3 3] s5)))) [a0, a1, Value.bool false, Value.int IntKind.i64 0] σ (fun x16 l17 s18 => match x16 with | .normal => R (Value.bool true) s18 | .ret => R (vget l17 2) s18 | .exit i19 => (match Nat.beq i19 0 with | true => R (Value.bool true) s18 | false => False))))))
theorem vc_laws_eqPageNameS_eq (w0 : World) (a0 a1 : Value) (σ : Vw) (R : Value → Vw → Prop) : vc_laws_eqPageNameS w0 a0 a1 σ R = den Try.prog w0 kp_laws_eqPageNameS esc_laws_eqPageNameS (Try.f65.body.getD .skip) (entry Try.f65.ntmps [a0, a1]) σ (retK Try.prog Try.f65.results.toList R) := by kernel_rfl
theorem ac_laws_eqPageNameS {w0 : World} {a0 a1 : Value} {σ : Vw} {R : Value → Vw → Prop} (h : vc_laws_eqPageNameS w0 a0 a1 σ R) : AC Try.prog w0 n_laws_eqPageNameS [a0, a1] σ R := by
  refine ac_rule (fn := Try.f65) (c := Try.f65.body.getD .skip) kp_laws_eqPageNameS esc_laws_eqPageNameS Try.func65 (by kernel_rfl) (by kernel_rfl) ?_
  rw [← vc_laws_eqPageNameS_eq]
  exact h

/-- laws.markPageS -/
def kp_laws_markPageS : Nat → Keep
  | 2 => ⟨[0, 1, 5], [], [], [], []⟩
  | _ => ⟨[], [], [], [], []⟩
def esc_laws_markPageS : Nat → Bool
  | _ => false
def vc_laws_markPageS (w0 : World) (a0 a1 : Value) (σ : Vw) (R : Value → Vw → Prop) : Prop :=
  pLoop (fun l0 K1 s2 => pLen (vget l0 0) (fun v3 => pBin Try.prog 3 BinOp.lss (vget l0 2) v3 (fun v4 => pIf v4 (pBin Try.prog 3 BinOp.rem (vget l0 1) (Value.int IntKind.i64 3) (fun v5 => pBin Try.prog 3 BinOp.eql v5 (Value.int IntKind.i64 0) (fun v6 => pIndexAddr 3 (vget l0 0) (vget l0 2) (fun v7 => pField 0 v7 (fun v8 => pVal false 1 v6 (pStore v8 [v6] s2 (fun s9 => pBin Try.prog 3 BinOp.add (vget l0 1) (Value.int IntKind.i64 1) (fun v10 => AC Try.prog w0 n_laws_markText [v10] s9 (fun v11 s12 => pIndexAddr 3 (vget l0 0) (vget l0 2) (fun v13 => pField 1 v13 (fun v14 => pVal false 1 v11 (pStore v14 [v11] s12 (fun s15 => pBin Try.prog 3 BinOp.add v10 (Value.int IntKind.i64 1) (fun v16 => pIndexAddr 3 (vget l0 0) (vget l0 2) (fun v17 => pField 2 v17 (fun v18 => pVal false 1 v16 (pStore v18 [v16] s15 (fun s19 => pBin Try.prog 3 BinOp.add v16 (Value.int IntKind.i64 1) (fun v20 => pBin Try.prog 3 BinOp.add (vget l0 2) (Value.int IntKind.i64 1) (fun v21 => K1 AX.normal [vget l0 0, v20, v21] s19)))))))))))))))))))) (K1 (AX.exit 0) [vget l0 0, vget l0 1, vget l0 2] s2)))) [a0, a1, Value.int IntKind.i64 0] σ (fun x22 l23 s24 => match x22 with | .normal => R (vget l23 1) s24 | .ret => False | .exit i25 => (match Nat.beq i25 0 with | true => R (vget l23 1) s24 | false => False))
theorem vc_laws_markPageS_eq (w0 : World) (a0 a1 : Value) (σ : Vw) (R : Value → Vw → Prop) : vc_laws_markPageS w0 a0 a1 σ R = den Try.prog w0 kp_laws_markPageS esc_laws_markPageS (Try.f66.body.getD .skip) (entry Try.f66.ntmps [a0, a1]) σ (retK Try.prog Try.f66.results.toList R) := by kernel_rfl
theorem ac_laws_markPageS {w0 : World} {a0 a1 : Value} {σ : Vw} {R : Value → Vw → Prop} (h : vc_laws_markPageS w0 a0 a1 σ R) : AC Try.prog w0 n_laws_markPageS [a0, a1] σ R := by
  refine ac_rule (fn := Try.f66) (c := Try.f66.body.getD .skip) kp_laws_markPageS esc_laws_markPageS Try.func66 (by kernel_rfl) (by kernel_rfl) ?_
  rw [← vc_laws_markPageS_eq]
  exact h

/-- laws.markPageNameS -/
def kp_laws_markPageNameS : Nat → Keep
  | 2 => ⟨[0, 1, 5], [], [], [], []⟩
  | _ => ⟨[], [], [], [], []⟩
def esc_laws_markPageNameS : Nat → Bool
  | _ => false
def vc_laws_markPageNameS (w0 : World) (a0 a1 : Value) (σ : Vw) (R : Value → Vw → Prop) : Prop :=
  pLoop (fun l0 K1 s2 => pLen (vget l0 0) (fun v3 => pBin Try.prog 3 BinOp.lss (vget l0 2) v3 (fun v4 => pIf v4 (AC Try.prog w0 n_laws_markText [vget l0 1] s2 (fun v5 s6 => pIndexAddr 3 (vget l0 0) (vget l0 2) (fun v7 => pField 0 v7 (fun v8 => pVal false 1 v5 (pStore v8 [v5] s6 (fun s9 => pBin Try.prog 3 BinOp.add (vget l0 1) (Value.int IntKind.i64 1) (fun v10 => pIndexAddr 3 (vget l0 0) (vget l0 2) (fun v11 => pField 1 v11 (fun v12 => pVal false 1 v10 (pStore v12 [v10] s9 (fun s13 => pBin Try.prog 3 BinOp.add v10 (Value.int IntKind.i64 1) (fun v14 => pIndexAddr 3 (vget l0 0) (vget l0 2) (fun v15 => pField 2 v15 (fun v16 => pVal false 1 v14 (pStore v16 [v14] s13 (fun s17 => pBin Try.prog 3 BinOp.add v14 (Value.int IntKind.i64 1) (fun v18 => pBin Try.prog 3 BinOp.add (vget l0 2) (Value.int IntKind.i64 1) (fun v19 => K1 AX.normal [vget l0 0, v18, v19] s17)))))))))))))))))) (K1 (AX.exit 0) [vget l0 0, vget l0 1, vget l0 2] s2)))) [a0, a1, Value.int IntKind.i64 0] σ (fun x20 l21 s22 => match x20 with | .normal => R (vget l21 1) s22 | .ret => False | .exit i23 => (match Nat.beq i23 0 with | true => R (vget l21 1) s22 | false => False))
theorem vc_laws_markPageNameS_eq (w0 : World) (a0 a1 : Value) (σ : Vw) (R : Value → Vw → Prop) : vc_laws_markPageNameS w0 a0 a1 σ R = den Try.prog w0 kp_laws_markPageNameS esc_laws_markPageNameS (Try.f67.body.getD .skip) (entry Try.f67.ntmps [a0, a1]) σ (retK Try.prog Try.f67.results.toList R) := by kernel_rfl
theorem ac_laws_markPageNameS {w0 : World} {a0 a1 : Value} {σ : Vw} {R : Value → Vw → Prop} (h : vc_laws_markPageNameS w0 a0 a1 σ R) : AC Try.prog w0 n_laws_markPageNameS [a0, a1] σ R := by
  refine ac_rule (fn := Try.f67) (c := Try.f67.body.getD .skip) kp_laws_markPageNameS esc_laws_markPageNameS Try.func67 (by kernel_rfl) (by kernel_rfl) ?_
  rw [← vc_laws_markPageNameS_eq]
  exact h

/-- laws.heldPageS -/
def kp_laws_heldPageS : Nat → Keep
  | 2 => ⟨[0, 1, 4, 5], [], [], [], []⟩
  | 7 => ⟨[], [], [], [0, 1, 2, 3, 4, 5, 6, 7], [(2, [0, 1]), (3, [0, 1, 2]), (4, [0, 1, 2, 3]), (6, [5]), (7, [0, 1, 2, 3, 4, 5, 6])]⟩
  | _ => ⟨[], [], [], [], []⟩
def esc_laws_heldPageS : Nat → Bool
  | _ => false
def vc_laws_heldPageS (w0 : World) (a0 a1 : Value) (σ : Vw) (R : Value → Vw → Prop) : Prop :=
  pLoop (fun l0 K1 s2 => pLen (vget l0 0) (fun v3 => pBin Try.prog 3 BinOp.lss (vget l0 3) v3 (fun v4 => pIf v4 (pIndexAddr 3 (vget l0 0) (vget l0 3) (fun v5 => pField 0 v5 (fun v6 => pLoad w0 1 v6 s2 (fun g7 => pBin Try.prog 3 BinOp.rem (vget l0 1) (Value.int IntKind.i64 3) (fun v8 => pBin Try.prog 3 BinOp.eql v8 (Value.int IntKind.i64 0) (fun v9 => pBin Try.prog 4 BinOp.neq (g7 0) v9 (fun v10 => pIf v10 (K1 AX.ret [vget l0 0, vget l0 1, Value.int IntKind.i64 (-1), vget l0 3] s2) (pBin Try.prog 3 BinOp.add (vget l0 1) (Value.int IntKind.i64 1) (fun v11 => pIndexAddr 3 (vget l0 0) (vget l0 3) (fun v12 => pField 1 v12 (fun v13 => pLoad w0 1 v13 s2 (fun g14 => AC Try.prog w0 n_laws_markText [v11] s2 (fun v15 s16 => (Ext s2 s16) ∧ (pBin Try.prog 9 BinOp.neq (g14 0) v15 (fun v17 => pIf v17 (K1 AX.ret [vget l0 0, v11, Value.int IntKind.i64 (-1), vget l0 3] s16) (pBin Try.prog 3 BinOp.add v11 (Value.int IntKind.i64 1) (fun v18 => pIndexAddr 3 (vget l0 0) (vget l0 3) (fun v19 => pField 2 v19 (fun v20 => pLoad w0 1 v20 s16 (fun g21 => pBin Try.prog 3 BinOp.neq (g21 0) v18 (fun v22 => pIf v22 (K1 AX.ret [vget l0 0, v18, Value.int IntKind.i64 (-1), vget l0 3] s16) (pBin Try.prog 3 BinOp.add v18 (Value.int IntKind.i64 1) (fun v23 => pBin Try.prog 3 BinOp.add (vget l0 3) (Value.int IntKind.i64 1) (fun v24 => K1 AX.normal [vget l0 0, v23, vget l0 2, v24] s16)))))))))))))))))))))))) (K1 (AX.exit 0) [vget l0 0, vget l0 1, vget l0 2, vget l0 3] s2)))) [a0, a1, Value.int IntKind.i64 0, Value.int IntKind.i64 0] σ (fun x25 l26 s27 => match x25 with | .normal => R (vget l26 1) s27 | .ret => R (vget l26 2) s27 | .exit i28 => (match Nat.beq i28 0 with | true => R (vget l26 1) s27 | false => False))
theorem vc_laws_heldPageS_eq (w0 : World) (a0 a1 : Value) (σ : Vw) (R : Value → Vw → Prop) : vc_laws_heldPageS w0 a0 a1 σ R = den Try.prog w0 kp_laws_heldPageS esc_laws_heldPageS (Try.f68.body.getD .skip) (entry Try.f68.ntmps [a0, a1]) σ (retK Try.prog Try.f68.results.toList R) := by kernel_rfl
theorem ac_laws_heldPageS {w0 : World} {a0 a1 : Value} {σ : Vw} {R : Value → Vw → Prop} (h : vc_laws_heldPageS w0 a0 a1 σ R) : AC Try.prog w0 n_laws_heldPageS [a0, a1] σ R := by
  refine ac_rule (fn := Try.f68) (c := Try.f68.body.getD .skip) kp_laws_heldPageS esc_laws_heldPageS Try.func68 (by kernel_rfl) (by kernel_rfl) ?_
  rw [← vc_laws_heldPageS_eq]
  exact h

/-- laws.heldPageNameS -/
def kp_laws_heldPageNameS : Nat → Keep
  | 2 => ⟨[0, 1, 4, 5], [], [], [], []⟩
  | 4 => ⟨[], [], [], [0, 1, 2, 3, 4, 5, 6, 7], [(2, [0, 1]), (3, [0, 1, 2]), (4, [0, 1, 2, 3]), (6, [5]), (7, [0, 1, 2, 3, 4, 5, 6])]⟩
  | _ => ⟨[], [], [], [], []⟩
def esc_laws_heldPageNameS : Nat → Bool
  | _ => false
def vc_laws_heldPageNameS (w0 : World) (a0 a1 : Value) (σ : Vw) (R : Value → Vw → Prop) : Prop :=
  pLoop (fun l0 K1 s2 => pLen (vget l0 0) (fun v3 => pBin Try.prog 3 BinOp.lss (vget l0 3) v3 (fun v4 => pIf v4 (pIndexAddr 3 (vget l0 0) (vget l0 3) (fun v5 => pField 0 v5 (fun v6 => pLoad w0 1 v6 s2 (fun g7 => AC Try.prog w0 n_laws_markText [vget l0 1] s2 (fun v8 s9 => (Ext s2 s9) ∧ (pBin Try.prog 9 BinOp.neq (g7 0) v8 (fun v10 => pIf v10 (K1 AX.ret [vget l0 0, vget l0 1, Value.int IntKind.i64 (-1), vget l0 3] s9) (pBin Try.prog 3 BinOp.add (vget l0 1) (Value.int IntKind.i64 1) (fun v11 => pIndexAddr 3 (vget l0 0) (vget l0 3) (fun v12 => pField 1 v12 (fun v13 => pLoad w0 1 v13 s9 (fun g14 => pBin Try.prog 3 BinOp.neq (g14 0) v11 (fun v15 => pIf v15 (K1 AX.ret [vget l0 0, v11, Value.int IntKind.i64 (-1), vget l0 3] s9) (pBin Try.prog 3 BinOp.add v11 (Value.int IntKind.i64 1) (fun v16 => pIndexAddr 3 (vget l0 0) (vget l0 3) (fun v17 => pField 2 v17 (fun v18 => pLoad w0 1 v18 s9 (fun g19 => pBin Try.prog 3 BinOp.neq (g19 0) v16 (fun v20 => pIf v20 (K1 AX.ret [vget l0 0, v16, Value.int IntKind.i64 (-1), vget l0 3] s9) (pBin Try.prog 3 BinOp.add v16 (Value.int IntKind.i64 1) (fun v21 => pBin Try.prog 3 BinOp.add (vget l0 3) (Value.int IntKind.i64 1) (fun v22 => K1 AX.normal [vget l0 0, v21, vget l0 2, v22] s9)))))))))))))))))))))) (K1 (AX.exit 0) [vget l0 0, vget l0 1, vget l0 2, vget l0 3] s2)))) [a0, a1, Value.int IntKind.i64 0, Value.int IntKind.i64 0] σ (fun x23 l24 s25 => match x23 with | .normal => R (vget l24 1) s25 | .ret => R (vget l24 2) s25 | .exit i26 => (match Nat.beq i26 0 with | true => R (vget l24 1) s25 | false => False))
theorem vc_laws_heldPageNameS_eq (w0 : World) (a0 a1 : Value) (σ : Vw) (R : Value → Vw → Prop) : vc_laws_heldPageNameS w0 a0 a1 σ R = den Try.prog w0 kp_laws_heldPageNameS esc_laws_heldPageNameS (Try.f69.body.getD .skip) (entry Try.f69.ntmps [a0, a1]) σ (retK Try.prog Try.f69.results.toList R) := by kernel_rfl
theorem ac_laws_heldPageNameS {w0 : World} {a0 a1 : Value} {σ : Vw} {R : Value → Vw → Prop} (h : vc_laws_heldPageNameS w0 a0 a1 σ R) : AC Try.prog w0 n_laws_heldPageNameS [a0, a1] σ R := by
  refine ac_rule (fn := Try.f69) (c := Try.f69.body.getD .skip) kp_laws_heldPageNameS esc_laws_heldPageNameS Try.func69 (by kernel_rfl) (by kernel_rfl) ?_
  rw [← vc_laws_heldPageNameS_eq]
  exact h

/-- laws.szTreeS -/
def kp_laws_szTreeS : Nat → Keep
  | 5 => ⟨[0, 1, 4, 5], [], [], [], []⟩
  | _ => ⟨[], [], [], [], []⟩
def esc_laws_szTreeS : Nat → Bool
  | _ => false
def vc_laws_szTreeS (w0 : World) (a0 a1 : Value) (σ : Vw) (R : Value → Vw → Prop) : Prop :=
  pLen a0 (fun v0 => pBin Try.prog 3 BinOp.sub a1 v0 (fun v1 => pBin Try.prog 3 BinOp.lss v1 (Value.int IntKind.i64 0) (fun v2 => pIf v2 (R (Value.int IntKind.i64 (-1)) σ) (pLoop (fun l3 K4 s5 => pLen (vget l3 0) (fun v6 => pBin Try.prog 3 BinOp.lss (vget l3 3) v6 (fun v7 => pIf v7 (pIndexAddr 5 (vget l3 0) (vget l3 3) (fun v8 => pLoad w0 5 v8 s5 (fun g9 => AC Try.prog w0 n_laws_szTree ([Value.agg (⟨[g9 0, g9 1, g9 2, g9 3, g9 4]⟩), vget l3 1]) s5 (fun v10 s11 => pBin Try.prog 3 BinOp.lss v10 (Value.int IntKind.i64 0) (fun v12 => pIf v12 (K4 AX.ret [vget l3 0, v10, Value.int IntKind.i64 (-1), vget l3 3] s11) (pBin Try.prog 3 BinOp.add (vget l3 3) (Value.int IntKind.i64 1) (fun v13 => K4 AX.normal [vget l3 0, v10, vget l3 2, v13] s11))))))) (K4 (AX.exit 0) [vget l3 0, vget l3 1, vget l3 2, vget l3 3] s5)))) [a0, v1, Value.int IntKind.i64 0, Value.int IntKind.i64 0] σ (fun x14 l15 s16 => match x14 with | .normal => R (vget l15 1) s16 | .ret => R (vget l15 2) s16 | .exit i17 => (match Nat.beq i17 0 with | true => R (vget l15 1) s16 | false => False))))))
theorem vc_laws_szTreeS_eq (w0 : World) (a0 a1 : Value) (σ : Vw) (R : Value → Vw → Prop) : vc_laws_szTreeS w0 a0 a1 σ R = den Try.prog w0 kp_laws_szTreeS esc_laws_szTreeS (Try.f70.body.getD .skip) (entry Try.f70.ntmps [a0, a1]) σ (retK Try.prog Try.f70.results.toList R) := by kernel_rfl
theorem ac_laws_szTreeS {w0 : World} {a0 a1 : Value} {σ : Vw} {R : Value → Vw → Prop} (h : vc_laws_szTreeS w0 a0 a1 σ R) : AC Try.prog w0 n_laws_szTreeS [a0, a1] σ R := by
  refine ac_rule (fn := Try.f70) (c := Try.f70.body.getD .skip) kp_laws_szTreeS esc_laws_szTreeS Try.func70 (by kernel_rfl) (by kernel_rfl) ?_
  rw [← vc_laws_szTreeS_eq]
  exact h

/-- spec.l1Parts -/
def kp_spec_l1Parts : Nat → Keep
  | 4 => ⟨[1, 4, 5], [(2, 5)], [2], [], []⟩
  | _ => ⟨[], [], [], [], []⟩
def esc_spec_l1Parts : Nat → Bool
  | _ => false
def vc_spec_l1Parts (w0 : World) (a0 a1 : Value) (σ : Vw) (R : Value → Vw → Prop) : Prop :=
  pVal true 5 a0 (AC Try.prog w0 n_spec_l1Plain ([Value.agg (⟨[cellOf a0 0, cellOf a0 1, cellOf a0 2, cellOf a0 3, cellOf a0 4]⟩)]) σ (fun v0 s1 => pUn UnOp.not v0 (fun v2 => pIf v2 (R (Value.bool false) s1) (pBin Try.prog 3 BinOp.gtr a1 (Value.int IntKind.i64 4) (fun v3 => pIf v3 (R (Value.bool false) s1) (pLoop (fun l4 K5 s6 => pLen (vget l4 7) (fun v7 => pBin Try.prog 3 BinOp.lss (vget l4 2) v7 (fun v8 => pIf v8 (pIndexAddr 5 (vget l4 7) (vget l4 2) (fun v9 => pLoad w0 5 v9 s6 (fun g10 => pBin Try.prog 3 BinOp.add (vget l4 0) (Value.int IntKind.i64 1) (fun v11 => AC Try.prog w0 n_spec_l1Parts ([Value.agg (⟨[g10 0, g10 1, g10 2, g10 3, g10 4]⟩), v11]) s6 (fun v12 s13 => pUn UnOp.not v12 (fun v14 => pIf v14 (K5 AX.ret [vget l4 0, Value.bool false, vget l4 2, vget l4 3, vget l4 4, vget l4 5, vget l4 6, vget l4 7] s13) (pBin Try.prog 3 BinOp.add (vget l4 2) (Value.int IntKind.i64 1) (fun v15 => K5 AX.normal [vget l4 0, vget l4 1, v15, vget l4 3, vget l4 4, vget l4 5, vget l4 6, vget l4 7] s13)))))))) (K5 (AX.exit 0) [vget l4 0, vget l4 1, vget l4 2, vget l4 3, vget l4 4, vget l4 5, vget l4 6, vget l4 7] s6)))) [a1, Value.bool false, Value.int IntKind.i64 0, cellOf a0 0, cellOf a0 1, cellOf a0 2, cellOf a0 3, cellOf a0 4] s1 (fun x16 l17 s18 => match x16 with | .normal => R (Value.bool true) s18 | .ret => R (vget l17 1) s18 | .exit i19 => (match Nat.beq i19 0 with | true => R (Value.bool true) s18 | false => False))))))))
theorem vc_spec_l1Parts_eq (w0 : World) (a0 a1 : Value) (σ : Vw) (R : Value → Vw → Prop) : vc_spec_l1Parts w0 a0 a1 σ R = den Try.prog w0 kp_spec_l1Parts esc_spec_l1Parts (Try.f71.body.getD .skip) (entry Try.f71.ntmps [a0, a1]) σ (retK Try.prog Try.f71.results.toList R) := by kernel_rfl
theorem ac_spec_l1Parts {w0 : World} {a0 a1 : Value} {σ : Vw} {R : Value → Vw → Prop} (h : vc_spec_l1Parts w0 a0 a1 σ R) : AC Try.prog w0 n_spec_l1Parts [a0, a1] σ R := by
  refine ac_rule (fn := Try.f71) (c := Try.f71.body.getD .skip) kp_spec_l1Parts esc_spec_l1Parts Try.func71 (by kernel_rfl) (by kernel_rfl) ?_
  rw [← vc_spec_l1Parts_eq]
  exact h

/-- spec.l1Count -/
def kp_spec_l1Count : Nat → Keep
  | 3 => ⟨[3, 4], [(1, 5)], [1], [], []⟩
  | _ => ⟨[], [], [], [], []⟩
def esc_spec_l1Count : Nat → Bool
  | _ => false
def vc_spec_l1Count (w0 : World) (a0 : Value) (σ : Vw) (R : Value → Vw → Prop) : Prop :=
  pVal true 5 a0 (pLen (cellOf a0 4) (fun v0 => pLoop (fun l1 K2 s3 => pLen (vget l1 6) (fun v4 => pBin Try.prog 3 BinOp.lss (vget l1 1) v4 (fun v5 => pIf v5 (pIndexAddr 5 (vget l1 6) (vget l1 1) (fun v6 => pLoad w0 5 v6 s3 (fun g7 => AC Try.prog w0 n_spec_l1Count ([Value.agg (⟨[g7 0, g7 1, g7 2, g7 3, g7 4]⟩)]) s3 (fun v8 s9 => pBin Try.prog 3 BinOp.add (vget l1 0) v8 (fun v10 => pBin Try.prog 3 BinOp.add (vget l1 1) (Value.int IntKind.i64 1) (fun v11 => K2 AX.normal [v10, v11, vget l1 2, vget l1 3, vget l1 4, vget l1 5, vget l1 6] s9)))))) (K2 (AX.exit 0) [vget l1 0, vget l1 1, vget l1 2, vget l1 3, vget l1 4, vget l1 5, vget l1 6] s3)))) [v0, Value.int IntKind.i64 0, cellOf a0 0, cellOf a0 1, cellOf a0 2, cellOf a0 3, cellOf a0 4] σ (fun x12 l13 s14 => match x12 with | .normal => R (vget l13 0) s14 | .ret => False | .exit i15 => (match Nat.beq i15 0 with | true => R (vget l13 0) s14 | false => False))))
theorem vc_spec_l1Count_eq (w0 : World) (a0 : Value) (σ : Vw) (R : Value → Vw → Prop) : vc_spec_l1Count w0 a0 σ R = den Try.prog w0 kp_spec_l1Count esc_spec_l1Count (Try.f72.body.getD .skip) (entry Try.f72.ntmps [a0]) σ (retK Try.prog Try.f72.results.toList R) := by kernel_rfl
theorem ac_spec_l1Count {w0 : World} {a0 : Value} {σ : Vw} {R : Value → Vw → Prop} (h : vc_spec_l1Count w0 a0 σ R) : AC Try.prog w0 n_spec_l1Count [a0] σ R := by
  refine ac_rule (fn := Try.f72) (c := Try.f72.body.getD .skip) kp_spec_l1Count esc_spec_l1Count Try.func72 (by kernel_rfl) (by kernel_rfl) ?_
  rw [← vc_spec_l1Count_eq]
  exact h

/-- laws.toTreeS -/
def kp_laws_toTreeS : Nat → Keep
  | 3 => ⟨[0, 3, 4], [], [], [], []⟩
  | _ => ⟨[], [], [], [], []⟩
def esc_laws_toTreeS : Nat → Bool
  | _ => false
def vc_laws_toTreeS (w0 : World) (a0 : Value) (σ : Vw) (R : Value → Vw → Prop) : Prop :=
  pLen a0 (fun v0 => pMake w0 48 5 80 ([Value.bool false, Value.int IntKind.i64 0, Value.string ({ data := #[] }), Value.slice Option.none 0 0, Value.slice Option.none 0 0]) v0 v0 σ (fun v1 s2 => pLoop (fun l3 K4 s5 => pLen (vget l3 0) (fun v6 => pBin Try.prog 3 BinOp.lss (vget l3 2) v6 (fun v7 => pIf v7 (pIndexAddr 5 (vget l3 0) (vget l3 2) (fun v8 => pLoad w0 5 v8 s5 (fun g9 => AC Try.prog w0 n_laws_toTree ([Value.agg (⟨[g9 0, g9 1, g9 2, g9 3, g9 4]⟩)]) s5 (fun v10 s11 => pIndexAddr 5 (vget l3 1) (vget l3 2) (fun v12 => pVal true 5 v10 (pStore v12 [cellOf v10 0, cellOf v10 1, cellOf v10 2, cellOf v10 3, cellOf v10 4] s11 (fun s13 => pBin Try.prog 3 BinOp.add (vget l3 2) (Value.int IntKind.i64 1) (fun v14 => K4 AX.normal [vget l3 0, vget l3 1, v14] s13)))))))) (K4 (AX.exit 0) [vget l3 0, vget l3 1, vget l3 2] s5)))) [a0, v1, Value.int IntKind.i64 0] s2 (fun x15 l16 s17 => match x15 with | .normal => R (vget l16 1) s17 | .ret => False | .exit i18 => (match Nat.beq i18 0 with | true => R (vget l16 1) s17 | false => False))))
theorem vc_laws_toTreeS_eq (w0 : World) (a0 : Value) (σ : Vw) (R : Value → Vw → Prop) : vc_laws_toTreeS w0 a0 σ R = den Try.prog w0 kp_laws_toTreeS esc_laws_toTreeS (Try.f73.body.getD .skip) (entry Try.f73.ntmps [a0]) σ (retK Try.prog Try.f73.results.toList R) := by kernel_rfl
theorem ac_laws_toTreeS {w0 : World} {a0 : Value} {σ : Vw} {R : Value → Vw → Prop} (h : vc_laws_toTreeS w0 a0 σ R) : AC Try.prog w0 n_laws_toTreeS [a0] σ R := by
  refine ac_rule (fn := Try.f73) (c := Try.f73.body.getD .skip) kp_laws_toTreeS esc_laws_toTreeS Try.func73 (by kernel_rfl) (by kernel_rfl) ?_
  rw [← vc_laws_toTreeS_eq]
  exact h

/-- (impl.Tree).sound -/
def kp_impl_Tree_sound : Nat → Keep
  | 8 => ⟨[1, 4, 41, 42, 43], [(2, 5)], [2], [], []⟩
  | _ => ⟨[], [], [], [], []⟩
def esc_impl_Tree_sound : Nat → Bool
  | _ => false
def vc_impl_Tree_sound (w0 : World) (a0 a1 : Value) (σ : Vw) (R : Value → Vw → Prop) : Prop :=
  pVal true 5 a0 (AC Try.prog w0 n_impl_modeOk [cellOf a0 1] σ (fun v0 s1 => pUn UnOp.not v0 (fun v2 => pIf v2 (R (Value.bool false) s1) (pBin Try.prog 3 BinOp.gtr a1 (Value.int IntKind.i64 4) (fun v3 => pIf v3 (R (Value.bool false) s1) (pLen (cellOf a0 3) (fun v4 => pLen (cellOf a0 4) (fun v5 => pBin Try.prog 3 BinOp.neq v4 v5 (fun v6 => pIf v6 (R (Value.bool false) s1) (pUn UnOp.not (cellOf a0 0) (fun v7 => pIf v7 (pLenS (cellOf a0 2) (fun v8 => pBin Try.prog 3 BinOp.leq v8 (Value.int IntKind.i64 24) (fun v9 => pIf v9 (pLen (cellOf a0 3) (fun v10 => pBin Try.prog 3 BinOp.eql v10 (Value.int IntKind.i64 0) (fun v11 => R v11 s1))) (R (Value.bool false) s1)))) (pBin Try.prog 9 BinOp.neq (cellOf a0 2) (Value.string ({ data := #[] })) (fun v12 => pIf v12 (R (Value.bool false) s1) (pLen (cellOf a0 3) (fun v13 => pLoop (fun l14 K15 s16 => pBin Try.prog 3 BinOp.lss (vget l14 4) (vget l14 3) (fun v17 => pIf v17 (pIndexAddr 1 (vget l14 2) (vget l14 4) (fun v18 => pLoad w0 1 v18 s16 (fun g19 => AC Try.prog w0 n_impl_nameOk [g19 0] s16 (fun v20 s21 => pUn UnOp.not v20 (fun v22 => pIf v22 (K15 AX.ret [vget l14 0, Value.bool false, vget l14 2, vget l14 3, vget l14 4, vget l14 5, vget l14 6, vget l14 7, vget l14 8, vget l14 9] s21) (pBin Try.prog 3 BinOp.gtr (vget l14 4) (Value.int IntKind.i64 0) (fun v23 => pIf v23 (pBin Try.prog 3 BinOp.sub (vget l14 4) (Value.int IntKind.i64 1) (fun v24 => pIndexAddr 1 (vget l14 8) v24 (fun v25 => pLoad w0 1 v25 s21 (fun g26 => pBin Try.prog 9 BinOp.geq (g26 0) (g19 0) (fun v27 => pIf v27 (K15 AX.ret [vget l14 0, Value.bool false, vget l14 2, vget l14 3, vget l14 4, vget l14 5, vget l14 6, vget l14 7, vget l14 8, vget l14 9] s21) (pIndexAddr 5 (vget l14 9) (vget l14 4) (fun v28 => pLoad w0 5 v28 s21 (fun g29 => pBin Try.prog 3 BinOp.add (vget l14 0) (Value.int IntKind.i64 1) (fun v30 => AC Try.prog w0 n_impl_Tree_sound ([Value.agg (⟨[g29 0, g29 1, g29 2, g29 3, g29 4]⟩), v30]) s21 (fun v31 s32 => pUn UnOp.not v31 (fun v33 => pIf v33 (K15 AX.ret [vget l14 0, Value.bool false, vget l14 2, vget l14 3, vget l14 4, vget l14 5, vget l14 6, vget l14 7, vget l14 8, vget l14 9] s32) (pBin Try.prog 3 BinOp.add (vget l14 4) (Value.int IntKind.i64 1) (fun v34 => K15 AX.normal [vget l14 0, vget l14 1, vget l14 2, vget l14 3, v34, vget l14 5, vget l14 6, vget l14 7, vget l14 8, vget l14 9] s32))))))))))))) (pIndexAddr 5 (vget l14 9) (vget l14 4) (fun v35 => pLoad w0 5 v35 s21 (fun g36 => pBin Try.prog 3 BinOp.add (vget l14 0) (Value.int IntKind.i64 1) (fun v37 => AC Try.prog w0 n_impl_Tree_sound ([Value.agg (⟨[g36 0, g36 1, g36 2, g36 3, g36 4]⟩), v37]) s21 (fun v38 s39 => pUn UnOp.not v38 (fun v40 => pIf v40 (K15 AX.ret [vget l14 0, Value.bool false, vget l14 2, vget l14 3, vget l14 4, vget l14 5, vget l14 6, vget l14 7, vget l14 8, vget l14 9] s39) (pBin Try.prog 3 BinOp.add (vget l14 4) (Value.int IntKind.i64 1) (fun v41 => K15 AX.normal [vget l14 0, vget l14 1, vget l14 2, vget l14 3, v41, vget l14 5, vget l14 6, vget l14 7, vget l14 8, vget l14 9] s39))))))))))))))) (K15 (AX.exit 0) [vget l14 0, vget l14 1, vget l14 2, vget l14 3, vget l14 4, vget l14 5, vget l14 6, vget l14 7, vget l14 8, vget l14 9] s16))) [a1, Value.bool false, cellOf a0 3, v13, Value.int IntKind.i64 0, cellOf a0 0, cellOf a0 1, cellOf a0 2, cellOf a0 3, cellOf a0 4] s1 (fun x42 l43 s44 => match x42 with | .normal => R (Value.bool true) s44 | .ret => R (vget l43 1) s44 | .exit i45 => (match Nat.beq i45 0 with | true => R (Value.bool true) s44 | false => False)))))))))))))))))
theorem vc_impl_Tree_sound_eq (w0 : World) (a0 a1 : Value) (σ : Vw) (R : Value → Vw → Prop) : vc_impl_Tree_sound w0 a0 a1 σ R = den Try.prog w0 kp_impl_Tree_sound esc_impl_Tree_sound (Try.f74.body.getD .skip) (entry Try.f74.ntmps [a0, a1]) σ (retK Try.prog Try.f74.results.toList R) := by kernel_rfl
theorem ac_impl_Tree_sound {w0 : World} {a0 a1 : Value} {σ : Vw} {R : Value → Vw → Prop} (h : vc_impl_Tree_sound w0 a0 a1 σ R) : AC Try.prog w0 n_impl_Tree_sound [a0, a1] σ R := by
  refine ac_rule (fn := Try.f74) (c := Try.f74.body.getD .skip) kp_impl_Tree_sound esc_impl_Tree_sound Try.func74 (by kernel_rfl) (by kernel_rfl) ?_
  rw [← vc_impl_Tree_sound_eq]
  exact h

/-- (impl.Tree).paths -/
def kp_impl_Tree_paths : Nat → Keep
  | 3 => ⟨[3, 7, 8, 9], [], [], [], []⟩
  | _ => ⟨[], [], [], [], []⟩
def esc_impl_Tree_paths : Nat → Bool
  | _ => false
def vc_impl_Tree_paths (w0 : World) (a0 : Value) (σ : Vw) (R : Value → Vw → Prop) : Prop :=
  pVal true 5 a0 (pLen (cellOf a0 4) (fun v0 => pLoop (fun l1 K2 s3 => pBin Try.prog 3 BinOp.lss (vget l1 3) (vget l1 2) (fun v4 => pIf v4 (pIndexAddr 5 (vget l1 1) (vget l1 3) (fun v5 => pLoad w0 5 v5 s3 (fun g6 => pVal true 5 (Value.agg (⟨[g6 0, g6 1, g6 2, g6 3, g6 4]⟩)) (AC Try.prog w0 n_impl_Tree_paths ([Value.agg (⟨[g6 0, g6 1, g6 2, g6 3, g6 4]⟩)]) s3 (fun v7 s8 => pBin Try.prog 3 BinOp.add (vget l1 0) v7 (fun v9 => pBin Try.prog 3 BinOp.add (vget l1 3) (Value.int IntKind.i64 1) (fun v10 => K2 AX.normal [v9, vget l1 1, vget l1 2, v10] s8))))))) (K2 (AX.exit 0) [vget l1 0, vget l1 1, vget l1 2, vget l1 3] s3))) [Value.int IntKind.i64 1, cellOf a0 4, v0, Value.int IntKind.i64 0] σ (fun x11 l12 s13 => match x11 with | .normal => R (vget l12 0) s13 | .ret => False | .exit i14 => (match Nat.beq i14 0 with | true => R (vget l12 0) s13 | false => False))))
theorem vc_impl_Tree_paths_eq (w0 : World) (a0 : Value) (σ : Vw) (R : Value → Vw → Prop) : vc_impl_Tree_paths w0 a0 σ R = den Try.prog w0 kp_impl_Tree_paths esc_impl_Tree_paths (Try.f75.body.getD .skip) (entry Try.f75.ntmps [a0]) σ (retK Try.prog Try.f75.results.toList R) := by kernel_rfl
theorem ac_impl_Tree_paths {w0 : World} {a0 : Value} {σ : Vw} {R : Value → Vw → Prop} (h : vc_impl_Tree_paths w0 a0 σ R) : AC Try.prog w0 n_impl_Tree_paths [a0] σ R := by
  refine ac_rule (fn := Try.f75) (c := Try.f75.body.getD .skip) kp_impl_Tree_paths esc_impl_Tree_paths Try.func75 (by kernel_rfl) (by kernel_rfl) ?_
  rw [← vc_impl_Tree_paths_eq]
  exact h

/-- laws.eqTreeS -/
def kp_laws_eqTreeS : Nat → Keep
  | 4 => ⟨[0, 1, 4, 5], [], [], [], []⟩
  | 6 => ⟨[], [], [], [0, 1, 2, 3, 4, 5, 6, 7, 8, 9], [(2, [0, 1]), (3, [0, 1, 2]), (6, [4, 5]), (7, [4, 5, 6]), (8, [0, 1, 2, 3, 4, 5, 6, 7]), (9, [0, 1, 2, 3, 4, 5, 6, 7, 8])]⟩
  | _ => ⟨[], [], [], [], []⟩
def esc_laws_eqTreeS : Nat → Bool
  | _ => false
def vc_laws_eqTreeS (w0 : World) (a0 a1 : Value) (σ : Vw) (R : Value → Vw → Prop) : Prop :=
  pLen a0 (fun v0 => pLen a1 (fun v1 => pBin Try.prog 3 BinOp.neq v0 v1 (fun v2 => pIf v2 (R (Value.bool false) σ) (pLoop (fun l3 K4 s5 => pLen (vget l3 0) (fun v6 => pBin Try.prog 3 BinOp.lss (vget l3 3) v6 (fun v7 => pIf v7 (pIndexAddr 5 (vget l3 0) (vget l3 3) (fun v8 => pLoad w0 5 v8 s5 (fun g9 => pIndexAddr 5 (vget l3 1) (vget l3 3) (fun v10 => pLoad w0 5 v10 s5 (fun g11 => AC Try.prog w0 n_laws_eqTree ([Value.agg (⟨[g9 0, g9 1, g9 2, g9 3, g9 4]⟩), Value.agg (⟨[g11 0, g11 1, g11 2, g11 3, g11 4]⟩)]) s5 (fun v12 s13 => pUn UnOp.not v12 (fun v14 => pIf v14 (K4 AX.ret [vget l3 0, vget l3 1, Value.bool false, vget l3 3] s13) (pBin Try.prog 3 BinOp.add (vget l3 3) (Value.int IntKind.i64 1) (fun v15 => K4 AX.normal [vget l3 0, vget l3 1, vget l3 2, v15] s13))))))))) (K4 (AX.exit 0) [vget l3 0, vget l3 1, vget l3 2, vget l3 3] s5)))) [a0, a1, Value.bool false, Value.int IntKind.i64 0] σ (fun x16 l17 s18 => match x16 with | .normal => R (Value.bool true) s18 | .ret => R (vget l17 2) s18 | .exit i19 => (match Nat.beq i19 0 with | true => R (Value.bool true) s18 | false => False))))))
theorem vc_laws_eqTreeS_eq (w0 : World) (a0 a1 : Value) (σ : Vw) (R : Value → Vw → Prop) : vc_laws_eqTreeS w0 a0 a1 σ R = den Try.prog w0 kp_laws_eqTreeS esc_laws_eqTreeS (Try.f76.body.getD .skip) (entry Try.f76.ntmps [a0, a1]) σ (retK Try.prog Try.f76.results.toList R) := by kernel_rfl
theorem ac_laws_eqTreeS {w0 : World} {a0 a1 : Value} {σ : Vw} {R : Value → Vw → Prop} (h : vc_laws_eqTreeS w0 a0 a1 σ R) : AC Try.prog w0 n_laws_eqTreeS [a0, a1] σ R := by
  refine ac_rule (fn := Try.f76) (c := Try.f76.body.getD .skip) kp_laws_eqTreeS esc_laws_eqTreeS Try.func76 (by kernel_rfl) (by kernel_rfl) ?_
  rw [← vc_laws_eqTreeS_eq]
  exact h

/-- laws.szRaw -/
def kp_laws_szRaw : Nat → Keep
  | _ => ⟨[], [], [], [], []⟩
def esc_laws_szRaw : Nat → Bool
  | _ => false
def vc_laws_szRaw (w0 : World) (a0 a1 : Value) (σ : Vw) (R : Value → Vw → Prop) : Prop :=
  pVal true 2 a0 (pLenS (cellOf a0 1) (fun v0 => pBin Try.prog 3 BinOp.sub a1 v0 (fun v1 => pBin Try.prog 3 BinOp.lss v1 (Value.int IntKind.i64 0) (fun v2 => pIf v2 (R (Value.int IntKind.i64 (-1)) σ) (R v1 σ)))))
theorem vc_laws_szRaw_eq (w0 : World) (a0 a1 : Value) (σ : Vw) (R : Value → Vw → Prop) : vc_laws_szRaw w0 a0 a1 σ R = den Try.prog w0 kp_laws_szRaw esc_laws_szRaw (Try.f77.body.getD .skip) (entry Try.f77.ntmps [a0, a1]) σ (retK Try.prog Try.f77.results.toList R) := by kernel_rfl
theorem ac_laws_szRaw {w0 : World} {a0 a1 : Value} {σ : Vw} {R : Value → Vw → Prop} (h : vc_laws_szRaw w0 a0 a1 σ R) : AC Try.prog w0 n_laws_szRaw [a0, a1] σ R := by
  refine ac_rule (fn := Try.f77) (c := Try.f77.body.getD .skip) kp_laws_szRaw esc_laws_szRaw Try.func77 (by kernel_rfl) (by kernel_rfl) ?_
  rw [← vc_laws_szRaw_eq]
  exact h

/-- spec.l21Copy -/
def kp_spec_l21Copy : Nat → Keep
  | _ => ⟨[], [], [], [], []⟩
def esc_spec_l21Copy : Nat → Bool
  | 3 => true
  | _ => false
def vc_spec_l21Copy (w0 : World) (a0 : Value) (σ : Vw) (R : Value → Vw → Prop) : Prop :=
  pVal true 1 a0 (pNew w0 9 [] σ (fun n0 s1 => pAppendS w0 9 1 16 (Value.slice (Option.some (Addr.mk n0 0 Option.none)) 0 0) (cellOf a0 0) s1 (fun v2 s3 => pVal false 1 v2 (pVal true 1 (Value.agg ⟨[v2]⟩) (R (Value.agg ⟨[v2]⟩) s3)))))
theorem vc_spec_l21Copy_eq (w0 : World) (a0 : Value) (σ : Vw) (R : Value → Vw → Prop) : vc_spec_l21Copy w0 a0 σ R = den Try.prog w0 kp_spec_l21Copy esc_spec_l21Copy (Try.f78.body.getD .skip) (entry Try.f78.ntmps [a0]) σ (retK Try.prog Try.f78.results.toList R) := by kernel_rfl
theorem ac_spec_l21Copy {w0 : World} {a0 : Value} {σ : Vw} {R : Value → Vw → Prop} (h : vc_spec_l21Copy w0 a0 σ R) : AC Try.prog w0 n_spec_l21Copy [a0] σ R := by
  refine ac_rule (fn := Try.f78) (c := Try.f78.body.getD .skip) kp_spec_l21Copy esc_spec_l21Copy Try.func78 (by kernel_rfl) (by kernel_rfl) ?_
  rw [← vc_spec_l21Copy_eq]
  exact h

/-- spec.l21RawOk -/
def kp_spec_l21RawOk : Nat → Keep
  | _ => ⟨[], [], [], [], []⟩
def esc_spec_l21RawOk : Nat → Bool
  | _ => false
def vc_spec_l21RawOk (w0 : World) (a0 : Value) (σ : Vw) (R : Value → Vw → Prop) : Prop :=
  pVal true 2 a0 (AC Try.prog w0 n_spec_l21In [cellOf a0 0, Value.int IntKind.i64 0, Value.int IntKind.i64 193] σ (fun v0 s1 => pIf v0 (pLenS (cellOf a0 1) (fun v2 => pBin Try.prog 3 BinOp.leq v2 (Value.int IntKind.i64 64) (fun v3 => R v3 s1))) (R (Value.bool false) s1)))
theorem vc_spec_l21RawOk_eq (w0 : World) (a0 : Value) (σ : Vw) (R : Value → Vw → Prop) : vc_spec_l21RawOk w0 a0 σ R = den Try.prog w0 kp_spec_l21RawOk esc_spec_l21RawOk (Try.f79.body.getD .skip) (entry Try.f79.ntmps [a0]) σ (retK Try.prog Try.f79.results.toList R) := by kernel_rfl
theorem ac_spec_l21RawOk {w0 : World} {a0 : Value} {σ : Vw} {R : Value → Vw → Prop} (h : vc_spec_l21RawOk w0 a0 σ R) : AC Try.prog w0 n_spec_l21RawOk [a0] σ R := by
  refine ac_rule (fn := Try.f79) (c := Try.f79.body.getD .skip) kp_spec_l21RawOk esc_spec_l21RawOk Try.func79 (by kernel_rfl) (by kernel_rfl) ?_
  rw [← vc_spec_l21RawOk_eq]
  exact h

/-- laws.toRaw -/
def kp_laws_toRaw : Nat → Keep
  | _ => ⟨[], [], [], [], []⟩
def esc_laws_toRaw : Nat → Bool
  | _ => false
def vc_laws_toRaw (w0 : World) (a0 : Value) (σ : Vw) (R : Value → Vw → Prop) : Prop :=
  pVal true 2 a0 (pVal false 1 (cellOf a0 0) (pVal false 1 (cellOf a0 1) (pVal true 2 (Value.agg (⟨[cellOf a0 0, cellOf a0 1]⟩)) (R (Value.agg (⟨[cellOf a0 0, cellOf a0 1]⟩)) σ))))
theorem vc_laws_toRaw_eq (w0 : World) (a0 : Value) (σ : Vw) (R : Value → Vw → Prop) : vc_laws_toRaw w0 a0 σ R = den Try.prog w0 kp_laws_toRaw esc_laws_toRaw (Try.f80.body.getD .skip) (entry Try.f80.ntmps [a0]) σ (retK Try.prog Try.f80.results.toList R) := by kernel_rfl
theorem ac_laws_toRaw {w0 : World} {a0 : Value} {σ : Vw} {R : Value → Vw → Prop} (h : vc_laws_toRaw w0 a0 σ R) : AC Try.prog w0 n_laws_toRaw [a0] σ R := by
  refine ac_rule (fn := Try.f80) (c := Try.f80.body.getD .skip) kp_laws_toRaw esc_laws_toRaw Try.func80 (by kernel_rfl) (by kernel_rfl) ?_
  rw [← vc_laws_toRaw_eq]
  exact h

/-- impl.cloneDisk -/
def kp_impl_cloneDisk : Nat → Keep
  | _ => ⟨[], [], [], [], []⟩
def esc_impl_cloneDisk : Nat → Bool
  | 3 => true
  | _ => false
def vc_impl_cloneDisk (w0 : World) (a0 : Value) (σ : Vw) (R : Value → Vw → Prop) : Prop :=
  pVal true 1 a0 (pNew w0 9 [] σ (fun n0 s1 => pAppendS w0 9 1 16 (Value.slice (Option.some (Addr.mk n0 0 Option.none)) 0 0) (cellOf a0 0) s1 (fun v2 s3 => pVal false 1 v2 (pVal true 1 (Value.agg ⟨[v2]⟩) (R (Value.agg ⟨[v2]⟩) s3)))))
theorem vc_impl_cloneDisk_eq (w0 : World) (a0 : Value) (σ : Vw) (R : Value → Vw → Prop) : vc_impl_cloneDisk w0 a0 σ R = den Try.prog w0 kp_impl_cloneDisk esc_impl_cloneDisk (Try.f81.body.getD .skip) (entry Try.f81.ntmps [a0]) σ (retK Try.prog Try.f81.results.toList R) := by kernel_rfl
theorem ac_impl_cloneDisk {w0 : World} {a0 : Value} {σ : Vw} {R : Value → Vw → Prop} (h : vc_impl_cloneDisk w0 a0 σ R) : AC Try.prog w0 n_impl_cloneDisk [a0] σ R := by
  refine ac_rule (fn := Try.f81) (c := Try.f81.body.getD .skip) kp_impl_cloneDisk esc_impl_cloneDisk Try.func81 (by kernel_rfl) (by kernel_rfl) ?_
  rw [← vc_impl_cloneDisk_eq]
  exact h

/-- impl.within -/
def kp_impl_within : Nat → Keep
  | _ => ⟨[], [], [], [], []⟩
def esc_impl_within : Nat → Bool
  | _ => false
def vc_impl_within (w0 : World) (a0 a1 a2 : Value) (σ : Vw) (R : Value → Vw → Prop) : Prop :=
  pBin Try.prog 3 BinOp.geq a0 a1 (fun v0 => pIf v0 (pBin Try.prog 3 BinOp.leq a0 a2 (fun v1 => R v1 σ)) (R (Value.bool false) σ))
theorem vc_impl_within_eq (w0 : World) (a0 a1 a2 : Value) (σ : Vw) (R : Value → Vw → Prop) : vc_impl_within w0 a0 a1 a2 σ R = den Try.prog w0 kp_impl_within esc_impl_within (Try.f82.body.getD .skip) (entry Try.f82.ntmps [a0, a1, a2]) σ (retK Try.prog Try.f82.results.toList R) := by kernel_rfl
theorem ac_impl_within {w0 : World} {a0 a1 a2 : Value} {σ : Vw} {R : Value → Vw → Prop} (h : vc_impl_within w0 a0 a1 a2 σ R) : AC Try.prog w0 n_impl_within [a0, a1, a2] σ R := by
  refine ac_rule (fn := Try.f82) (c := Try.f82.body.getD .skip) kp_impl_within esc_impl_within Try.func82 (by kernel_rfl) (by kernel_rfl) ?_
  rw [← vc_impl_within_eq]
  exact h

/-- laws.eqRaw -/
def kp_laws_eqRaw : Nat → Keep
  | _ => ⟨[], [], [], [], []⟩
def esc_laws_eqRaw : Nat → Bool
  | _ => false
def vc_laws_eqRaw (w0 : World) (a0 a1 : Value) (σ : Vw) (R : Value → Vw → Prop) : Prop :=
  pVal true 2 a0 (pVal true 2 a1 (pBin Try.prog 3 BinOp.neq (cellOf a0 0) (cellOf a1 0) (fun v0 => pIf v0 (R (Value.bool false) σ) (pBin Try.prog 9 BinOp.neq (cellOf a0 1) (cellOf a1 1) (fun v1 => pIf v1 (R (Value.bool false) σ) (R (Value.bool true) σ))))))
theorem vc_laws_eqRaw_eq (w0 : World) (a0 a1 : Value) (σ : Vw) (R : Value → Vw → Prop) : vc_laws_eqRaw w0 a0 a1 σ R = den Try.prog w0 kp_laws_eqRaw esc_laws_eqRaw (Try.f83.body.getD .skip) (entry Try.f83.ntmps [a0, a1]) σ (retK Try.prog Try.f83.results.toList R) := by kernel_rfl
theorem ac_laws_eqRaw {w0 : World} {a0 a1 : Value} {σ : Vw} {R : Value → Vw → Prop} (h : vc_laws_eqRaw w0 a0 a1 σ R) : AC Try.prog w0 n_laws_eqRaw [a0, a1] σ R := by
  refine ac_rule (fn := Try.f83) (c := Try.f83.body.getD .skip) kp_laws_eqRaw esc_laws_eqRaw Try.func83 (by kernel_rfl) (by kernel_rfl) ?_
  rw [← vc_laws_eqRaw_eq]
  exact h

/-- laws.markText -/
def kp_laws_markText : Nat → Keep
  | 4 => ⟨[0, 3], [], [], [], []⟩
  | _ => ⟨[], [], [], [], []⟩
def esc_laws_markText : Nat → Bool
  | 12 => true
  | _ => false
def vc_laws_markText (w0 : World) (a0 : Value) (σ : Vw) (R : Value → Vw → Prop) : Prop :=
  pBin Try.prog 3 BinOp.leq a0 (Value.int IntKind.i64 0) (fun v0 => pIf v0 (R (Value.string ({ data := #[109, 48] })) σ) (pLoop (fun l1 K2 s3 => pBin Try.prog 3 BinOp.gtr (vget l1 0) (Value.int IntKind.i64 0) (fun v4 => pIf v4 (pBin Try.prog 3 BinOp.rem (vget l1 0) (Value.int IntKind.i64 10) (fun v5 => pBin Try.prog 3 BinOp.add (Value.int IntKind.i64 48) v5 (fun v6 => pConvInt IntKind.u8 v6 (fun v7 => pVal false 1 v7 (pNew w0 5 [v7] s3 (fun n8 s9 => pStr w0 (Value.slice (Option.some (Addr.mk n8 0 Option.none)) 1 1) s9 (fun v10 => pBin Try.prog 9 BinOp.add v10 (vget l1 1) (fun v11 => pBin Try.prog 3 BinOp.quo (vget l1 0) (Value.int IntKind.i64 10) (fun v12 => K2 AX.normal [v12, v11] s9))))))))) (K2 (AX.exit 0) [vget l1 0, vget l1 1] s3))) ([a0, Value.string ({ data := #[] })]) σ (fun x13 l14 s15 => match x13 with | .normal => pBin Try.prog 9 BinOp.add (Value.string ({ data := #[109] })) (vget l14 1) (fun v16 => R v16 s15) | .ret => False | .exit i17 => (match Nat.beq i17 0 with | true => pBin Try.prog 9 BinOp.add (Value.string ({ data := #[109] })) (vget l14 1) (fun v18 => R v18 s15) | false => False))))
theorem vc_laws_markText_eq (w0 : World) (a0 : Value) (σ : Vw) (R : Value → Vw → Prop) : vc_laws_markText w0 a0 σ R = den Try.prog w0 kp_laws_markText esc_laws_markText (Try.f84.body.getD .skip) (entry Try.f84.ntmps [a0]) σ (retK Try.prog Try.f84.results.toList R) := by kernel_rfl
theorem ac_laws_markText {w0 : World} {a0 : Value} {σ : Vw} {R : Value → Vw → Prop} (h : vc_laws_markText w0 a0 σ R) : AC Try.prog w0 n_laws_markText [a0] σ R := by
  refine ac_rule (fn := Try.f84) (c := Try.f84.body.getD .skip) kp_laws_markText esc_laws_markText Try.func84 (by kernel_rfl) (by kernel_rfl) ?_
  rw [← vc_laws_markText_eq]
  exact h

/-- laws.szMark -/
def kp_laws_szMark : Nat → Keep
  | _ => ⟨[], [], [], [], []⟩
def esc_laws_szMark : Nat → Bool
  | _ => false
def vc_laws_szMark (w0 : World) (a0 a1 : Value) (σ : Vw) (R : Value → Vw → Prop) : Prop :=
  pVal true 2 a0 (AC Try.prog w0 n_laws_szStringS [cellOf a0 0, a1] σ (fun v0 s1 => pBin Try.prog 3 BinOp.lss v0 (Value.int IntKind.i64 0) (fun v2 => pIf v2 (R (Value.int IntKind.i64 (-1)) s1) (R v0 s1))))
theorem vc_laws_szMark_eq (w0 : World) (a0 a1 : Value) (σ : Vw) (R : Value → Vw → Prop) : vc_laws_szMark w0 a0 a1 σ R = den Try.prog w0 kp_laws_szMark esc_laws_szMark (Try.f85.body.getD .skip) (entry Try.f85.ntmps [a0, a1]) σ (retK Try.prog Try.f85.results.toList R) := by kernel_rfl
theorem ac_laws_szMark {w0 : World} {a0 a1 : Value} {σ : Vw} {R : Value → Vw → Prop} (h : vc_laws_szMark w0 a0 a1 σ R) : AC Try.prog w0 n_laws_szMark [a0, a1] σ R := by
  refine ac_rule (fn := Try.f85) (c := Try.f85.body.getD .skip) kp_laws_szMark esc_laws_szMark Try.func85 (by kernel_rfl) (by kernel_rfl) ?_
  rw [← vc_laws_szMark_eq]
  exact h

/-- spec.l11MarkOk -/
def kp_spec_l11MarkOk : Nat → Keep
  | _ => ⟨[], [], [], [], []⟩
def esc_spec_l11MarkOk : Nat → Bool
  | _ => false
def vc_spec_l11MarkOk (w0 : World) (a0 : Value) (σ : Vw) (R : Value → Vw → Prop) : Prop :=
  pVal true 2 a0 (pLen (cellOf a0 0) (fun v0 => pBin Try.prog 3 BinOp.eql v0 (Value.int IntKind.i64 0) (fun v1 => pIf v1 (R (cellOf a0 1) σ) (AC Try.prog w0 n_spec_l2PathOk [cellOf a0 0] σ (fun v2 s3 => R v2 s3)))))
theorem vc_spec_l11MarkOk_eq (w0 : World) (a0 : Value) (σ : Vw) (R : Value → Vw → Prop) : vc_spec_l11MarkOk w0 a0 σ R = den Try.prog w0 kp_spec_l11MarkOk esc_spec_l11MarkOk (Try.f86.body.getD .skip) (entry Try.f86.ntmps [a0]) σ (retK Try.prog Try.f86.results.toList R) := by kernel_rfl
theorem ac_spec_l11MarkOk {w0 : World} {a0 : Value} {σ : Vw} {R : Value → Vw → Prop} (h : vc_spec_l11MarkOk w0 a0 σ R) : AC Try.prog w0 n_spec_l11MarkOk [a0] σ R := by
  refine ac_rule (fn := Try.f86) (c := Try.f86.body.getD .skip) kp_spec_l11MarkOk esc_spec_l11MarkOk Try.func86 (by kernel_rfl) (by kernel_rfl) ?_
  rw [← vc_spec_l11MarkOk_eq]
  exact h

/-- spec.l11Less -/
def kp_spec_l11Less : Nat → Keep
  | 2 => ⟨[0, 1, 4, 5], [], [], [], []⟩
  | 4 => ⟨[], [], [], [0, 1, 2, 3, 4, 5, 6, 7, 8], [(2, [0, 1]), (3, [0, 1, 2]), (6, [4, 5]), (7, [4, 5, 6]), (8, [0, 1, 2, 3, 4, 5, 6, 7])]⟩
  | 5 => ⟨[], [], [], [0, 1, 2, 3, 4, 5, 6, 7, 8, 9], [(2, [0, 1]), (3, [0, 1, 2]), (6, [4, 5]), (7, [4, 5, 6]), (8, [0, 1, 2, 3, 4, 5, 6, 7]), (9, [0, 1, 2, 3, 4, 5, 6, 7, 8])]⟩
  | _ => ⟨[], [], [], [], []⟩
def esc_spec_l11Less : Nat → Bool
  | _ => false
def vc_spec_l11Less (w0 : World) (a0 a1 : Value) (σ : Vw) (R : Value → Vw → Prop) : Prop :=
  pLoop (fun l0 K1 s2 => pLen (vget l0 0) (fun v3 => pBin Try.prog 3 BinOp.lss (vget l0 3) v3 (fun v4 => pIf v4 (pLen (vget l0 1) (fun v5 => pBin Try.prog 3 BinOp.lss (vget l0 3) v5 (fun v6 => pIf v6 (pIndexAddr 1 (vget l0 0) (vget l0 3) (fun v7 => pLoad w0 1 v7 s2 (fun g8 => pIndexAddr 1 (vget l0 1) (vget l0 3) (fun v9 => pLoad w0 1 v9 s2 (fun g10 => pBin Try.prog 9 BinOp.neq (g8 0) (g10 0) (fun v11 => pIf v11 (pIndexAddr 1 (vget l0 0) (vget l0 3) (fun v12 => pLoad w0 1 v12 s2 (fun g13 => pIndexAddr 1 (vget l0 1) (vget l0 3) (fun v14 => pLoad w0 1 v14 s2 (fun g15 => pBin Try.prog 9 BinOp.lss (g13 0) (g15 0) (fun v16 => K1 AX.ret [vget l0 0, vget l0 1, v16, vget l0 3] s2)))))) (pBin Try.prog 3 BinOp.add (vget l0 3) (Value.int IntKind.i64 1) (fun v17 => K1 AX.normal [vget l0 0, vget l0 1, vget l0 2, v17] s2)))))))) (K1 (AX.exit 0) [vget l0 0, vget l0 1, vget l0 2, vget l0 3] s2)))) (K1 (AX.exit 0) [vget l0 0, vget l0 1, vget l0 2, vget l0 3] s2)))) [a0, a1, Value.bool false, Value.int IntKind.i64 0] σ (fun x18 l19 s20 => match x18 with | .normal => pLen (vget l19 0) (fun v21 => pLen (vget l19 1) (fun v22 => pBin Try.prog 3 BinOp.lss v21 v22 (fun v23 => R v23 s20))) | .ret => R (vget l19 2) s20 | .exit i24 => (match Nat.beq i24 0 with | true => pLen (vget l19 0) (fun v25 => pLen (vget l19 1) (fun v26 => pBin Try.prog 3 BinOp.lss v25 v26 (fun v27 => R v27 s20))) | false => False))
theorem vc_spec_l11Less_eq (w0 : World) (a0 a1 : Value) (σ : Vw) (R : Value → Vw → Prop) : vc_spec_l11Less w0 a0 a1 σ R = den Try.prog w0 kp_spec_l11Less esc_spec_l11Less (Try.f87.body.getD .skip) (entry Try.f87.ntmps [a0, a1]) σ (retK Try.prog Try.f87.results.toList R) := by kernel_rfl
theorem ac_spec_l11Less {w0 : World} {a0 a1 : Value} {σ : Vw} {R : Value → Vw → Prop} (h : vc_spec_l11Less w0 a0 a1 σ R) : AC Try.prog w0 n_spec_l11Less [a0, a1] σ R := by
  refine ac_rule (fn := Try.f87) (c := Try.f87.body.getD .skip) kp_spec_l11Less esc_spec_l11Less Try.func87 (by kernel_rfl) (by kernel_rfl) ?_
  rw [← vc_spec_l11Less_eq]
  exact h

/-- spec.l2Within -/
def kp_spec_l2Within : Nat → Keep
  | 4 => ⟨[0, 1, 4, 5], [], [], [], []⟩
  | 6 => ⟨[], [], [], [0, 1, 2, 3, 4, 5, 6, 7, 8], [(2, [0, 1]), (3, [0, 1, 2]), (6, [4, 5]), (7, [4, 5, 6]), (8, [0, 1, 2, 3, 4, 5, 6, 7])]⟩
  | _ => ⟨[], [], [], [], []⟩
def esc_spec_l2Within : Nat → Bool
  | _ => false
def vc_spec_l2Within (w0 : World) (a0 a1 : Value) (σ : Vw) (R : Value → Vw → Prop) : Prop :=
  pLen a0 (fun v0 => pLen a1 (fun v1 => pBin Try.prog 3 BinOp.lss v0 v1 (fun v2 => pIf v2 (R (Value.bool false) σ) (pLoop (fun l3 K4 s5 => pLen (vget l3 1) (fun v6 => pBin Try.prog 3 BinOp.lss (vget l3 3) v6 (fun v7 => pIf v7 (pIndexAddr 1 (vget l3 0) (vget l3 3) (fun v8 => pLoad w0 1 v8 s5 (fun g9 => pIndexAddr 1 (vget l3 1) (vget l3 3) (fun v10 => pLoad w0 1 v10 s5 (fun g11 => pBin Try.prog 9 BinOp.neq (g9 0) (g11 0) (fun v12 => pIf v12 (K4 AX.ret [vget l3 0, vget l3 1, Value.bool false, vget l3 3] s5) (pBin Try.prog 3 BinOp.add (vget l3 3) (Value.int IntKind.i64 1) (fun v13 => K4 AX.normal [vget l3 0, vget l3 1, vget l3 2, v13] s5)))))))) (K4 (AX.exit 0) [vget l3 0, vget l3 1, vget l3 2, vget l3 3] s5)))) [a0, a1, Value.bool false, Value.int IntKind.i64 0] σ (fun x14 l15 s16 => match x14 with | .normal => R (Value.bool true) s16 | .ret => R (vget l15 2) s16 | .exit i17 => (match Nat.beq i17 0 with | true => R (Value.bool true) s16 | false => False))))))
theorem vc_spec_l2Within_eq (w0 : World) (a0 a1 : Value) (σ : Vw) (R : Value → Vw → Prop) : vc_spec_l2Within w0 a0 a1 σ R = den Try.prog w0 kp_spec_l2Within esc_spec_l2Within (Try.f88.body.getD .skip) (entry Try.f88.ntmps [a0, a1]) σ (retK Try.prog Try.f88.results.toList R) := by kernel_rfl
theorem ac_spec_l2Within {w0 : World} {a0 a1 : Value} {σ : Vw} {R : Value → Vw → Prop} (h : vc_spec_l2Within w0 a0 a1 σ R) : AC Try.prog w0 n_spec_l2Within [a0, a1] σ R := by
  refine ac_rule (fn := Try.f88) (c := Try.f88.body.getD .skip) kp_spec_l2Within esc_spec_l2Within Try.func88 (by kernel_rfl) (by kernel_rfl) ?_
  rw [← vc_spec_l2Within_eq]
  exact h

/-- laws.toMark -/
def kp_laws_toMark : Nat → Keep
  | _ => ⟨[], [], [], [], []⟩
def esc_laws_toMark : Nat → Bool
  | _ => false
def vc_laws_toMark (w0 : World) (a0 : Value) (σ : Vw) (R : Value → Vw → Prop) : Prop :=
  pVal true 2 a0 (AC Try.prog w0 n_laws_toStringS [cellOf a0 0] σ (fun v0 s1 => pVal false 1 v0 (pVal false 1 (cellOf a0 1) (pVal true 2 (Value.agg (⟨[v0, cellOf a0 1]⟩)) (R (Value.agg (⟨[v0, cellOf a0 1]⟩)) s1)))))
theorem vc_laws_toMark_eq (w0 : World) (a0 : Value) (σ : Vw) (R : Value → Vw → Prop) : vc_laws_toMark w0 a0 σ R = den Try.prog w0 kp_laws_toMark esc_laws_toMark (Try.f89.body.getD .skip) (entry Try.f89.ntmps [a0]) σ (retK Try.prog Try.f89.results.toList R) := by kernel_rfl
theorem ac_laws_toMark {w0 : World} {a0 : Value} {σ : Vw} {R : Value → Vw → Prop} (h : vc_laws_toMark w0 a0 σ R) : AC Try.prog w0 n_laws_toMark [a0] σ R := by
  refine ac_rule (fn := Try.f89) (c := Try.f89.body.getD .skip) kp_laws_toMark esc_laws_toMark Try.func89 (by kernel_rfl) (by kernel_rfl) ?_
  rw [← vc_laws_toMark_eq]
  exact h

/-- impl.markOk -/
def kp_impl_markOk : Nat → Keep
  | _ => ⟨[], [], [], [], []⟩
def esc_impl_markOk : Nat → Bool
  | _ => false
def vc_impl_markOk (w0 : World) (a0 : Value) (σ : Vw) (R : Value → Vw → Prop) : Prop :=
  pVal true 2 a0 (AC Try.prog w0 n_impl_namesOk [cellOf a0 0, Value.int IntKind.i64 0] σ (fun v0 s1 => pIf v0 (pLen (cellOf a0 0) (fun v2 => pBin Try.prog 3 BinOp.gtr v2 (Value.int IntKind.i64 0) (fun v3 => pIf v3 (R (Value.bool true) s1) (R (cellOf a0 1) s1)))) (R (Value.bool false) s1)))
theorem vc_impl_markOk_eq (w0 : World) (a0 : Value) (σ : Vw) (R : Value → Vw → Prop) : vc_impl_markOk w0 a0 σ R = den Try.prog w0 kp_impl_markOk esc_impl_markOk (Try.f90.body.getD .skip) (entry Try.f90.ntmps [a0]) σ (retK Try.prog Try.f90.results.toList R) := by kernel_rfl
theorem ac_impl_markOk {w0 : World} {a0 : Value} {σ : Vw} {R : Value → Vw → Prop} (h : vc_impl_markOk w0 a0 σ R) : AC Try.prog w0 n_impl_markOk [a0] σ R := by
  refine ac_rule (fn := Try.f90) (c := Try.f90.body.getD .skip) kp_impl_markOk esc_impl_markOk Try.func90 (by kernel_rfl) (by kernel_rfl) ?_
  rw [← vc_impl_markOk_eq]
  exact h

/-- slices.Compare[[]string,string] -/
def kp_slices_Compare_string_string : Nat → Keep
  | 2 => ⟨[0, 1, 4, 9, 10, 11], [], [], [], []⟩
  | _ => ⟨[], [], [], [], []⟩
def esc_slices_Compare_string_string : Nat → Bool
  | _ => false
def vc_slices_Compare_string_string (w0 : World) (a0 a1 : Value) (σ : Vw) (R : Value → Vw → Prop) : Prop :=
  pLen a0 (fun v0 => pLoop (fun l1 K2 s3 => pBin Try.prog 3 BinOp.lss (vget l1 5) (vget l1 4) (fun v4 => pIf v4 (pIndexAddr 1 (vget l1 3) (vget l1 5) (fun v5 => pLoad w0 1 v5 s3 (fun g6 => pLen (vget l1 1) (fun v7 => pBin Try.prog 3 BinOp.geq (vget l1 5) v7 (fun v8 => pIf v8 (K2 AX.ret [vget l1 0, vget l1 1, Value.int IntKind.i64 1, vget l1 3, vget l1 4, vget l1 5] s3) (pIndexAddr 1 (vget l1 1) (vget l1 5) (fun v9 => pLoad w0 1 v9 s3 (fun g10 => AC Try.prog w0 n_cmp_Compare_string [g6 0, g10 0] s3 (fun v11 s12 => pBin Try.prog 3 BinOp.neq v11 (Value.int IntKind.i64 0) (fun v13 => pIf v13 (K2 AX.ret [vget l1 0, vget l1 1, v11, vget l1 3, vget l1 4, vget l1 5] s12) (pBin Try.prog 3 BinOp.add (vget l1 5) (Value.int IntKind.i64 1) (fun v14 => K2 AX.normal [vget l1 0, vget l1 1, vget l1 2, vget l1 3, vget l1 4, v14] s12)))))))))))) (K2 (AX.exit 0) [vget l1 0, vget l1 1, vget l1 2, vget l1 3, vget l1 4, vget l1 5] s3))) [a0, a1, Value.int IntKind.i64 0, a0, v0, Value.int IntKind.i64 0] σ (fun x15 l16 s17 => match x15 with | .normal => pLen (vget l16 0) (fun v18 => pLen (vget l16 1) (fun v19 => pBin Try.prog 3 BinOp.lss v18 v19 (fun v20 => pIf v20 (R (Value.int IntKind.i64 (-1)) s17) (R (Value.int IntKind.i64 0) s17)))) | .ret => R (vget l16 2) s17 | .exit i21 => (match Nat.beq i21 0 with | true => pLen (vget l16 0) (fun v22 => pLen (vget l16 1) (fun v23 => pBin Try.prog 3 BinOp.lss v22 v23 (fun v24 => pIf v24 (R (Value.int IntKind.i64 (-1)) s17) (R (Value.int IntKind.i64 0) s17)))) | false => False)))
theorem vc_slices_Compare_string_string_eq (w0 : World) (a0 a1 : Value) (σ : Vw) (R : Value → Vw → Prop) : vc_slices_Compare_string_string w0 a0 a1 σ R = den Try.prog w0 kp_slices_Compare_string_string esc_slices_Compare_string_string (Try.f91.body.getD .skip) (entry Try.f91.ntmps [a0, a1]) σ (retK Try.prog Try.f91.results.toList R) := by kernel_rfl
theorem ac_slices_Compare_string_string {w0 : World} {a0 a1 : Value} {σ : Vw} {R : Value → Vw → Prop} (h : vc_slices_Compare_string_string w0 a0 a1 σ R) : AC Try.prog w0 n_slices_Compare_string_string [a0, a1] σ R := by
  refine ac_rule (fn := Try.f91) (c := Try.f91.body.getD .skip) kp_slices_Compare_string_string esc_slices_Compare_string_string Try.func91 (by kernel_rfl) (by kernel_rfl) ?_
  rw [← vc_slices_Compare_string_string_eq]
  exact h

/-- impl.under -/
def kp_impl_under : Nat → Keep
  | 2 => ⟨[1, 4, 7, 8, 9], [], [], [], []⟩
  | _ => ⟨[], [], [], [], []⟩
def esc_impl_under : Nat → Bool
  | _ => false
def vc_impl_under (w0 : World) (a0 a1 : Value) (σ : Vw) (R : Value → Vw → Prop) : Prop :=
  pLen a0 (fun v0 => pLoop (fun l1 K2 s3 => pBin Try.prog 3 BinOp.lss (vget l1 4) (vget l1 3) (fun v4 => pIf v4 (pIndexAddr 2 (vget l1 2) (vget l1 4) (fun v5 => pLoad w0 2 v5 s3 (fun g6 => pVal true 2 (Value.agg (⟨[g6 0, g6 1]⟩)) (pIf (g6 1) (AC Try.prog w0 n_impl_begins [vget l1 0, g6 0] s3 (fun v7 s8 => pIf v7 (K2 AX.ret [vget l1 0, Value.bool true, vget l1 2, vget l1 3, vget l1 4] s8) (pBin Try.prog 3 BinOp.add (vget l1 4) (Value.int IntKind.i64 1) (fun v9 => K2 AX.normal [vget l1 0, vget l1 1, vget l1 2, vget l1 3, v9] s8)))) (pBin Try.prog 3 BinOp.add (vget l1 4) (Value.int IntKind.i64 1) (fun v10 => K2 AX.normal [vget l1 0, vget l1 1, vget l1 2, vget l1 3, v10] s3)))))) (K2 (AX.exit 0) [vget l1 0, vget l1 1, vget l1 2, vget l1 3, vget l1 4] s3))) [a1, Value.bool false, a0, v0, Value.int IntKind.i64 0] σ (fun x11 l12 s13 => match x11 with | .normal => R (Value.bool false) s13 | .ret => R (vget l12 1) s13 | .exit i14 => (match Nat.beq i14 0 with | true => R (Value.bool false) s13 | false => False)))
theorem vc_impl_under_eq (w0 : World) (a0 a1 : Value) (σ : Vw) (R : Value → Vw → Prop) : vc_impl_under w0 a0 a1 σ R = den Try.prog w0 kp_impl_under esc_impl_under (Try.f92.body.getD .skip) (entry Try.f92.ntmps [a0, a1]) σ (retK Try.prog Try.f92.results.toList R) := by kernel_rfl
theorem ac_impl_under {w0 : World} {a0 a1 : Value} {σ : Vw} {R : Value → Vw → Prop} (h : vc_impl_under w0 a0 a1 σ R) : AC Try.prog w0 n_impl_under [a0, a1] σ R := by
  refine ac_rule (fn := Try.f92) (c := Try.f92.body.getD .skip) kp_impl_under esc_impl_under Try.func92 (by kernel_rfl) (by kernel_rfl) ?_
  rw [← vc_impl_under_eq]
  exact h

/-- laws.eqMark -/
def kp_laws_eqMark : Nat → Keep
  | _ => ⟨[], [], [], [], []⟩
def esc_laws_eqMark : Nat → Bool
  | _ => false
def vc_laws_eqMark (w0 : World) (a0 a1 : Value) (σ : Vw) (R : Value → Vw → Prop) : Prop :=
  pVal true 2 a0 (pVal true 2 a1 (AC Try.prog w0 n_laws_eqStringS [cellOf a0 0, cellOf a1 0] σ (fun v0 s1 => pUn UnOp.not v0 (fun v2 => pIf v2 (R (Value.bool false) s1) (pBin Try.prog 4 BinOp.neq (cellOf a0 1) (cellOf a1 1) (fun v3 => pIf v3 (R (Value.bool false) s1) (R (Value.bool true) s1)))))))
theorem vc_laws_eqMark_eq (w0 : World) (a0 a1 : Value) (σ : Vw) (R : Value → Vw → Prop) : vc_laws_eqMark w0 a0 a1 σ R = den Try.prog w0 kp_laws_eqMark esc_laws_eqMark (Try.f93.body.getD .skip) (entry Try.f93.ntmps [a0, a1]) σ (retK Try.prog Try.f93.results.toList R) := by kernel_rfl
theorem ac_laws_eqMark {w0 : World} {a0 a1 : Value} {σ : Vw} {R : Value → Vw → Prop} (h : vc_laws_eqMark w0 a0 a1 σ R) : AC Try.prog w0 n_laws_eqMark [a0, a1] σ R := by
  refine ac_rule (fn := Try.f93) (c := Try.f93.body.getD .skip) kp_laws_eqMark esc_laws_eqMark Try.func93 (by kernel_rfl) (by kernel_rfl) ?_
  rw [← vc_laws_eqMark_eq]
  exact h

/-- laws.szPageS -/
def kp_laws_szPageS : Nat → Keep
  | 5 => ⟨[0, 1, 4, 5], [], [], [], []⟩
  | _ => ⟨[], [], [], [], []⟩
def esc_laws_szPageS : Nat → Bool
  | _ => false
def vc_laws_szPageS (w0 : World) (a0 a1 : Value) (σ : Vw) (R : Value → Vw → Prop) : Prop :=
  pLen a0 (fun v0 => pBin Try.prog 3 BinOp.sub a1 v0 (fun v1 => pBin Try.prog 3 BinOp.lss v1 (Value.int IntKind.i64 0) (fun v2 => pIf v2 (R (Value.int IntKind.i64 (-1)) σ) (pLoop (fun l3 K4 s5 => pLen (vget l3 0) (fun v6 => pBin Try.prog 3 BinOp.lss (vget l3 3) v6 (fun v7 => pIf v7 (pIndexAddr 3 (vget l3 0) (vget l3 3) (fun v8 => pLoad w0 3 v8 s5 (fun g9 => AC Try.prog w0 n_laws_szPage ([Value.agg (⟨[g9 0, g9 1, g9 2]⟩), vget l3 1]) s5 (fun v10 s11 => pBin Try.prog 3 BinOp.lss v10 (Value.int IntKind.i64 0) (fun v12 => pIf v12 (K4 AX.ret [vget l3 0, v10, Value.int IntKind.i64 (-1), vget l3 3] s11) (pBin Try.prog 3 BinOp.add (vget l3 3) (Value.int IntKind.i64 1) (fun v13 => K4 AX.normal [vget l3 0, v10, vget l3 2, v13] s11))))))) (K4 (AX.exit 0) [vget l3 0, vget l3 1, vget l3 2, vget l3 3] s5)))) [a0, v1, Value.int IntKind.i64 0, Value.int IntKind.i64 0] σ (fun x14 l15 s16 => match x14 with | .normal => R (vget l15 1) s16 | .ret => R (vget l15 2) s16 | .exit i17 => (match Nat.beq i17 0 with | true => R (vget l15 1) s16 | false => False))))))
theorem vc_laws_szPageS_eq (w0 : World) (a0 a1 : Value) (σ : Vw) (R : Value → Vw → Prop) : vc_laws_szPageS w0 a0 a1 σ R = den Try.prog w0 kp_laws_szPageS esc_laws_szPageS (Try.f94.body.getD .skip) (entry Try.f94.ntmps [a0, a1]) σ (retK Try.prog Try.f94.results.toList R) := by kernel_rfl
theorem ac_laws_szPageS {w0 : World} {a0 a1 : Value} {σ : Vw} {R : Value → Vw → Prop} (h : vc_laws_szPageS w0 a0 a1 σ R) : AC Try.prog w0 n_laws_szPageS [a0, a1] σ R := by
  refine ac_rule (fn := Try.f94) (c := Try.f94.body.getD .skip) kp_laws_szPageS esc_laws_szPageS Try.func94 (by kernel_rfl) (by kernel_rfl) ?_
  rw [← vc_laws_szPageS_eq]
  exact h

/-- laws.szPageNameS -/
def kp_laws_szPageNameS : Nat → Keep
  | 5 => ⟨[0, 1, 4, 5], [], [], [], []⟩
  | _ => ⟨[], [], [], [], []⟩
def esc_laws_szPageNameS : Nat → Bool
  | _ => false
def vc_laws_szPageNameS (w0 : World) (a0 a1 : Value) (σ : Vw) (R : Value → Vw → Prop) : Prop :=
  pLen a0 (fun v0 => pBin Try.prog 3 BinOp.sub a1 v0 (fun v1 => pBin Try.prog 3 BinOp.lss v1 (Value.int IntKind.i64 0) (fun v2 => pIf v2 (R (Value.int IntKind.i64 (-1)) σ) (pLoop (fun l3 K4 s5 => pLen (vget l3 0) (fun v6 => pBin Try.prog 3 BinOp.lss (vget l3 3) v6 (fun v7 => pIf v7 (pIndexAddr 3 (vget l3 0) (vget l3 3) (fun v8 => pLoad w0 3 v8 s5 (fun g9 => AC Try.prog w0 n_laws_szPageName ([Value.agg (⟨[g9 0, g9 1, g9 2]⟩), vget l3 1]) s5 (fun v10 s11 => pBin Try.prog 3 BinOp.lss v10 (Value.int IntKind.i64 0) (fun v12 => pIf v12 (K4 AX.ret [vget l3 0, v10, Value.int IntKind.i64 (-1), vget l3 3] s11) (pBin Try.prog 3 BinOp.add (vget l3 3) (Value.int IntKind.i64 1) (fun v13 => K4 AX.normal [vget l3 0, v10, vget l3 2, v13] s11))))))) (K4 (AX.exit 0) [vget l3 0, vget l3 1, vget l3 2, vget l3 3] s5)))) [a0, v1, Value.int IntKind.i64 0, Value.int IntKind.i64 0] σ (fun x14 l15 s16 => match x14 with | .normal => R (vget l15 1) s16 | .ret => R (vget l15 2) s16 | .exit i17 => (match Nat.beq i17 0 with | true => R (vget l15 1) s16 | false => False))))))
theorem vc_laws_szPageNameS_eq (w0 : World) (a0 a1 : Value) (σ : Vw) (R : Value → Vw → Prop) : vc_laws_szPageNameS w0 a0 a1 σ R = den Try.prog w0 kp_laws_szPageNameS esc_laws_szPageNameS (Try.f95.body.getD .skip) (entry Try.f95.ntmps [a0, a1]) σ (retK Try.prog Try.f95.results.toList R) := by kernel_rfl
theorem ac_laws_szPageNameS {w0 : World} {a0 a1 : Value} {σ : Vw} {R : Value → Vw → Prop} (h : vc_laws_szPageNameS w0 a0 a1 σ R) : AC Try.prog w0 n_laws_szPageNameS [a0, a1] σ R := by
  refine ac_rule (fn := Try.f95) (c := Try.f95.body.getD .skip) kp_laws_szPageNameS esc_laws_szPageNameS Try.func95 (by kernel_rfl) (by kernel_rfl) ?_
  rw [← vc_laws_szPageNameS_eq]
  exact h

/-- spec.l1NameOk -/
def kp_spec_l1NameOk : Nat → Keep
  | 2 => ⟨[0, 2, 3], [], [], [], []⟩
  | _ => ⟨[], [], [], [], []⟩
def esc_spec_l1NameOk : Nat → Bool
  | _ => false
def vc_spec_l1NameOk (w0 : World) (a0 : Value) (σ : Vw) (R : Value → Vw → Prop) : Prop :=
  pLoop (fun l0 K1 s2 => pLenS (vget l0 0) (fun v3 => pBin Try.prog 3 BinOp.lss (vget l0 2) v3 (fun v4 => pIf v4 (pIndexStr (vget l0 0) (vget l0 2) (fun v5 => pBin Try.prog 5 BinOp.geq v5 (Value.int IntKind.u8 97) (fun v6 => pIf v6 (pIndexStr (vget l0 0) (vget l0 2) (fun v7 => pBin Try.prog 5 BinOp.leq v7 (Value.int IntKind.u8 122) (fun v8 => pIf v8 (pUn UnOp.not (Value.bool true) (fun v9 => pIf v9 (K1 AX.ret [vget l0 0, Value.bool false, vget l0 2] s2) (pBin Try.prog 3 BinOp.add (vget l0 2) (Value.int IntKind.i64 1) (fun v10 => K1 AX.normal [vget l0 0, vget l0 1, v10] s2)))) (pIndexStr (vget l0 0) (vget l0 2) (fun v11 => pBin Try.prog 5 BinOp.geq v11 (Value.int IntKind.u8 48) (fun v12 => pIf v12 (pIndexStr (vget l0 0) (vget l0 2) (fun v13 => pBin Try.prog 5 BinOp.leq v13 (Value.int IntKind.u8 57) (fun v14 => pUn UnOp.not v14 (fun v15 => pIf v15 (K1 AX.ret [vget l0 0, Value.bool false, vget l0 2] s2) (pBin Try.prog 3 BinOp.add (vget l0 2) (Value.int IntKind.i64 1) (fun v16 => K1 AX.normal [vget l0 0, vget l0 1, v16] s2)))))) (pUn UnOp.not (Value.bool false) (fun v17 => pIf v17 (K1 AX.ret [vget l0 0, Value.bool false, vget l0 2] s2) (pBin Try.prog 3 BinOp.add (vget l0 2) (Value.int IntKind.i64 1) (fun v18 => K1 AX.normal [vget l0 0, vget l0 1, v18] s2)))))))))) (pIndexStr (vget l0 0) (vget l0 2) (fun v19 => pBin Try.prog 5 BinOp.geq v19 (Value.int IntKind.u8 48) (fun v20 => pIf v20 (pIndexStr (vget l0 0) (vget l0 2) (fun v21 => pBin Try.prog 5 BinOp.leq v21 (Value.int IntKind.u8 57) (fun v22 => pUn UnOp.not v22 (fun v23 => pIf v23 (K1 AX.ret [vget l0 0, Value.bool false, vget l0 2] s2) (pBin Try.prog 3 BinOp.add (vget l0 2) (Value.int IntKind.i64 1) (fun v24 => K1 AX.normal [vget l0 0, vget l0 1, v24] s2)))))) (pUn UnOp.not (Value.bool false) (fun v25 => pIf v25 (K1 AX.ret [vget l0 0, Value.bool false, vget l0 2] s2) (pBin Try.prog 3 BinOp.add (vget l0 2) (Value.int IntKind.i64 1) (fun v26 => K1 AX.normal [vget l0 0, vget l0 1, v26] s2)))))))))) (K1 (AX.exit 0) [vget l0 0, vget l0 1, vget l0 2] s2)))) [a0, Value.bool false, Value.int IntKind.i64 0] σ (fun x27 l28 s29 => match x27 with | .normal => pLenS (vget l28 0) (fun v30 => AC Try.prog w0 n_spec_l1In [v30, Value.int IntKind.i64 1, Value.int IntKind.i64 5] s29 (fun v31 s32 => R v31 s32)) | .ret => R (vget l28 1) s29 | .exit i33 => (match Nat.beq i33 0 with | true => pLenS (vget l28 0) (fun v34 => AC Try.prog w0 n_spec_l1In [v34, Value.int IntKind.i64 1, Value.int IntKind.i64 5] s29 (fun v35 s36 => R v35 s36)) | false => False))
theorem vc_spec_l1NameOk_eq (w0 : World) (a0 : Value) (σ : Vw) (R : Value → Vw → Prop) : vc_spec_l1NameOk w0 a0 σ R = den Try.prog w0 kp_spec_l1NameOk esc_spec_l1NameOk (Try.f96.body.getD .skip) (entry Try.f96.ntmps [a0]) σ (retK Try.prog Try.f96.results.toList R) := by kernel_rfl
theorem ac_spec_l1NameOk {w0 : World} {a0 : Value} {σ : Vw} {R : Value → Vw → Prop} (h : vc_spec_l1NameOk w0 a0 σ R) : AC Try.prog w0 n_spec_l1NameOk [a0] σ R := by
  refine ac_rule (fn := Try.f96) (c := Try.f96.body.getD .skip) kp_spec_l1NameOk esc_spec_l1NameOk Try.func96 (by kernel_rfl) (by kernel_rfl) ?_
  rw [← vc_spec_l1NameOk_eq]
  exact h

/-- spec.l1In -/
def kp_spec_l1In : Nat → Keep
  | _ => ⟨[], [], [], [], []⟩
def esc_spec_l1In : Nat → Bool
  | _ => false
def vc_spec_l1In (w0 : World) (a0 a1 a2 : Value) (σ : Vw) (R : Value → Vw → Prop) : Prop :=
  pBin Try.prog 3 BinOp.geq a0 a1 (fun v0 => pIf v0 (pBin Try.prog 3 BinOp.leq a0 a2 (fun v1 => R v1 σ)) (R (Value.bool false) σ))
theorem vc_spec_l1In_eq (w0 : World) (a0 a1 a2 : Value) (σ : Vw) (R : Value → Vw → Prop) : vc_spec_l1In w0 a0 a1 a2 σ R = den Try.prog w0 kp_spec_l1In esc_spec_l1In (Try.f97.body.getD .skip) (entry Try.f97.ntmps [a0, a1, a2]) σ (retK Try.prog Try.f97.results.toList R) := by kernel_rfl
theorem ac_spec_l1In {w0 : World} {a0 a1 a2 : Value} {σ : Vw} {R : Value → Vw → Prop} (h : vc_spec_l1In w0 a0 a1 a2 σ R) : AC Try.prog w0 n_spec_l1In [a0, a1, a2] σ R := by
  refine ac_rule (fn := Try.f97) (c := Try.f97.body.getD .skip) kp_spec_l1In esc_spec_l1In Try.func97 (by kernel_rfl) (by kernel_rfl) ?_
  rw [← vc_spec_l1In_eq]
  exact h

/-- spec.l32Chain -/
def kp_spec_l32Chain : Nat → Keep
  | 4 => ⟨[4, 5, 6, 7, 8], [(2, 2)], [2], [], []⟩
  | _ => ⟨[], [], [], [], []⟩
def esc_spec_l32Chain : Nat → Bool
  | 10 => true
  | _ => false
def vc_spec_l32Chain (w0 : World) (a0 a1 : Value) (σ : Vw) (R : Value → Vw → Prop) : Prop :=
  pVal true 2 a0 (pVal true 3 a1 (pNew w0 3 [] σ (fun n0 s1 => pLoop (fun l2 K3 s4 => pBin Try.prog 3 BinOp.geq (vget l2 3) (Value.int IntKind.i64 0) (fun v5 => pIf v5 (pLen (vget l2 5) (fun v6 => pBin Try.prog 3 BinOp.geq (vget l2 3) v6 (fun v7 => pIf v7 (K3 AX.ret [vget l2 2, Value.bool false, vget l2 2, vget l2 3, vget l2 4, vget l2 5, vget l2 6] s4) (pIndexAddr 3 (vget l2 5) (vget l2 3) (fun v8 => pField 0 v8 (fun v9 => pLoad w0 1 v9 s4 (fun g10 => pUn UnOp.not (g10 0) (fun v11 => pIf v11 (K3 AX.ret [vget l2 2, Value.bool false, vget l2 2, vget l2 3, vget l2 4, vget l2 5, vget l2 6] s4) (pLen (vget l2 2) (fun v12 => pBin Try.prog 3 BinOp.gtr v12 (Value.int IntKind.i64 96) (fun v13 => pIf v13 (K3 AX.ret [vget l2 2, Value.bool false, vget l2 2, vget l2 3, vget l2 4, vget l2 5, vget l2 6] s4) (pBin Try.prog 3 BinOp.gtr (vget l2 4) (Value.int IntKind.i64 40) (fun v14 => pIf v14 (pIndexAddr 3 (vget l2 5) (vget l2 3) (fun v15 => pField 1 v15 (fun v16 => pLoad w0 1 v16 s4 (fun g17 => pLenS (g17 0) (fun v18 => pBin Try.prog 3 BinOp.neq v18 (Value.int IntKind.i64 40) (fun v19 => pIf v19 (K3 AX.ret [vget l2 2, Value.bool false, vget l2 2, vget l2 3, vget l2 4, vget l2 5, vget l2 6] s4) (pBin Try.prog 3 BinOp.eql (Value.int IntKind.i64 40) (Value.int IntKind.i64 0) (fun v20 => pIf v20 (K3 AX.ret [vget l2 2, Value.bool false, vget l2 2, vget l2 3, vget l2 4, vget l2 5, vget l2 6] s4) (pVal false 1 (vget l2 3) ((allOne [vget l2 3]) ∧ (pAppend w0 3 1 8 (vget l2 2) 1 [vget l2 3] s4 (fun v21 s22 => pBin Try.prog 3 BinOp.sub (vget l2 4) (Value.int IntKind.i64 40) (fun v23 => pIndexAddr 3 (vget l2 5) (vget l2 3) (fun v24 => pField 2 v24 (fun v25 => pLoad w0 1 v25 s22 (fun g26 => K3 AX.normal [vget l2 0, vget l2 1, v21, g26 0, v23, vget l2 5, vget l2 6] s22)))))))))))))))) (pIndexAddr 3 (vget l2 5) (vget l2 3) (fun v27 => pField 1 v27 (fun v28 => pLoad w0 1 v28 s4 (fun g29 => pLenS (g29 0) (fun v30 => pBin Try.prog 3 BinOp.neq v30 (vget l2 4) (fun v31 => pIf v31 (K3 AX.ret [vget l2 2, Value.bool false, vget l2 2, vget l2 3, vget l2 4, vget l2 5, vget l2 6] s4) (pBin Try.prog 3 BinOp.eql (vget l2 4) (Value.int IntKind.i64 0) (fun v32 => pIf v32 (K3 AX.ret [vget l2 2, Value.bool false, vget l2 2, vget l2 3, vget l2 4, vget l2 5, vget l2 6] s4) (pVal false 1 (vget l2 3) ((allOne [vget l2 3]) ∧ (pAppend w0 3 1 8 (vget l2 2) 1 [vget l2 3] s4 (fun v33 s34 => pBin Try.prog 3 BinOp.sub (vget l2 4) (vget l2 4) (fun v35 => pIndexAddr 3 (vget l2 5) (vget l2 3) (fun v36 => pField 2 v36 (fun v37 => pLoad w0 1 v37 s34 (fun g38 => K3 AX.normal [vget l2 0, vget l2 1, v33, g38 0, v35, vget l2 5, vget l2 6] s34))))))))))))))))))))))))))))) (K3 (AX.exit 0) [vget l2 0, vget l2 1, vget l2 2, vget l2 3, vget l2 4, vget l2 5, vget l2 6] s4))) [Value.slice Option.none 0 0, Value.bool false, Value.slice (Option.some (Addr.mk n0 0 Option.none)) 0 0, cellOf a1 1, cellOf a1 2, cellOf a0 0, cellOf a0 1] s1 (fun x39 l40 s41 => match x39 with | .normal => pBin Try.prog 3 BinOp.eql (vget l40 4) (Value.int IntKind.i64 0) (fun v42 => R (Value.tuple (⟨[vget l40 2, v42]⟩)) s41) | .ret => R (Value.tuple (⟨[vget l40 0, vget l40 1]⟩)) s41 | .exit i43 => (match Nat.beq i43 0 with | true => pBin Try.prog 3 BinOp.eql (vget l40 4) (Value.int IntKind.i64 0) (fun v44 => R (Value.tuple (⟨[vget l40 2, v44]⟩)) s41) | false => False)))))
theorem vc_spec_l32Chain_eq (w0 : World) (a0 a1 : Value) (σ : Vw) (R : Value → Vw → Prop) : vc_spec_l32Chain w0 a0 a1 σ R = den Try.prog w0 kp_spec_l32Chain esc_spec_l32Chain (Try.f98.body.getD .skip) (entry Try.f98.ntmps [a0, a1]) σ (retK Try.prog Try.f98.results.toList R) := by kernel_rfl
theorem ac_spec_l32Chain {w0 : World} {a0 a1 : Value} {σ : Vw} {R : Value → Vw → Prop} (h : vc_spec_l32Chain w0 a0 a1 σ R) : AC Try.prog w0 n_spec_l32Chain [a0, a1] σ R := by
  refine ac_rule (fn := Try.f98) (c := Try.f98.body.getD .skip) kp_spec_l32Chain esc_spec_l32Chain Try.func98 (by kernel_rfl) (by kernel_rfl) ?_
  rw [← vc_spec_l32Chain_eq]
  exact h

/-- laws.toPageS -/
def kp_laws_toPageS : Nat → Keep
  | 3 => ⟨[0, 3, 4], [], [], [], []⟩
  | _ => ⟨[], [], [], [], []⟩
def esc_laws_toPageS : Nat → Bool
  | _ => false
def vc_laws_toPageS (w0 : World) (a0 : Value) (σ : Vw) (R : Value → Vw → Prop) : Prop :=
  pLen a0 (fun v0 => pMake w0 90 3 32 ([Value.bool false, Value.string ({ data := #[] }), Value.int IntKind.i64 0]) v0 v0 σ (fun v1 s2 => pLoop (fun l3 K4 s5 => pLen (vget l3 0) (fun v6 => pBin Try.prog 3 BinOp.lss (vget l3 2) v6 (fun v7 => pIf v7 (pIndexAddr 3 (vget l3 0) (vget l3 2) (fun v8 => pLoad w0 3 v8 s5 (fun g9 => AC Try.prog w0 n_laws_toPage ([Value.agg (⟨[g9 0, g9 1, g9 2]⟩)]) s5 (fun v10 s11 => pIndexAddr 3 (vget l3 1) (vget l3 2) (fun v12 => pVal true 3 v10 (pStore v12 [cellOf v10 0, cellOf v10 1, cellOf v10 2] s11 (fun s13 => pBin Try.prog 3 BinOp.add (vget l3 2) (Value.int IntKind.i64 1) (fun v14 => K4 AX.normal [vget l3 0, vget l3 1, v14] s13)))))))) (K4 (AX.exit 0) [vget l3 0, vget l3 1, vget l3 2] s5)))) [a0, v1, Value.int IntKind.i64 0] s2 (fun x15 l16 s17 => match x15 with | .normal => R (vget l16 1) s17 | .ret => False | .exit i18 => (match Nat.beq i18 0 with | true => R (vget l16 1) s17 | false => False))))
theorem vc_laws_toPageS_eq (w0 : World) (a0 : Value) (σ : Vw) (R : Value → Vw → Prop) : vc_laws_toPageS w0 a0 σ R = den Try.prog w0 kp_laws_toPageS esc_laws_toPageS (Try.f99.body.getD .skip) (entry Try.f99.ntmps [a0]) σ (retK Try.prog Try.f99.results.toList R) := by kernel_rfl
theorem ac_laws_toPageS {w0 : World} {a0 : Value} {σ : Vw} {R : Value → Vw → Prop} (h : vc_laws_toPageS w0 a0 σ R) : AC Try.prog w0 n_laws_toPageS [a0] σ R := by
  refine ac_rule (fn := Try.f99) (c := Try.f99.body.getD .skip) kp_laws_toPageS esc_laws_toPageS Try.func99 (by kernel_rfl) (by kernel_rfl) ?_
  rw [← vc_laws_toPageS_eq]
  exact h

/-- laws.toPageNameS -/
def kp_laws_toPageNameS : Nat → Keep
  | 3 => ⟨[0, 3, 4], [], [], [], []⟩
  | _ => ⟨[], [], [], [], []⟩
def esc_laws_toPageNameS : Nat → Bool
  | _ => false
def vc_laws_toPageNameS (w0 : World) (a0 : Value) (σ : Vw) (R : Value → Vw → Prop) : Prop :=
  pLen a0 (fun v0 => pMake w0 124 3 32 ([Value.string ({ data := #[] }), Value.int IntKind.i64 0, Value.int IntKind.i64 0]) v0 v0 σ (fun v1 s2 => pLoop (fun l3 K4 s5 => pLen (vget l3 0) (fun v6 => pBin Try.prog 3 BinOp.lss (vget l3 2) v6 (fun v7 => pIf v7 (pIndexAddr 3 (vget l3 0) (vget l3 2) (fun v8 => pLoad w0 3 v8 s5 (fun g9 => AC Try.prog w0 n_laws_toPageName ([Value.agg (⟨[g9 0, g9 1, g9 2]⟩)]) s5 (fun v10 s11 => pIndexAddr 3 (vget l3 1) (vget l3 2) (fun v12 => pVal true 3 v10 (pStore v12 [cellOf v10 0, cellOf v10 1, cellOf v10 2] s11 (fun s13 => pBin Try.prog 3 BinOp.add (vget l3 2) (Value.int IntKind.i64 1) (fun v14 => K4 AX.normal [vget l3 0, vget l3 1, v14] s13)))))))) (K4 (AX.exit 0) [vget l3 0, vget l3 1, vget l3 2] s5)))) [a0, v1, Value.int IntKind.i64 0] s2 (fun x15 l16 s17 => match x15 with | .normal => R (vget l16 1) s17 | .ret => False | .exit i18 => (match Nat.beq i18 0 with | true => R (vget l16 1) s17 | false => False))))
theorem vc_laws_toPageNameS_eq (w0 : World) (a0 : Value) (σ : Vw) (R : Value → Vw → Prop) : vc_laws_toPageNameS w0 a0 σ R = den Try.prog w0 kp_laws_toPageNameS esc_laws_toPageNameS (Try.f100.body.getD .skip) (entry Try.f100.ntmps [a0]) σ (retK Try.prog Try.f100.results.toList R) := by kernel_rfl
theorem ac_laws_toPageNameS {w0 : World} {a0 : Value} {σ : Vw} {R : Value → Vw → Prop} (h : vc_laws_toPageNameS w0 a0 σ R) : AC Try.prog w0 n_laws_toPageNameS [a0] σ R := by
  refine ac_rule (fn := Try.f100) (c := Try.f100.body.getD .skip) kp_laws_toPageNameS esc_laws_toPageNameS Try.func100 (by kernel_rfl) (by kernel_rfl) ?_
  rw [← vc_laws_toPageNameS_eq]
  exact h

/-- impl.nameOk -/
def kp_impl_nameOk : Nat → Keep
  | 2 => ⟨[0, 2, 5, 6], [], [], [], []⟩
  | _ => ⟨[], [], [], [], []⟩
def esc_impl_nameOk : Nat → Bool
  | _ => false
def vc_impl_nameOk (w0 : World) (a0 : Value) (σ : Vw) (R : Value → Vw → Prop) : Prop :=
  pLenS a0 (fun v0 => pLoop (fun l1 K2 s3 => pBin Try.prog 3 BinOp.lss (vget l1 3) (vget l1 2) (fun v4 => pIf v4 (pIndexStr (vget l1 0) (vget l1 3) (fun v5 => pBin Try.prog 5 BinOp.lss v5 (Value.int IntKind.u8 97) (fun v6 => pIf v6 (pIndexStr (vget l1 0) (vget l1 3) (fun v7 => pBin Try.prog 5 BinOp.lss v7 (Value.int IntKind.u8 48) (fun v8 => pIf v8 (K2 AX.ret [vget l1 0, Value.bool false, vget l1 2, vget l1 3] s3) (pIndexStr (vget l1 0) (vget l1 3) (fun v9 => pBin Try.prog 5 BinOp.gtr v9 (Value.int IntKind.u8 57) (fun v10 => pIf v10 (K2 AX.ret [vget l1 0, Value.bool false, vget l1 2, vget l1 3] s3) (pBin Try.prog 3 BinOp.add (vget l1 3) (Value.int IntKind.i64 1) (fun v11 => K2 AX.normal [vget l1 0, vget l1 1, vget l1 2, v11] s3)))))))) (pIndexStr (vget l1 0) (vget l1 3) (fun v12 => pBin Try.prog 5 BinOp.gtr v12 (Value.int IntKind.u8 122) (fun v13 => pIf v13 (pIndexStr (vget l1 0) (vget l1 3) (fun v14 => pBin Try.prog 5 BinOp.lss v14 (Value.int IntKind.u8 48) (fun v15 => pIf v15 (K2 AX.ret [vget l1 0, Value.bool false, vget l1 2, vget l1 3] s3) (pIndexStr (vget l1 0) (vget l1 3) (fun v16 => pBin Try.prog 5 BinOp.gtr v16 (Value.int IntKind.u8 57) (fun v17 => pIf v17 (K2 AX.ret [vget l1 0, Value.bool false, vget l1 2, vget l1 3] s3) (pBin Try.prog 3 BinOp.add (vget l1 3) (Value.int IntKind.i64 1) (fun v18 => K2 AX.normal [vget l1 0, vget l1 1, vget l1 2, v18] s3)))))))) (pBin Try.prog 3 BinOp.add (vget l1 3) (Value.int IntKind.i64 1) (fun v19 => K2 AX.normal [vget l1 0, vget l1 1, vget l1 2, v19] s3)))))))) (K2 (AX.exit 0) [vget l1 0, vget l1 1, vget l1 2, vget l1 3] s3))) [a0, Value.bool false, v0, Value.int IntKind.i64 0] σ (fun x20 l21 s22 => match x20 with | .normal => pLenS (vget l21 0) (fun v23 => AC Try.prog w0 n_impl_within [v23, Value.int IntKind.i64 1, Value.int IntKind.i64 5] s22 (fun v24 s25 => R v24 s25)) | .ret => R (vget l21 1) s22 | .exit i26 => (match Nat.beq i26 0 with | true => pLenS (vget l21 0) (fun v27 => AC Try.prog w0 n_impl_within [v27, Value.int IntKind.i64 1, Value.int IntKind.i64 5] s22 (fun v28 s29 => R v28 s29)) | false => False)))
theorem vc_impl_nameOk_eq (w0 : World) (a0 : Value) (σ : Vw) (R : Value → Vw → Prop) : vc_impl_nameOk w0 a0 σ R = den Try.prog w0 kp_impl_nameOk esc_impl_nameOk (Try.f101.body.getD .skip) (entry Try.f101.ntmps [a0]) σ (retK Try.prog Try.f101.results.toList R) := by kernel_rfl
theorem ac_impl_nameOk {w0 : World} {a0 : Value} {σ : Vw} {R : Value → Vw → Prop} (h : vc_impl_nameOk w0 a0 σ R) : AC Try.prog w0 n_impl_nameOk [a0] σ R := by
  refine ac_rule (fn := Try.f101) (c := Try.f101.body.getD .skip) kp_impl_nameOk esc_impl_nameOk Try.func101 (by kernel_rfl) (by kernel_rfl) ?_
  rw [← vc_impl_nameOk_eq]
  exact h

/-- (impl.Pages).chain -/
def kp_impl_Pages_chain : Nat → Keep
  | 4 => ⟨[4, 5, 6, 7, 15, 16], [(2, 2), (3, 3)], [2, 3], [], []⟩
  | _ => ⟨[], [], [], [], []⟩
def esc_impl_Pages_chain : Nat → Bool
  | 10 => true
  | _ => false
def vc_impl_Pages_chain (w0 : World) (a0 a1 : Value) (σ : Vw) (R : Value → Vw → Prop) : Prop :=
  pVal true 2 a0 (pVal true 3 a1 (pNew w0 3 [] σ (fun n0 s1 => AC Try.prog w0 n_impl_pieces [cellOf a1 2, Value.int IntKind.i64 40] s1 (fun v2 s3 => pLoop (fun l4 K5 s6 => pBin Try.prog 3 BinOp.lss (vget l4 5) (vget l4 4) (fun v7 => pIf v7 (pBin Try.prog 3 BinOp.mul (vget l4 5) (Value.int IntKind.i64 40) (fun v8 => pBin Try.prog 3 BinOp.sub (vget l4 10) v8 (fun v9 => pMin (Value.int IntKind.i64 40) v9 (fun v10 => AC Try.prog w0 n_impl_within [vget l4 3, Value.int IntKind.i64 0, Value.int IntKind.i64 95] s6 (fun v11 s12 => pUn UnOp.not v11 (fun v13 => pIf v13 (K5 AX.ret [Value.slice Option.none 0 0, Value.bool false, vget l4 2, vget l4 3, vget l4 4, vget l4 5, vget l4 6, vget l4 7, vget l4 8, vget l4 9, vget l4 10] s12) (AC Try.prog w0 n_slices_Contains_int_int [vget l4 2, vget l4 3] s12 (fun v14 s15 => pIf v14 (K5 AX.ret [Value.slice Option.none 0 0, Value.bool false, vget l4 2, vget l4 3, vget l4 4, vget l4 5, vget l4 6, vget l4 7, vget l4 8, vget l4 9, vget l4 10] s15) (pIndexAddr 3 (vget l4 6) (vget l4 3) (fun v16 => pField 0 v16 (fun v17 => pLoad w0 1 v17 s15 (fun g18 => pUn UnOp.not (g18 0) (fun v19 => pIf v19 (K5 AX.ret [Value.slice Option.none 0 0, Value.bool false, vget l4 2, vget l4 3, vget l4 4, vget l4 5, vget l4 6, vget l4 7, vget l4 8, vget l4 9, vget l4 10] s15) (pIndexAddr 3 (vget l4 6) (vget l4 3) (fun v20 => pField 1 v20 (fun v21 => pLoad w0 1 v21 s15 (fun g22 => pLenS (g22 0) (fun v23 => pBin Try.prog 3 BinOp.neq v23 v10 (fun v24 => pIf v24 (K5 AX.ret [Value.slice Option.none 0 0, Value.bool false, vget l4 2, vget l4 3, vget l4 4, vget l4 5, vget l4 6, vget l4 7, vget l4 8, vget l4 9, vget l4 10] s15) (pVal false 1 (vget l4 3) ((allOne [vget l4 3]) ∧ (pAppend w0 3 1 8 (vget l4 2) 1 [vget l4 3] s15 (fun v25 s26 => pIndexAddr 3 (vget l4 6) (vget l4 3) (fun v27 => pField 2 v27 (fun v28 => pLoad w0 1 v28 s26 (fun g29 => pBin Try.prog 3 BinOp.add (vget l4 5) (Value.int IntKind.i64 1) (fun v30 => K5 AX.normal [vget l4 0, vget l4 1, v25, g29 0, vget l4 4, v30, vget l4 6, vget l4 7, vget l4 8, vget l4 9, vget l4 10] s26))))))))))))))))))))))))))) (K5 (AX.exit 0) [vget l4 0, vget l4 1, vget l4 2, vget l4 3, vget l4 4, vget l4 5, vget l4 6, vget l4 7, vget l4 8, vget l4 9, vget l4 10] s6))) [Value.slice Option.none 0 0, Value.bool false, Value.slice (Option.some (Addr.mk n0 0 Option.none)) 0 0, cellOf a1 1, v2, Value.int IntKind.i64 0, cellOf a0 0, cellOf a0 1, cellOf a1 0, cellOf a1 1, cellOf a1 2] s3 (fun x31 l32 s33 => match x31 with | .normal => pBin Try.prog 3 BinOp.eql (vget l32 3) (Value.int IntKind.i64 (-1)) (fun v34 => R (Value.tuple (⟨[vget l32 2, v34]⟩)) s33) | .ret => R (Value.tuple (⟨[vget l32 0, vget l32 1]⟩)) s33 | .exit i35 => (match Nat.beq i35 0 with | true => pBin Try.prog 3 BinOp.eql (vget l32 3) (Value.int IntKind.i64 (-1)) (fun v36 => R (Value.tuple (⟨[vget l32 2, v36]⟩)) s33) | false => False))))))
theorem vc_impl_Pages_chain_eq (w0 : World) (a0 a1 : Value) (σ : Vw) (R : Value → Vw → Prop) : vc_impl_Pages_chain w0 a0 a1 σ R = den Try.prog w0 kp_impl_Pages_chain esc_impl_Pages_chain (Try.f102.body.getD .skip) (entry Try.f102.ntmps [a0, a1]) σ (retK Try.prog Try.f102.results.toList R) := by kernel_rfl
theorem ac_impl_Pages_chain {w0 : World} {a0 a1 : Value} {σ : Vw} {R : Value → Vw → Prop} (h : vc_impl_Pages_chain w0 a0 a1 σ R) : AC Try.prog w0 n_impl_Pages_chain [a0, a1] σ R := by
  refine ac_rule (fn := Try.f102) (c := Try.f102.body.getD .skip) kp_impl_Pages_chain esc_impl_Pages_chain Try.func102 (by kernel_rfl) (by kernel_rfl) ?_
  rw [← vc_impl_Pages_chain_eq]
  exact h

/-- spec.l1At -/
def kp_spec_l1At : Nat → Keep
  | 3 => ⟨[], [], [], [0, 1, 2, 3, 4, 5], [(2, [1]), (3, [1, 2]), (4, [0, 1, 2, 3]), (5, [0, 1, 2, 3, 4])]⟩
  | 6 => ⟨[], [], [], [0, 1, 2, 3, 4, 5, 6, 7, 8, 9, 10, 11], [(1, [0]), (3, [0, 1, 2]), (4, [0, 1, 2, 3]), (6, [5]), (7, [0, 1, 2, 3, 4, 5, 6]), (8, [0, 1, 2, 3, 4, 5, 6, 7]), (9, [0, 1, 2, 3, 4, 5, 6, 7]), (10, [0, 1, 2, 3, 4, 5, 6, 7, 8, 9]), (11, [0, 1, 2, 3, 4, 5, 6, 7, 8, 9, 10])]⟩
  | _ => ⟨[], [], [], [], []⟩
def esc_spec_l1At : Nat → Bool
  | _ => false
def vc_spec_l1At (w0 : World) (a0 a1 : Value) (σ : Vw) (R : Value → Vw → Prop) : Prop :=
  pVal true 5 a0 (pLen a1 (fun v0 => pBin Try.prog 3 BinOp.eql v0 (Value.int IntKind.i64 0) (fun v1 => pIf v1 (pVal true 5 (Value.agg (⟨[cellOf a0 0, cellOf a0 1, cellOf a0 2, cellOf a0 3, cellOf a0 4]⟩)) (R (Value.tuple (⟨[Value.agg (⟨[cellOf a0 0, cellOf a0 1, cellOf a0 2, cellOf a0 3, cellOf a0 4]⟩), Value.bool true]⟩)) σ)) (pIndexAddr 1 a1 (Value.int IntKind.i64 0) (fun v2 => pLoad w0 1 v2 σ (fun g3 => AC Try.prog w0 n_spec_l1Find ([Value.agg (⟨[cellOf a0 0, cellOf a0 1, cellOf a0 2, cellOf a0 3, cellOf a0 4]⟩), g3 0]) σ (fun v4 s5 => pBin Try.prog 3 BinOp.lss v4 (Value.int IntKind.i64 0) (fun v6 => pIf v6 (pVal true 5 (Value.agg (⟨[Value.bool false, Value.int IntKind.i64 0, Value.string ({ data := #[] }), Value.slice Option.none 0 0, Value.slice Option.none 0 0]⟩)) (R (Value.tuple (⟨[Value.agg (⟨[Value.bool false, Value.int IntKind.i64 0, Value.string ({ data := #[] }), Value.slice Option.none 0 0, Value.slice Option.none 0 0]⟩), Value.bool false]⟩)) s5)) (pIndexAddr 5 (cellOf a0 4) v4 (fun v7 => pLoad w0 5 v7 s5 (fun g8 => pSlice 1 a1 (Option.some (Value.int IntKind.i64 1)) Option.none (fun v9 => AC Try.prog w0 n_spec_l1At ([Value.agg (⟨[g8 0, g8 1, g8 2, g8 3, g8 4]⟩), v9]) s5 (fun v10 s11 => pExtract v10 0 (fun v12 => pExtract v10 1 (fun v13 => pVal true 5 v12 (R (Value.tuple (⟨[Value.agg (⟨[cellOf v12 0, cellOf v12 1, cellOf v12 2, cellOf v12 3, cellOf v12 4]⟩), v13]⟩)) s11))))))))))))))))
theorem vc_spec_l1At_eq (w0 : World) (a0 a1 : Value) (σ : Vw) (R : Value → Vw → Prop) : vc_spec_l1At w0 a0 a1 σ R = den Try.prog w0 kp_spec_l1At esc_spec_l1At (Try.f103.body.getD .skip) (entry Try.f103.ntmps [a0, a1]) σ (retK Try.prog Try.f103.results.toList R) := by kernel_rfl
theorem ac_spec_l1At {w0 : World} {a0 a1 : Value} {σ : Vw} {R : Value → Vw → Prop} (h : vc_spec_l1At w0 a0 a1 σ R) : AC Try.prog w0 n_spec_l1At [a0, a1] σ R := by
  refine ac_rule (fn := Try.f103) (c := Try.f103.body.getD .skip) kp_spec_l1At esc_spec_l1At Try.func103 (by kernel_rfl) (by kernel_rfl) ?_
  rw [← vc_spec_l1At_eq]
  exact h

/-- (*impl.Tree).at -/
def kp_p_impl_Tree_at : Nat → Keep
  | 2 => ⟨[0, 4, 7, 8, 9], [], [], [], []⟩
  | _ => ⟨[], [], [], [], []⟩
def esc_p_impl_Tree_at : Nat → Bool
  | _ => false
def vc_p_impl_Tree_at (w0 : World) (a0 a1 : Value) (σ : Vw) (R : Value → Vw → Prop) : Prop :=
  pLen a1 (fun v0 => pLoop (fun l1 K2 s3 => pBin Try.prog 3 BinOp.lss (vget l1 4) (vget l1 3) (fun v4 => pIf v4 (pIndexAddr 1 (vget l1 2) (vget l1 4) (fun v5 => pLoad w0 1 v5 s3 (fun g6 => AC Try.prog w0 n_p_impl_Tree_kid [vget l1 0, g6 0] s3 (fun v7 s8 => pBin Try.prog 134 BinOp.eql v7 (Value.pointer Option.none) (fun v9 => pIf v9 (K2 AX.ret [v7, Value.pointer Option.none, vget l1 2, vget l1 3, vget l1 4] s8) (pBin Try.prog 3 BinOp.add (vget l1 4) (Value.int IntKind.i64 1) (fun v10 => K2 AX.normal [v7, vget l1 1, vget l1 2, vget l1 3, v10] s8))))))) (K2 (AX.exit 0) [vget l1 0, vget l1 1, vget l1 2, vget l1 3, vget l1 4] s3))) [a0, Value.pointer Option.none, a1, v0, Value.int IntKind.i64 0] σ (fun x11 l12 s13 => match x11 with | .normal => R (vget l12 0) s13 | .ret => R (vget l12 1) s13 | .exit i14 => (match Nat.beq i14 0 with | true => R (vget l12 0) s13 | false => False)))
theorem vc_p_impl_Tree_at_eq (w0 : World) (a0 a1 : Value) (σ : Vw) (R : Value → Vw → Prop) : vc_p_impl_Tree_at w0 a0 a1 σ R = den Try.prog w0 kp_p_impl_Tree_at esc_p_impl_Tree_at (Try.f104.body.getD .skip) (entry Try.f104.ntmps [a0, a1]) σ (retK Try.prog Try.f104.results.toList R) := by kernel_rfl
theorem ac_p_impl_Tree_at {w0 : World} {a0 a1 : Value} {σ : Vw} {R : Value → Vw → Prop} (h : vc_p_impl_Tree_at w0 a0 a1 σ R) : AC Try.prog w0 n_p_impl_Tree_at [a0, a1] σ R := by
  refine ac_rule (fn := Try.f104) (c := Try.f104.body.getD .skip) kp_p_impl_Tree_at esc_p_impl_Tree_at Try.func104 (by kernel_rfl) (by kernel_rfl) ?_
  rw [← vc_p_impl_Tree_at_eq]
  exact h

/-- spec.l32Free -/
def kp_spec_l32Free : Nat → Keep
  | 3 => ⟨[3, 4], [(1, 2)], [1], [], []⟩
  | _ => ⟨[], [], [], [], []⟩
def esc_spec_l32Free : Nat → Bool
  | _ => false
def vc_spec_l32Free (w0 : World) (a0 : Value) (σ : Vw) (R : Value → Vw → Prop) : Prop :=
  pVal true 2 a0 (pLoop (fun l0 K1 s2 => pLen (vget l0 2) (fun v3 => pBin Try.prog 3 BinOp.lss (vget l0 1) v3 (fun v4 => pIf v4 (pIndexAddr 3 (vget l0 2) (vget l0 1) (fun v5 => pField 0 v5 (fun v6 => pLoad w0 1 v6 s2 (fun g7 => pUn UnOp.not (g7 0) (fun v8 => pIf v8 (pBin Try.prog 3 BinOp.add (vget l0 0) (Value.int IntKind.i64 1) (fun v9 => pBin Try.prog 3 BinOp.add (vget l0 1) (Value.int IntKind.i64 1) (fun v10 => K1 AX.normal [v9, v10, vget l0 2, vget l0 3] s2))) (pBin Try.prog 3 BinOp.add (vget l0 1) (Value.int IntKind.i64 1) (fun v11 => K1 AX.normal [vget l0 0, v11, vget l0 2, vget l0 3] s2))))))) (K1 (AX.exit 0) [vget l0 0, vget l0 1, vget l0 2, vget l0 3] s2)))) [Value.int IntKind.i64 0, Value.int IntKind.i64 0, cellOf a0 0, cellOf a0 1] σ (fun x12 l13 s14 => match x12 with | .normal => R (vget l13 0) s14 | .ret => False | .exit i15 => (match Nat.beq i15 0 with | true => R (vget l13 0) s14 | false => False)))
theorem vc_spec_l32Free_eq (w0 : World) (a0 : Value) (σ : Vw) (R : Value → Vw → Prop) : vc_spec_l32Free w0 a0 σ R = den Try.prog w0 kp_spec_l32Free esc_spec_l32Free (Try.f105.body.getD .skip) (entry Try.f105.ntmps [a0]) σ (retK Try.prog Try.f105.results.toList R) := by kernel_rfl
theorem ac_spec_l32Free {w0 : World} {a0 : Value} {σ : Vw} {R : Value → Vw → Prop} (h : vc_spec_l32Free w0 a0 σ R) : AC Try.prog w0 n_spec_l32Free [a0] σ R := by
  refine ac_rule (fn := Try.f105) (c := Try.f105.body.getD .skip) kp_spec_l32Free esc_spec_l32Free Try.func105 (by kernel_rfl) (by kernel_rfl) ?_
  rw [← vc_spec_l32Free_eq]
  exact h

/-- (impl.Pages).free -/
def kp_impl_Pages_free : Nat → Keep
  | 3 => ⟨[3, 7, 8, 9], [], [], [], []⟩
  | _ => ⟨[], [], [], [], []⟩
def esc_impl_Pages_free : Nat → Bool
  | _ => false
def vc_impl_Pages_free (w0 : World) (a0 : Value) (σ : Vw) (R : Value → Vw → Prop) : Prop :=
  pVal true 2 a0 (pLen (cellOf a0 0) (fun v0 => pLoop (fun l1 K2 s3 => pBin Try.prog 3 BinOp.lss (vget l1 3) (vget l1 2) (fun v4 => pIf v4 (pIndexAddr 3 (vget l1 1) (vget l1 3) (fun v5 => pLoad w0 3 v5 s3 (fun g6 => pVal true 3 (Value.agg (⟨[g6 0, g6 1, g6 2]⟩)) (pUn UnOp.not (g6 0) (fun v7 => pIf v7 (pBin Try.prog 3 BinOp.add (vget l1 0) (Value.int IntKind.i64 1) (fun v8 => pBin Try.prog 3 BinOp.add (vget l1 3) (Value.int IntKind.i64 1) (fun v9 => K2 AX.normal [v8, vget l1 1, vget l1 2, v9] s3))) (pBin Try.prog 3 BinOp.add (vget l1 3) (Value.int IntKind.i64 1) (fun v10 => K2 AX.normal [vget l1 0, vget l1 1, vget l1 2, v10] s3))))))) (K2 (AX.exit 0) [vget l1 0, vget l1 1, vget l1 2, vget l1 3] s3))) [Value.int IntKind.i64 0, cellOf a0 0, v0, Value.int IntKind.i64 0] σ (fun x11 l12 s13 => match x11 with | .normal => R (vget l12 0) s13 | .ret => False | .exit i14 => (match Nat.beq i14 0 with | true => R (vget l12 0) s13 | false => False))))
theorem vc_impl_Pages_free_eq (w0 : World) (a0 : Value) (σ : Vw) (R : Value → Vw → Prop) : vc_impl_Pages_free w0 a0 σ R = den Try.prog w0 kp_impl_Pages_free esc_impl_Pages_free (Try.f106.body.getD .skip) (entry Try.f106.ntmps [a0]) σ (retK Try.prog Try.f106.results.toList R) := by kernel_rfl
theorem ac_impl_Pages_free {w0 : World} {a0 : Value} {σ : Vw} {R : Value → Vw → Prop} (h : vc_impl_Pages_free w0 a0 σ R) : AC Try.prog w0 n_impl_Pages_free [a0] σ R := by
  refine ac_rule (fn := Try.f106) (c := Try.f106.body.getD .skip) kp_impl_Pages_free esc_impl_Pages_free Try.func106 (by kernel_rfl) (by kernel_rfl) ?_
  rw [← vc_impl_Pages_free_eq]
  exact h

/-- laws.markTreeS -/
def kp_laws_markTreeS : Nat → Keep
  | 2 => ⟨[0, 1, 5], [], [], [], []⟩
  | _ => ⟨[], [], [], [], []⟩
def esc_laws_markTreeS : Nat → Bool
  | _ => false
def vc_laws_markTreeS (w0 : World) (a0 a1 : Value) (σ : Vw) (R : Value → Vw → Prop) : Prop :=
  pLoop (fun l0 K1 s2 => pLen (vget l0 0) (fun v3 => pBin Try.prog 3 BinOp.lss (vget l0 2) v3 (fun v4 => pIf v4 (pBin Try.prog 3 BinOp.rem (vget l0 1) (Value.int IntKind.i64 3) (fun v5 => pBin Try.prog 3 BinOp.eql v5 (Value.int IntKind.i64 0) (fun v6 => pIndexAddr 5 (vget l0 0) (vget l0 2) (fun v7 => pField 0 v7 (fun v8 => pVal false 1 v6 (pStore v8 [v6] s2 (fun s9 => pBin Try.prog 3 BinOp.add (vget l0 1) (Value.int IntKind.i64 1) (fun v10 => pIndexAddr 5 (vget l0 0) (vget l0 2) (fun v11 => pField 1 v11 (fun v12 => pVal false 1 v10 (pStore v12 [v10] s9 (fun s13 => pBin Try.prog 3 BinOp.add v10 (Value.int IntKind.i64 1) (fun v14 => AC Try.prog w0 n_laws_markText [v14] s13 (fun v15 s16 => pIndexAddr 5 (vget l0 0) (vget l0 2) (fun v17 => pField 2 v17 (fun v18 => pVal false 1 v15 (pStore v18 [v15] s16 (fun s19 => pBin Try.prog 3 BinOp.add v14 (Value.int IntKind.i64 1) (fun v20 => pIndexAddr 5 (vget l0 0) (vget l0 2) (fun v21 => pField 3 v21 (fun v22 => pLoad w0 1 v22 s19 (fun g23 => AC Try.prog w0 n_laws_markStringS [g23 0, v20] s19 (fun v24 s25 => pIndexAddr 5 (vget l0 0) (vget l0 2) (fun v26 => pField 4 v26 (fun v27 => pLoad w0 1 v27 s25 (fun g28 => AC Try.prog w0 n_laws_markTreeS [g28 0, v24] s25 (fun v29 s30 => pBin Try.prog 3 BinOp.add (vget l0 2) (Value.int IntKind.i64 1) (fun v31 => K1 AX.normal [vget l0 0, v29, v31] s30)))))))))))))))))))))))))))) (K1 (AX.exit 0) [vget l0 0, vget l0 1, vget l0 2] s2)))) [a0, a1, Value.int IntKind.i64 0] σ (fun x32 l33 s34 => match x32 with | .normal => R (vget l33 1) s34 | .ret => False | .exit i35 => (match Nat.beq i35 0 with | true => R (vget l33 1) s34 | false => False))
theorem vc_laws_markTreeS_eq (w0 : World) (a0 a1 : Value) (σ : Vw) (R : Value → Vw → Prop) : vc_laws_markTreeS w0 a0 a1 σ R = den Try.prog w0 kp_laws_markTreeS esc_laws_markTreeS (Try.f107.body.getD .skip) (entry Try.f107.ntmps [a0, a1]) σ (retK Try.prog Try.f107.results.toList R) := by kernel_rfl
theorem ac_laws_markTreeS {w0 : World} {a0 a1 : Value} {σ : Vw} {R : Value → Vw → Prop} (h : vc_laws_markTreeS w0 a0 a1 σ R) : AC Try.prog w0 n_laws_markTreeS [a0, a1] σ R := by
  refine ac_rule (fn := Try.f107) (c := Try.f107.body.getD .skip) kp_laws_markTreeS esc_laws_markTreeS Try.func107 (by kernel_rfl) (by kernel_rfl) ?_
  rw [← vc_laws_markTreeS_eq]
  exact h

/-- laws.eqPage -/
def kp_laws_eqPage : Nat → Keep
  | _ => ⟨[], [], [], [], []⟩
def esc_laws_eqPage : Nat → Bool
  | _ => false
def vc_laws_eqPage (w0 : World) (a0 a1 : Value) (σ : Vw) (R : Value → Vw → Prop) : Prop :=
  pVal true 3 a0 (pVal true 3 a1 (pBin Try.prog 4 BinOp.neq (cellOf a0 0) (cellOf a1 0) (fun v0 => pIf v0 (R (Value.bool false) σ) (pBin Try.prog 9 BinOp.neq (cellOf a0 1) (cellOf a1 1) (fun v1 => pIf v1 (R (Value.bool false) σ) (pBin Try.prog 3 BinOp.neq (cellOf a0 2) (cellOf a1 2) (fun v2 => pIf v2 (R (Value.bool false) σ) (R (Value.bool true) σ))))))))
theorem vc_laws_eqPage_eq (w0 : World) (a0 a1 : Value) (σ : Vw) (R : Value → Vw → Prop) : vc_laws_eqPage w0 a0 a1 σ R = den Try.prog w0 kp_laws_eqPage esc_laws_eqPage (Try.f108.body.getD .skip) (entry Try.f108.ntmps [a0, a1]) σ (retK Try.prog Try.f108.results.toList R) := by kernel_rfl
theorem ac_laws_eqPage {w0 : World} {a0 a1 : Value} {σ : Vw} {R : Value → Vw → Prop} (h : vc_laws_eqPage w0 a0 a1 σ R) : AC Try.prog w0 n_laws_eqPage [a0, a1] σ R := by
  refine ac_rule (fn := Try.f108) (c := Try.f108.body.getD .skip) kp_laws_eqPage esc_laws_eqPage Try.func108 (by kernel_rfl) (by kernel_rfl) ?_
  rw [← vc_laws_eqPage_eq]
  exact h

/-- laws.eqPageName -/
def kp_laws_eqPageName : Nat → Keep
  | _ => ⟨[], [], [], [], []⟩
def esc_laws_eqPageName : Nat → Bool
  | _ => false
def vc_laws_eqPageName (w0 : World) (a0 a1 : Value) (σ : Vw) (R : Value → Vw → Prop) : Prop :=
  pVal true 3 a0 (pVal true 3 a1 (pBin Try.prog 9 BinOp.neq (cellOf a0 0) (cellOf a1 0) (fun v0 => pIf v0 (R (Value.bool false) σ) (pBin Try.prog 3 BinOp.neq (cellOf a0 1) (cellOf a1 1) (fun v1 => pIf v1 (R (Value.bool false) σ) (pBin Try.prog 3 BinOp.neq (cellOf a0 2) (cellOf a1 2) (fun v2 => pIf v2 (R (Value.bool false) σ) (R (Value.bool true) σ))))))))
theorem vc_laws_eqPageName_eq (w0 : World) (a0 a1 : Value) (σ : Vw) (R : Value → Vw → Prop) : vc_laws_eqPageName w0 a0 a1 σ R = den Try.prog w0 kp_laws_eqPageName esc_laws_eqPageName (Try.f109.body.getD .skip) (entry Try.f109.ntmps [a0, a1]) σ (retK Try.prog Try.f109.results.toList R) := by kernel_rfl
theorem ac_laws_eqPageName {w0 : World} {a0 a1 : Value} {σ : Vw} {R : Value → Vw → Prop} (h : vc_laws_eqPageName w0 a0 a1 σ R) : AC Try.prog w0 n_laws_eqPageName [a0, a1] σ R := by
  refine ac_rule (fn := Try.f109) (c := Try.f109.body.getD .skip) kp_laws_eqPageName esc_laws_eqPageName Try.func109 (by kernel_rfl) (by kernel_rfl) ?_
  rw [← vc_laws_eqPageName_eq]
  exact h

/-- spec.l1Plain -/
def kp_spec_l1Plain : Nat → Keep
  | 6 => ⟨[2, 3], [(1, 5)], [1], [], []⟩
  | 8 => ⟨[], [], [], [0, 1, 2, 3, 4, 5, 6, 7, 8, 9, 10, 11, 12, 13, 14, 15, 16, 17, 18, 19, 20, 21, 22, 23, 24], [(1, [0]), (3, [0, 1, 2]), (4, [0, 1, 2, 3]), (5, [0, 1, 2, 3, 4]), (6, [0, 1, 2, 3, 4, 5]), (7, [0, 1, 2, 3, 4, 5, 6]), (8, [0, 1, 2, 3, 4, 5, 6, 7]), (9, [0, 1, 2, 3, 4, 5, 6, 7, 8]), (10, [0, 1, 2, 3, 4, 5, 6, 7, 8, 9]), (11, [0, 1, 2, 3, 4, 5, 6, 7, 8, 9, 10]), (12, [0, 1, 2, 3, 4, 5, 6, 7, 8, 9, 10, 11]), (13, [0, 1, 2, 3, 4, 5, 6, 7, 8, 9, 10]), (14, [0, 1, 2, 3, 4, 5, 6, 7, 8, 9, 10, 13]), (15, [0, 1, 2, 3, 4, 5, 6, 7, 8, 9, 10, 11, 12, 13, 14]), (16, [0, 1, 2, 3, 4, 5, 6, 7, 8, 9, 10, 11, 12, 13, 14, 15]), (17, [0, 1, 2, 3, 4, 5, 6, 7, 8, 9, 10]), (18, [0, 1, 2, 3, 4, 5, 6, 7, 8, 9, 10, 17]), (19, [0, 1, 2, 3, 4, 5, 6, 7, 8, 9, 10]), (20, [0, 1, 2, 3, 4, 5, 6, 7, 8, 9, 10, 17, 18, 19]), (21, [0, 1, 2, 3, 4, 5, 6, 7, 8, 9, 10, 17, 18, 19, 20]), (22, [0, 1, 2, 3, 4, 5, 6, 7, 8, 9, 10, 11, 12, 13, 14, 15, 16, 17, 18, 19, 20, 21]), (23, [0, 1, 2, 3, 4, 5, 6, 7, 8, 9, 10, 11, 12, 13, 14, 15, 16, 17, 18, 19, 20, 21, 22]), (24, [0, 1, 2, 3, 4, 5, 6, 7, 8, 9, 10, 11, 12, 13, 14, 15, 16, 17, 18, 19, 20, 21, 22, 23])]⟩
  | _ => ⟨[], [], [], [], []⟩
def esc_spec_l1Plain : Nat → Bool
  | _ => false
def vc_spec_l1Plain (w0 : World) (a0 : Value) (σ : Vw) (R : Value → Vw → Prop) : Prop :=
  pVal true 5 a0 (AC Try.prog w0 n_spec_l1In [cellOf a0 1, Value.int IntKind.i64 0, Value.int IntKind.i64 7] σ (fun v0 s1 => pUn UnOp.not v0 (fun v2 => pIf v2 (R (Value.bool false) s1) (pLen (cellOf a0 3) (fun v3 => pLen (cellOf a0 4) (fun v4 => pBin Try.prog 3 BinOp.neq v3 v4 (fun v5 => pIf v5 (R (Value.bool false) s1) (pUn UnOp.not (cellOf a0 0) (fun v6 => pIf v6 (pLenS (cellOf a0 2) (fun v7 => pBin Try.prog 3 BinOp.leq v7 (Value.int IntKind.i64 24) (fun v8 => pIf v8 (pLen (cellOf a0 3) (fun v9 => pBin Try.prog 3 BinOp.eql v9 (Value.int IntKind.i64 0) (fun v10 => R v10 s1))) (R (Value.bool false) s1)))) (pLoop (fun l11 K12 s13 => pLen (vget l11 5) (fun v14 => pBin Try.prog 3 BinOp.lss (vget l11 1) v14 (fun v15 => pIf v15 (pIndexAddr 1 (vget l11 5) (vget l11 1) (fun v16 => pLoad w0 1 v16 s13 (fun g17 => AC Try.prog w0 n_spec_l1NameOk [g17 0] s13 (fun v18 s19 => pUn UnOp.not v18 (fun v20 => pIf v20 (K12 AX.ret [Value.bool false, vget l11 1, vget l11 2, vget l11 3, vget l11 4, vget l11 5, vget l11 6] s19) (pBin Try.prog 3 BinOp.gtr (vget l11 1) (Value.int IntKind.i64 0) (fun v21 => pIf v21 (pBin Try.prog 3 BinOp.sub (vget l11 1) (Value.int IntKind.i64 1) (fun v22 => pIndexAddr 1 (vget l11 5) v22 (fun v23 => pLoad w0 1 v23 s19 (fun g24 => pIndexAddr 1 (vget l11 5) (vget l11 1) (fun v25 => pLoad w0 1 v25 s19 (fun g26 => pBin Try.prog 9 BinOp.geq (g24 0) (g26 0) (fun v27 => pIf v27 (K12 AX.ret [Value.bool false, vget l11 1, vget l11 2, vget l11 3, vget l11 4, vget l11 5, vget l11 6] s19) (pBin Try.prog 3 BinOp.add (vget l11 1) (Value.int IntKind.i64 1) (fun v28 => K12 AX.normal [vget l11 0, v28, vget l11 2, vget l11 3, vget l11 4, vget l11 5, vget l11 6] s19))))))))) (pBin Try.prog 3 BinOp.add (vget l11 1) (Value.int IntKind.i64 1) (fun v29 => K12 AX.normal [vget l11 0, v29, vget l11 2, vget l11 3, vget l11 4, vget l11 5, vget l11 6] s19))))))))) (K12 (AX.exit 0) [vget l11 0, vget l11 1, vget l11 2, vget l11 3, vget l11 4, vget l11 5, vget l11 6] s13)))) [Value.bool false, Value.int IntKind.i64 0, cellOf a0 0, cellOf a0 1, cellOf a0 2, cellOf a0 3, cellOf a0 4] s1 (fun x30 l31 s32 => match x30 with | .normal => pBin Try.prog 9 BinOp.eql (vget l31 4) (Value.string ({ data := #[] })) (fun v33 => R v33 s32) | .ret => R (vget l31 0) s32 | .exit i34 => (match Nat.beq i34 0 with | true => pBin Try.prog 9 BinOp.eql (vget l31 4) (Value.string ({ data := #[] })) (fun v35 => R v35 s32) | false => False))))))))))))
theorem vc_spec_l1Plain_eq (w0 : World) (a0 : Value) (σ : Vw) (R : Value → Vw → Prop) : vc_spec_l1Plain w0 a0 σ R = den Try.prog w0 kp_spec_l1Plain esc_spec_l1Plain (Try.f110.body.getD .skip) (entry Try.f110.ntmps [a0]) σ (retK Try.prog Try.f110.results.toList R) := by kernel_rfl
theorem ac_spec_l1Plain {w0 : World} {a0 : Value} {σ : Vw} {R : Value → Vw → Prop} (h : vc_spec_l1Plain w0 a0 σ R) : AC Try.prog w0 n_spec_l1Plain [a0] σ R := by
  refine ac_rule (fn := Try.f110) (c := Try.f110.body.getD .skip) kp_spec_l1Plain esc_spec_l1Plain Try.func110 (by kernel_rfl) (by kernel_rfl) ?_
  rw [← vc_spec_l1Plain_eq]
  exact h

/-- impl.modeOk -/
def kp_impl_modeOk : Nat → Keep
  | _ => ⟨[], [], [], [], []⟩
def esc_impl_modeOk : Nat → Bool
  | _ => false
def vc_impl_modeOk (w0 : World) (a0 : Value) (σ : Vw) (R : Value → Vw → Prop) : Prop :=
  AC Try.prog w0 n_impl_within [a0, Value.int IntKind.i64 0, Value.int IntKind.i64 7] σ (fun v0 s1 => R v0 s1)
theorem vc_impl_modeOk_eq (w0 : World) (a0 : Value) (σ : Vw) (R : Value → Vw → Prop) : vc_impl_modeOk w0 a0 σ R = den Try.prog w0 kp_impl_modeOk esc_impl_modeOk (Try.f111.body.getD .skip) (entry Try.f111.ntmps [a0]) σ (retK Try.prog Try.f111.results.toList R) := by kernel_rfl
theorem ac_impl_modeOk {w0 : World} {a0 : Value} {σ : Vw} {R : Value → Vw → Prop} (h : vc_impl_modeOk w0 a0 σ R) : AC Try.prog w0 n_impl_modeOk [a0] σ R := by
  refine ac_rule (fn := Try.f111) (c := Try.f111.body.getD .skip) kp_impl_modeOk esc_impl_modeOk Try.func111 (by kernel_rfl) (by kernel_rfl) ?_
  rw [← vc_impl_modeOk_eq]
  exact h

/-- spec.l21In -/
def kp_spec_l21In : Nat → Keep
  | _ => ⟨[], [], [], [], []⟩
def esc_spec_l21In : Nat → Bool
  | _ => false
def vc_spec_l21In (w0 : World) (a0 a1 a2 : Value) (σ : Vw) (R : Value → Vw → Prop) : Prop :=
  pBin Try.prog 3 BinOp.geq a0 a1 (fun v0 => pIf v0 (pBin Try.prog 3 BinOp.leq a0 a2 (fun v1 => R v1 σ)) (R (Value.bool false) σ))
theorem vc_spec_l21In_eq (w0 : World) (a0 a1 a2 : Value) (σ : Vw) (R : Value → Vw → Prop) : vc_spec_l21In w0 a0 a1 a2 σ R = den Try.prog w0 kp_spec_l21In esc_spec_l21In (Try.f112.body.getD .skip) (entry Try.f112.ntmps [a0, a1, a2]) σ (retK Try.prog Try.f112.results.toList R) := by kernel_rfl
theorem ac_spec_l21In {w0 : World} {a0 a1 a2 : Value} {σ : Vw} {R : Value → Vw → Prop} (h : vc_spec_l21In w0 a0 a1 a2 σ R) : AC Try.prog w0 n_spec_l21In [a0, a1, a2] σ R := by
  refine ac_rule (fn := Try.f112) (c := Try.f112.body.getD .skip) kp_spec_l21In esc_spec_l21In Try.func112 (by kernel_rfl) (by kernel_rfl) ?_
  rw [← vc_spec_l21In_eq]
  exact h

/-- spec.l2PathOk -/
def kp_spec_l2PathOk : Nat → Keep
  | 2 => ⟨[0, 2, 3], [], [], [], []⟩
  | _ => ⟨[], [], [], [], []⟩
def esc_spec_l2PathOk : Nat → Bool
  | _ => false
def vc_spec_l2PathOk (w0 : World) (a0 : Value) (σ : Vw) (R : Value → Vw → Prop) : Prop :=
  pLoop (fun l0 K1 s2 => pLen (vget l0 0) (fun v3 => pBin Try.prog 3 BinOp.lss (vget l0 2) v3 (fun v4 => pIf v4 (pIndexAddr 1 (vget l0 0) (vget l0 2) (fun v5 => pLoad w0 1 v5 s2 (fun g6 => AC Try.prog w0 n_spec_l1NameOk [g6 0] s2 (fun v7 s8 => pUn UnOp.not v7 (fun v9 => pIf v9 (K1 AX.ret [vget l0 0, Value.bool false, vget l0 2] s8) (pBin Try.prog 3 BinOp.add (vget l0 2) (Value.int IntKind.i64 1) (fun v10 => K1 AX.normal [vget l0 0, vget l0 1, v10] s8))))))) (K1 (AX.exit 0) [vget l0 0, vget l0 1, vget l0 2] s2)))) [a0, Value.bool false, Value.int IntKind.i64 0] σ (fun x11 l12 s13 => match x11 with | .normal => pLen (vget l12 0) (fun v14 => AC Try.prog w0 n_spec_l1In [v14, Value.int IntKind.i64 1, Value.int IntKind.i64 4] s13 (fun v15 s16 => R v15 s16)) | .ret => R (vget l12 1) s13 | .exit i17 => (match Nat.beq i17 0 with | true => pLen (vget l12 0) (fun v18 => AC Try.prog w0 n_spec_l1In [v18, Value.int IntKind.i64 1, Value.int IntKind.i64 4] s13 (fun v19 s20 => R v19 s20)) | false => False))
theorem vc_spec_l2PathOk_eq (w0 : World) (a0 : Value) (σ : Vw) (R : Value → Vw → Prop) : vc_spec_l2PathOk w0 a0 σ R = den Try.prog w0 kp_spec_l2PathOk esc_spec_l2PathOk (Try.f113.body.getD .skip) (entry Try.f113.ntmps [a0]) σ (retK Try.prog Try.f113.results.toList R) := by kernel_rfl
theorem ac_spec_l2PathOk {w0 : World} {a0 : Value} {σ : Vw} {R : Value → Vw → Prop} (h : vc_spec_l2PathOk w0 a0 σ R) : AC Try.prog w0 n_spec_l2PathOk [a0] σ R := by
  refine ac_rule (fn := Try.f113) (c := Try.f113.body.getD .skip) kp_spec_l2PathOk esc_spec_l2PathOk Try.func113 (by kernel_rfl) (by kernel_rfl) ?_
  rw [← vc_spec_l2PathOk_eq]
  exact h

/-- impl.namesOk -/
def kp_impl_namesOk : Nat → Keep
  | 2 => ⟨[0, 1, 4, 7, 8, 9], [], [], [], []⟩
  | _ => ⟨[], [], [], [], []⟩
def esc_impl_namesOk : Nat → Bool
  | _ => false
def vc_impl_namesOk (w0 : World) (a0 a1 : Value) (σ : Vw) (R : Value → Vw → Prop) : Prop :=
  pLen a0 (fun v0 => pLoop (fun l1 K2 s3 => pBin Try.prog 3 BinOp.lss (vget l1 5) (vget l1 4) (fun v4 => pIf v4 (pIndexAddr 1 (vget l1 3) (vget l1 5) (fun v5 => pLoad w0 1 v5 s3 (fun g6 => AC Try.prog w0 n_impl_nameOk [g6 0] s3 (fun v7 s8 => pUn UnOp.not v7 (fun v9 => pIf v9 (K2 AX.ret [vget l1 0, vget l1 1, Value.bool false, vget l1 3, vget l1 4, vget l1 5] s8) (pBin Try.prog 3 BinOp.add (vget l1 5) (Value.int IntKind.i64 1) (fun v10 => K2 AX.normal [vget l1 0, vget l1 1, vget l1 2, vget l1 3, vget l1 4, v10] s8))))))) (K2 (AX.exit 0) [vget l1 0, vget l1 1, vget l1 2, vget l1 3, vget l1 4, vget l1 5] s3))) [a0, a1, Value.bool false, a0, v0, Value.int IntKind.i64 0] σ (fun x11 l12 s13 => match x11 with | .normal => pLen (vget l12 0) (fun v14 => AC Try.prog w0 n_impl_within [v14, vget l12 1, Value.int IntKind.i64 4] s13 (fun v15 s16 => R v15 s16)) | .ret => R (vget l12 2) s13 | .exit i17 => (match Nat.beq i17 0 with | true => pLen (vget l12 0) (fun v18 => AC Try.prog w0 n_impl_within [v18, vget l12 1, Value.int IntKind.i64 4] s13 (fun v19 s20 => R v19 s20)) | false => False)))
theorem vc_impl_namesOk_eq (w0 : World) (a0 a1 : Value) (σ : Vw) (R : Value → Vw → Prop) : vc_impl_namesOk w0 a0 a1 σ R = den Try.prog w0 kp_impl_namesOk esc_impl_namesOk (Try.f114.body.getD .skip) (entry Try.f114.ntmps [a0, a1]) σ (retK Try.prog Try.f114.results.toList R) := by kernel_rfl
theorem ac_impl_namesOk {w0 : World} {a0 a1 : Value} {σ : Vw} {R : Value → Vw → Prop} (h : vc_impl_namesOk w0 a0 a1 σ R) : AC Try.prog w0 n_impl_namesOk [a0, a1] σ R := by
  refine ac_rule (fn := Try.f114) (c := Try.f114.body.getD .skip) kp_impl_namesOk esc_impl_namesOk Try.func114 (by kernel_rfl) (by kernel_rfl) ?_
  rw [← vc_impl_namesOk_eq]
  exact h

/-- cmp.Compare[string] -/
def kp_cmp_Compare_string : Nat → Keep
  | _ => ⟨[], [], [], [], []⟩
def esc_cmp_Compare_string : Nat → Bool
  | _ => false
def vc_cmp_Compare_string (w0 : World) (a0 a1 : Value) (σ : Vw) (R : Value → Vw → Prop) : Prop :=
  AC Try.prog w0 n_cmp_isNaN_string [a0] σ (fun v0 s1 => AC Try.prog w0 n_cmp_isNaN_string [a1] s1 (fun v2 s3 => pIf v0 (pIf v2 (R (Value.int IntKind.i64 0) s3) (R (Value.int IntKind.i64 (-1)) s3)) (pIf v2 (R (Value.int IntKind.i64 1) s3) (pBin Try.prog 9 BinOp.lss a0 a1 (fun v4 => pIf v4 (R (Value.int IntKind.i64 (-1)) s3) (pBin Try.prog 9 BinOp.gtr a0 a1 (fun v5 => pIf v5 (R (Value.int IntKind.i64 1) s3) (R (Value.int IntKind.i64 0) s3))))))))
theorem vc_cmp_Compare_string_eq (w0 : World) (a0 a1 : Value) (σ : Vw) (R : Value → Vw → Prop) : vc_cmp_Compare_string w0 a0 a1 σ R = den Try.prog w0 kp_cmp_Compare_string esc_cmp_Compare_string (Try.f115.body.getD .skip) (entry Try.f115.ntmps [a0, a1]) σ (retK Try.prog Try.f115.results.toList R) := by kernel_rfl
theorem ac_cmp_Compare_string {w0 : World} {a0 a1 : Value} {σ : Vw} {R : Value → Vw → Prop} (h : vc_cmp_Compare_string w0 a0 a1 σ R) : AC Try.prog w0 n_cmp_Compare_string [a0, a1] σ R := by
  refine ac_rule (fn := Try.f115) (c := Try.f115.body.getD .skip) kp_cmp_Compare_string esc_cmp_Compare_string Try.func115 (by kernel_rfl) (by kernel_rfl) ?_
  rw [← vc_cmp_Compare_string_eq]
  exact h

/-- impl.begins -/
def kp_impl_begins : Nat → Keep
  | 4 => ⟨[0, 1, 4, 12, 13], [], [], [], []⟩
  | 6 => ⟨[], [], [], [0, 1, 2, 3, 4, 5, 6, 7, 8], [(2, [0, 1]), (3, [0, 1, 2]), (6, [4, 5]), (7, [4, 5, 6]), (8, [0, 1, 2, 3, 4, 5, 6, 7])]⟩
  | _ => ⟨[], [], [], [], []⟩
def esc_impl_begins : Nat → Bool
  | _ => false
def vc_impl_begins (w0 : World) (a0 a1 : Value) (σ : Vw) (R : Value → Vw → Prop) : Prop :=
  pLen a0 (fun v0 => pLen a1 (fun v1 => pBin Try.prog 3 BinOp.lss v0 v1 (fun v2 => pIf v2 (R (Value.bool false) σ) (pLen a1 (fun v3 => pLoop (fun l4 K5 s6 => pBin Try.prog 3 BinOp.lss (vget l4 4) (vget l4 3) (fun v7 => pIf v7 (pIndexAddr 1 (vget l4 0) (vget l4 4) (fun v8 => pLoad w0 1 v8 s6 (fun g9 => pIndexAddr 1 (vget l4 1) (vget l4 4) (fun v10 => pLoad w0 1 v10 s6 (fun g11 => pBin Try.prog 9 BinOp.neq (g9 0) (g11 0) (fun v12 => pIf v12 (K5 AX.ret [vget l4 0, vget l4 1, Value.bool false, vget l4 3, vget l4 4] s6) (pBin Try.prog 3 BinOp.add (vget l4 4) (Value.int IntKind.i64 1) (fun v13 => K5 AX.normal [vget l4 0, vget l4 1, vget l4 2, vget l4 3, v13] s6)))))))) (K5 (AX.exit 0) [vget l4 0, vget l4 1, vget l4 2, vget l4 3, vget l4 4] s6))) [a0, a1, Value.bool false, v3, Value.int IntKind.i64 0] σ (fun x14 l15 s16 => match x14 with | .normal => R (Value.bool true) s16 | .ret => R (vget l15 2) s16 | .exit i17 => (match Nat.beq i17 0 with | true => R (Value.bool true) s16 | false => False)))))))
theorem vc_impl_begins_eq (w0 : World) (a0 a1 : Value) (σ : Vw) (R : Value → Vw → Prop) : vc_impl_begins w0 a0 a1 σ R = den Try.prog w0 kp_impl_begins esc_impl_begins (Try.f116.body.getD .skip) (entry Try.f116.ntmps [a0, a1]) σ (retK Try.prog Try.f116.results.toList R) := by kernel_rfl
theorem ac_impl_begins {w0 : World} {a0 a1 : Value} {σ : Vw} {R : Value → Vw → Prop} (h : vc_impl_begins w0 a0 a1 σ R) : AC Try.prog w0 n_impl_begins [a0, a1] σ R := by
  refine ac_rule (fn := Try.f116) (c := Try.f116.body.getD .skip) kp_impl_begins esc_impl_begins Try.func116 (by kernel_rfl) (by kernel_rfl) ?_
  rw [← vc_impl_begins_eq]
  exact h

/-- laws.szPage -/
def kp_laws_szPage : Nat → Keep
  | _ => ⟨[], [], [], [], []⟩
def esc_laws_szPage : Nat → Bool
  | _ => false
def vc_laws_szPage (w0 : World) (a0 a1 : Value) (σ : Vw) (R : Value → Vw → Prop) : Prop :=
  pVal true 3 a0 (pLenS (cellOf a0 1) (fun v0 => pBin Try.prog 3 BinOp.sub a1 v0 (fun v1 => pBin Try.prog 3 BinOp.lss v1 (Value.int IntKind.i64 0) (fun v2 => pIf v2 (R (Value.int IntKind.i64 (-1)) σ) (R v1 σ)))))
theorem vc_laws_szPage_eq (w0 : World) (a0 a1 : Value) (σ : Vw) (R : Value → Vw → Prop) : vc_laws_szPage w0 a0 a1 σ R = den Try.prog w0 kp_laws_szPage esc_laws_szPage (Try.f117.body.getD .skip) (entry Try.f117.ntmps [a0, a1]) σ (retK Try.prog Try.f117.results.toList R) := by kernel_rfl
theorem ac_laws_szPage {w0 : World} {a0 a1 : Value} {σ : Vw} {R : Value → Vw → Prop} (h : vc_laws_szPage w0 a0 a1 σ R) : AC Try.prog w0 n_laws_szPage [a0, a1] σ R := by
  refine ac_rule (fn := Try.f117) (c := Try.f117.body.getD .skip) kp_laws_szPage esc_laws_szPage Try.func117 (by kernel_rfl) (by kernel_rfl) ?_
  rw [← vc_laws_szPage_eq]
  exact h

/-- laws.szPageName -/
def kp_laws_szPageName : Nat → Keep
  | _ => ⟨[], [], [], [], []⟩
def esc_laws_szPageName : Nat → Bool
  | _ => false
def vc_laws_szPageName (w0 : World) (a0 a1 : Value) (σ : Vw) (R : Value → Vw → Prop) : Prop :=
  pVal true 3 a0 (pLenS (cellOf a0 0) (fun v0 => pBin Try.prog 3 BinOp.sub a1 v0 (fun v1 => pBin Try.prog 3 BinOp.lss v1 (Value.int IntKind.i64 0) (fun v2 => pIf v2 (R (Value.int IntKind.i64 (-1)) σ) (R v1 σ)))))
theorem vc_laws_szPageName_eq (w0 : World) (a0 a1 : Value) (σ : Vw) (R : Value → Vw → Prop) : vc_laws_szPageName w0 a0 a1 σ R = den Try.prog w0 kp_laws_szPageName esc_laws_szPageName (Try.f118.body.getD .skip) (entry Try.f118.ntmps [a0, a1]) σ (retK Try.prog Try.f118.results.toList R) := by kernel_rfl
theorem ac_laws_szPageName {w0 : World} {a0 a1 : Value} {σ : Vw} {R : Value → Vw → Prop} (h : vc_laws_szPageName w0 a0 a1 σ R) : AC Try.prog w0 n_laws_szPageName [a0, a1] σ R := by
  refine ac_rule (fn := Try.f118) (c := Try.f118.body.getD .skip) kp_laws_szPageName esc_laws_szPageName Try.func118 (by kernel_rfl) (by kernel_rfl) ?_
  rw [← vc_laws_szPageName_eq]
  exact h

/-- laws.toPage -/
def kp_laws_toPage : Nat → Keep
  | _ => ⟨[], [], [], [], []⟩
def esc_laws_toPage : Nat → Bool
  | _ => false
def vc_laws_toPage (w0 : World) (a0 : Value) (σ : Vw) (R : Value → Vw → Prop) : Prop :=
  pVal true 3 a0 (pVal false 1 (cellOf a0 0) (pVal false 1 (cellOf a0 1) (pVal false 1 (cellOf a0 2) (pVal true 3 (Value.agg (⟨[cellOf a0 0, cellOf a0 1, cellOf a0 2]⟩)) (R (Value.agg (⟨[cellOf a0 0, cellOf a0 1, cellOf a0 2]⟩)) σ)))))
theorem vc_laws_toPage_eq (w0 : World) (a0 : Value) (σ : Vw) (R : Value → Vw → Prop) : vc_laws_toPage w0 a0 σ R = den Try.prog w0 kp_laws_toPage esc_laws_toPage (Try.f119.body.getD .skip) (entry Try.f119.ntmps [a0]) σ (retK Try.prog Try.f119.results.toList R) := by kernel_rfl
theorem ac_laws_toPage {w0 : World} {a0 : Value} {σ : Vw} {R : Value → Vw → Prop} (h : vc_laws_toPage w0 a0 σ R) : AC Try.prog w0 n_laws_toPage [a0] σ R := by
  refine ac_rule (fn := Try.f119) (c := Try.f119.body.getD .skip) kp_laws_toPage esc_laws_toPage Try.func119 (by kernel_rfl) (by kernel_rfl) ?_
  rw [← vc_laws_toPage_eq]
  exact h

/-- laws.toPageName -/
def kp_laws_toPageName : Nat → Keep
  | _ => ⟨[], [], [], [], []⟩
def esc_laws_toPageName : Nat → Bool
  | _ => false
def vc_laws_toPageName (w0 : World) (a0 : Value) (σ : Vw) (R : Value → Vw → Prop) : Prop :=
  pVal true 3 a0 (pVal false 1 (cellOf a0 0) (pVal false 1 (cellOf a0 1) (pVal false 1 (cellOf a0 2) (pVal true 3 (Value.agg (⟨[cellOf a0 0, cellOf a0 1, cellOf a0 2]⟩)) (R (Value.agg (⟨[cellOf a0 0, cellOf a0 1, cellOf a0 2]⟩)) σ)))))
theorem vc_laws_toPageName_eq (w0 : World) (a0 : Value) (σ : Vw) (R : Value → Vw → Prop) : vc_laws_toPageName w0 a0 σ R = den Try.prog w0 kp_laws_toPageName esc_laws_toPageName (Try.f120.body.getD .skip) (entry Try.f120.ntmps [a0]) σ (retK Try.prog Try.f120.results.toList R) := by kernel_rfl
theorem ac_laws_toPageName {w0 : World} {a0 : Value} {σ : Vw} {R : Value → Vw → Prop} (h : vc_laws_toPageName w0 a0 σ R) : AC Try.prog w0 n_laws_toPageName [a0] σ R := by
  refine ac_rule (fn := Try.f120) (c := Try.f120.body.getD .skip) kp_laws_toPageName esc_laws_toPageName Try.func120 (by kernel_rfl) (by kernel_rfl) ?_
  rw [← vc_laws_toPageName_eq]
  exact h

/-- slices.Contains[[]int,int] -/
def kp_slices_Contains_int_int : Nat → Keep
  | _ => ⟨[], [], [], [], []⟩
def esc_slices_Contains_int_int : Nat → Bool
  | _ => false
def vc_slices_Contains_int_int (w0 : World) (a0 a1 : Value) (σ : Vw) (R : Value → Vw → Prop) : Prop :=
  AC Try.prog w0 n_slices_Index_int_int [a0, a1] σ (fun v0 s1 => pBin Try.prog 3 BinOp.geq v0 (Value.int IntKind.i64 0) (fun v2 => R v2 s1))
theorem vc_slices_Contains_int_int_eq (w0 : World) (a0 a1 : Value) (σ : Vw) (R : Value → Vw → Prop) : vc_slices_Contains_int_int w0 a0 a1 σ R = den Try.prog w0 kp_slices_Contains_int_int esc_slices_Contains_int_int (Try.f121.body.getD .skip) (entry Try.f121.ntmps [a0, a1]) σ (retK Try.prog Try.f121.results.toList R) := by kernel_rfl
theorem ac_slices_Contains_int_int {w0 : World} {a0 a1 : Value} {σ : Vw} {R : Value → Vw → Prop} (h : vc_slices_Contains_int_int w0 a0 a1 σ R) : AC Try.prog w0 n_slices_Contains_int_int [a0, a1] σ R := by
  refine ac_rule (fn := Try.f121) (c := Try.f121.body.getD .skip) kp_slices_Contains_int_int esc_slices_Contains_int_int Try.func121 (by kernel_rfl) (by kernel_rfl) ?_
  rw [← vc_slices_Contains_int_int_eq]
  exact h

/-- spec.l1Find -/
def kp_spec_l1Find : Nat → Keep
  | 2 => ⟨[1, 4, 5], [(2, 5)], [2], [], []⟩
  | _ => ⟨[], [], [], [], []⟩
def esc_spec_l1Find : Nat → Bool
  | _ => false
def vc_spec_l1Find (w0 : World) (a0 a1 : Value) (σ : Vw) (R : Value → Vw → Prop) : Prop :=
  pVal true 5 a0 (pLoop (fun l0 K1 s2 => pLen (vget l0 6) (fun v3 => pBin Try.prog 3 BinOp.lss (vget l0 2) v3 (fun v4 => pIf v4 (pIndexAddr 1 (vget l0 6) (vget l0 2) (fun v5 => pLoad w0 1 v5 s2 (fun g6 => pBin Try.prog 9 BinOp.eql (g6 0) (vget l0 0) (fun v7 => pIf v7 (K1 AX.ret [vget l0 0, vget l0 2, vget l0 2, vget l0 3, vget l0 4, vget l0 5, vget l0 6, vget l0 7] s2) (pBin Try.prog 3 BinOp.add (vget l0 2) (Value.int IntKind.i64 1) (fun v8 => K1 AX.normal [vget l0 0, vget l0 1, v8, vget l0 3, vget l0 4, vget l0 5, vget l0 6, vget l0 7] s2)))))) (K1 (AX.exit 0) [vget l0 0, vget l0 1, vget l0 2, vget l0 3, vget l0 4, vget l0 5, vget l0 6, vget l0 7] s2)))) [a1, Value.int IntKind.i64 0, Value.int IntKind.i64 0, cellOf a0 0, cellOf a0 1, cellOf a0 2, cellOf a0 3, cellOf a0 4] σ (fun x9 l10 s11 => match x9 with | .normal => R (Value.int IntKind.i64 (-1)) s11 | .ret => R (vget l10 1) s11 | .exit i12 => (match Nat.beq i12 0 with | true => R (Value.int IntKind.i64 (-1)) s11 | false => False)))
theorem vc_spec_l1Find_eq (w0 : World) (a0 a1 : Value) (σ : Vw) (R : Value → Vw → Prop) : vc_spec_l1Find w0 a0 a1 σ R = den Try.prog w0 kp_spec_l1Find esc_spec_l1Find (Try.f122.body.getD .skip) (entry Try.f122.ntmps [a0, a1]) σ (retK Try.prog Try.f122.results.toList R) := by kernel_rfl
theorem ac_spec_l1Find {w0 : World} {a0 a1 : Value} {σ : Vw} {R : Value → Vw → Prop} (h : vc_spec_l1Find w0 a0 a1 σ R) : AC Try.prog w0 n_spec_l1Find [a0, a1] σ R := by
  refine ac_rule (fn := Try.f122) (c := Try.f122.body.getD .skip) kp_spec_l1Find esc_spec_l1Find Try.func122 (by kernel_rfl) (by kernel_rfl) ?_
  rw [← vc_spec_l1Find_eq]
  exact h

/-- (*impl.Tree).kid -/
def kp_p_impl_Tree_kid : Nat → Keep
  | _ => ⟨[], [], [], [], []⟩
def esc_p_impl_Tree_kid : Nat → Bool
  | _ => false
def vc_p_impl_Tree_kid (w0 : World) (a0 a1 : Value) (σ : Vw) (R : Value → Vw → Prop) : Prop :=
  pNil a0 (pField 3 a0 (fun v0 => pLoad w0 1 v0 σ (fun g1 => AC Try.prog w0 n_slices_Index_string_string [g1 0, a1] σ (fun v2 s3 => pBin Try.prog 3 BinOp.lss v2 (Value.int IntKind.i64 0) (fun v4 => pIf v4 (R (Value.pointer Option.none) s3) (pNil a0 (pField 4 a0 (fun v5 => pLoad w0 1 v5 s3 (fun g6 => pLen (g6 0) (fun v7 => pBin Try.prog 3 BinOp.geq v2 v7 (fun v8 => pIf v8 (R (Value.pointer Option.none) s3) (pNil a0 (pField 4 a0 (fun v9 => pLoad w0 1 v9 s3 (fun g10 => pIndexAddr 5 (g10 0) v2 (fun v11 => R v11 s3))))))))))))))))
theorem vc_p_impl_Tree_kid_eq (w0 : World) (a0 a1 : Value) (σ : Vw) (R : Value → Vw → Prop) : vc_p_impl_Tree_kid w0 a0 a1 σ R = den Try.prog w0 kp_p_impl_Tree_kid esc_p_impl_Tree_kid (Try.f123.body.getD .skip) (entry Try.f123.ntmps [a0, a1]) σ (retK Try.prog Try.f123.results.toList R) := by kernel_rfl
theorem ac_p_impl_Tree_kid {w0 : World} {a0 a1 : Value} {σ : Vw} {R : Value → Vw → Prop} (h : vc_p_impl_Tree_kid w0 a0 a1 σ R) : AC Try.prog w0 n_p_impl_Tree_kid [a0, a1] σ R := by
  refine ac_rule (fn := Try.f123) (c := Try.f123.body.getD .skip) kp_p_impl_Tree_kid esc_p_impl_Tree_kid Try.func123 (by kernel_rfl) (by kernel_rfl) ?_
  rw [← vc_p_impl_Tree_kid_eq]
  exact h

/-- cmp.isNaN[string] -/
def kp_cmp_isNaN_string : Nat → Keep
  | _ => ⟨[], [], [], [], []⟩
def esc_cmp_isNaN_string : Nat → Bool
  | _ => false
def vc_cmp_isNaN_string (w0 : World) (a0 : Value) (σ : Vw) (R : Value → Vw → Prop) : Prop :=
  pBin Try.prog 9 BinOp.neq a0 a0 (fun v0 => R v0 σ)
theorem vc_cmp_isNaN_string_eq (w0 : World) (a0 : Value) (σ : Vw) (R : Value → Vw → Prop) : vc_cmp_isNaN_string w0 a0 σ R = den Try.prog w0 kp_cmp_isNaN_string esc_cmp_isNaN_string (Try.f124.body.getD .skip) (entry Try.f124.ntmps [a0]) σ (retK Try.prog Try.f124.results.toList R) := by kernel_rfl
theorem ac_cmp_isNaN_string {w0 : World} {a0 : Value} {σ : Vw} {R : Value → Vw → Prop} (h : vc_cmp_isNaN_string w0 a0 σ R) : AC Try.prog w0 n_cmp_isNaN_string [a0] σ R := by
  refine ac_rule (fn := Try.f124) (c := Try.f124.body.getD .skip) kp_cmp_isNaN_string esc_cmp_isNaN_string Try.func124 (by kernel_rfl) (by kernel_rfl) ?_
  rw [← vc_cmp_isNaN_string_eq]
  exact h

/-- slices.Index[[]int,int] -/
def kp_slices_Index_int_int : Nat → Keep
  | 2 => ⟨[0, 1, 4, 7, 8], [], [], [], []⟩
  | _ => ⟨[], [], [], [], []⟩
def esc_slices_Index_int_int : Nat → Bool
  | _ => false
def vc_slices_Index_int_int (w0 : World) (a0 a1 : Value) (σ : Vw) (R : Value → Vw → Prop) : Prop :=
  pLen a0 (fun v0 => pLoop (fun l1 K2 s3 => pBin Try.prog 3 BinOp.lss (vget l1 4) (vget l1 3) (fun v4 => pIf v4 (pIndexAddr 1 (vget l1 0) (vget l1 4) (fun v5 => pLoad w0 1 v5 s3 (fun g6 => pBin Try.prog 3 BinOp.eql (vget l1 1) (g6 0) (fun v7 => pIf v7 (K2 AX.ret [vget l1 0, vget l1 1, vget l1 4, vget l1 3, vget l1 4] s3) (pBin Try.prog 3 BinOp.add (vget l1 4) (Value.int IntKind.i64 1) (fun v8 => K2 AX.normal [vget l1 0, vget l1 1, vget l1 2, vget l1 3, v8] s3)))))) (K2 (AX.exit 0) [vget l1 0, vget l1 1, vget l1 2, vget l1 3, vget l1 4] s3))) [a0, a1, Value.int IntKind.i64 0, v0, Value.int IntKind.i64 0] σ (fun x9 l10 s11 => match x9 with | .normal => R (Value.int IntKind.i64 (-1)) s11 | .ret => R (vget l10 2) s11 | .exit i12 => (match Nat.beq i12 0 with | true => R (Value.int IntKind.i64 (-1)) s11 | false => False)))
theorem vc_slices_Index_int_int_eq (w0 : World) (a0 a1 : Value) (σ : Vw) (R : Value → Vw → Prop) : vc_slices_Index_int_int w0 a0 a1 σ R = den Try.prog w0 kp_slices_Index_int_int esc_slices_Index_int_int (Try.f125.body.getD .skip) (entry Try.f125.ntmps [a0, a1]) σ (retK Try.prog Try.f125.results.toList R) := by kernel_rfl
theorem ac_slices_Index_int_int {w0 : World} {a0 a1 : Value} {σ : Vw} {R : Value → Vw → Prop} (h : vc_slices_Index_int_int w0 a0 a1 σ R) : AC Try.prog w0 n_slices_Index_int_int [a0, a1] σ R := by
  refine ac_rule (fn := Try.f125) (c := Try.f125.body.getD .skip) kp_slices_Index_int_int esc_slices_Index_int_int Try.func125 (by kernel_rfl) (by kernel_rfl) ?_
  rw [← vc_slices_Index_int_int_eq]
  exact h

/-- slices.Index[[]string,string] -/
def kp_slices_Index_string_string : Nat → Keep
  | 2 => ⟨[0, 1, 4, 7, 8], [], [], [], []⟩
  | _ => ⟨[], [], [], [], []⟩
def esc_slices_Index_string_string : Nat → Bool
  | _ => false
def vc_slices_Index_string_string (w0 : World) (a0 a1 : Value) (σ : Vw) (R : Value → Vw → Prop) : Prop :=
  pLen a0 (fun v0 => pLoop (fun l1 K2 s3 => pBin Try.prog 3 BinOp.lss (vget l1 4) (vget l1 3) (fun v4 => pIf v4 (pIndexAddr 1 (vget l1 0) (vget l1 4) (fun v5 => pLoad w0 1 v5 s3 (fun g6 => pBin Try.prog 9 BinOp.eql (vget l1 1) (g6 0) (fun v7 => pIf v7 (K2 AX.ret [vget l1 0, vget l1 1, vget l1 4, vget l1 3, vget l1 4] s3) (pBin Try.prog 3 BinOp.add (vget l1 4) (Value.int IntKind.i64 1) (fun v8 => K2 AX.normal [vget l1 0, vget l1 1, vget l1 2, vget l1 3, v8] s3)))))) (K2 (AX.exit 0) [vget l1 0, vget l1 1, vget l1 2, vget l1 3, vget l1 4] s3))) [a0, a1, Value.int IntKind.i64 0, v0, Value.int IntKind.i64 0] σ (fun x9 l10 s11 => match x9 with | .normal => R (Value.int IntKind.i64 (-1)) s11 | .ret => R (vget l10 2) s11 | .exit i12 => (match Nat.beq i12 0 with | true => R (Value.int IntKind.i64 (-1)) s11 | false => False)))
theorem vc_slices_Index_string_string_eq (w0 : World) (a0 a1 : Value) (σ : Vw) (R : Value → Vw → Prop) : vc_slices_Index_string_string w0 a0 a1 σ R = den Try.prog w0 kp_slices_Index_string_string esc_slices_Index_string_string (Try.f126.body.getD .skip) (entry Try.f126.ntmps [a0, a1]) σ (retK Try.prog Try.f126.results.toList R) := by kernel_rfl
theorem ac_slices_Index_string_string {w0 : World} {a0 a1 : Value} {σ : Vw} {R : Value → Vw → Prop} (h : vc_slices_Index_string_string w0 a0 a1 σ R) : AC Try.prog w0 n_slices_Index_string_string [a0, a1] σ R := by
  refine ac_rule (fn := Try.f126) (c := Try.f126.body.getD .skip) kp_slices_Index_string_string esc_slices_Index_string_string Try.func126 (by kernel_rfl) (by kernel_rfl) ?_
  rw [← vc_slices_Index_string_string_eq]
  exact h

end Go.Proofs.Ytpplljcblgnnhaa

