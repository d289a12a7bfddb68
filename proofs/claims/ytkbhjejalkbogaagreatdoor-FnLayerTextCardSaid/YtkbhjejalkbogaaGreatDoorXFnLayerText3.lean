/- The law FnLayerText holds: it returns true, and the input reads as it did. No condition. This is part 3 of 5 of its proof. -/
import Derived.Test.YtkbhjejalkbogaaGreatDoorXFnLayerText2
import Derived.Shelf.Strings.Builder1
import Derived.Shelf.Strings.Builder2
import Derived.Shelf.Strings.OnBuilder
import Derived.Shelf.Small.Bits
import Derived.Shelf.Strings.BuilderF
import Derived.Shelf.Strings.BuilderK
import Derived.Shelf.Utf8.RuneCount
import Derived.Shelf.Strings.Builder2Cap
import Derived.Shelf.Strconv.Atoi
import Derived.Shelf.Strconv.Itoa0
import Derived.Shelf.Strconv.Itoa1
import Derived.Shelf.LaysM
import Derived.Shelf.Strconv.Itoa2
import Derived.Shelf.Strconv.Itoa3
import Derived.Shelf.Strconv.AtoiErrFast
import Derived.Shelf.Strconv.ParseIntEmpty
import Derived.Shelf.Strconv.AtoiFail
import Derived.Shelf.Strconv.Clone
import Derived.Shelf.Strconv.SyntaxError
import Derived.Shelf.LaysC
import Derived.Shelf.Strconv.ToError
import Derived.Shelf.Strconv.Lower
import Derived.Shelf.Strconv.ParseUint10
import Derived.Shelf.Strconv.ParseUint10Empty
import Derived.Shelf.Strconv.ParseUint10Any
import Derived.Shelf.Strconv.ParseInt10
import Derived.Shelf.Strconv.AtoiLong
import Derived.Shelf.Strconv.AtoiInnerAll
import Derived.Shelf.Strconv.RangeError
import Derived.Shelf.Strconv.ToErrorRange
import Derived.Shelf.Strconv.AtoiAll
import Derived.Shelf.Strconv.ErrVarAll
import Derived.Shelf.Strconv.ParseUintEmpty
import Derived.Shelf.Strconv.ParseUint10b64
import Derived.Shelf.Strconv.ParseUint10b32
import Derived.Shelf.Strconv.ParseUint10b16
import Derived.Shelf.Strconv.ParseUint10b8
import Derived.Shelf.Strings.Search1
import Derived.Shelf.Strings.Search2
import Derived.Shelf.Strings.Search3
import Derived.Shelf.Strings.Cut
import Derived.Shelf.Strings.Count
import Derived.Shelf.Strings.Shaped
import Derived.Shelf.Sort.Plain
import Derived.Shelf.Strings.Prefix
import Derived.Shelf.Strings.Split
import Derived.Shelf.Strings.SplitShaped
import Derived.Shelf.Unicode.Decode
import Derived.Shelf.Strings.RuneCount
import Derived.Shelf.Strings.Explode
import Derived.Shelf.Unicode.DecodeSlow
import Derived.Shelf.Unicode.DecodeAny
import Derived.Shelf.Slices.Turned
import Derived.Shelf.Slices.Equal
import Derived.Shelf.Slices.CompactS
import Derived.Shelf.Slices.Cells
import Derived.Shelf.Slices.In.SortNone
import Derived.Shelf.Slices.Empties2
import Derived.Test.YtkbhjejalkbogaaGreatDoorProg
import Derived.Lib.AppendIntMem
import Derived.Lib.Join

/- What each function owes, reckoned out, part 4. MADE BY PROGRAM (emit.py). -/
set_option linter.unusedVariables false
namespace Go.Proofs.YtkbhjejalkbogaaGreatDoor
open Go.Av renaming vget → G, cellOf → C, pVal → V, pBin → B, pIndexAddr → X, pLoad → L, pField → F, pIf → Q, pExtract → E, pAppend → A, pLen → N, pNew → W
open Go.Proofs.Tryz renaming prog → P
open Go Go.Av

/-- spec.l3Walk -/
def kp_spec_l3Walk : Nat → Keep
  | 2 => ⟨[], [], [], .step 0 (.step 2 (.step 3 (.step 1 (.step 4 (.step 5 (.step 6 (.done))))))), [(1, [0]), (4, [0, 1, 2, 3]), (5, [0, 1, 2, 3, 4]), (6, [0, 1, 2, 3, 4, 5])]⟩
  | 6 => ⟨[0, 7, 8, 9], [(4, 5), (5, 5)], [4, 5], .done, []⟩
  | 7 => ⟨[], [], [], .step 0 (.step 1 (.step 2 (.step 3 (.step 4 (.step 5 (.step 6 (.step 8 (.step 9 (.step 10 (.step 11 (.step 12 (.step 13 (.step 14 (.step 15 (.step 16 (.step 17 (.step 7 (.step 18 (.step 19 (.step 20 (.done))))))))))))))))))))), [(3, [2]), (5, [2, 3, 4]), (6, [2, 3, 4, 5]), (7, [1, 2, 3, 4, 5, 6]), (9, [8]), (11, [8, 9, 10]), (12, [8, 9, 10, 11]), (14, [13]), (16, [13, 14, 15]), (17, [13, 14, 15, 16]), (18, [1, 2, 3, 4, 5, 6, 7, 8, 9, 10, 11, 12, 13, 14, 15, 16, 17]), (19, [0, 1, 2, 3, 4, 5, 6, 7, 8, 9, 10, 11, 12, 13, 14, 15, 16, 17, 18]), (20, [0, 1, 2, 3, 4, 5, 6, 7, 8, 9, 10, 11, 12, 13, 14, 15, 16, 17, 18, 19])]⟩
  | 10 => ⟨[], [], [], .step 0 (.step 1 (.step 2 (.step 3 (.step 4 (.step 5 (.step 6 (.step 7 (.step 8 (.step 9 (.step 10 (.step 11 (.step 12 (.step 13 (.step 14 (.step 15 (.step 16 (.step 17 (.step 18 (.step 19 (.step 20 (.step 21 (.step 22 (.step 23 (.step 24 (.step 25 (.done)))))))))))))))))))))))))), [(2, [1]), (3, [1, 2]), (4, [0, 1, 2, 3]), (5, [0, 1, 2, 3, 4]), (6, [0, 1, 2, 3, 4, 5]), (7, [0, 1, 2, 3, 4, 5]), (8, [0, 1, 2, 3, 4, 5, 7]), (9, [0, 1, 2, 3, 4, 5, 7, 8]), (10, [0, 1, 2, 3, 4, 5, 6, 7, 8, 9]), (11, [0, 1, 2, 3, 4, 5, 6, 7, 8, 9, 10]), (12, [0, 1, 2, 3, 4, 5, 6, 7, 8, 9, 10, 11]), (13, [0, 1, 2, 3, 4, 5, 6, 7, 8, 9, 10, 11, 12]), (14, [0, 1, 2, 3, 4, 5, 6, 7, 8, 9, 10, 11]), (15, [0, 1, 2, 3, 4, 5, 6, 7, 8, 9, 10, 11, 12, 13, 14]), (16, [0, 1, 2, 3, 4, 5, 6, 7, 8, 9, 10, 11, 12, 13, 14, 15]), (17, [0, 1, 2, 3, 4, 5, 6, 7, 8, 9, 10, 11]), (18, [0, 1, 2, 3, 4, 5, 6, 7, 8, 9, 10, 11, 17]), (19, [0, 1, 2, 3, 4, 5, 6, 7, 8, 9, 10, 11]), (20, [0, 1, 2, 3, 4, 5, 6, 7, 8, 9, 10, 11, 17, 18, 19]), (21, [0, 1, 2, 3, 4, 5, 6, 7, 8, 9, 10, 11, 17, 18, 19, 20]), (22, [0, 1, 2, 3, 4, 5, 6, 7, 8, 9, 10, 11, 12, 13, 14, 15, 16, 17, 18, 19, 20, 21]), (23, [0, 1, 2, 3, 4, 5, 6, 7, 8, 9, 10, 11, 12, 13, 14, 15, 16, 17, 18, 19, 20, 21, 22]), (24, [0, 1, 2, 3, 4, 5, 6, 7, 8, 9, 10, 11, 12, 13, 14, 15, 16, 17, 18, 19, 20, 21, 22, 23]), (25, [0, 1, 2, 3, 4, 5, 6, 7, 8, 9, 10, 11, 12, 13, 14, 15, 16, 17, 18, 19, 20, 21, 22, 23, 24])]⟩
  | 13 => ⟨[], [], [], .step 0 (.step 1 (.step 2 (.step 3 (.step 4 (.step 5 (.step 6 (.step 7 (.step 8 (.step 9 (.step 10 (.step 11 (.step 12 (.step 13 (.step 14 (.step 15 (.step 16 (.step 17 (.step 18 (.done))))))))))))))))))), [(2, [1]), (3, [1, 2]), (4, [0, 1, 2, 3]), (5, [0, 1, 2, 3, 4]), (6, [0, 1, 2, 3, 4, 5]), (7, [0, 1, 2, 3, 4, 5, 6]), (8, [0, 1, 2, 3, 4, 5]), (9, [0, 1, 2, 3, 4, 5, 6, 7, 8]), (10, [0, 1, 2, 3, 4, 5, 6, 7, 8, 9]), (11, [0, 1, 2, 3, 4, 5]), (12, [0, 1, 2, 3, 4, 5, 11]), (13, [0, 1, 2, 3, 4, 5]), (14, [0, 1, 2, 3, 4, 5, 11, 12, 13]), (15, [0, 1, 2, 3, 4, 5, 11, 12, 13, 14]), (16, [0, 1, 2, 3, 4, 5, 6, 7, 8, 9, 10, 11, 12, 13, 14, 15]), (17, [0, 1, 2, 3, 4, 5, 6, 7, 8, 9, 10, 11, 12, 13, 14, 15, 16]), (18, [0, 1, 2, 3, 4, 5, 6, 7, 8, 9, 10, 11, 12, 13, 14, 15, 16, 17])]⟩
  | 14 => ⟨[], [], [], .step 0 (.step 1 (.step 2 (.step 3 (.step 4 (.step 5 (.step 6 (.step 8 (.step 9 (.step 10 (.step 11 (.step 12 (.step 7 (.step 13 (.step 14 (.step 15 (.done)))))))))))))))), [(3, [2]), (5, [2, 3, 4]), (6, [2, 3, 4, 5]), (7, [1, 2, 3, 4, 5, 6]), (9, [8]), (11, [8, 9, 10]), (12, [8, 9, 10, 11]), (13, [1, 2, 3, 4, 5, 6, 7, 8, 9, 10, 11, 12]), (14, [0, 1, 2, 3, 4, 5, 6, 7, 8, 9, 10, 11, 12, 13]), (15, [0, 1, 2, 3, 4, 5, 6, 7, 8, 9, 10, 11, 12, 13, 14])]⟩
  | _ => ⟨[], [], [], .done, []⟩
def esc_spec_l3Walk : Nat → Bool
  | _ => false
def cs_spec_l3Walk_3 (w0 : World) (l900 : List Value) (s901 : Vw) (K902 : AX → List Value → Vw → Prop) (R : Value → Vw → Prop) : Prop :=
  X 1 (G l900 12) (G l900 3) (fun v500 => L w0 1 v500 s901 fun g501 => X 5 (G l900 13) (G l900 3) fun v502 => L w0 5 v502 s901 fun g503 => AC P w0 n_spec_l3Path [G l900 0, g501 0] s901 fun v504 s505 => (Stay w0 s901 s505 v502 5) ∧ (AC P w0 n_spec_l3New ([v504, .agg (⟨[g503 0, g503 1, g503 2, g503 3, g503 4]⟩)]) s505 fun v506 s507 => pAppendS w0 55 5 64 (G l900 1) v506 s507 fun v508 s509 => B P 3 .add (G l900 3) (.int .i64 1) fun v510 => K902 .normal [G l900 0, v508, G l900 2, v510, G l900 4, G l900 5, G l900 6, G l900 7, G l900 8, G l900 9, G l900 10, G l900 11, G l900 12, G l900 13] s509))
def cs_spec_l3Walk_1 (w0 : World) (l900 : List Value) (s901 : Vw) (K902 : AX → List Value → Vw → Prop) (R : Value → Vw → Prop) : Prop :=
  N (G l900 7) (fun v500 => B P 3 .geq (G l900 2) v500 fun v501 => Q v501 (cs_spec_l3Walk_3 w0 l900 s901 K902 R) (X 1 (G l900 12) (G l900 3) fun v513 => L w0 1 v513 s901 fun g514 => X 1 (G l900 7) (G l900 2) fun v515 => L w0 1 v515 s901 fun g516 => B P 9 .lss (g514 0) (g516 0) fun v517 => Q v517 (cs_spec_l3Walk_3 w0 l900 s901 K902 R) (X 1 (G l900 7) (G l900 2) fun v529 => L w0 1 v529 s901 fun g530 => X 5 (G l900 8) (G l900 2) fun v531 => L w0 5 v531 s901 fun g532 => X 5 (G l900 13) (G l900 3) fun v533 => L w0 5 v533 s901 fun g534 => AC P w0 n_spec_l3Path [G l900 0, g530 0] s901 fun v535 s536 => (Stay w0 s901 s536 v533 5) ∧ ((Stay w0 s901 s536 v531 5) ∧ (AC P w0 n_spec_l3Walk ([v535, .agg (⟨[g532 0, g532 1, g532 2, g532 3, g532 4]⟩), .agg (⟨[g534 0, g534 1, g534 2, g534 3, g534 4]⟩)]) s536 fun v537 s538 => pAppendS w0 55 5 64 (G l900 1) v537 s538 fun v539 s540 => B P 3 .add (G l900 2) (.int .i64 1) fun v541 => B P 3 .add (G l900 3) (.int .i64 1) fun v542 => K902 .normal [G l900 0, v539, v541, v542, G l900 4, G l900 5, G l900 6, G l900 7, G l900 8, G l900 9, G l900 10, G l900 11, G l900 12, G l900 13] s540)))))
def cs_spec_l3Walk_2 (w0 : World) (l900 : List Value) (s901 : Vw) (K902 : AX → List Value → Vw → Prop) (R : Value → Vw → Prop) : Prop :=
  N (G l900 12) (fun v500 => B P 3 .geq (G l900 3) v500 fun v501 => Q v501 (X 1 (G l900 7) (G l900 2) fun v502 => L w0 1 v502 s901 fun g503 => AC P w0 n_spec_l3Path [G l900 0, g503 0] s901 fun v504 s505 => AC P w0 n_spec_l3Gone [v504] s505 fun v506 s507 => pAppendS w0 55 5 64 (G l900 1) v506 s507 fun v508 s509 => B P 3 .add (G l900 2) (.int .i64 1) fun v510 => K902 .normal [G l900 0, v508, v510, G l900 3, G l900 4, G l900 5, G l900 6, G l900 7, G l900 8, G l900 9, G l900 10, G l900 11, G l900 12, G l900 13] s509) (N (G l900 7) fun v511 => B P 3 .lss (G l900 2) v511 fun v512 => Q v512 (X 1 (G l900 7) (G l900 2) fun v513 => L w0 1 v513 s901 fun g514 => X 1 (G l900 12) (G l900 3) fun v515 => L w0 1 v515 s901 fun g516 => B P 9 .lss (g514 0) (g516 0) fun v517 => Q v517 (X 1 (G l900 7) (G l900 2) fun v518 => L w0 1 v518 s901 fun g519 => AC P w0 n_spec_l3Path [G l900 0, g519 0] s901 fun v520 s521 => AC P w0 n_spec_l3Gone [v520] s521 fun v522 s523 => pAppendS w0 55 5 64 (G l900 1) v522 s523 fun v524 s525 => B P 3 .add (G l900 2) (.int .i64 1) fun v526 => K902 .normal [G l900 0, v524, v526, G l900 3, G l900 4, G l900 5, G l900 6, G l900 7, G l900 8, G l900 9, G l900 10, G l900 11, G l900 12, G l900 13] s525) (cs_spec_l3Walk_1 w0 l900 s901 K902 R)) (cs_spec_l3Walk_1 w0 l900 s901 K902 R)))
def vc_spec_l3Walk (w0 : World) (a0 a1 a2 : Value) (σ : Vw) (R : Value → Vw → Prop) : Prop :=
  V true 5 a1 (V true 5 a2 (B P 4 .neq (C a1 0) (C a2 0) fun v0 => Q v0 (AC P w0 n_spec_l3Gone [a0] σ fun v1 s2 => AC P w0 n_spec_l3New ([a0, .agg (⟨[C a2 0, C a2 1, C a2 2, C a2 3, C a2 4]⟩)]) s2 fun v3 s4 => pAppendS w0 55 5 64 v1 v3 s4 fun v5 s6 => R v5 s6) (AC P w0 n_spec_l3Part ([a0, .agg (⟨[C a1 0, C a1 1, C a1 2, C a1 3, C a1 4]⟩), .agg (⟨[C a2 0, C a2 1, C a2 2, C a2 3, C a2 4]⟩)]) σ fun v7 s8 => pLoop (fun l9 K10 s11 => N (G l9 7) fun v12 => B P 3 .lss (G l9 2) v12 fun v13 => Q v13 (cs_spec_l3Walk_2 w0 l9 s11 K10 R) (N (G l9 12) fun v127 => B P 3 .lss (G l9 3) v127 fun v128 => Q v128 (cs_spec_l3Walk_2 w0 l9 s11 K10 R) (K10 (.exit 0) [G l9 0, G l9 1, G l9 2, G l9 3, G l9 4, G l9 5, G l9 6, G l9 7, G l9 8, G l9 9, G l9 10, G l9 11, G l9 12, G l9 13] s11))) [a0, v7, .int .i64 0, .int .i64 0, C a1 0, C a1 1, C a1 2, C a1 3, C a1 4, C a2 0, C a2 1, C a2 2, C a2 3, C a2 4] s8 fun x242 l243 s244 => match x242 with | .normal => R (G l243 1) s244 | .ret => False | .exit i245 => (match Nat.beq i245 0 with | true => R (G l243 1) s244 | false => False))))

theorem vc_spec_l3Walk_eq (w0 : World) (a0 a1 a2 : Value) (σ : Vw) (R : Value → Vw → Prop) : vc_spec_l3Walk w0 a0 a1 a2 σ R = den Tryz.prog w0 kp_spec_l3Walk esc_spec_l3Walk (Tryz.f105.body.getD .skip) (entry Tryz.f105.ntmps [a0, a1, a2]) σ (retK Tryz.prog Tryz.f105.results.toList R) := by kernel_rfl
theorem ac_spec_l3Walk {w0 : World} {a0 a1 a2 : Value} {σ : Vw} {R : Value → Vw → Prop} (h : vc_spec_l3Walk w0 a0 a1 a2 σ R) : AC Tryz.prog w0 n_spec_l3Walk [a0, a1, a2] σ R := by
  refine ac_rule (fn := Tryz.f105) (c := Tryz.f105.body.getD .skip) kp_spec_l3Walk esc_spec_l3Walk Tryz.func105 (by kernel_rfl) (by kernel_rfl) ?_
  rw [← vc_spec_l3Walk_eq]
  exact h

/-- spec.l11Marked -/
def kp_spec_l11Marked : Nat → Keep
  | 2 => ⟨[0, 1, 4, 5], [], [], .done, []⟩
  | _ => ⟨[], [], [], .done, []⟩
/-- spec.l3Part -/
def kp_spec_l3Part : Nat → Keep
  | 3 => ⟨[], [], [], .step 0 (.step 2 (.step 4 (.step 5 (.step 1 (.step 3 (.step 6 (.step 7 (.step 8 (.step 9 (.done)))))))))), [(3, [1, 2]), (5, [4]), (6, [1, 2, 3, 4, 5]), (7, [1, 2, 3, 4, 5, 6]), (8, [0, 1, 2, 3, 4, 5, 6, 7]), (9, [0, 1, 2, 3, 4, 5, 6, 7, 8])]⟩
  | 5 => ⟨[], [], [], .step 0 (.step 2 (.step 4 (.step 5 (.step 1 (.step 3 (.step 6 (.step 7 (.step 8 (.step 9 (.done)))))))))), [(3, [1, 2]), (5, [4]), (6, [1, 2, 3, 4, 5]), (7, [1, 2, 3, 4, 5, 6]), (8, [0, 1, 2, 3, 4, 5, 6, 7]), (9, [0, 1, 2, 3, 4, 5, 6, 7, 8])]⟩
  | _ => ⟨[], [], [], .done, []⟩
def esc_spec_l3Part : Nat → Bool
  | 8 => true
  | 15 => true
  | 29 => true
  | _ => false
def vc_spec_l3Part (w0 : World) (a0 a1 a2 : Value) (σ : Vw) (R : Value → Vw → Prop) : Prop :=
  V true 5 a1 (V true 5 a2 (W w0 55 [] σ fun n0 s1 => B P 3 .neq (C a1 1) (C a2 1) fun v2 => Q v2 (W w0 9 [] s1 fun n3 s4 => pAppendS w0 9 1 16 (.slice (some (Addr.mk n3 0 none)) 0 0) a0 s4 fun v5 s6 => V false 1 v5 (V false 1 (.int .i64 3) (V false 1 (C a2 1) (V true 5 (.agg (⟨[v5, .int .i64 3, .bool false, C a2 1, .string ({ data := #[] })]⟩)) ((allOne ([v5, .int .i64 3, .bool false, C a2 1, .string ({ data := #[] })])) ∧ (A w0 55 5 64 (.slice (some (Addr.mk n0 0 none)) 0 0) 1 ([v5, .int .i64 3, .bool false, C a2 1, .string ({ data := #[] })]) s6 fun v7 s8 => B P 9 .neq (C a1 2) (C a2 2) fun v9 => Q v9 (W w0 9 [] s8 fun n10 s11 => pAppendS w0 9 1 16 (.slice (some (Addr.mk n10 0 none)) 0 0) a0 s11 fun v12 s13 => V false 1 v12 (V false 1 (.int .i64 4) (V false 1 (C a2 2) (V true 5 (.agg (⟨[v12, .int .i64 4, .bool false, .int .i64 0, C a2 2]⟩)) ((allOne [v12, .int .i64 4, .bool false, .int .i64 0, C a2 2]) ∧ (A w0 55 5 64 v7 1 [v12, .int .i64 4, .bool false, .int .i64 0, C a2 2] s13 fun v14 s15 => R v14 s15)))))) (R v7 s8))))))) (B P 9 .neq (C a1 2) (C a2 2) fun v16 => Q v16 (W w0 9 [] s1 fun n17 s18 => pAppendS w0 9 1 16 (.slice (some (Addr.mk n17 0 none)) 0 0) a0 s18 fun v19 s20 => V false 1 v19 (V false 1 (.int .i64 4) (V false 1 (C a2 2) (V true 5 (.agg (⟨[v19, .int .i64 4, .bool false, .int .i64 0, C a2 2]⟩)) ((allOne [v19, .int .i64 4, .bool false, .int .i64 0, C a2 2]) ∧ (A w0 55 5 64 (.slice (some (Addr.mk n0 0 none)) 0 0) 1 [v19, .int .i64 4, .bool false, .int .i64 0, C a2 2] s20 fun v21 s22 => R v21 s22)))))) (R (.slice (some (Addr.mk n0 0 none)) 0 0) s1))))
theorem vc_spec_l3Part_eq (w0 : World) (a0 a1 a2 : Value) (σ : Vw) (R : Value → Vw → Prop) : vc_spec_l3Part w0 a0 a1 a2 σ R = den Tryz.prog w0 kp_spec_l3Part esc_spec_l3Part (Tryz.f107.body.getD .skip) (entry Tryz.f107.ntmps [a0, a1, a2]) σ (retK Tryz.prog Tryz.f107.results.toList R) := by kernel_rfl
theorem ac_spec_l3Part {w0 : World} {a0 a1 a2 : Value} {σ : Vw} {R : Value → Vw → Prop} (h : vc_spec_l3Part w0 a0 a1 a2 σ R) : AC Tryz.prog w0 n_spec_l3Part [a0, a1, a2] σ R := by
  refine ac_rule (fn := Tryz.f107) (c := Tryz.f107.body.getD .skip) kp_spec_l3Part esc_spec_l3Part Tryz.func107 (by kernel_rfl) (by kernel_rfl) ?_
  rw [← vc_spec_l3Part_eq]
  exact h

/-- spec.l3Path -/
def kp_spec_l3Path : Nat → Keep
  | _ => ⟨[], [], [], .done, []⟩
def esc_spec_l3Path : Nat → Bool
  | 5 => true
  | _ => false
def vc_spec_l3Path (w0 : World) (a0 a1 : Value) (σ : Vw) (R : Value → Vw → Prop) : Prop :=
  W w0 9 [] σ fun n0 s1 => pAppendS w0 9 1 16 (.slice (some (Addr.mk n0 0 none)) 0 0) a0 s1 fun v2 s3 => V false 1 a1 ((allOne [a1]) ∧ (A w0 9 1 16 v2 1 [a1] s3 fun v4 s5 => R v4 s5))
theorem vc_spec_l3Path_eq (w0 : World) (a0 a1 : Value) (σ : Vw) (R : Value → Vw → Prop) : vc_spec_l3Path w0 a0 a1 σ R = den Tryz.prog w0 kp_spec_l3Path esc_spec_l3Path (Tryz.f109.body.getD .skip) (entry Tryz.f109.ntmps [a0, a1]) σ (retK Tryz.prog Tryz.f109.results.toList R) := by kernel_rfl
theorem ac_spec_l3Path {w0 : World} {a0 a1 : Value} {σ : Vw} {R : Value → Vw → Prop} (h : vc_spec_l3Path w0 a0 a1 σ R) : AC Tryz.prog w0 n_spec_l3Path [a0, a1] σ R := by
  refine ac_rule (fn := Tryz.f109) (c := Tryz.f109.body.getD .skip) kp_spec_l3Path esc_spec_l3Path Tryz.func109 (by kernel_rfl) (by kernel_rfl) ?_
  rw [← vc_spec_l3Path_eq]
  exact h

/-- spec.l4Call -/
def kp_spec_l4Call : Nat → Keep
  | 1 => ⟨[], [], [], .step 0 (.step 3 (.step 4 (.step 7 (.step 1 (.step 2 (.step 5 (.step 6 (.step 8 (.done))))))))), [(1, [0]), (2, [0, 1]), (5, [0, 1, 3, 4]), (6, [0, 1, 2, 3, 4, 5]), (8, [0, 1, 2, 3, 4, 5, 6, 7])]⟩
  | _ => ⟨[], [], [], .done, []⟩
def esc_spec_l4Call : Nat → Bool
  | 45 => true
  | 63 => true
  | 71 => true
  | 75 => true
  | 80 => true
  | 87 => true
  | _ => false
def cs_spec_l4Call_4 (w0 : World) (s900 : Vw) (v901 : Value) (v902 : Value) (v903 : Value) (R : Value → Vw → Prop) : Prop :=
  V false 1 (.int .i64 (-1)) (V false 1 (.int .i64 8) (V false 1 (.int .i64 24) (V false 1 (.int .i64 25) (W w0 3 [.int .i64 (-1), .int .i64 8, .int .i64 24, .int .i64 25] s900 fun n500 s501 => AC P w0 n_p_spec_l1Rd_pick [v901, .int .i64 4] s501 fun v502 s503 => X 1 (.slice (some (Addr.mk n500 0 none)) 4 4) v502 fun v504 => L w0 1 v504 s503 fun g505 => V false 1 (g505 0) (V true 5 (.agg (⟨[v902, v903, .slice none 0 0, g505 0, .string ({ data := #[] })]⟩)) (R (.agg (⟨[v902, v903, .slice none 0 0, g505 0, .string ({ data := #[] })]⟩)) s503))))))
def cs_spec_l4Call_2 (w0 : World) (v900 : Value) (s901 : Vw) (v902 : Value) (v903 : Value) (v904 : Value) (R : Value → Vw → Prop) : Prop :=
  AC P w0 n_p_spec_l1Rd_pick [v900, .int .i64 40] s901 (fun v500 s501 => B P 3 .eql v500 (.int .i64 0) fun v502 => Q v502 (V false 1 (.int .i64 0) (V false 1 (.int .i64 7) (V false 1 (.int .i64 (-1)) (W w0 3 [.int .i64 0, .int .i64 7, .int .i64 (-1)] s501 fun n503 s504 => AC P w0 n_p_spec_l1Rd_pick [v900, .int .i64 3] s504 fun v505 s506 => X 1 (.slice (some (Addr.mk n503 0 none)) 3 3) v505 fun v507 => L w0 1 v507 s506 fun g508 => V false 1 (g508 0) (V true 5 (.agg (⟨[g508 0, v902, .slice none 0 0, v903, .string ({ data := #[] })]⟩)) (R (.agg (⟨[g508 0, v902, .slice none 0 0, v903, .string ({ data := #[] })]⟩)) s506)))))) (B P 3 .eql v500 (.int .i64 1) fun v509 => Q v509 (W w0 9 [] s501 fun n510 s511 => V false 1 (.slice (some (Addr.mk n510 0 none)) 0 0) (V true 5 (.agg (⟨[v904, .slice (some (Addr.mk n510 0 none)) 0 0, .slice none 0 0, v903, .string ({ data := #[] })]⟩)) (R (.agg (⟨[v904, .slice (some (Addr.mk n510 0 none)) 0 0, .slice none 0 0, v903, .string ({ data := #[] })]⟩)) s511))) (B P 3 .eql v500 (.int .i64 2) fun v512 => Q v512 (W w0 9 [] s501 fun n513 s514 => pAppendS w0 9 1 16 (.slice (some (Addr.mk n513 0 none)) 0 0) v902 s514 fun v515 s516 => V false 1 (.string ({ data := #[] })) (V false 1 (.string ({ data := #[65] })) (V false 1 (.string ({ data := #[116, 111, 111, 108, 111, 110, 103] })) (V false 1 (.string ({ data := #[120] })) (V false 1 (.string ({ data := #[121] })) (W w0 9 ([.string ({ data := #[] }), .string ({ data := #[65] }), .string ({ data := #[116, 111, 111, 108, 111, 110, 103] }), .string ({ data := #[120] }), .string ({ data := #[121] })]) s516 fun n517 s518 => AC P w0 n_p_spec_l1Rd_of [v900, .slice (some (Addr.mk n517 0 none)) 5 5] s518 fun v519 s520 => V false 1 v519 ((allOne [v519]) ∧ (A w0 9 1 16 v515 1 [v519] s520 fun v521 s522 => V false 1 v521 (V true 5 (.agg (⟨[v904, v521, .slice none 0 0, v903, .string ({ data := #[] })]⟩)) (R (.agg (⟨[v904, v521, .slice none 0 0, v903, .string ({ data := #[] })]⟩)) s522)))))))))) (B P 3 .eql v500 (.int .i64 3) fun v523 => Q v523 (cs_spec_l4Call_4 w0 s501 v900 v904 v902 R) (B P 3 .eql v500 (.int .i64 4) fun v530 => Q v530 (AC P w0 n_p_spec_l1Rd_pick [v900, .int .i64 2] s501 fun v531 s532 => B P 3 .add (.int .i64 24) v531 fun v533 => AC P w0 n_spec_l1Many ([.string ({ data := #[113] }), v533]) s532 fun v534 s535 => V false 1 v534 (V true 5 (.agg (⟨[v904, v902, .slice none 0 0, v903, v534]⟩)) (R (.agg (⟨[v904, v902, .slice none 0 0, v903, v534]⟩)) s535))) (V true 5 (.agg (⟨[v904, v902, .slice none 0 0, v903, .string ({ data := #[] })]⟩)) (R (.agg (⟨[v904, v902, .slice none 0 0, v903, .string ({ data := #[] })]⟩)) s501)))))))
def cs_spec_l4Call_3 (w0 : World) (v900 : Value) (s901 : Vw) (v902 : Value) (v903 : Value) (v904 : Value) (R : Value → Vw → Prop) : Prop :=
  AC P w0 n_p_spec_l1Rd_pick [v900, .int .i64 40] s901 (fun v500 s501 => B P 3 .eql v500 (.int .i64 0) fun v502 => Q v502 (V false 1 (.int .i64 0) (V false 1 (.int .i64 7) (V false 1 (.int .i64 (-1)) (W w0 3 [.int .i64 0, .int .i64 7, .int .i64 (-1)] s501 fun n503 s504 => AC P w0 n_p_spec_l1Rd_pick [v900, .int .i64 3] s504 fun v505 s506 => X 1 (.slice (some (Addr.mk n503 0 none)) 3 3) v505 fun v507 => L w0 1 v507 s506 fun g508 => V false 1 (g508 0) (V true 5 (.agg (⟨[g508 0, v902, v903, .int .i64 0, .string ({ data := #[] })]⟩)) (R (.agg (⟨[g508 0, v902, v903, .int .i64 0, .string ({ data := #[] })]⟩)) s506)))))) (B P 3 .eql v500 (.int .i64 1) fun v509 => Q v509 (W w0 9 [] s501 fun n510 s511 => V false 1 (.slice (some (Addr.mk n510 0 none)) 0 0) (V true 5 (.agg (⟨[v904, .slice (some (Addr.mk n510 0 none)) 0 0, v903, .int .i64 0, .string ({ data := #[] })]⟩)) (R (.agg (⟨[v904, .slice (some (Addr.mk n510 0 none)) 0 0, v903, .int .i64 0, .string ({ data := #[] })]⟩)) s511))) (B P 3 .eql v500 (.int .i64 2) fun v512 => Q v512 (W w0 9 [] s501 fun n513 s514 => pAppendS w0 9 1 16 (.slice (some (Addr.mk n513 0 none)) 0 0) v902 s514 fun v515 s516 => V false 1 (.string ({ data := #[] })) (V false 1 (.string ({ data := #[65] })) (V false 1 (.string ({ data := #[116, 111, 111, 108, 111, 110, 103] })) (V false 1 (.string ({ data := #[120] })) (V false 1 (.string ({ data := #[121] })) (W w0 9 ([.string ({ data := #[] }), .string ({ data := #[65] }), .string ({ data := #[116, 111, 111, 108, 111, 110, 103] }), .string ({ data := #[120] }), .string ({ data := #[121] })]) s516 fun n517 s518 => AC P w0 n_p_spec_l1Rd_of [v900, .slice (some (Addr.mk n517 0 none)) 5 5] s518 fun v519 s520 => V false 1 v519 ((allOne [v519]) ∧ (A w0 9 1 16 v515 1 [v519] s520 fun v521 s522 => V false 1 v521 (V true 5 (.agg (⟨[v904, v521, v903, .int .i64 0, .string ({ data := #[] })]⟩)) (R (.agg (⟨[v904, v521, v903, .int .i64 0, .string ({ data := #[] })]⟩)) s522)))))))))) (B P 3 .eql v500 (.int .i64 3) fun v523 => Q v523 (V false 1 (.int .i64 (-1)) (V false 1 (.int .i64 8) (V false 1 (.int .i64 24) (V false 1 (.int .i64 25) (W w0 3 [.int .i64 (-1), .int .i64 8, .int .i64 24, .int .i64 25] s501 fun n524 s525 => AC P w0 n_p_spec_l1Rd_pick [v900, .int .i64 4] s525 fun v526 s527 => X 1 (.slice (some (Addr.mk n524 0 none)) 4 4) v526 fun v528 => L w0 1 v528 s527 fun g529 => V false 1 (g529 0) (V true 5 (.agg (⟨[v904, v902, v903, g529 0, .string ({ data := #[] })]⟩)) (R (.agg (⟨[v904, v902, v903, g529 0, .string ({ data := #[] })]⟩)) s527))))))) (B P 3 .eql v500 (.int .i64 4) fun v530 => Q v530 (AC P w0 n_p_spec_l1Rd_pick [v900, .int .i64 2] s501 fun v531 s532 => B P 3 .add (.int .i64 24) v531 fun v533 => AC P w0 n_spec_l1Many ([.string ({ data := #[113] }), v533]) s532 fun v534 s535 => V false 1 v534 (V true 5 (.agg (⟨[v904, v902, v903, .int .i64 0, v534]⟩)) (R (.agg (⟨[v904, v902, v903, .int .i64 0, v534]⟩)) s535))) (V true 5 (.agg (⟨[v904, v902, v903, .int .i64 0, .string ({ data := #[] })]⟩)) (R (.agg (⟨[v904, v902, v903, .int .i64 0, .string ({ data := #[] })]⟩)) s501)))))))
def cs_spec_l4Call_1 (w0 : World) (v900 : Value) (v901 : Value) (s902 : Vw) (v903 : Value) (v904 : Value) (v905 : Value) (R : Value → Vw → Prop) : Prop :=
  Q v900 (AC P w0 n_p_spec_l1Rd_pick [v901, .int .i64 4] s902 fun v500 s501 => AC P w0 n_p_spec_l1Rd_pick [v901, .int .i64 4] s501 fun v502 s503 => B P 3 .mul v500 v502 fun v504 => V false 1 v504 (B P 3 .eql v903 (.int .i64 2) fun v505 => Q v505 (AC P w0 n_spec_l4Data [v901] s503 fun v506 s507 => V false 1 v506 (AC P w0 n_p_spec_l1Rd_pick [v901, .int .i64 40] s507 fun v508 s509 => B P 3 .eql v508 (.int .i64 0) fun v510 => Q v510 (V false 1 (.int .i64 0) (V false 1 (.int .i64 7) (V false 1 (.int .i64 (-1)) (W w0 3 [.int .i64 0, .int .i64 7, .int .i64 (-1)] s509 fun n511 s512 => AC P w0 n_p_spec_l1Rd_pick [v901, .int .i64 3] s512 fun v513 s514 => X 1 (.slice (some (Addr.mk n511 0 none)) 3 3) v513 fun v515 => L w0 1 v515 s514 fun g516 => V false 1 (g516 0) (V true 5 (.agg (⟨[g516 0, v904, .slice none 0 0, v504, v506]⟩)) (R (.agg (⟨[g516 0, v904, .slice none 0 0, v504, v506]⟩)) s514)))))) (B P 3 .eql v508 (.int .i64 1) fun v517 => Q v517 (W w0 9 [] s509 fun n518 s519 => V false 1 (.slice (some (Addr.mk n518 0 none)) 0 0) (V true 5 (.agg (⟨[v903, .slice (some (Addr.mk n518 0 none)) 0 0, .slice none 0 0, v504, v506]⟩)) (R (.agg (⟨[v903, .slice (some (Addr.mk n518 0 none)) 0 0, .slice none 0 0, v504, v506]⟩)) s519))) (B P 3 .eql v508 (.int .i64 2) fun v520 => Q v520 (W w0 9 [] s509 fun n521 s522 => pAppendS w0 9 1 16 (.slice (some (Addr.mk n521 0 none)) 0 0) v904 s522 fun v523 s524 => V false 1 (.string ({ data := #[] })) (V false 1 (.string ({ data := #[65] })) (V false 1 (.string ({ data := #[116, 111, 111, 108, 111, 110, 103] })) (V false 1 (.string ({ data := #[120] })) (V false 1 (.string ({ data := #[121] })) (W w0 9 ([.string ({ data := #[] }), .string ({ data := #[65] }), .string ({ data := #[116, 111, 111, 108, 111, 110, 103] }), .string ({ data := #[120] }), .string ({ data := #[121] })]) s524 fun n525 s526 => AC P w0 n_p_spec_l1Rd_of [v901, .slice (some (Addr.mk n525 0 none)) 5 5] s526 fun v527 s528 => V false 1 v527 ((allOne [v527]) ∧ (A w0 9 1 16 v523 1 [v527] s528 fun v529 s530 => V false 1 v529 (V true 5 (.agg (⟨[v903, v529, .slice none 0 0, v504, v506]⟩)) (R (.agg (⟨[v903, v529, .slice none 0 0, v504, v506]⟩)) s530)))))))))) (B P 3 .eql v508 (.int .i64 3) fun v531 => Q v531 (V false 1 (.int .i64 (-1)) (V false 1 (.int .i64 8) (V false 1 (.int .i64 24) (V false 1 (.int .i64 25) (W w0 3 [.int .i64 (-1), .int .i64 8, .int .i64 24, .int .i64 25] s509 fun n532 s533 => AC P w0 n_p_spec_l1Rd_pick [v901, .int .i64 4] s533 fun v534 s535 => X 1 (.slice (some (Addr.mk n532 0 none)) 4 4) v534 fun v536 => L w0 1 v536 s535 fun g537 => V false 1 (g537 0) (V true 5 (.agg (⟨[v903, v904, .slice none 0 0, g537 0, v506]⟩)) (R (.agg (⟨[v903, v904, .slice none 0 0, g537 0, v506]⟩)) s535))))))) (B P 3 .eql v508 (.int .i64 4) fun v538 => Q v538 (AC P w0 n_p_spec_l1Rd_pick [v901, .int .i64 2] s509 fun v539 s540 => B P 3 .add (.int .i64 24) v539 fun v541 => AC P w0 n_spec_l1Many ([.string ({ data := #[113] }), v541]) s540 fun v542 s543 => V false 1 v542 (V true 5 (.agg (⟨[v903, v904, .slice none 0 0, v504, v542]⟩)) (R (.agg (⟨[v903, v904, .slice none 0 0, v504, v542]⟩)) s543))) (V true 5 (.agg (⟨[v903, v904, .slice none 0 0, v504, v506]⟩)) (R (.agg (⟨[v903, v904, .slice none 0 0, v504, v506]⟩)) s509)))))))) (cs_spec_l4Call_2 w0 v901 s503 v904 v504 v903 R))) (B P 3 .eql v903 (.int .i64 5) fun v580 => Q v580 (AC P w0 n_spec_l4Path ([v901, .agg (⟨[C v905 0, C v905 1, C v905 2, C v905 3, C v905 4]⟩)]) s902 fun v581 s582 => V false 1 v581 (AC P w0 n_p_spec_l1Rd_pick [v901, .int .i64 2] s582 fun v583 s584 => B P 3 .eql v583 (.int .i64 0) fun v585 => Q v585 (W w0 9 [] s584 fun n586 s587 => N v581 fun v588 => B P 3 .sub v588 (.int .i64 1) fun v589 => pSlice 1 v581 none (some v589) fun v590 => pAppendS w0 9 1 16 (.slice (some (Addr.mk n586 0 none)) 0 0) v590 s587 fun v591 s592 => AC P w0 n_spec_l4Name [v901] s592 fun v593 s594 => V false 1 v593 ((allOne [v593]) ∧ (A w0 9 1 16 v591 1 [v593] s594 fun v595 s596 => V false 1 v595 (cs_spec_l4Call_3 w0 v901 s596 v904 v595 v903 R)))) (cs_spec_l4Call_3 w0 v901 s584 v904 v581 v903 R))) (AC P w0 n_p_spec_l1Rd_pick [v901, .int .i64 40] s902 fun v669 s670 => B P 3 .eql v669 (.int .i64 0) fun v671 => Q v671 (V false 1 (.int .i64 0) (V false 1 (.int .i64 7) (V false 1 (.int .i64 (-1)) (W w0 3 [.int .i64 0, .int .i64 7, .int .i64 (-1)] s670 fun n672 s673 => AC P w0 n_p_spec_l1Rd_pick [v901, .int .i64 3] s673 fun v674 s675 => X 1 (.slice (some (Addr.mk n672 0 none)) 3 3) v674 fun v676 => L w0 1 v676 s675 fun g677 => V false 1 (g677 0) (V true 5 (.agg (⟨[g677 0, v904, .slice none 0 0, .int .i64 0, .string ({ data := #[] })]⟩)) (R (.agg (⟨[g677 0, v904, .slice none 0 0, .int .i64 0, .string ({ data := #[] })]⟩)) s675)))))) (B P 3 .eql v669 (.int .i64 1) fun v678 => Q v678 (W w0 9 [] s670 fun n679 s680 => V false 1 (.slice (some (Addr.mk n679 0 none)) 0 0) (V true 5 (.agg (⟨[v903, .slice (some (Addr.mk n679 0 none)) 0 0, .slice none 0 0, .int .i64 0, .string ({ data := #[] })]⟩)) (R (.agg (⟨[v903, .slice (some (Addr.mk n679 0 none)) 0 0, .slice none 0 0, .int .i64 0, .string ({ data := #[] })]⟩)) s680))) (B P 3 .eql v669 (.int .i64 2) fun v681 => Q v681 (W w0 9 [] s670 fun n682 s683 => pAppendS w0 9 1 16 (.slice (some (Addr.mk n682 0 none)) 0 0) v904 s683 fun v684 s685 => V false 1 (.string ({ data := #[] })) (V false 1 (.string ({ data := #[65] })) (V false 1 (.string ({ data := #[116, 111, 111, 108, 111, 110, 103] })) (V false 1 (.string ({ data := #[120] })) (V false 1 (.string ({ data := #[121] })) (W w0 9 ([.string ({ data := #[] }), .string ({ data := #[65] }), .string ({ data := #[116, 111, 111, 108, 111, 110, 103] }), .string ({ data := #[120] }), .string ({ data := #[121] })]) s685 fun n686 s687 => AC P w0 n_p_spec_l1Rd_of [v901, .slice (some (Addr.mk n686 0 none)) 5 5] s687 fun v688 s689 => V false 1 v688 ((allOne [v688]) ∧ (A w0 9 1 16 v684 1 [v688] s689 fun v690 s691 => V false 1 v690 (V true 5 (.agg (⟨[v903, v690, .slice none 0 0, .int .i64 0, .string ({ data := #[] })]⟩)) (R (.agg (⟨[v903, v690, .slice none 0 0, .int .i64 0, .string ({ data := #[] })]⟩)) s691)))))))))) (B P 3 .eql v669 (.int .i64 3) fun v692 => Q v692 (cs_spec_l4Call_4 w0 s670 v901 v903 v904 R) (B P 3 .eql v669 (.int .i64 4) fun v699 => Q v699 (AC P w0 n_p_spec_l1Rd_pick [v901, .int .i64 2] s670 fun v700 s701 => B P 3 .add (.int .i64 24) v700 fun v702 => AC P w0 n_spec_l1Many ([.string ({ data := #[113] }), v702]) s701 fun v703 s704 => V false 1 v703 (V true 5 (.agg (⟨[v903, v904, .slice none 0 0, .int .i64 0, v703]⟩)) (R (.agg (⟨[v903, v904, .slice none 0 0, .int .i64 0, v703]⟩)) s704))) (V true 5 (.agg (⟨[v903, v904, .slice none 0 0, .int .i64 0, .string ({ data := #[] })]⟩)) (R (.agg (⟨[v903, v904, .slice none 0 0, .int .i64 0, .string ({ data := #[] })]⟩)) s670))))))))
def vc_spec_l4Call (w0 : World) (a0 a1 : Value) (σ : Vw) (R : Value → Vw → Prop) : Prop :=
  V true 5 a1 (AC P w0 n_p_spec_l1Rd_pick [a0, .int .i64 6] σ fun v0 s1 => B P 3 .add (.int .i64 1) v0 fun v2 => AC P w0 n_spec_l4Path ([a0, .agg (⟨[C a1 0, C a1 1, C a1 2, C a1 3, C a1 4]⟩)]) s1 fun v3 s4 => V false 1 v2 (V false 1 v3 (V true 5 (.agg (⟨[v2, v3, .slice none 0 0, .int .i64 0, .string ({ data := #[] })]⟩)) (B P 3 .eql v2 (.int .i64 1) fun v5 => Q v5 (Q v5 (AC P w0 n_p_spec_l1Rd_pick [a0, .int .i64 8] s4 fun v6 s7 => V false 1 v6 (cs_spec_l4Call_2 w0 a0 s7 v3 v6 v2 R)) (B P 3 .eql v2 (.int .i64 2) fun v44 => Q v44 (cs_spec_l4Call_1 w0 v44 a0 s4 v2 v3 a1 R) (B P 3 .eql v2 (.int .i64 3) fun v250 => cs_spec_l4Call_1 w0 v250 a0 s4 v2 v3 a1 R))) (B P 3 .eql v2 (.int .i64 6) fun v456 => Q v456 (AC P w0 n_p_spec_l1Rd_pick [a0, .int .i64 8] s4 fun v457 s458 => V false 1 v457 (cs_spec_l4Call_2 w0 a0 s458 v3 v457 v2 R)) (B P 3 .eql v2 (.int .i64 2) fun v495 => Q v495 (cs_spec_l4Call_1 w0 v495 a0 s4 v2 v3 a1 R) (B P 3 .eql v2 (.int .i64 3) fun v701 => cs_spec_l4Call_1 w0 v701 a0 s4 v2 v3 a1 R)))))))

theorem vc_spec_l4Call_eq (w0 : World) (a0 a1 : Value) (σ : Vw) (R : Value → Vw → Prop) : vc_spec_l4Call w0 a0 a1 σ R = den Tryz.prog w0 kp_spec_l4Call esc_spec_l4Call (Tryz.f117.body.getD .skip) (entry Tryz.f117.ntmps [a0, a1]) σ (retK Tryz.prog Tryz.f117.results.toList R) := by kernel_rfl
theorem ac_spec_l4Call {w0 : World} {a0 a1 : Value} {σ : Vw} {R : Value → Vw → Prop} (h : vc_spec_l4Call w0 a0 a1 σ R) : AC Tryz.prog w0 n_spec_l4Call [a0, a1] σ R := by
  refine ac_rule (fn := Tryz.f117) (c := Tryz.f117.body.getD .skip) kp_spec_l4Call esc_spec_l4Call Tryz.func117 (by kernel_rfl) (by kernel_rfl) ?_
  rw [← vc_spec_l4Call_eq]
  exact h

/-- spec.l4Name -/
def kp_spec_l4Name : Nat → Keep
  | _ => ⟨[], [], [], .done, []⟩
def esc_spec_l4Name : Nat → Bool
  | 4 => true
  | _ => false
def vc_spec_l4Name (w0 : World) (a0 : Value) (σ : Vw) (R : Value → Vw → Prop) : Prop :=
  V false 1 (.string ({ data := #[97] })) (V false 1 (.string ({ data := #[98] })) (V false 1 (.string ({ data := #[99] })) (V false 1 (.string ({ data := #[100, 49] })) (V false 1 (.string ({ data := #[101] })) (W w0 9 ([.string ({ data := #[97] }), .string ({ data := #[98] }), .string ({ data := #[99] }), .string ({ data := #[100, 49] }), .string ({ data := #[101] })]) σ fun n0 s1 => AC P w0 n_p_spec_l1Rd_of [a0, .slice (some (Addr.mk n0 0 none)) 5 5] s1 fun v2 s3 => R v2 s3)))))
theorem vc_spec_l4Name_eq (w0 : World) (a0 : Value) (σ : Vw) (R : Value → Vw → Prop) : vc_spec_l4Name w0 a0 σ R = den Tryz.prog w0 kp_spec_l4Name esc_spec_l4Name (Tryz.f118.body.getD .skip) (entry Tryz.f118.ntmps [a0]) σ (retK Tryz.prog Tryz.f118.results.toList R) := by kernel_rfl
theorem ac_spec_l4Name {w0 : World} {a0 : Value} {σ : Vw} {R : Value → Vw → Prop} (h : vc_spec_l4Name w0 a0 σ R) : AC Tryz.prog w0 n_spec_l4Name [a0] σ R := by
  refine ac_rule (fn := Tryz.f118) (c := Tryz.f118.body.getD .skip) kp_spec_l4Name esc_spec_l4Name Tryz.func118 (by kernel_rfl) (by kernel_rfl) ?_
  rw [← vc_spec_l4Name_eq]
  exact h

/-- spec.l1Find -/
def kp_spec_l1Find : Nat → Keep
  | 2 => ⟨[1, 4, 5], [(2, 5)], [2], .done, []⟩
  | _ => ⟨[], [], [], .done, []⟩
def esc_spec_l1Find : Nat → Bool
  | _ => false
def vc_spec_l1Find (w0 : World) (a0 a1 : Value) (σ : Vw) (R : Value → Vw → Prop) : Prop :=
  V true 5 a0 (pLoop (fun l0 K1 s2 => N (G l0 6) fun v3 => B P 3 .lss (G l0 2) v3 fun v4 => Q v4 (X 1 (G l0 6) (G l0 2) fun v5 => L w0 1 v5 s2 fun g6 => B P 9 .eql (g6 0) (G l0 0) fun v7 => Q v7 (K1 .ret [G l0 0, G l0 2, G l0 2, G l0 3, G l0 4, G l0 5, G l0 6, G l0 7] s2) (B P 3 .add (G l0 2) (.int .i64 1) fun v8 => K1 .normal [G l0 0, G l0 1, v8, G l0 3, G l0 4, G l0 5, G l0 6, G l0 7] s2)) (K1 (.exit 0) [G l0 0, G l0 1, G l0 2, G l0 3, G l0 4, G l0 5, G l0 6, G l0 7] s2)) [a1, .int .i64 0, .int .i64 0, C a0 0, C a0 1, C a0 2, C a0 3, C a0 4] σ fun x9 l10 s11 => match x9 with | .normal => R (.int .i64 (-1)) s11 | .ret => R (G l10 1) s11 | .exit i12 => (match Nat.beq i12 0 with | true => R (.int .i64 (-1)) s11 | false => False))
theorem vc_spec_l1Find_eq (w0 : World) (a0 a1 : Value) (σ : Vw) (R : Value → Vw → Prop) : vc_spec_l1Find w0 a0 a1 σ R = den Tryz.prog w0 kp_spec_l1Find esc_spec_l1Find (Tryz.f119.body.getD .skip) (entry Tryz.f119.ntmps [a0, a1]) σ (retK Tryz.prog Tryz.f119.results.toList R) := by kernel_rfl
theorem ac_spec_l1Find {w0 : World} {a0 a1 : Value} {σ : Vw} {R : Value → Vw → Prop} (h : vc_spec_l1Find w0 a0 a1 σ R) : AC Tryz.prog w0 n_spec_l1Find [a0, a1] σ R := by
  refine ac_rule (fn := Tryz.f119) (c := Tryz.f119.body.getD .skip) kp_spec_l1Find esc_spec_l1Find Tryz.func119 (by kernel_rfl) (by kernel_rfl) ?_
  rw [← vc_spec_l1Find_eq]
  exact h

/-- spec.l1Many -/
def kp_spec_l1Many : Nat → Keep
  | 2 => ⟨[0, 1, 5], [], [], .done, []⟩
  | _ => ⟨[], [], [], .done, []⟩
def esc_spec_l1Many : Nat → Bool
  | _ => false
def vc_spec_l1Many (w0 : World) (a0 a1 : Value) (σ : Vw) (R : Value → Vw → Prop) : Prop :=
  pLoop (fun l0 K1 s2 => B P 3 .gtr (G l0 1) (.int .i64 0) fun v3 => Q v3 (B P 3 .rem (G l0 1) (.int .i64 2) fun v4 => B P 3 .eql v4 (.int .i64 1) fun v5 => Q v5 (B P 9 .add (G l0 2) (G l0 0) fun v6 => B P 9 .add (G l0 0) (G l0 0) fun v7 => B P 3 .quo (G l0 1) (.int .i64 2) fun v8 => K1 .normal [v7, v8, v6] s2) (B P 9 .add (G l0 0) (G l0 0) fun v9 => B P 3 .quo (G l0 1) (.int .i64 2) fun v10 => K1 .normal [v9, v10, G l0 2] s2)) (K1 (.exit 0) [G l0 0, G l0 1, G l0 2] s2)) ([a0, a1, .string ({ data := #[] })]) σ fun x11 l12 s13 => match x11 with | .normal => R (G l12 2) s13 | .ret => False | .exit i14 => (match Nat.beq i14 0 with | true => R (G l12 2) s13 | false => False)
theorem vc_spec_l1Many_eq (w0 : World) (a0 a1 : Value) (σ : Vw) (R : Value → Vw → Prop) : vc_spec_l1Many w0 a0 a1 σ R = den Tryz.prog w0 kp_spec_l1Many esc_spec_l1Many (Tryz.f120.body.getD .skip) (entry Tryz.f120.ntmps [a0, a1]) σ (retK Tryz.prog Tryz.f120.results.toList R) := by kernel_rfl
theorem ac_spec_l1Many {w0 : World} {a0 a1 : Value} {σ : Vw} {R : Value → Vw → Prop} (h : vc_spec_l1Many w0 a0 a1 σ R) : AC Tryz.prog w0 n_spec_l1Many [a0, a1] σ R := by
  refine ac_rule (fn := Tryz.f120) (c := Tryz.f120.body.getD .skip) kp_spec_l1Many esc_spec_l1Many Tryz.func120 (by kernel_rfl) (by kernel_rfl) ?_
  rw [← vc_spec_l1Many_eq]
  exact h

/-- spec.l2CallOk -/
def kp_spec_l2CallOk : Nat → Keep
  | _ => ⟨[], [], [], .done, []⟩
def esc_spec_l2CallOk : Nat → Bool
  | _ => false
def cs_spec_l2CallOk_1 (w0 : World) (v900 : Value) (v901 : Value) (s902 : Vw) (R : Value → Vw → Prop) : Prop :=
  Q v900 (AC P w0 n_spec_l2PathOk [C v901 1] s902 fun v500 s501 => Q v500 (AC P w0 n_spec_l1In [C v901 3, .int .i64 0, .int .i64 24] s501 fun v502 s503 => R v502 s503) (R (.bool false) s501)) (B P 3 .eql (C v901 0) (.int .i64 4) fun v504 => Q v504 (AC P w0 n_spec_l2PathOk [C v901 1] s902 fun v505 s506 => R v505 s506) (B P 3 .eql (C v901 0) (.int .i64 5) fun v507 => Q v507 (AC P w0 n_spec_l2PathOk [C v901 1] s902 fun v508 s509 => Q v508 (AC P w0 n_spec_l2PathOk [C v901 2] s509 fun v510 s511 => R v510 s511) (R (.bool false) s509)) (R (.bool false) s902)))
def vc_spec_l2CallOk (w0 : World) (a0 : Value) (σ : Vw) (R : Value → Vw → Prop) : Prop :=
  V true 5 a0 (B P 3 .eql (C a0 0) (.int .i64 1) fun v0 => Q v0 (Q v0 (AC P w0 n_spec_l2PathOk [C a0 1] σ fun v1 s2 => Q v1 (AC P w0 n_spec_l1In [C a0 3, .int .i64 0, .int .i64 7] s2 fun v3 s4 => R v3 s4) (R (.bool false) s2)) (B P 3 .eql (C a0 0) (.int .i64 2) fun v5 => Q v5 (cs_spec_l2CallOk_1 w0 v5 a0 σ R) (B P 3 .eql (C a0 0) (.int .i64 3) fun v18 => cs_spec_l2CallOk_1 w0 v18 a0 σ R))) (B P 3 .eql (C a0 0) (.int .i64 6) fun v31 => Q v31 (AC P w0 n_spec_l2PathOk [C a0 1] σ fun v32 s33 => Q v32 (AC P w0 n_spec_l1In [C a0 3, .int .i64 0, .int .i64 7] s33 fun v34 s35 => R v34 s35) (R (.bool false) s33)) (B P 3 .eql (C a0 0) (.int .i64 2) fun v36 => Q v36 (cs_spec_l2CallOk_1 w0 v36 a0 σ R) (B P 3 .eql (C a0 0) (.int .i64 3) fun v49 => cs_spec_l2CallOk_1 w0 v49 a0 σ R))))

theorem vc_spec_l2CallOk_eq (w0 : World) (a0 : Value) (σ : Vw) (R : Value → Vw → Prop) : vc_spec_l2CallOk w0 a0 σ R = den Tryz.prog w0 kp_spec_l2CallOk esc_spec_l2CallOk (Tryz.f121.body.getD .skip) (entry Tryz.f121.ntmps [a0]) σ (retK Tryz.prog Tryz.f121.results.toList R) := by kernel_rfl
theorem ac_spec_l2CallOk {w0 : World} {a0 : Value} {σ : Vw} {R : Value → Vw → Prop} (h : vc_spec_l2CallOk w0 a0 σ R) : AC Tryz.prog w0 n_spec_l2CallOk [a0] σ R := by
  refine ac_rule (fn := Tryz.f121) (c := Tryz.f121.body.getD .skip) kp_spec_l2CallOk esc_spec_l2CallOk Tryz.func121 (by kernel_rfl) (by kernel_rfl) ?_
  rw [← vc_spec_l2CallOk_eq]
  exact h

/-- spec.l1Copy -/
def kp_spec_l1Copy : Nat → Keep
  | 1 => ⟨[], [], [], .step 0 (.step 1 (.step 2 (.step 3 (.step 4 (.step 5 (.step 7 (.step 8 (.step 11 (.step 6 (.step 9 (.step 10 (.step 12 (.done))))))))))))), [(1, [0]), (3, [2]), (5, [4]), (8, [7]), (9, [6, 7, 8]), (10, [0, 1, 2, 3, 4, 5, 6, 7, 8, 9]), (12, [0, 1, 2, 3, 4, 5, 6, 7, 8, 9, 10, 11])]⟩
  | 3 => ⟨[4], [(1, 5), (2, 5), (3, 5)], [1, 2, 3], .done, []⟩
  | 5 => ⟨[], [], [], .step 0 (.step 1 (.step 2 (.step 3 (.step 4 (.step 5 (.step 6 (.step 7 (.step 8 (.step 9 (.step 10 (.step 11 (.done)))))))))))), [(1, [0]), (3, [2]), (5, [2, 3, 4]), (6, [2, 3, 4, 5]), (7, [2, 3, 4, 5, 6]), (8, [2, 3, 4, 5, 6, 7]), (9, [0, 1, 2, 3, 4, 5, 6, 7, 8]), (10, [0, 1, 2, 3, 4, 5, 6, 7, 8, 9]), (11, [0, 1, 2, 3, 4, 5, 6, 7, 8, 9, 10])]⟩
  | _ => ⟨[], [], [], .done, []⟩
def esc_spec_l1Copy : Nat → Bool
  | 11 => true
  | _ => false
def vc_spec_l1Copy (w0 : World) (a0 : Value) (σ : Vw) (R : Value → Vw → Prop) : Prop :=
  V true 5 a0 (W w0 9 [] σ fun n0 s1 => pAppendS w0 9 1 16 (.slice (some (Addr.mk n0 0 none)) 0 0) (C a0 3) s1 fun v2 s3 => V false 1 (C a0 0) (V false 1 (C a0 1) (V false 1 (C a0 2) (V false 1 v2 (V true 5 (.agg (⟨[C a0 0, C a0 1, C a0 2, v2, .slice none 0 0]⟩)) (pLoop (fun l4 K5 s6 => N (G l4 5) fun v7 => B P 3 .lss (G l4 0) v7 fun v8 => Q v8 (X 5 (G l4 5) (G l4 0) fun v9 => L w0 5 v9 s6 fun g10 => AC P w0 n_spec_l1Copy ([.agg (⟨[g10 0, g10 1, g10 2, g10 3, g10 4]⟩)]) s6 fun v11 s12 => V true 5 v11 ((allOne [C v11 0, C v11 1, C v11 2, C v11 3, C v11 4]) ∧ (A w0 34 5 80 (G l4 15) 1 [C v11 0, C v11 1, C v11 2, C v11 3, C v11 4] s12 fun v13 s14 => V false 1 v13 (B P 3 .add (G l4 0) (.int .i64 1) fun v15 => K5 .normal [v15, G l4 1, G l4 2, G l4 3, G l4 4, G l4 5, G l4 6, G l4 7, G l4 8, G l4 9, G l4 10, G l4 11, G l4 12, G l4 13, G l4 14, v13] s14)))) (K5 (.exit 0) [G l4 0, G l4 1, G l4 2, G l4 3, G l4 4, G l4 5, G l4 6, G l4 7, G l4 8, G l4 9, G l4 10, G l4 11, G l4 12, G l4 13, G l4 14, G l4 15] s6)) ([.int .i64 0, C a0 0, C a0 1, C a0 2, C a0 3, C a0 4, .bool false, .int .i64 0, .string ({ data := #[] }), .slice none 0 0, .slice none 0 0, C a0 0, C a0 1, C a0 2, v2, .slice none 0 0]) s3 fun x16 l17 s18 => match x16 with | .normal => V true 5 (.agg (⟨[G l17 11, G l17 12, G l17 13, G l17 14, G l17 15]⟩)) (R (.agg (⟨[G l17 11, G l17 12, G l17 13, G l17 14, G l17 15]⟩)) s18) | .ret => R (.agg (⟨[G l17 6, G l17 7, G l17 8, G l17 9, G l17 10]⟩)) s18 | .exit i19 => (match Nat.beq i19 0 with | true => V true 5 (.agg (⟨[G l17 11, G l17 12, G l17 13, G l17 14, G l17 15]⟩)) (R (.agg (⟨[G l17 11, G l17 12, G l17 13, G l17 14, G l17 15]⟩)) s18) | false => False)))))))
theorem vc_spec_l1Copy_eq (w0 : World) (a0 : Value) (σ : Vw) (R : Value → Vw → Prop) : vc_spec_l1Copy w0 a0 σ R = den Tryz.prog w0 kp_spec_l1Copy esc_spec_l1Copy (Tryz.f122.body.getD .skip) (entry Tryz.f122.ntmps [a0]) σ (retK Tryz.prog Tryz.f122.results.toList R) := by kernel_rfl
theorem ac_spec_l1Copy {w0 : World} {a0 : Value} {σ : Vw} {R : Value → Vw → Prop} (h : vc_spec_l1Copy w0 a0 σ R) : AC Tryz.prog w0 n_spec_l1Copy [a0] σ R := by
  refine ac_rule (fn := Tryz.f122) (c := Tryz.f122.body.getD .skip) kp_spec_l1Copy esc_spec_l1Copy Tryz.func122 (by kernel_rfl) (by kernel_rfl) ?_
  rw [← vc_spec_l1Copy_eq]
  exact h

end Go.Proofs.YtkbhjejalkbogaaGreatDoor

/- What each function owes, reckoned out, part 5. MADE BY PROGRAM (emit.py). -/
set_option linter.unusedVariables false
namespace Go.Proofs.YtkbhjejalkbogaaGreatDoor
open Go.Av renaming vget → G, cellOf → C, pVal → V, pBin → B, pIndexAddr → X, pLoad → L, pField → F, pIf → Q, pExtract → E, pAppend → A, pLen → N, pNew → W
open Go.Proofs.Tryz renaming prog → P
open Go Go.Av

/-- spec.l2Do -/
def kp_spec_l2Do : Nat → Keep
  | 9 => ⟨[], [], [], .step 0 (.step 1 (.step 2 (.step 3 (.step 4 (.step 5 (.step 7 (.step 6 (.step 8 (.step 9 (.step 10 (.step 11 (.step 12 (.done))))))))))))), [(2, [1]), (4, [3]), (5, [3, 4]), (6, [0, 1, 2, 3, 4, 5]), (8, [0, 1, 2, 3, 4, 5, 6, 7]), (9, [0, 1, 2, 3, 4, 5, 6, 7, 8]), (10, [0, 1, 2, 3, 4, 5, 6, 7, 8]), (11, [0, 1, 2, 3, 4, 5, 6, 7, 8, 9, 10]), (12, [0, 1, 2, 3, 4, 5, 6, 7, 8, 9, 10, 11])]⟩
  | _ => ⟨[], [], [], .done, []⟩
def esc_spec_l2Do : Nat → Bool
  | _ => false
def cs_spec_l2Do_1 (w0 : World) (v900 : Value) (v901 : Value) (v902 : Value) (s903 : Vw) (v904 : Value) (v905 : Value) (R : Value → Vw → Prop) : Prop :=
  Q v900 (AC P w0 n_spec_l2File ([.agg (⟨[C v901 0, C v901 1, C v901 2, C v901 3, C v901 4]⟩), .agg (⟨[C v902 0, C v902 1, C v902 2, C v902 3, C v902 4]⟩)]) s903 fun v500 s501 => E v500 0 fun v502 => E v500 1 fun v503 => V true 5 v502 (R (.tuple (⟨[.agg (⟨[C v502 0, C v502 1, C v502 2, C v502 3, C v502 4]⟩), v503]⟩)) s501)) (B P 3 .eql (C v902 0) (.int .i64 5) fun v504 => Q v504 (AC P w0 n_spec_l2Rename ([.agg (⟨[C v901 0, C v901 1, C v901 2, C v901 3, C v901 4]⟩), .agg (⟨[C v902 0, C v902 1, C v902 2, C v902 3, C v902 4]⟩)]) s903 fun v505 s506 => E v505 0 fun v507 => E v505 1 fun v508 => V true 5 v507 (R (.tuple (⟨[.agg (⟨[C v507 0, C v507 1, C v507 2, C v507 3, C v507 4]⟩), v508]⟩)) s506)) (pUn .not v904 fun v509 => Q v509 (V true 5 (.agg (⟨[C v901 0, C v901 1, C v901 2, C v901 3, C v901 4]⟩)) (R (.tuple (⟨[.agg (⟨[C v901 0, C v901 1, C v901 2, C v901 3, C v901 4]⟩), .int .i64 3]⟩)) s903)) (B P 3 .eql (C v902 0) (.int .i64 4) fun v510 => Q v510 (N (C v905 3) fun v511 => B P 3 .gtr v511 (.int .i64 0) fun v512 => Q v512 (V true 5 (.agg (⟨[C v901 0, C v901 1, C v901 2, C v901 3, C v901 4]⟩)) (R (.tuple (⟨[.agg (⟨[C v901 0, C v901 1, C v901 2, C v901 3, C v901 4]⟩), .int .i64 5]⟩)) s903)) (AC P w0 n_spec_l2Set ([.agg (⟨[C v901 0, C v901 1, C v901 2, C v901 3, C v901 4]⟩), C v902 1, .agg (⟨[.bool false, .int .i64 0, .string ({ data := #[] }), .slice none 0 0, .slice none 0 0]⟩), .bool true]) s903 fun v513 s514 => V true 5 v513 (R (.tuple (⟨[.agg (⟨[C v513 0, C v513 1, C v513 2, C v513 3, C v513 4]⟩), .int .i64 0]⟩)) s514))) (V false 1 (C v902 3) (AC P w0 n_spec_l2Set ([.agg (⟨[C v901 0, C v901 1, C v901 2, C v901 3, C v901 4]⟩), C v902 1, .agg (⟨[C v905 0, C v902 3, C v905 2, C v905 3, C v905 4]⟩), .bool false]) s903 fun v515 s516 => V true 5 v515 (R (.tuple (⟨[.agg (⟨[C v515 0, C v515 1, C v515 2, C v515 3, C v515 4]⟩), .int .i64 0]⟩)) s516))))))
def vc_spec_l2Do (w0 : World) (a0 a1 : Value) (σ : Vw) (R : Value → Vw → Prop) : Prop :=
  V true 5 a0 (V true 5 a1 (AC P w0 n_spec_l2Parent ([.agg (⟨[C a0 0, C a0 1, C a0 2, C a0 3, C a0 4]⟩), C a1 1]) σ fun v0 s1 => B P 3 .neq v0 (.int .i64 0) fun v2 => Q v2 (V true 5 (.agg (⟨[C a0 0, C a0 1, C a0 2, C a0 3, C a0 4]⟩)) (R (.tuple (⟨[.agg (⟨[C a0 0, C a0 1, C a0 2, C a0 3, C a0 4]⟩), v0]⟩)) s1)) (AC P w0 n_spec_l1At ([.agg (⟨[C a0 0, C a0 1, C a0 2, C a0 3, C a0 4]⟩), C a1 1]) s1 fun v3 s4 => E v3 0 fun v5 => E v3 1 fun v6 => V true 5 v5 (B P 3 .eql (C a1 0) (.int .i64 1) fun v7 => Q v7 (Q v6 (V true 5 (.agg (⟨[C a0 0, C a0 1, C a0 2, C a0 3, C a0 4]⟩)) (R (.tuple (⟨[.agg (⟨[C a0 0, C a0 1, C a0 2, C a0 3, C a0 4]⟩), .int .i64 5]⟩)) s4)) (V false 1 (.bool true) (V false 1 (C a1 3) (AC P w0 n_spec_l2Set ([.agg (⟨[C a0 0, C a0 1, C a0 2, C a0 3, C a0 4]⟩), C a1 1, .agg (⟨[.bool true, C a1 3, .string ({ data := #[] }), .slice none 0 0, .slice none 0 0]⟩), .bool false]) s4 fun v8 s9 => AC P w0 n_spec_l2Fits ([v8, .agg (⟨[C a0 0, C a0 1, C a0 2, C a0 3, C a0 4]⟩)]) s9 fun v10 s11 => E v10 0 fun v12 => E v10 1 fun v13 => V true 5 v12 (R (.tuple (⟨[.agg (⟨[C v12 0, C v12 1, C v12 2, C v12 3, C v12 4]⟩), v13]⟩)) s11))))) (B P 3 .eql (C a1 0) (.int .i64 2) fun v14 => Q v14 (cs_spec_l2Do_1 w0 v14 a0 a1 s4 v6 v5 R) (B P 3 .eql (C a1 0) (.int .i64 3) fun v32 => cs_spec_l2Do_1 w0 v32 a0 a1 s4 v6 v5 R))))))

theorem vc_spec_l2Do_eq (w0 : World) (a0 a1 : Value) (σ : Vw) (R : Value → Vw → Prop) : vc_spec_l2Do w0 a0 a1 σ R = den Tryz.prog w0 kp_spec_l2Do esc_spec_l2Do (Tryz.f123.body.getD .skip) (entry Tryz.f123.ntmps [a0, a1]) σ (retK Tryz.prog Tryz.f123.results.toList R) := by kernel_rfl
theorem ac_spec_l2Do {w0 : World} {a0 a1 : Value} {σ : Vw} {R : Value → Vw → Prop} (h : vc_spec_l2Do w0 a0 a1 σ R) : AC Tryz.prog w0 n_spec_l2Do [a0, a1] σ R := by
  refine ac_rule (fn := Tryz.f123) (c := Tryz.f123.body.getD .skip) kp_spec_l2Do esc_spec_l2Do Tryz.func123 (by kernel_rfl) (by kernel_rfl) ?_
  rw [← vc_spec_l2Do_eq]
  exact h

def cs_strings_explode_1 (w0 : World) (v900 : Value) (s901 : Vw) (v902 : Value) (R : Value → Vw → Prop) : Prop :=
  pMake w0 9 1 16 ([.string ({ data := #[] })]) v900 v900 s901 (fun v500 s501 => pLoop (fun l502 K503 s504 => B P 3 .sub (G l502 1) (.int .i64 1) fun v505 => B P 3 .lss (G l502 3) v505 fun v506 => Q v506 (AC P w0 n_unicode_utf8_DecodeRuneInString [G l502 0] s504 fun v507 s508 => E v507 0 fun v509 => E v507 1 fun v510 => pSliceStr (G l502 0) none (some v510) fun v511 => X 1 (G l502 2) (G l502 3) fun v512 => V false 1 v511 (pStore v512 [v511] s508 fun s513 => pSliceStr (G l502 0) (some v510) none fun v514 => B P 3 .add (G l502 3) (.int .i64 1) fun v515 => K503 .normal [v514, G l502 1, G l502 2, v515] s513)) (K503 (.exit 0) [G l502 0, G l502 1, G l502 2, G l502 3] s504)) [v902, v900, v500, .int .i64 0] s501 fun x516 l517 s518 => match x516 with | .normal => B P 3 .gtr (G l517 1) (.int .i64 0) (fun v519 => Q v519 (B P 3 .sub (G l517 1) (.int .i64 1) fun v520 => X 1 (G l517 2) v520 fun v521 => V false 1 (G l517 0) (pStore v521 [G l517 0] s518 fun s522 => R (G l517 2) s522)) (R (G l517 2) s518)) | .ret => False | .exit i523 => (match Nat.beq i523 0 with | true => B P 3 .gtr (G l517 1) (.int .i64 0) (fun v524 => Q v524 (B P 3 .sub (G l517 1) (.int .i64 1) fun v525 => X 1 (G l517 2) v525 fun v526 => V false 1 (G l517 0) (pStore v526 [G l517 0] s518 fun s527 => R (G l517 2) s527)) (R (G l517 2) s518)) | false => False))
def vc_strings_explode (w0 : World) (a0 a1 : Value) (σ : Vw) (R : Value → Vw → Prop) : Prop :=
  AC P w0 n_unicode_utf8_RuneCountInString [a0] σ fun v0 s1 => B P 3 .lss a1 (.int .i64 0) fun v2 => Q v2 (cs_strings_explode_1 w0 v0 s1 a0 R) (B P 3 .gtr a1 v0 fun v31 => Q v31 (cs_strings_explode_1 w0 v0 s1 a0 R) (cs_strings_explode_1 w0 a1 s1 a0 R))

/-- internal/stringslite.TrimPrefix -/
def kp_internal_stringslite_TrimPrefix : Nat → Keep
  | _ => ⟨[], [], [], .done, []⟩
def esc_internal_stringslite_TrimPrefix : Nat → Bool
  | _ => false
def vc_internal_stringslite_TrimPrefix (w0 : World) (a0 a1 : Value) (σ : Vw) (R : Value → Vw → Prop) : Prop :=
  AC P w0 n_internal_stringslite_HasPrefix [a0, a1] σ fun v0 s1 => Q v0 (pLenS a1 fun v2 => pSliceStr a0 (some v2) none fun v3 => R v3 s1) (R a0 s1)
theorem vc_internal_stringslite_TrimPrefix_eq (w0 : World) (a0 a1 : Value) (σ : Vw) (R : Value → Vw → Prop) : vc_internal_stringslite_TrimPrefix w0 a0 a1 σ R = den Tryz.prog w0 kp_internal_stringslite_TrimPrefix esc_internal_stringslite_TrimPrefix (Tryz.f127.body.getD .skip) (entry Tryz.f127.ntmps [a0, a1]) σ (retK Tryz.prog Tryz.f127.results.toList R) := by kernel_rfl
theorem ac_internal_stringslite_TrimPrefix {w0 : World} {a0 a1 : Value} {σ : Vw} {R : Value → Vw → Prop} (h : vc_internal_stringslite_TrimPrefix w0 a0 a1 σ R) : AC Tryz.prog w0 n_internal_stringslite_TrimPrefix [a0, a1] σ R := by
  refine ac_rule (fn := Tryz.f127) (c := Tryz.f127.body.getD .skip) kp_internal_stringslite_TrimPrefix esc_internal_stringslite_TrimPrefix Tryz.func127 (by kernel_rfl) (by kernel_rfl) ?_
  rw [← vc_internal_stringslite_TrimPrefix_eq]
  exact h

/-- impl.nibble -/
def kp_impl_nibble : Nat → Keep
  | _ => ⟨[], [], [], .done, []⟩
def esc_impl_nibble : Nat → Bool
  | _ => false
def cs_impl_nibble_1 (w0 : World) (v900 : Value) (s901 : Vw) (R : Value → Vw → Prop) : Prop :=
  B P 5 .geq v900 (.int .u8 65) (fun v500 => Q v500 (B P 5 .leq v900 (.int .u8 70) fun v501 => Q v501 (B P 5 .sub v900 (.int .u8 65) fun v502 => pConvInt .i64 v502 fun v503 => B P 3 .add v503 (.int .i64 10) fun v504 => R v504 s901) (R (.int .i64 (-1)) s901)) (R (.int .i64 (-1)) s901))
def vc_impl_nibble (w0 : World) (a0 : Value) (σ : Vw) (R : Value → Vw → Prop) : Prop :=
  B P 5 .geq a0 (.int .u8 48) fun v0 => Q v0 (B P 5 .leq a0 (.int .u8 57) fun v1 => Q v1 (B P 5 .sub a0 (.int .u8 48) fun v2 => pConvInt .i64 v2 fun v3 => R v3 σ) (B P 5 .geq a0 (.int .u8 97) fun v4 => Q v4 (B P 5 .leq a0 (.int .u8 102) fun v5 => Q v5 (B P 5 .sub a0 (.int .u8 97) fun v6 => pConvInt .i64 v6 fun v7 => B P 3 .add v7 (.int .i64 10) fun v8 => R v8 σ) (cs_impl_nibble_1 w0 a0 σ R)) (cs_impl_nibble_1 w0 a0 σ R))) (B P 5 .geq a0 (.int .u8 97) fun v19 => Q v19 (B P 5 .leq a0 (.int .u8 102) fun v20 => Q v20 (B P 5 .sub a0 (.int .u8 97) fun v21 => pConvInt .i64 v21 fun v22 => B P 3 .add v22 (.int .i64 10) fun v23 => R v23 σ) (cs_impl_nibble_1 w0 a0 σ R)) (cs_impl_nibble_1 w0 a0 σ R))

theorem vc_impl_nibble_eq (w0 : World) (a0 : Value) (σ : Vw) (R : Value → Vw → Prop) : vc_impl_nibble w0 a0 σ R = den Tryz.prog w0 kp_impl_nibble esc_impl_nibble (Tryz.f130.body.getD .skip) (entry Tryz.f130.ntmps [a0]) σ (retK Tryz.prog Tryz.f130.results.toList R) := by kernel_rfl
theorem ac_impl_nibble {w0 : World} {a0 : Value} {σ : Vw} {R : Value → Vw → Prop} (h : vc_impl_nibble w0 a0 σ R) : AC Tryz.prog w0 n_impl_nibble [a0] σ R := by
  refine ac_rule (fn := Tryz.f130) (c := Tryz.f130.body.getD .skip) kp_impl_nibble esc_impl_nibble Tryz.func130 (by kernel_rfl) (by kernel_rfl) ?_
  rw [← vc_impl_nibble_eq]
  exact h

/-- spec.l1Digit -/
def kp_spec_l1Digit : Nat → Keep
  | _ => ⟨[], [], [], .done, []⟩
def esc_spec_l1Digit : Nat → Bool
  | _ => false
def vc_spec_l1Digit (w0 : World) (a0 : Value) (σ : Vw) (R : Value → Vw → Prop) : Prop :=
  B P 5 .geq a0 (.int .u8 48) fun v0 => Q v0 (B P 5 .leq a0 (.int .u8 57) fun v1 => Q v1 (B P 5 .sub a0 (.int .u8 48) fun v2 => pConvInt .i64 v2 fun v3 => R v3 σ) (B P 5 .geq a0 (.int .u8 97) fun v4 => Q v4 (B P 5 .leq a0 (.int .u8 102) fun v5 => Q v5 (B P 5 .sub a0 (.int .u8 97) fun v6 => pConvInt .i64 v6 fun v7 => B P 3 .add v7 (.int .i64 10) fun v8 => R v8 σ) (R (.int .i64 99) σ)) (R (.int .i64 99) σ))) (B P 5 .geq a0 (.int .u8 97) fun v9 => Q v9 (B P 5 .leq a0 (.int .u8 102) fun v10 => Q v10 (B P 5 .sub a0 (.int .u8 97) fun v11 => pConvInt .i64 v11 fun v12 => B P 3 .add v12 (.int .i64 10) fun v13 => R v13 σ) (R (.int .i64 99) σ)) (R (.int .i64 99) σ))
theorem vc_spec_l1Digit_eq (w0 : World) (a0 : Value) (σ : Vw) (R : Value → Vw → Prop) : vc_spec_l1Digit w0 a0 σ R = den Tryz.prog w0 kp_spec_l1Digit esc_spec_l1Digit (Tryz.f131.body.getD .skip) (entry Tryz.f131.ntmps [a0]) σ (retK Tryz.prog Tryz.f131.results.toList R) := by kernel_rfl
theorem ac_spec_l1Digit {w0 : World} {a0 : Value} {σ : Vw} {R : Value → Vw → Prop} (h : vc_spec_l1Digit w0 a0 σ R) : AC Tryz.prog w0 n_spec_l1Digit [a0] σ R := by
  refine ac_rule (fn := Tryz.f131) (c := Tryz.f131.body.getD .skip) kp_spec_l1Digit esc_spec_l1Digit Tryz.func131 (by kernel_rfl) (by kernel_rfl) ?_
  rw [← vc_spec_l1Digit_eq]
  exact h

/-- impl.nameOk -/
def kp_impl_nameOk : Nat → Keep
  | 2 => ⟨[0, 2, 5, 6], [], [], .done, []⟩
  | _ => ⟨[], [], [], .done, []⟩
def esc_impl_nameOk : Nat → Bool
  | _ => false
def vc_impl_nameOk (w0 : World) (a0 : Value) (σ : Vw) (R : Value → Vw → Prop) : Prop :=
  pLenS a0 fun v0 => pLoop (fun l1 K2 s3 => B P 3 .lss (G l1 3) (G l1 2) fun v4 => Q v4 (pIndexStr (G l1 0) (G l1 3) fun v5 => B P 5 .lss v5 (.int .u8 97) fun v6 => Q v6 (pIndexStr (G l1 0) (G l1 3) fun v7 => B P 5 .lss v7 (.int .u8 48) fun v8 => Q v8 (K2 .ret [G l1 0, .bool false, G l1 2, G l1 3] s3) (pIndexStr (G l1 0) (G l1 3) fun v9 => B P 5 .gtr v9 (.int .u8 57) fun v10 => Q v10 (K2 .ret [G l1 0, .bool false, G l1 2, G l1 3] s3) (B P 3 .add (G l1 3) (.int .i64 1) fun v11 => K2 .normal [G l1 0, G l1 1, G l1 2, v11] s3))) (pIndexStr (G l1 0) (G l1 3) fun v12 => B P 5 .gtr v12 (.int .u8 122) fun v13 => Q v13 (pIndexStr (G l1 0) (G l1 3) fun v14 => B P 5 .lss v14 (.int .u8 48) fun v15 => Q v15 (K2 .ret [G l1 0, .bool false, G l1 2, G l1 3] s3) (pIndexStr (G l1 0) (G l1 3) fun v16 => B P 5 .gtr v16 (.int .u8 57) fun v17 => Q v17 (K2 .ret [G l1 0, .bool false, G l1 2, G l1 3] s3) (B P 3 .add (G l1 3) (.int .i64 1) fun v18 => K2 .normal [G l1 0, G l1 1, G l1 2, v18] s3))) (B P 3 .add (G l1 3) (.int .i64 1) fun v19 => K2 .normal [G l1 0, G l1 1, G l1 2, v19] s3))) (K2 (.exit 0) [G l1 0, G l1 1, G l1 2, G l1 3] s3)) [a0, .bool false, v0, .int .i64 0] σ fun x20 l21 s22 => match x20 with | .normal => pLenS (G l21 0) (fun v23 => AC P w0 n_impl_within [v23, .int .i64 1, .int .i64 5] s22 fun v24 s25 => R v24 s25) | .ret => R (G l21 1) s22 | .exit i26 => (match Nat.beq i26 0 with | true => pLenS (G l21 0) (fun v27 => AC P w0 n_impl_within [v27, .int .i64 1, .int .i64 5] s22 fun v28 s29 => R v28 s29) | false => False)
theorem vc_impl_nameOk_eq (w0 : World) (a0 : Value) (σ : Vw) (R : Value → Vw → Prop) : vc_impl_nameOk w0 a0 σ R = den Tryz.prog w0 kp_impl_nameOk esc_impl_nameOk (Tryz.f132.body.getD .skip) (entry Tryz.f132.ntmps [a0]) σ (retK Tryz.prog Tryz.f132.results.toList R) := by kernel_rfl
theorem ac_impl_nameOk {w0 : World} {a0 : Value} {σ : Vw} {R : Value → Vw → Prop} (h : vc_impl_nameOk w0 a0 σ R) : AC Tryz.prog w0 n_impl_nameOk [a0] σ R := by
  refine ac_rule (fn := Tryz.f132) (c := Tryz.f132.body.getD .skip) kp_impl_nameOk esc_impl_nameOk Tryz.func132 (by kernel_rfl) (by kernel_rfl) ?_
  rw [← vc_impl_nameOk_eq]
  exact h

/-- impl.within -/
def kp_impl_within : Nat → Keep
  | _ => ⟨[], [], [], .done, []⟩
def esc_impl_within : Nat → Bool
  | _ => false
def vc_impl_within (w0 : World) (a0 a1 a2 : Value) (σ : Vw) (R : Value → Vw → Prop) : Prop :=
  B P 3 .geq a0 a1 fun v0 => Q v0 (B P 3 .leq a0 a2 fun v1 => R v1 σ) (R (.bool false) σ)
theorem vc_impl_within_eq (w0 : World) (a0 a1 a2 : Value) (σ : Vw) (R : Value → Vw → Prop) : vc_impl_within w0 a0 a1 a2 σ R = den Tryz.prog w0 kp_impl_within esc_impl_within (Tryz.f133.body.getD .skip) (entry Tryz.f133.ntmps [a0, a1, a2]) σ (retK Tryz.prog Tryz.f133.results.toList R) := by kernel_rfl
theorem ac_impl_within {w0 : World} {a0 a1 a2 : Value} {σ : Vw} {R : Value → Vw → Prop} (h : vc_impl_within w0 a0 a1 a2 σ R) : AC Tryz.prog w0 n_impl_within [a0, a1, a2] σ R := by
  refine ac_rule (fn := Tryz.f133) (c := Tryz.f133.body.getD .skip) kp_impl_within esc_impl_within Tryz.func133 (by kernel_rfl) (by kernel_rfl) ?_
  rw [← vc_impl_within_eq]
  exact h

/-- impl.hexOf -/
def kp_impl_hexOf : Nat → Keep
  | 3 => ⟨[0, 3, 4], [], [], .done, []⟩
  | 5 => ⟨[], [], [], .step 0 (.step 1 (.step 2 (.step 3 (.step 4 (.step 5 (.step 6 (.step 7 (.step 8 (.step 9 (.step 10 (.step 11 (.step 12 (.step 13 (.done)))))))))))))), [(3, [1, 2]), (4, [1, 2, 3]), (5, [1, 2, 3, 4]), (8, [6, 7]), (9, [6, 7, 8]), (10, [6, 7, 8, 9]), (11, [1, 2, 3, 4, 5, 6, 7, 8, 9, 10]), (12, [0, 1, 2, 3, 4, 5, 6, 7, 8, 9, 10, 11]), (13, [0, 1, 2, 3, 4, 5, 6, 7, 8, 9, 10, 11, 12])]⟩
  | _ => ⟨[], [], [], .done, []⟩
def esc_impl_hexOf : Nat → Bool
  | 5 => true
  | _ => false
def vc_impl_hexOf (w0 : World) (a0 : Value) (σ : Vw) (R : Value → Vw → Prop) : Prop :=
  W w0 5 [] σ fun n0 s1 => pLoop (fun l2 K3 s4 => pLenS (G l2 0) fun v5 => B P 3 .lss (G l2 2) v5 fun v6 => Q v6 (pIndexStr (G l2 0) (G l2 2) fun v7 => B P 5 .quo v7 (.int .u8 16) fun v8 => pIndexStr (.string ({ data := #[48, 49, 50, 51, 52, 53, 54, 55, 56, 57, 97, 98, 99, 100, 101, 102] })) v8 fun v9 => pIndexStr (G l2 0) (G l2 2) fun v10 => B P 5 .rem v10 (.int .u8 16) fun v11 => pIndexStr (.string ({ data := #[48, 49, 50, 51, 52, 53, 54, 55, 56, 57, 97, 98, 99, 100, 101, 102] })) v11 fun v12 => V false 1 v9 (V false 1 v12 ((allOne [v9, v12]) ∧ (A w0 5 1 1 (G l2 1) 2 [v9, v12] s4 fun v13 s14 => B P 3 .add (G l2 2) (.int .i64 1) fun v15 => K3 .normal [G l2 0, v13, v15] s14)))) (K3 (.exit 0) [G l2 0, G l2 1, G l2 2] s4)) [a0, .slice (some (Addr.mk n0 0 none)) 0 0, .int .i64 0] s1 fun x16 l17 s18 => match x16 with | .normal => pStr w0 (G l17 1) s18 (fun v19 => R v19 s18) | .ret => False | .exit i20 => (match Nat.beq i20 0 with | true => pStr w0 (G l17 1) s18 (fun v21 => R v21 s18) | false => False)
theorem vc_impl_hexOf_eq (w0 : World) (a0 : Value) (σ : Vw) (R : Value → Vw → Prop) : vc_impl_hexOf w0 a0 σ R = den Tryz.prog w0 kp_impl_hexOf esc_impl_hexOf (Tryz.f136.body.getD .skip) (entry Tryz.f136.ntmps [a0]) σ (retK Tryz.prog Tryz.f136.results.toList R) := by kernel_rfl
theorem ac_impl_hexOf {w0 : World} {a0 : Value} {σ : Vw} {R : Value → Vw → Prop} (h : vc_impl_hexOf w0 a0 σ R) : AC Tryz.prog w0 n_impl_hexOf [a0] σ R := by
  refine ac_rule (fn := Tryz.f136) (c := Tryz.f136.body.getD .skip) kp_impl_hexOf esc_impl_hexOf Tryz.func136 (by kernel_rfl) (by kernel_rfl) ?_
  rw [← vc_impl_hexOf_eq]
  exact h

/-- spec.l4Full -/
def kp_spec_l4Full : Nat → Keep
  | 3 => ⟨[0, 4], [(2, 5), (3, 5)], [2, 3], .done, []⟩
  | 5 => ⟨[], [], [], .step 0 (.step 1 (.step 2 (.step 3 (.step 4 (.step 5 (.step 6 (.step 7 (.step 8 (.step 9 (.step 10 (.step 11 (.done)))))))))))), [(2, [1]), (3, [1, 2]), (4, [1, 2, 3]), (5, [1, 2, 3, 4]), (6, [1, 2, 3, 4, 5]), (7, [0, 1, 2, 3, 4, 5, 6]), (8, [0, 1, 2, 3, 4, 5, 6, 7]), (9, [0, 1, 2, 3, 4, 5, 6, 7, 8]), (10, [0, 1, 2, 3, 4, 5, 6, 7, 8]), (11, [0, 1, 2, 3, 4, 5, 6, 7, 8, 9])]⟩
  | _ => ⟨[], [], [], .done, []⟩
def esc_spec_l4Full : Nat → Bool
  | 19 => true
  | _ => false
def vc_spec_l4Full (w0 : World) (a0 : Value) (σ : Vw) (R : Value → Vw → Prop) : Prop :=
  V false 1 (.bool true) (V true 5 (.agg (⟨[.bool true, .int .i64 0, .string ({ data := #[] }), .slice none 0 0, .slice none 0 0]⟩)) (pLoop (fun l0 K1 s2 => AC P w0 n_p_spec_l1Rd_pick [G l0 0, .int .i64 3] s2 fun v3 s4 => B P 3 .sub (.int .i64 30) v3 fun v5 => B P 3 .lss (G l0 1) v5 fun v6 => Q v6 (B P 3 .add (.int .i64 100) (G l0 1) fun v7 => AC P w0 n_spec_l1Dec [v7] s4 fun v8 s9 => B P 9 .add (.string ({ data := #[102] })) v8 fun v10 => V false 1 v10 (W w0 9 [v10] s9 fun n11 s12 => V false 1 (.int .i64 2) (V false 1 (.slice (some (Addr.mk n11 0 none)) 1 1) (AC P w0 n_spec_TreeDo ([.agg (⟨[G l0 7, G l0 8, G l0 9, G l0 10, G l0 11]⟩), .agg (⟨[.int .i64 2, .slice (some (Addr.mk n11 0 none)) 1 1, .slice none 0 0, .int .i64 0, .string ({ data := #[] })]⟩)]) s12 fun v13 s14 => E v13 0 fun v15 => E v13 1 fun v16 => V true 5 v15 (B P 3 .add (G l0 1) (.int .i64 1) fun v17 => K1 .normal [G l0 0, v17, G l0 2, G l0 3, G l0 4, G l0 5, G l0 6, C v15 0, C v15 1, C v15 2, C v15 3, C v15 4] s14))))) (K1 (.exit 0) [G l0 0, G l0 1, G l0 2, G l0 3, G l0 4, G l0 5, G l0 6, G l0 7, G l0 8, G l0 9, G l0 10, G l0 11] s4)) ([a0, .int .i64 0, .bool false, .int .i64 0, .string ({ data := #[] }), .slice none 0 0, .slice none 0 0, .bool true, .int .i64 0, .string ({ data := #[] }), .slice none 0 0, .slice none 0 0]) σ fun x18 l19 s20 => match x18 with | .normal => V true 5 (.agg (⟨[G l19 7, G l19 8, G l19 9, G l19 10, G l19 11]⟩)) (R (.agg (⟨[G l19 7, G l19 8, G l19 9, G l19 10, G l19 11]⟩)) s20) | .ret => R (.agg (⟨[G l19 2, G l19 3, G l19 4, G l19 5, G l19 6]⟩)) s20 | .exit i21 => (match Nat.beq i21 0 with | true => V true 5 (.agg (⟨[G l19 7, G l19 8, G l19 9, G l19 10, G l19 11]⟩)) (R (.agg (⟨[G l19 7, G l19 8, G l19 9, G l19 10, G l19 11]⟩)) s20) | false => False)))
theorem vc_spec_l4Full_eq (w0 : World) (a0 : Value) (σ : Vw) (R : Value → Vw → Prop) : vc_spec_l4Full w0 a0 σ R = den Tryz.prog w0 kp_spec_l4Full esc_spec_l4Full (Tryz.f137.body.getD .skip) (entry Tryz.f137.ntmps [a0]) σ (retK Tryz.prog Tryz.f137.results.toList R) := by kernel_rfl
theorem ac_spec_l4Full {w0 : World} {a0 : Value} {σ : Vw} {R : Value → Vw → Prop} (h : vc_spec_l4Full w0 a0 σ R) : AC Tryz.prog w0 n_spec_l4Full [a0] σ R := by
  refine ac_rule (fn := Tryz.f137) (c := Tryz.f137.body.getD .skip) kp_spec_l4Full esc_spec_l4Full Tryz.func137 (by kernel_rfl) (by kernel_rfl) ?_
  rw [← vc_spec_l4Full_eq]
  exact h

/-- spec.l1NameOk -/
def kp_spec_l1NameOk : Nat → Keep
  | 2 => ⟨[0, 2, 3], [], [], .done, []⟩
  | _ => ⟨[], [], [], .done, []⟩
def esc_spec_l1NameOk : Nat → Bool
  | _ => false
def cs_spec_l1NameOk_1 (w0 : World) (l900 : List Value) (K901 : AX → List Value → Vw → Prop) (s902 : Vw) (R : Value → Vw → Prop) : Prop :=
  pIndexStr (G l900 0) (G l900 2) (fun v500 => B P 5 .geq v500 (.int .u8 48) fun v501 => Q v501 (pIndexStr (G l900 0) (G l900 2) fun v502 => B P 5 .leq v502 (.int .u8 57) fun v503 => pUn .not v503 fun v504 => Q v504 (K901 .ret [G l900 0, .bool false, G l900 2] s902) (B P 3 .add (G l900 2) (.int .i64 1) fun v505 => K901 .normal [G l900 0, G l900 1, v505] s902)) (pUn .not (.bool false) fun v506 => Q v506 (K901 .ret [G l900 0, .bool false, G l900 2] s902) (B P 3 .add (G l900 2) (.int .i64 1) fun v507 => K901 .normal [G l900 0, G l900 1, v507] s902)))
def vc_spec_l1NameOk (w0 : World) (a0 : Value) (σ : Vw) (R : Value → Vw → Prop) : Prop :=
  pLoop (fun l0 K1 s2 => pLenS (G l0 0) fun v3 => B P 3 .lss (G l0 2) v3 fun v4 => Q v4 (pIndexStr (G l0 0) (G l0 2) fun v5 => B P 5 .geq v5 (.int .u8 97) fun v6 => Q v6 (pIndexStr (G l0 0) (G l0 2) fun v7 => B P 5 .leq v7 (.int .u8 122) fun v8 => Q v8 (pUn .not (.bool true) fun v9 => Q v9 (K1 .ret [G l0 0, .bool false, G l0 2] s2) (B P 3 .add (G l0 2) (.int .i64 1) fun v10 => K1 .normal [G l0 0, G l0 1, v10] s2)) (cs_spec_l1NameOk_1 w0 l0 K1 s2 R)) (cs_spec_l1NameOk_1 w0 l0 K1 s2 R)) (K1 (.exit 0) [G l0 0, G l0 1, G l0 2] s2)) [a0, .bool false, .int .i64 0] σ fun x27 l28 s29 => match x27 with | .normal => pLenS (G l28 0) (fun v30 => AC P w0 n_spec_l1In [v30, .int .i64 1, .int .i64 5] s29 fun v31 s32 => R v31 s32) | .ret => R (G l28 1) s29 | .exit i33 => (match Nat.beq i33 0 with | true => pLenS (G l28 0) (fun v34 => AC P w0 n_spec_l1In [v34, .int .i64 1, .int .i64 5] s29 fun v35 s36 => R v35 s36) | false => False)

theorem vc_spec_l1NameOk_eq (w0 : World) (a0 : Value) (σ : Vw) (R : Value → Vw → Prop) : vc_spec_l1NameOk w0 a0 σ R = den Tryz.prog w0 kp_spec_l1NameOk esc_spec_l1NameOk (Tryz.f138.body.getD .skip) (entry Tryz.f138.ntmps [a0]) σ (retK Tryz.prog Tryz.f138.results.toList R) := by kernel_rfl
theorem ac_spec_l1NameOk {w0 : World} {a0 : Value} {σ : Vw} {R : Value → Vw → Prop} (h : vc_spec_l1NameOk w0 a0 σ R) : AC Tryz.prog w0 n_spec_l1NameOk [a0] σ R := by
  refine ac_rule (fn := Tryz.f138) (c := Tryz.f138.body.getD .skip) kp_spec_l1NameOk esc_spec_l1NameOk Tryz.func138 (by kernel_rfl) (by kernel_rfl) ?_
  rw [← vc_spec_l1NameOk_eq]
  exact h

/-- impl.fresh$1 -/
def kp_impl_fresh_c1 : Nat → Keep
  | 1 => ⟨[], [], [], .step 0 (.step 2 (.step 4 (.step 5 (.step 6 (.step 7 (.step 8 (.step 9 (.step 1 (.step 3 (.step 10 (.step 11 (.step 12 (.step 13 (.done)))))))))))))), [(3, [1, 2]), (5, [4]), (7, [6]), (9, [8]), (10, [1, 2, 3, 4, 5, 6, 7, 8, 9]), (11, [1, 2, 3, 4, 5, 6, 7, 8, 9, 10]), (12, [0, 1, 2, 3, 4, 5, 6, 7, 8, 9, 10, 11]), (13, [0, 1, 2, 3, 4, 5, 6, 7, 8, 9, 10, 11, 12])]⟩
  | _ => ⟨[], [], [], .done, []⟩
/-- spec.l1Plain -/
def kp_spec_l1Plain : Nat → Keep
  | 6 => ⟨[2, 3], [(1, 5)], [1], .done, []⟩
  | 8 => ⟨[], [], [], .step 0 (.step 1 (.step 2 (.step 3 (.step 4 (.step 5 (.step 6 (.step 7 (.step 8 (.step 9 (.step 10 (.step 11 (.step 12 (.step 13 (.step 14 (.step 15 (.step 16 (.step 17 (.step 18 (.step 19 (.step 20 (.step 21 (.step 22 (.step 23 (.step 24 (.done))))))))))))))))))))))))), [(1, [0]), (3, [0, 1, 2]), (4, [0, 1, 2, 3]), (5, [0, 1, 2, 3, 4]), (6, [0, 1, 2, 3, 4, 5]), (7, [0, 1, 2, 3, 4, 5, 6]), (8, [0, 1, 2, 3, 4, 5, 6, 7]), (9, [0, 1, 2, 3, 4, 5, 6, 7, 8]), (10, [0, 1, 2, 3, 4, 5, 6, 7, 8, 9]), (11, [0, 1, 2, 3, 4, 5, 6, 7, 8, 9, 10]), (12, [0, 1, 2, 3, 4, 5, 6, 7, 8, 9, 10, 11]), (13, [0, 1, 2, 3, 4, 5, 6, 7, 8, 9, 10]), (14, [0, 1, 2, 3, 4, 5, 6, 7, 8, 9, 10, 13]), (15, [0, 1, 2, 3, 4, 5, 6, 7, 8, 9, 10, 11, 12, 13, 14]), (16, [0, 1, 2, 3, 4, 5, 6, 7, 8, 9, 10, 11, 12, 13, 14, 15]), (17, [0, 1, 2, 3, 4, 5, 6, 7, 8, 9, 10]), (18, [0, 1, 2, 3, 4, 5, 6, 7, 8, 9, 10, 17]), (19, [0, 1, 2, 3, 4, 5, 6, 7, 8, 9, 10]), (20, [0, 1, 2, 3, 4, 5, 6, 7, 8, 9, 10, 17, 18, 19]), (21, [0, 1, 2, 3, 4, 5, 6, 7, 8, 9, 10, 17, 18, 19, 20]), (22, [0, 1, 2, 3, 4, 5, 6, 7, 8, 9, 10, 11, 12, 13, 14, 15, 16, 17, 18, 19, 20, 21]), (23, [0, 1, 2, 3, 4, 5, 6, 7, 8, 9, 10, 11, 12, 13, 14, 15, 16, 17, 18, 19, 20, 21, 22]), (24, [0, 1, 2, 3, 4, 5, 6, 7, 8, 9, 10, 11, 12, 13, 14, 15, 16, 17, 18, 19, 20, 21, 22, 23])]⟩
  | _ => ⟨[], [], [], .done, []⟩
def esc_spec_l1Plain : Nat → Bool
  | _ => false
def vc_spec_l1Plain (w0 : World) (a0 : Value) (σ : Vw) (R : Value → Vw → Prop) : Prop :=
  V true 5 a0 (AC P w0 n_spec_l1In [C a0 1, .int .i64 0, .int .i64 7] σ fun v0 s1 => pUn .not v0 fun v2 => Q v2 (R (.bool false) s1) (N (C a0 3) fun v3 => N (C a0 4) fun v4 => B P 3 .neq v3 v4 fun v5 => Q v5 (R (.bool false) s1) (pUn .not (C a0 0) fun v6 => Q v6 (pLenS (C a0 2) fun v7 => B P 3 .leq v7 (.int .i64 24) fun v8 => Q v8 (N (C a0 3) fun v9 => B P 3 .eql v9 (.int .i64 0) fun v10 => R v10 s1) (R (.bool false) s1)) (pLoop (fun l11 K12 s13 => N (G l11 5) fun v14 => B P 3 .lss (G l11 1) v14 fun v15 => Q v15 (X 1 (G l11 5) (G l11 1) fun v16 => L w0 1 v16 s13 fun g17 => AC P w0 n_spec_l1NameOk [g17 0] s13 fun v18 s19 => pUn .not v18 fun v20 => Q v20 (K12 .ret [.bool false, G l11 1, G l11 2, G l11 3, G l11 4, G l11 5, G l11 6] s19) (B P 3 .gtr (G l11 1) (.int .i64 0) fun v21 => Q v21 (B P 3 .sub (G l11 1) (.int .i64 1) fun v22 => X 1 (G l11 5) v22 fun v23 => L w0 1 v23 s19 fun g24 => X 1 (G l11 5) (G l11 1) fun v25 => L w0 1 v25 s19 fun g26 => B P 9 .geq (g24 0) (g26 0) fun v27 => Q v27 (K12 .ret [.bool false, G l11 1, G l11 2, G l11 3, G l11 4, G l11 5, G l11 6] s19) (B P 3 .add (G l11 1) (.int .i64 1) fun v28 => K12 .normal [G l11 0, v28, G l11 2, G l11 3, G l11 4, G l11 5, G l11 6] s19)) (B P 3 .add (G l11 1) (.int .i64 1) fun v29 => K12 .normal [G l11 0, v29, G l11 2, G l11 3, G l11 4, G l11 5, G l11 6] s19))) (K12 (.exit 0) [G l11 0, G l11 1, G l11 2, G l11 3, G l11 4, G l11 5, G l11 6] s13)) [.bool false, .int .i64 0, C a0 0, C a0 1, C a0 2, C a0 3, C a0 4] s1 fun x30 l31 s32 => match x30 with | .normal => B P 9 .eql (G l31 4) (.string ({ data := #[] })) (fun v33 => R v33 s32) | .ret => R (G l31 0) s32 | .exit i34 => (match Nat.beq i34 0 with | true => B P 9 .eql (G l31 4) (.string ({ data := #[] })) (fun v35 => R v35 s32) | false => False)))))
theorem vc_spec_l1Plain_eq (w0 : World) (a0 : Value) (σ : Vw) (R : Value → Vw → Prop) : vc_spec_l1Plain w0 a0 σ R = den Tryz.prog w0 kp_spec_l1Plain esc_spec_l1Plain (Tryz.f150.body.getD .skip) (entry Tryz.f150.ntmps [a0]) σ (retK Tryz.prog Tryz.f150.results.toList R) := by kernel_rfl
theorem ac_spec_l1Plain {w0 : World} {a0 : Value} {σ : Vw} {R : Value → Vw → Prop} (h : vc_spec_l1Plain w0 a0 σ R) : AC Tryz.prog w0 n_spec_l1Plain [a0] σ R := by
  refine ac_rule (fn := Tryz.f150) (c := Tryz.f150.body.getD .skip) kp_spec_l1Plain esc_spec_l1Plain Tryz.func150 (by kernel_rfl) (by kernel_rfl) ?_
  rw [← vc_spec_l1Plain_eq]
  exact h

/-- spec.l1At -/
def kp_spec_l1At : Nat → Keep
  | 3 => ⟨[], [], [], .step 0 (.step 1 (.step 2 (.step 3 (.step 4 (.step 5 (.done)))))), [(2, [1]), (3, [1, 2]), (4, [0, 1, 2, 3]), (5, [0, 1, 2, 3, 4])]⟩
  | 6 => ⟨[], [], [], .step 0 (.step 1 (.step 2 (.step 3 (.step 4 (.step 5 (.step 6 (.step 7 (.step 8 (.step 9 (.step 10 (.step 11 (.done)))))))))))), [(1, [0]), (3, [0, 1, 2]), (4, [0, 1, 2, 3]), (6, [5]), (7, [0, 1, 2, 3, 4, 5, 6]), (8, [0, 1, 2, 3, 4, 5, 6, 7]), (9, [0, 1, 2, 3, 4, 5, 6, 7]), (10, [0, 1, 2, 3, 4, 5, 6, 7, 8, 9]), (11, [0, 1, 2, 3, 4, 5, 6, 7, 8, 9, 10])]⟩
  | _ => ⟨[], [], [], .done, []⟩
def esc_spec_l1At : Nat → Bool
  | _ => false
def vc_spec_l1At (w0 : World) (a0 a1 : Value) (σ : Vw) (R : Value → Vw → Prop) : Prop :=
  V true 5 a0 (N a1 fun v0 => B P 3 .eql v0 (.int .i64 0) fun v1 => Q v1 (V true 5 (.agg (⟨[C a0 0, C a0 1, C a0 2, C a0 3, C a0 4]⟩)) (R (.tuple (⟨[.agg (⟨[C a0 0, C a0 1, C a0 2, C a0 3, C a0 4]⟩), .bool true]⟩)) σ)) (X 1 a1 (.int .i64 0) fun v2 => L w0 1 v2 σ fun g3 => AC P w0 n_spec_l1Find ([.agg (⟨[C a0 0, C a0 1, C a0 2, C a0 3, C a0 4]⟩), g3 0]) σ fun v4 s5 => B P 3 .lss v4 (.int .i64 0) fun v6 => Q v6 (V true 5 (.agg (⟨[.bool false, .int .i64 0, .string ({ data := #[] }), .slice none 0 0, .slice none 0 0]⟩)) (R (.tuple (⟨[.agg (⟨[.bool false, .int .i64 0, .string ({ data := #[] }), .slice none 0 0, .slice none 0 0]⟩), .bool false]⟩)) s5)) (X 5 (C a0 4) v4 fun v7 => L w0 5 v7 s5 fun g8 => pSlice 1 a1 (some (.int .i64 1)) none fun v9 => AC P w0 n_spec_l1At ([.agg (⟨[g8 0, g8 1, g8 2, g8 3, g8 4]⟩), v9]) s5 fun v10 s11 => E v10 0 fun v12 => E v10 1 fun v13 => V true 5 v12 (R (.tuple (⟨[.agg (⟨[C v12 0, C v12 1, C v12 2, C v12 3, C v12 4]⟩), v13]⟩)) s11))))
theorem vc_spec_l1At_eq (w0 : World) (a0 a1 : Value) (σ : Vw) (R : Value → Vw → Prop) : vc_spec_l1At w0 a0 a1 σ R = den Tryz.prog w0 kp_spec_l1At esc_spec_l1At (Tryz.f152.body.getD .skip) (entry Tryz.f152.ntmps [a0, a1]) σ (retK Tryz.prog Tryz.f152.results.toList R) := by kernel_rfl
theorem ac_spec_l1At {w0 : World} {a0 a1 : Value} {σ : Vw} {R : Value → Vw → Prop} (h : vc_spec_l1At w0 a0 a1 σ R) : AC Tryz.prog w0 n_spec_l1At [a0, a1] σ R := by
  refine ac_rule (fn := Tryz.f152) (c := Tryz.f152.body.getD .skip) kp_spec_l1At esc_spec_l1At Tryz.func152 (by kernel_rfl) (by kernel_rfl) ?_
  rw [← vc_spec_l1At_eq]
  exact h

/-- spec.l2Parent -/
def kp_spec_l2Parent : Nat → Keep
  | 1 => ⟨[], [], [], .step 0 (.step 1 (.step 2 (.step 3 (.step 4 (.step 5 (.step 10 (.step 6 (.step 7 (.step 8 (.step 9 (.step 11 (.step 12 (.done))))))))))))), [(3, [2]), (4, [2, 3]), (5, [1, 2, 3, 4]), (6, [0, 1, 2, 3, 4, 5]), (7, [0, 1, 2, 3, 4, 5, 6]), (8, [0, 1, 2, 3, 4, 5, 6, 7]), (9, [0, 1, 2, 3, 4, 5, 6, 7]), (11, [0, 1, 2, 3, 4, 5, 6, 7, 8, 10]), (12, [0, 1, 2, 3, 4, 5, 6, 7, 8, 9, 10, 11])]⟩
  | _ => ⟨[], [], [], .done, []⟩
def esc_spec_l2Parent : Nat → Bool
  | _ => false
def vc_spec_l2Parent (w0 : World) (a0 a1 : Value) (σ : Vw) (R : Value → Vw → Prop) : Prop :=
  V true 5 a0 (N a1 fun v0 => B P 3 .sub v0 (.int .i64 1) fun v1 => pSlice 1 a1 none (some v1) fun v2 => AC P w0 n_spec_l1At ([.agg (⟨[C a0 0, C a0 1, C a0 2, C a0 3, C a0 4]⟩), v2]) σ fun v3 s4 => E v3 0 fun v5 => E v3 1 fun v6 => V true 5 v5 (pUn .not v6 fun v7 => Q v7 (R (.int .i64 3) s4) (pUn .not (C v5 0) fun v8 => Q v8 (R (.int .i64 4) s4) (R (.int .i64 0) s4))))
theorem vc_spec_l2Parent_eq (w0 : World) (a0 a1 : Value) (σ : Vw) (R : Value → Vw → Prop) : vc_spec_l2Parent w0 a0 a1 σ R = den Tryz.prog w0 kp_spec_l2Parent esc_spec_l2Parent (Tryz.f157.body.getD .skip) (entry Tryz.f157.ntmps [a0, a1]) σ (retK Tryz.prog Tryz.f157.results.toList R) := by kernel_rfl
theorem ac_spec_l2Parent {w0 : World} {a0 a1 : Value} {σ : Vw} {R : Value → Vw → Prop} (h : vc_spec_l2Parent w0 a0 a1 σ R) : AC Tryz.prog w0 n_spec_l2Parent [a0, a1] σ R := by
  refine ac_rule (fn := Tryz.f157) (c := Tryz.f157.body.getD .skip) kp_spec_l2Parent esc_spec_l2Parent Tryz.func157 (by kernel_rfl) (by kernel_rfl) ?_
  rw [← vc_spec_l2Parent_eq]
  exact h

/-- spec.l2Fits -/
def kp_spec_l2Fits : Nat → Keep
  | _ => ⟨[], [], [], .done, []⟩
def esc_spec_l2Fits : Nat → Bool
  | _ => false
def vc_spec_l2Fits (w0 : World) (a0 a1 : Value) (σ : Vw) (R : Value → Vw → Prop) : Prop :=
  V true 5 a0 (V true 5 a1 (AC P w0 n_spec_TreeOk ([.agg (⟨[C a0 0, C a0 1, C a0 2, C a0 3, C a0 4]⟩)]) σ fun v0 s1 => pUn .not v0 fun v2 => Q v2 (V true 5 (.agg (⟨[C a1 0, C a1 1, C a1 2, C a1 3, C a1 4]⟩)) (R (.tuple (⟨[.agg (⟨[C a1 0, C a1 1, C a1 2, C a1 3, C a1 4]⟩), .int .i64 6]⟩)) s1)) (V true 5 (.agg (⟨[C a0 0, C a0 1, C a0 2, C a0 3, C a0 4]⟩)) (R (.tuple (⟨[.agg (⟨[C a0 0, C a0 1, C a0 2, C a0 3, C a0 4]⟩), .int .i64 0]⟩)) s1))))
theorem vc_spec_l2Fits_eq (w0 : World) (a0 a1 : Value) (σ : Vw) (R : Value → Vw → Prop) : vc_spec_l2Fits w0 a0 a1 σ R = den Tryz.prog w0 kp_spec_l2Fits esc_spec_l2Fits (Tryz.f158.body.getD .skip) (entry Tryz.f158.ntmps [a0, a1]) σ (retK Tryz.prog Tryz.f158.results.toList R) := by kernel_rfl
theorem ac_spec_l2Fits {w0 : World} {a0 a1 : Value} {σ : Vw} {R : Value → Vw → Prop} (h : vc_spec_l2Fits w0 a0 a1 σ R) : AC Tryz.prog w0 n_spec_l2Fits [a0, a1] σ R := by
  refine ac_rule (fn := Tryz.f158) (c := Tryz.f158.body.getD .skip) kp_spec_l2Fits esc_spec_l2Fits Tryz.func158 (by kernel_rfl) (by kernel_rfl) ?_
  rw [← vc_spec_l2Fits_eq]
  exact h

/-- spec.l2Set -/
def kp_spec_l2Set : Nat → Keep
  | 4 => ⟨[1, 3, 10, 11], [(4, 5), (6, 5), (8, 5), (9, 5)], [4, 6, 8, 9], .done, []⟩
  | 8 => ⟨[], [], [], .step 0 (.step 1 (.step 2 (.step 3 (.step 4 (.step 5 (.step 6 (.step 7 (.step 8 (.done))))))))), [(1, [0]), (3, [2]), (4, [2, 3]), (5, [2, 3, 4]), (6, [0, 1, 2, 3, 4, 5]), (7, [0, 1, 2, 3, 4, 5, 6]), (8, [0, 1, 2, 3, 4, 5, 6, 7])]⟩
  | 14 => ⟨[], [], [], .step 0 (.step 1 (.step 2 (.step 3 (.step 4 (.step 5 (.step 6 (.done))))))), [(2, [1]), (5, [0, 1, 2, 3, 4]), (6, [0, 1, 2, 3, 4, 5])]⟩
  | 18 => ⟨[], [], [], .step 0 (.step 1 (.step 2 (.step 3 (.step 4 (.step 5 (.step 6 (.step 7 (.step 8 (.done))))))))), [(1, [0]), (3, [2]), (4, [2, 3]), (5, [2, 3, 4]), (6, [0, 1, 2, 3, 4, 5]), (7, [0, 1, 2, 3, 4, 5, 6]), (8, [0, 1, 2, 3, 4, 5, 6, 7])]⟩
  | _ => ⟨[], [], [], .done, []⟩
def esc_spec_l2Set : Nat → Bool
  | _ => false
def cs_spec_l2Set_1 (w0 : World) (l900 : List Value) (s901 : Vw) (g902 : Nat → Value) (K903 : AX → List Value → Vw → Prop) (R : Value → Vw → Prop) : Prop :=
  X 5 (G l900 8) (G l900 3) (fun v500 => L w0 5 v500 s901 fun g501 => V true 5 (.agg (⟨[g501 0, g501 1, g501 2, g501 3, g501 4]⟩)) (X 1 (G l900 0) (.int .i64 0) fun v502 => L w0 1 v502 s901 fun g503 => B P 9 .eql (g902 0) (g503 0) fun v504 => Q v504 (pSlice 1 (G l900 0) (some (.int .i64 1)) none fun v505 => AC P w0 n_spec_l2Set ([.agg (⟨[g501 0, g501 1, g501 2, g501 3, g501 4]⟩), v505, .agg (⟨[G l900 9, G l900 10, G l900 11, G l900 12, G l900 13]⟩), G l900 1]) s901 fun v506 s507 => V true 5 v506 (V false 1 (g902 0) ((allOne [g902 0]) ∧ (A w0 9 1 16 (G l900 22) 1 [g902 0] s507 fun v508 s509 => V false 1 v508 (V true 5 (.agg (⟨[C v506 0, C v506 1, C v506 2, C v506 3, C v506 4]⟩)) ((allOne [C v506 0, C v506 1, C v506 2, C v506 3, C v506 4]) ∧ (A w0 34 5 80 (G l900 23) 1 [C v506 0, C v506 1, C v506 2, C v506 3, C v506 4] s509 fun v510 s511 => V false 1 v510 (B P 3 .add (G l900 3) (.int .i64 1) fun v512 => K903 .normal [G l900 0, G l900 1, G l900 2, v512, G l900 4, G l900 5, G l900 6, G l900 7, G l900 8, G l900 9, G l900 10, G l900 11, G l900 12, G l900 13, G l900 14, G l900 15, G l900 16, G l900 17, G l900 18, G l900 19, G l900 20, G l900 21, v508, v510] s511)))))))) (V false 1 (g902 0) ((allOne [g902 0]) ∧ (A w0 9 1 16 (G l900 22) 1 [g902 0] s901 fun v513 s514 => V false 1 v513 (V true 5 (.agg (⟨[g501 0, g501 1, g501 2, g501 3, g501 4]⟩)) ((allOne [g501 0, g501 1, g501 2, g501 3, g501 4]) ∧ (A w0 34 5 80 (G l900 23) 1 [g501 0, g501 1, g501 2, g501 3, g501 4] s514 fun v515 s516 => V false 1 v515 (B P 3 .add (G l900 3) (.int .i64 1) fun v517 => K903 .normal [G l900 0, G l900 1, G l900 2, v517, G l900 4, G l900 5, G l900 6, G l900 7, G l900 8, G l900 9, G l900 10, G l900 11, G l900 12, G l900 13, G l900 14, G l900 15, G l900 16, G l900 17, G l900 18, G l900 19, G l900 20, G l900 21, v513, v515] s516)))))))))
def cs_spec_l2Set_2 (w0 : World) (l900 : List Value) (s901 : Vw) (g902 : Nat → Value) (K903 : AX → List Value → Vw → Prop) (R : Value → Vw → Prop) : Prop :=
  X 1 (G l900 0) (.int .i64 0) (fun v500 => L w0 1 v500 s901 fun g501 => B P 9 .eql (g902 0) (g501 0) fun v502 => Q v502 (N (G l900 0) fun v503 => B P 3 .eql v503 (.int .i64 1) fun v504 => Q v504 (B P 3 .add (G l900 3) (.int .i64 1) fun v505 => K903 .normal [G l900 0, G l900 1, G l900 2, v505, G l900 4, G l900 5, G l900 6, G l900 7, G l900 8, G l900 9, G l900 10, G l900 11, G l900 12, G l900 13, G l900 14, G l900 15, G l900 16, G l900 17, G l900 18, G l900 19, G l900 20, G l900 21, G l900 22, G l900 23] s901) (cs_spec_l2Set_1 w0 l900 s901 g902 K903 R)) (cs_spec_l2Set_1 w0 l900 s901 g902 K903 R))
def cs_spec_l2Set_5 (w0 : World) (l900 : List Value) (K901 : AX → List Value → Vw → Prop) (v902 : Value) (v903 : Value) (s904 : Vw) (R : Value → Vw → Prop) : Prop :=
  B P 3 .add (G l900 3) (.int .i64 1) (fun v500 => K901 .normal [G l900 0, G l900 1, .bool true, v500, G l900 4, G l900 5, G l900 6, G l900 7, G l900 8, G l900 9, G l900 10, G l900 11, G l900 12, G l900 13, G l900 14, G l900 15, G l900 16, G l900 17, G l900 18, G l900 19, G l900 20, G l900 21, v902, v903] s904)
def cs_spec_l2Set_3 (w0 : World) (l900 : List Value) (s901 : Vw) (g902 : Nat → Value) (v903 : Value) (v904 : Value) (K905 : AX → List Value → Vw → Prop) (R : Value → Vw → Prop) : Prop :=
  X 5 (G l900 8) (G l900 3) (fun v500 => L w0 5 v500 s901 fun g501 => V true 5 (.agg (⟨[g501 0, g501 1, g501 2, g501 3, g501 4]⟩)) (X 1 (G l900 0) (.int .i64 0) fun v502 => L w0 1 v502 s901 fun g503 => B P 9 .eql (g902 0) (g503 0) fun v504 => Q v504 (pSlice 1 (G l900 0) (some (.int .i64 1)) none fun v505 => AC P w0 n_spec_l2Set ([.agg (⟨[g501 0, g501 1, g501 2, g501 3, g501 4]⟩), v505, .agg (⟨[G l900 9, G l900 10, G l900 11, G l900 12, G l900 13]⟩), G l900 1]) s901 fun v506 s507 => V true 5 v506 (V false 1 (g902 0) ((allOne [g902 0]) ∧ (A w0 9 1 16 v903 1 [g902 0] s507 fun v508 s509 => V false 1 v508 (V true 5 (.agg (⟨[C v506 0, C v506 1, C v506 2, C v506 3, C v506 4]⟩)) ((allOne [C v506 0, C v506 1, C v506 2, C v506 3, C v506 4]) ∧ (A w0 34 5 80 v904 1 [C v506 0, C v506 1, C v506 2, C v506 3, C v506 4] s509 fun v510 s511 => V false 1 v510 (cs_spec_l2Set_5 w0 l900 K905 v508 v510 s511 R)))))))) (V false 1 (g902 0) ((allOne [g902 0]) ∧ (A w0 9 1 16 v903 1 [g902 0] s901 fun v513 s514 => V false 1 v513 (V true 5 (.agg (⟨[g501 0, g501 1, g501 2, g501 3, g501 4]⟩)) ((allOne [g501 0, g501 1, g501 2, g501 3, g501 4]) ∧ (A w0 34 5 80 v904 1 [g501 0, g501 1, g501 2, g501 3, g501 4] s514 fun v515 s516 => V false 1 v515 (cs_spec_l2Set_5 w0 l900 K905 v513 v515 s516 R)))))))))
def cs_spec_l2Set_4 (w0 : World) (v900 : Value) (l901 : List Value) (s902 : Vw) (R : Value → Vw → Prop) : Prop :=
  B P 3 .eql v900 (.int .i64 1) (fun v500 => Q v500 (pUn .not (G l901 2) fun v501 => Q v501 (pUn .not (G l901 1) fun v502 => Q v502 (X 1 (G l901 0) (.int .i64 0) fun v503 => L w0 1 v503 s902 fun g504 => V false 1 (g504 0) ((allOne [g504 0]) ∧ (A w0 9 1 16 (G l901 22) 1 [g504 0] s902 fun v505 s506 => V false 1 v505 (V true 5 (.agg (⟨[G l901 9, G l901 10, G l901 11, G l901 12, G l901 13]⟩)) ((allOne [G l901 9, G l901 10, G l901 11, G l901 12, G l901 13]) ∧ (A w0 34 5 80 (G l901 23) 1 [G l901 9, G l901 10, G l901 11, G l901 12, G l901 13] s506 fun v507 s508 => V false 1 v507 (V true 5 (.agg (⟨[G l901 19, G l901 20, G l901 21, v505, v507]⟩)) (R (.agg (⟨[G l901 19, G l901 20, G l901 21, v505, v507]⟩)) s508)))))))) (V true 5 (.agg (⟨[G l901 19, G l901 20, G l901 21, G l901 22, G l901 23]⟩)) (R (.agg (⟨[G l901 19, G l901 20, G l901 21, G l901 22, G l901 23]⟩)) s902))) (V true 5 (.agg (⟨[G l901 19, G l901 20, G l901 21, G l901 22, G l901 23]⟩)) (R (.agg (⟨[G l901 19, G l901 20, G l901 21, G l901 22, G l901 23]⟩)) s902))) (V true 5 (.agg (⟨[G l901 19, G l901 20, G l901 21, G l901 22, G l901 23]⟩)) (R (.agg (⟨[G l901 19, G l901 20, G l901 21, G l901 22, G l901 23]⟩)) s902)))
def vc_spec_l2Set (w0 : World) (a0 a1 a2 a3 : Value) (σ : Vw) (R : Value → Vw → Prop) : Prop :=
  V true 5 a0 (V true 5 a2 (V false 1 (C a0 0) (V false 1 (C a0 1) (V false 1 (C a0 2) (V true 5 (.agg (⟨[C a0 0, C a0 1, C a0 2, .slice none 0 0, .slice none 0 0]⟩)) (pLoop (fun l0 K1 s2 => N (G l0 7) fun v3 => B P 3 .lss (G l0 3) v3 fun v4 => Q v4 (X 1 (G l0 7) (G l0 3) fun v5 => L w0 1 v5 s2 fun g6 => N (G l0 0) fun v7 => B P 3 .eql v7 (.int .i64 1) fun v8 => Q v8 (pUn .not (G l0 2) fun v9 => Q v9 (pUn .not (G l0 1) fun v10 => Q v10 (X 1 (G l0 0) (.int .i64 0) fun v11 => L w0 1 v11 s2 fun g12 => B P 9 .geq (g6 0) (g12 0) fun v13 => Q v13 (X 1 (G l0 0) (.int .i64 0) fun v14 => L w0 1 v14 s2 fun g15 => V false 1 (g15 0) ((allOne [g15 0]) ∧ (A w0 9 1 16 (G l0 22) 1 [g15 0] s2 fun v16 s17 => V false 1 v16 (V true 5 (.agg (⟨[G l0 9, G l0 10, G l0 11, G l0 12, G l0 13]⟩)) ((allOne [G l0 9, G l0 10, G l0 11, G l0 12, G l0 13]) ∧ (A w0 34 5 80 (G l0 23) 1 [G l0 9, G l0 10, G l0 11, G l0 12, G l0 13] s17 fun v18 s19 => V false 1 v18 (X 1 (G l0 0) (.int .i64 0) fun v20 => L w0 1 v20 s19 fun g21 => B P 9 .eql (g6 0) (g21 0) fun v22 => Q v22 (N (G l0 0) fun v23 => B P 3 .eql v23 (.int .i64 1) fun v24 => Q v24 (cs_spec_l2Set_5 w0 l0 K1 v16 v18 s19 R) (cs_spec_l2Set_3 w0 l0 s19 g6 v16 v18 K1 R)) (cs_spec_l2Set_3 w0 l0 s19 g6 v16 v18 K1 R)))))))) (cs_spec_l2Set_2 w0 l0 s2 g6 K1 R)) (cs_spec_l2Set_2 w0 l0 s2 g6 K1 R)) (cs_spec_l2Set_2 w0 l0 s2 g6 K1 R)) (cs_spec_l2Set_2 w0 l0 s2 g6 K1 R)) (K1 (.exit 0) [G l0 0, G l0 1, G l0 2, G l0 3, G l0 4, G l0 5, G l0 6, G l0 7, G l0 8, G l0 9, G l0 10, G l0 11, G l0 12, G l0 13, G l0 14, G l0 15, G l0 16, G l0 17, G l0 18, G l0 19, G l0 20, G l0 21, G l0 22, G l0 23] s2)) ([a1, a3, .bool false, .int .i64 0, C a0 0, C a0 1, C a0 2, C a0 3, C a0 4, C a2 0, C a2 1, C a2 2, C a2 3, C a2 4, .bool false, .int .i64 0, .string ({ data := #[] }), .slice none 0 0, .slice none 0 0, C a0 0, C a0 1, C a0 2, .slice none 0 0, .slice none 0 0]) σ fun x230 l231 s232 => match x230 with | .normal => N (G l231 0) (fun v233 => cs_spec_l2Set_4 w0 v233 l231 s232 R) | .ret => R (.agg (⟨[G l231 14, G l231 15, G l231 16, G l231 17, G l231 18]⟩)) s232 | .exit i243 => (match Nat.beq i243 0 with | true => N (G l231 0) (fun v244 => cs_spec_l2Set_4 w0 v244 l231 s232 R) | false => False)))))))

theorem vc_spec_l2Set_eq (w0 : World) (a0 a1 a2 a3 : Value) (σ : Vw) (R : Value → Vw → Prop) : vc_spec_l2Set w0 a0 a1 a2 a3 σ R = den Tryz.prog w0 kp_spec_l2Set esc_spec_l2Set (Tryz.f159.body.getD .skip) (entry Tryz.f159.ntmps [a0, a1, a2, a3]) σ (retK Tryz.prog Tryz.f159.results.toList R) := by kernel_rfl
theorem ac_spec_l2Set {w0 : World} {a0 a1 a2 a3 : Value} {σ : Vw} {R : Value → Vw → Prop} (h : vc_spec_l2Set w0 a0 a1 a2 a3 σ R) : AC Tryz.prog w0 n_spec_l2Set [a0, a1, a2, a3] σ R := by
  refine ac_rule (fn := Tryz.f159) (c := Tryz.f159.body.getD .skip) kp_spec_l2Set esc_spec_l2Set Tryz.func159 (by kernel_rfl) (by kernel_rfl) ?_
  rw [← vc_spec_l2Set_eq]
  exact h

end Go.Proofs.YtkbhjejalkbogaaGreatDoor

/- What each function owes, reckoned out, part 6. MADE BY PROGRAM (emit.py). -/
set_option linter.unusedVariables false
namespace Go.Proofs.YtkbhjejalkbogaaGreatDoor
open Go.Av renaming vget → G, cellOf → C, pVal → V, pBin → B, pIndexAddr → X, pLoad → L, pField → F, pIf → Q, pExtract → E, pAppend → A, pLen → N, pNew → W
open Go.Proofs.Tryz renaming prog → P
open Go Go.Av

/-- spec.l2File -/
def kp_spec_l2File : Nat → Keep
  | 14 => ⟨[], [], [], .step 0 (.step 1 (.step 2 (.step 3 (.step 5 (.step 4 (.step 6 (.step 7 (.step 8 (.step 9 (.step 10 (.done))))))))))), [(2, [1]), (4, [0, 1, 2, 3]), (6, [0, 1, 2, 3, 4, 5]), (7, [0, 1, 2, 3, 4, 5, 6]), (8, [0, 1, 2, 3, 4, 5, 6]), (9, [0, 1, 2, 3, 4, 5, 6, 7, 8]), (10, [0, 1, 2, 3, 4, 5, 6, 7, 8, 9])]⟩
  | _ => ⟨[], [], [], .done, []⟩
def esc_spec_l2File : Nat → Bool
  | _ => false
def cs_spec_l2File_2 (w0 : World) (v900 : Value) (v901 : Value) (v902 : Value) (v903 : Value) (s904 : Vw) (R : Value → Vw → Prop) : Prop :=
  V false 1 v900 (AC P w0 n_spec_l2Set ([.agg (⟨[C v901 0, C v901 1, C v901 2, C v901 3, C v901 4]⟩), C v902 1, .agg (⟨[C v903 0, C v903 1, v900, C v903 3, C v903 4]⟩), .bool false]) s904 fun v500 s501 => AC P w0 n_spec_l2Fits ([v500, .agg (⟨[C v901 0, C v901 1, C v901 2, C v901 3, C v901 4]⟩)]) s501 fun v502 s503 => E v502 0 fun v504 => E v502 1 fun v505 => V true 5 v504 (R (.tuple (⟨[.agg (⟨[C v504 0, C v504 1, C v504 2, C v504 3, C v504 4]⟩), v505]⟩)) s503))
def cs_spec_l2File_1 (w0 : World) (v900 : Value) (v901 : Value) (s902 : Vw) (v903 : Value) (R : Value → Vw → Prop) : Prop :=
  B P 3 .eql (C v900 0) (.int .i64 3) (fun v500 => Q v500 (pLenS (C v901 2) fun v501 => B P 3 .gtr v501 (C v900 3) fun v502 => Q v502 (pSliceStr (C v901 2) none (some (C v900 3)) fun v503 => AC P w0 n_spec_l2Write ([v503, C v900 3, .string ({ data := #[] })]) s902 fun v504 s505 => cs_spec_l2File_2 w0 v504 v903 v900 v901 s505 R) (AC P w0 n_spec_l2Write ([C v901 2, C v900 3, .string ({ data := #[] })]) s902 fun v512 s513 => cs_spec_l2File_2 w0 v512 v903 v900 v901 s513 R)) (pLenS (C v900 4) fun v520 => B P 3 .add v520 (C v900 3) fun v521 => B P 3 .gtr v521 (.int .i64 24) fun v522 => Q v522 (V true 5 (.agg (⟨[C v903 0, C v903 1, C v903 2, C v903 3, C v903 4]⟩)) (R (.tuple (⟨[.agg (⟨[C v903 0, C v903 1, C v903 2, C v903 3, C v903 4]⟩), .int .i64 6]⟩)) s902)) (AC P w0 n_spec_l2Write [C v901 2, C v900 3, C v900 4] s902 fun v523 s524 => cs_spec_l2File_2 w0 v523 v903 v900 v901 s524 R)))
def vc_spec_l2File (w0 : World) (a0 a1 : Value) (σ : Vw) (R : Value → Vw → Prop) : Prop :=
  V true 5 a0 (V true 5 a1 (AC P w0 n_spec_l1At ([.agg (⟨[C a0 0, C a0 1, C a0 2, C a0 3, C a0 4]⟩), C a1 1]) σ fun v0 s1 => E v0 0 fun v2 => E v0 1 fun v3 => V true 5 v2 (Q v3 (Q (C v2 0) (V true 5 (.agg (⟨[C a0 0, C a0 1, C a0 2, C a0 3, C a0 4]⟩)) (R (.tuple (⟨[.agg (⟨[C a0 0, C a0 1, C a0 2, C a0 3, C a0 4]⟩), .int .i64 4]⟩)) s1)) (pUn .not v3 fun v4 => Q v4 (B P 3 .eql (C a1 0) (.int .i64 3) fun v5 => Q v5 (V true 5 (.agg (⟨[C a0 0, C a0 1, C a0 2, C a0 3, C a0 4]⟩)) (R (.tuple (⟨[.agg (⟨[C a0 0, C a0 1, C a0 2, C a0 3, C a0 4]⟩), .int .i64 3]⟩)) s1)) (cs_spec_l2File_1 w0 a1 v2 s1 a0 R)) (cs_spec_l2File_1 w0 a1 v2 s1 a0 R))) (pUn .not v3 fun v68 => Q v68 (B P 3 .eql (C a1 0) (.int .i64 3) fun v69 => Q v69 (V true 5 (.agg (⟨[C a0 0, C a0 1, C a0 2, C a0 3, C a0 4]⟩)) (R (.tuple (⟨[.agg (⟨[C a0 0, C a0 1, C a0 2, C a0 3, C a0 4]⟩), .int .i64 3]⟩)) s1)) (cs_spec_l2File_1 w0 a1 v2 s1 a0 R)) (cs_spec_l2File_1 w0 a1 v2 s1 a0 R)))))

theorem vc_spec_l2File_eq (w0 : World) (a0 a1 : Value) (σ : Vw) (R : Value → Vw → Prop) : vc_spec_l2File w0 a0 a1 σ R = den Tryz.prog w0 kp_spec_l2File esc_spec_l2File (Tryz.f160.body.getD .skip) (entry Tryz.f160.ntmps [a0, a1]) σ (retK Tryz.prog Tryz.f160.results.toList R) := by kernel_rfl
theorem ac_spec_l2File {w0 : World} {a0 a1 : Value} {σ : Vw} {R : Value → Vw → Prop} (h : vc_spec_l2File w0 a0 a1 σ R) : AC Tryz.prog w0 n_spec_l2File [a0, a1] σ R := by
  refine ac_rule (fn := Tryz.f160) (c := Tryz.f160.body.getD .skip) kp_spec_l2File esc_spec_l2File Tryz.func160 (by kernel_rfl) (by kernel_rfl) ?_
  rw [← vc_spec_l2File_eq]
  exact h

/-- spec.l2Rename -/
def kp_spec_l2Rename : Nat → Keep
  | 12 => ⟨[], [], [], .step 0 (.step 1 (.step 2 (.step 3 (.step 5 (.step 6 (.step 7 (.step 9 (.step 4 (.step 8 (.step 10 (.step 11 (.step 12 (.step 13 (.step 14 (.done))))))))))))))), [(2, [1]), (4, [0, 1, 2, 3]), (6, [5]), (8, [0, 1, 2, 3, 4, 5, 6, 7]), (10, [0, 1, 2, 3, 4, 5, 6, 7, 8, 9]), (11, [0, 1, 2, 3, 4, 5, 6, 7, 8, 9, 10]), (12, [0, 1, 2, 3, 4, 5, 6, 7, 8, 9, 10]), (13, [0, 1, 2, 3, 4, 5, 6, 7, 8, 9, 10, 11, 12]), (14, [0, 1, 2, 3, 4, 5, 6, 7, 8, 9, 10, 11, 12, 13])]⟩
  | _ => ⟨[], [], [], .done, []⟩
def esc_spec_l2Rename : Nat → Bool
  | _ => false
def vc_spec_l2Rename (w0 : World) (a0 a1 : Value) (σ : Vw) (R : Value → Vw → Prop) : Prop :=
  V true 5 a0 (V true 5 a1 (AC P w0 n_spec_l1At ([.agg (⟨[C a0 0, C a0 1, C a0 2, C a0 3, C a0 4]⟩), C a1 1]) σ fun v0 s1 => E v0 0 fun v2 => E v0 1 fun v3 => V true 5 v2 (pUn .not v3 fun v4 => Q v4 (V true 5 (.agg (⟨[C a0 0, C a0 1, C a0 2, C a0 3, C a0 4]⟩)) (R (.tuple (⟨[.agg (⟨[C a0 0, C a0 1, C a0 2, C a0 3, C a0 4]⟩), .int .i64 3]⟩)) s1)) (AC P w0 n_spec_l2Within [C a1 2, C a1 1] s1 fun v5 s6 => Q v5 (V true 5 (.agg (⟨[C a0 0, C a0 1, C a0 2, C a0 3, C a0 4]⟩)) (R (.tuple (⟨[.agg (⟨[C a0 0, C a0 1, C a0 2, C a0 3, C a0 4]⟩), .int .i64 7]⟩)) s6)) (AC P w0 n_spec_l2Parent ([.agg (⟨[C a0 0, C a0 1, C a0 2, C a0 3, C a0 4]⟩), C a1 2]) s6 fun v7 s8 => B P 3 .neq v7 (.int .i64 0) fun v9 => Q v9 (V true 5 (.agg (⟨[C a0 0, C a0 1, C a0 2, C a0 3, C a0 4]⟩)) (R (.tuple (⟨[.agg (⟨[C a0 0, C a0 1, C a0 2, C a0 3, C a0 4]⟩), v7]⟩)) s8)) (AC P w0 n_spec_l1At ([.agg (⟨[C a0 0, C a0 1, C a0 2, C a0 3, C a0 4]⟩), C a1 2]) s8 fun v10 s11 => E v10 0 fun v12 => E v10 1 fun v13 => V true 5 v12 (Q v13 (V true 5 (.agg (⟨[C a0 0, C a0 1, C a0 2, C a0 3, C a0 4]⟩)) (R (.tuple (⟨[.agg (⟨[C a0 0, C a0 1, C a0 2, C a0 3, C a0 4]⟩), .int .i64 5]⟩)) s11)) (AC P w0 n_spec_l2Set ([.agg (⟨[C a0 0, C a0 1, C a0 2, C a0 3, C a0 4]⟩), C a1 1, .agg (⟨[.bool false, .int .i64 0, .string ({ data := #[] }), .slice none 0 0, .slice none 0 0]⟩), .bool true]) s11 fun v14 s15 => AC P w0 n_spec_l2Set ([v14, C a1 2, .agg (⟨[C v2 0, C v2 1, C v2 2, C v2 3, C v2 4]⟩), .bool false]) s15 fun v16 s17 => AC P w0 n_spec_l2Fits ([v16, .agg (⟨[C a0 0, C a0 1, C a0 2, C a0 3, C a0 4]⟩)]) s17 fun v18 s19 => E v18 0 fun v20 => E v18 1 fun v21 => V true 5 v20 (R (.tuple (⟨[.agg (⟨[C v20 0, C v20 1, C v20 2, C v20 3, C v20 4]⟩), v21]⟩)) s19)))))))))
theorem vc_spec_l2Rename_eq (w0 : World) (a0 a1 : Value) (σ : Vw) (R : Value → Vw → Prop) : vc_spec_l2Rename w0 a0 a1 σ R = den Tryz.prog w0 kp_spec_l2Rename esc_spec_l2Rename (Tryz.f161.body.getD .skip) (entry Tryz.f161.ntmps [a0, a1]) σ (retK Tryz.prog Tryz.f161.results.toList R) := by kernel_rfl
theorem ac_spec_l2Rename {w0 : World} {a0 a1 : Value} {σ : Vw} {R : Value → Vw → Prop} (h : vc_spec_l2Rename w0 a0 a1 σ R) : AC Tryz.prog w0 n_spec_l2Rename [a0, a1] σ R := by
  refine ac_rule (fn := Tryz.f161) (c := Tryz.f161.body.getD .skip) kp_spec_l2Rename esc_spec_l2Rename Tryz.func161 (by kernel_rfl) (by kernel_rfl) ?_
  rw [← vc_spec_l2Rename_eq]
  exact h

/-- internal/stringslite.HasPrefix -/
def kp_internal_stringslite_HasPrefix : Nat → Keep
  | _ => ⟨[], [], [], .done, []⟩
def esc_internal_stringslite_HasPrefix : Nat → Bool
  | _ => false
def vc_internal_stringslite_HasPrefix (w0 : World) (a0 a1 : Value) (σ : Vw) (R : Value → Vw → Prop) : Prop :=
  pLenS a0 fun v0 => pLenS a1 fun v1 => B P 3 .geq v0 v1 fun v2 => Q v2 (pLenS a1 fun v3 => pSliceStr a0 none (some v3) fun v4 => B P 9 .eql v4 a1 fun v5 => R v5 σ) (R (.bool false) σ)
theorem vc_internal_stringslite_HasPrefix_eq (w0 : World) (a0 a1 : Value) (σ : Vw) (R : Value → Vw → Prop) : vc_internal_stringslite_HasPrefix w0 a0 a1 σ R = den Tryz.prog w0 kp_internal_stringslite_HasPrefix esc_internal_stringslite_HasPrefix (Tryz.f165.body.getD .skip) (entry Tryz.f165.ntmps [a0, a1]) σ (retK Tryz.prog Tryz.f165.results.toList R) := by kernel_rfl
theorem ac_internal_stringslite_HasPrefix {w0 : World} {a0 a1 : Value} {σ : Vw} {R : Value → Vw → Prop} (h : vc_internal_stringslite_HasPrefix w0 a0 a1 σ R) : AC Tryz.prog w0 n_internal_stringslite_HasPrefix [a0, a1] σ R := by
  refine ac_rule (fn := Tryz.f165) (c := Tryz.f165.body.getD .skip) kp_internal_stringslite_HasPrefix esc_internal_stringslite_HasPrefix Tryz.func165 (by kernel_rfl) (by kernel_rfl) ?_
  rw [← vc_internal_stringslite_HasPrefix_eq]
  exact h

def vc_slices_IndexFunc_impl_Mark_impl_Mark (w0 : World) (a0 a1 : Value) (σ : Vw) (R : Value → Vw → Prop) : Prop :=
  N a0 fun v0 => pLoop (fun l1 K2 s3 => B P 3 .lss (G l1 4) (G l1 3) fun v4 => Q v4 (X 2 (G l1 0) (G l1 4) fun v5 => L w0 2 v5 s3 fun g6 => pCallV (fun n7 l8 s9 K10 => AC P w0 n7 l8 s9 K10) (G l1 1) ([.agg (⟨[g6 0, g6 1]⟩)]) s3 fun v11 s12 => Q v11 (K2 .ret [G l1 0, G l1 1, G l1 4, G l1 3, G l1 4] s12) (B P 3 .add (G l1 4) (.int .i64 1) fun v13 => K2 .normal [G l1 0, G l1 1, G l1 2, G l1 3, v13] s12)) (K2 (.exit 0) [G l1 0, G l1 1, G l1 2, G l1 3, G l1 4] s3)) [a0, a1, .int .i64 0, v0, .int .i64 0] σ fun x14 l15 s16 => match x14 with | .normal => R (.int .i64 (-1)) s16 | .ret => R (G l15 2) s16 | .exit i17 => (match Nat.beq i17 0 with | true => R (.int .i64 (-1)) s16 | false => False)
/-- spec.l2Write -/
def kp_spec_l2Write : Nat → Keep
  | 2 => ⟨[1, 2, 7], [], [], .done, []⟩
  | 5 => ⟨[1, 2, 7, 8], [], [], .done, []⟩
  | _ => ⟨[], [], [], .done, []⟩
def esc_spec_l2Write : Nat → Bool
  | _ => false
def vc_spec_l2Write (w0 : World) (a0 a1 a2 : Value) (σ : Vw) (R : Value → Vw → Prop) : Prop :=
  pBytes w0 5 a0 σ fun v0 s1 => pLoop (fun l2 K3 s4 => N (G l2 2) fun v5 => pLenS (G l2 1) fun v6 => B P 3 .add (G l2 0) v6 fun v7 => B P 3 .lss v5 v7 fun v8 => Q v8 (V false 1 (.int .u8 0) ((allOne [.int .u8 0]) ∧ (A w0 5 1 1 (G l2 2) 1 [.int .u8 0] s4 fun v9 s10 => K3 .normal [G l2 0, G l2 1, v9] s10))) (K3 (.exit 0) [G l2 0, G l2 1, G l2 2] s4)) [a1, a2, v0] s1 fun x11 l12 s13 => match x11 with | .normal => pLoop (fun l14 K15 s16 => pLenS (G l14 1) fun v17 => B P 3 .lss (G l14 3) v17 fun v18 => Q v18 (B P 3 .add (G l14 0) (G l14 3) fun v19 => pIndexStr (G l14 1) (G l14 3) fun v20 => X 1 (G l14 2) v19 fun v21 => V false 1 v20 (pStore v21 [v20] s16 fun s22 => B P 3 .add (G l14 3) (.int .i64 1) fun v23 => K15 .normal [G l14 0, G l14 1, G l14 2, v23] s22)) (K15 (.exit 2) [G l14 0, G l14 1, G l14 2, G l14 3] s16)) [G l12 0, G l12 1, G l12 2, .int .i64 0] s13 (fun x24 l25 s26 => match x24 with | .normal => pStr w0 (G l25 2) s26 (fun v27 => R v27 s26) | .ret => False | .exit i28 => (match Nat.beq i28 2 with | true => pStr w0 (G l25 2) s26 (fun v29 => R v29 s26) | false => False)) | .ret => False | .exit i30 => (match Nat.beq i30 0 with | true => pLoop (fun l31 K32 s33 => pLenS (G l31 1) fun v34 => B P 3 .lss (G l31 3) v34 fun v35 => Q v35 (B P 3 .add (G l31 0) (G l31 3) fun v36 => pIndexStr (G l31 1) (G l31 3) fun v37 => X 1 (G l31 2) v36 fun v38 => V false 1 v37 (pStore v38 [v37] s33 fun s39 => B P 3 .add (G l31 3) (.int .i64 1) fun v40 => K32 .normal [G l31 0, G l31 1, G l31 2, v40] s39)) (K32 (.exit 2) [G l31 0, G l31 1, G l31 2, G l31 3] s33)) [G l12 0, G l12 1, G l12 2, .int .i64 0] s13 (fun x41 l42 s43 => match x41 with | .normal => pStr w0 (G l42 2) s43 (fun v44 => R v44 s43) | .ret => False | .exit i45 => (match Nat.beq i45 2 with | true => pStr w0 (G l42 2) s43 (fun v46 => R v46 s43) | false => False)) | false => False)
theorem vc_spec_l2Write_eq (w0 : World) (a0 a1 a2 : Value) (σ : Vw) (R : Value → Vw → Prop) : vc_spec_l2Write w0 a0 a1 a2 σ R = den Tryz.prog w0 kp_spec_l2Write esc_spec_l2Write (Tryz.f182.body.getD .skip) (entry Tryz.f182.ntmps [a0, a1, a2]) σ (retK Tryz.prog Tryz.f182.results.toList R) := by kernel_rfl
theorem ac_spec_l2Write {w0 : World} {a0 a1 a2 : Value} {σ : Vw} {R : Value → Vw → Prop} (h : vc_spec_l2Write w0 a0 a1 a2 σ R) : AC Tryz.prog w0 n_spec_l2Write [a0, a1, a2] σ R := by
  refine ac_rule (fn := Tryz.f182) (c := Tryz.f182.body.getD .skip) kp_spec_l2Write esc_spec_l2Write Tryz.func182 (by kernel_rfl) (by kernel_rfl) ?_
  rw [← vc_spec_l2Write_eq]
  exact h

end Go.Proofs.YtkbhjejalkbogaaGreatDoor

/- What each function owes, reckoned out, part 7. MADE BY PROGRAM (emit.py). -/
set_option linter.unusedVariables false
namespace Go.Proofs.YtkbhjejalkbogaaGreatDoor
open Go Go.Av

end Go.Proofs.YtkbhjejalkbogaaGreatDoor

/- What each function owes: all parts. MADE BY PROGRAM (emit.py). -/


/- The lists of texts: their size, their copy, their comparison. -/
set_option linter.unusedVariables false
set_option linter.unusedSimpArgs false
namespace Go.Proofs.YtkbhjejalkbogaaGreatDoor
open Go Go.Av

section
variable {w0 : World} {σ : Vw}

def sumS : List ByteArray → Nat
  | [] => 0
  | s :: r => s.size + sumS r
theorem sumS_take {xs : List ByteArray} : ∀ {j : Nat} {x : ByteArray}, xs[j]? = some x → sumS (xs.take (j + 1)) = sumS (xs.take j) + x.size := by
  induction xs with
  | nil => intro j x h; simp at h
  | cons a r ih =>
    intro j x h
    cases j with
    | zero => simp at h; subst h; simp [sumS]
    | succ j =>
      simp at h
      have := ih h
      simp only [List.take_succ_cons, sumS, this]
      omega
theorem sumS_le {xs : List ByteArray} : ∀ (j : Nat), sumS (xs.take j) ≤ sumS xs := by
  induction xs with
  | nil => intro j; simp [sumS]
  | cons a r ih =>
    intro j
    cases j with
    | zero => simp [sumS]
    | succ j => have := ih j; simp only [List.take_succ_cons, sumS]; omega

/-- What is left of n. -/
def left (n : Int) (t : Nat) : Int := if n - t < 0 then -1 else n - t

end
end Go.Proofs.YtkbhjejalkbogaaGreatDoor

/- The lists of texts: their copy, their comparison. -/
set_option linter.unusedVariables false
set_option linter.unusedSimpArgs false
namespace Go.Proofs.YtkbhjejalkbogaaGreatDoor
open Go Go.Av

section
variable {w0 : World} {σ : Vw}


end
end Go.Proofs.YtkbhjejalkbogaaGreatDoor

/- The lists of texts in rows of their own; marks (a path and a bool) and their lists: size, copy, comparison. -/
set_option linter.unusedVariables false
set_option linter.unusedSimpArgs false
namespace Go.Proofs.YtkbhjejalkbogaaGreatDoor
open Go Go.Av

/-- A text needs no row. -/
def OStr (σ : Vw) (F : List Nat) (es : List Value) (s : ByteArray) : Prop := F = [] ∧ es = [.string s] ∧ s.size ≤ 9223372036854775807

section
variable {w0 : World} {σ : Vw}

theorem ok_str (w0 : World) : OOk w0 1 RS OStr := by
  refine ⟨?_, ?_, ?_, ?_, ?_, ?_⟩
  · rintro σ F es x ⟨_, h1, h2⟩; exact ⟨h1, h2⟩
  · rintro σ σ' F es x h _; exact h
  · rintro σ F es x ⟨rfl, _, _⟩ b hb; cases hb
  · rintro σ F es x ⟨rfl, _, _⟩; exact List.nodup_nil
  · rintro σ F es x ⟨_, rfl, _⟩; rfl
  · rintro σ F es x ⟨_, rfl, _⟩ c hc; rw [List.mem_singleton.1 hc]; rfl

abbrev OStrs (w0 : World) := OSl w0 1 OStr
theorem flat_strs (xs : List ByteArray) : xs.map Value.string = (xs.map fun s => [Value.string s]).flatten := by
  induction xs with
  | nil => rfl
  | cons a r ih => simp [ih]

theorem own_strs {b cap : Nat} {r : Row} {xs : List ByteArray} (hb : w0.heap.size ≤ b) (hr : σ b = some r) (hc : r.cells = xs.map .string) (hm : xs.length ≤ cap ∧ cap ≤ 9223372036854775807) (hs : ∀ x, x ∈ xs → x.size ≤ 9223372036854775807) : OStrs w0 σ [b] (.slice (some ⟨b, 0, none⟩) xs.length cap) xs := by
  have hnil : (List.replicate xs.length ([] : List Nat)).flatten = [] := by simp
  refine ⟨Nat.le_trans hm.1 hm.2, by simp, .inr ⟨b, 0, cap, r, [], [], xs.map fun s => [.string s], List.replicate xs.length [], rfl, hm, hb, hr, by rw [hc, flat_strs]; simp, rfl, by simp, by simp, by rw [hnil], fun j c x f e1 e2 e3 => ?_⟩⟩
  rw [List.getElem?_map, e2] at e1
  cases e1
  refine ⟨?_, rfl, hs x (List.mem_of_getElem? e2)⟩
  rw [List.getElem?_replicate] at e3
  split at e3
  · cases e3; rfl
  · cases e3

/-- A mark: a path, and a bool. -/
abbrev Mk := List ByteArray × Bool
theorem OSl.one' {α : Type} {n : Nat} {O : Vw → List Nat → List Value → α → Prop} {F : List Nat} {v : Value} {xs : List α} (h : OSl w0 n O σ F v xs) : v.oneCell' = true := by
  obtain ⟨_, _, ⟨rfl, _⟩ | ⟨_, _, _, _, _, _, _, _, rfl, _⟩⟩ := h <;> rfl

theorem sumS_eq (xs : List ByteArray) : sumS xs = sumBy ByteArray.size xs := by
  induction xs with
  | nil => rfl
  | cons a r ih => simp [sumS, sumBy, ih]

end
end Go.Proofs.YtkbhjejalkbogaaGreatDoor

/- Names: their letters and their length. -/
set_option linter.unusedVariables false
set_option linter.unusedSimpArgs false
namespace Go.Proofs.YtkbhjejalkbogaaGreatDoor
open Go Go.Av

theorem pIndexStr_s {s : ByteArray} {j : Nat} {K : Value → Prop} (h : j < s.size) (hK : K (.int .u8 ((s[j]'h).toNat : Int))) : pIndexStr (.string s) (.int .i64 j) K :=
  ⟨s, .i64, j, rfl, rfl, by omega, h, hK⟩

def okB (n : Nat) : Prop := (97 ≤ n ∧ n ≤ 122) ∨ (48 ≤ n ∧ n ≤ 57)
/-- Within two bounds. -/
def inB (n lo hi : Int) : Bool := decide (lo ≤ n ∧ n ≤ hi)
def lettersOk (s : ByteArray) : Prop := ∀ (i : Nat) (h : i < s.size), okB (s[i]'h).toNat
open Classical in
noncomputable def nameOk (s : ByteArray) : Bool := decide (lettersOk s) && inB s.size 1 5

section
variable {w0 : World} {σ : Vw}

theorem spec_In {n lo hi : Int} {R : Value → Vw → Prop} (hR : R (.bool (inB n lo hi)) σ) : AC Tryz.prog w0 n_spec_l1In [.int .i64 n, .int .i64 lo, .int .i64 hi] σ R := by
  refine ac_spec_l1In ?_
  unfold vc_spec_l1In
  rw [pBin_ge, pIf_d]
  refine ⟨fun h => ?_, fun h => ?_⟩
  · rw [pBin_le]
    have : inB n lo hi = decide (n ≤ hi) := by simp [inB, h]
    rw [this] at hR; exact hR
  · have : inB n lo hi = false := by simp [inB, h]
    rw [this] at hR; exact hR
theorem impl_within {n lo hi : Int} {R : Value → Vw → Prop} (hR : R (.bool (inB n lo hi)) σ) : AC Tryz.prog w0 n_impl_within [.int .i64 n, .int .i64 lo, .int .i64 hi] σ R := by
  refine ac_impl_within ?_
  unfold vc_impl_within
  rw [pBin_ge, pIf_d]
  refine ⟨fun h => ?_, fun h => ?_⟩
  · rw [pBin_le]
    have : inB n lo hi = decide (n ≤ hi) := by simp [inB, h]
    rw [this] at hR; exact hR
  · have : inB n lo hi = false := by simp [inB, h]
    rw [this] at hR; exact hR

theorem nameOk_bad {s : ByteArray} {j : Nat} (h : j < s.size) (hb : ¬ okB (s[j]'h).toNat) : nameOk s = false := by
  have : ¬ lettersOk s := fun h' => hb (h' j h)
  simp [nameOk, this]
theorem nameOk_good {s : ByteArray} (h : lettersOk s) : nameOk s = inB s.size 1 5 := by simp [nameOk, h]

theorem spec_nameOk {s : ByteArray} (hs : s.size ≤ 9223372036854775807) {R : Value → Vw → Prop} (hR : R (.bool (nameOk s)) σ) : AC Tryz.prog w0 n_spec_l1NameOk [.string s] σ R := by
  refine ac_spec_l1NameOk ?_
  unfold vc_spec_l1NameOk cs_spec_l1NameOk_1
  refine loop_rule (m := s.size) (fun m l t => ∃ j, t = σ ∧ m + j = s.size ∧ (∀ (i : Nat) (h : i < s.size), i < j → okB (s[i]'h).toNat) ∧ l = [.string s, .bool false, .int .i64 (j : Nat)]) ?_ ⟨0, rfl, by omega, fun i h h' => by omega, rfl⟩
  rintro m l t L ⟨j, rfl, hm, ht, rfl⟩ hL
  simp only [vget, List.getD_cons_zero, List.getD_cons_succ]
  rw [pLenS_s, pBin_lt, pIf_d]
  refine ⟨fun hj => ?_, fun hj => ?_⟩
  · have hj' : j < s.size := by omega
    have bad : ¬ okB (s[j]'hj').toNat → R (.bool false) t := fun h => by rw [nameOk_bad hj' h] at hR; exact hR
    have good : okB (s[j]'hj').toNat → L [.string s, .bool false, .int .i64 ((j + 1 : Nat) : Int)] t := fun h => hL _ _ (m - 1) (by omega) ⟨j + 1, rfl, by omega, fun i hi hij => by
      by_cases e : i = j
      · subst e; exact h
      · exact ht i hi (by omega), rfl⟩
    have add : ∀ K : Value → Prop, pBin Tryz.prog 3 .add (.int .i64 j) (.int .i64 1) K ↔ K (.int .i64 ((j + 1 : Nat) : Int)) := fun K => pBin_add (by omega)
    have idx : ∀ K : Value → Prop, K (.int .u8 ((s[j]'hj').toNat : Int)) → pIndexStr (.string s) (.int .i64 j) K := fun K hK => pIndexStr_s hj' hK
    simp only [add, pUn_not, pIf_b, Bool.not_true, Bool.not_false, forall_const, Bool.false_eq_true, false_imp_iff, true_imp_iff, true_and, and_true, reduceCtorEq]
    refine idx _ ?_
    rw [pBin_ge, pIf_d]
    refine ⟨fun h1 => idx _ ?_, fun h1 => idx _ ?_⟩
    · rw [pBin_le, pIf_d]
      refine ⟨fun h2 => good (.inl ⟨by omega, by omega⟩), fun h2 => idx _ ?_⟩
      rw [pBin_ge, pIf_d]
      refine ⟨fun h3 => idx _ ?_, fun h3 => bad fun h => by unfold okB at h; omega⟩
      rw [pBin_le, pUn_not, pIf_b]
      refine ⟨fun h4 => bad fun h => ?_, fun h4 => good ?_⟩
      · unfold okB at h; simp at h4; omega
      · simp at h4; exact .inr ⟨by omega, by omega⟩
    · rw [pBin_ge, pIf_d]
      refine ⟨fun h3 => idx _ ?_, fun h3 => bad fun h => by unfold okB at h; omega⟩
      rw [pBin_le, pUn_not, pIf_b]
      refine ⟨fun h4 => bad fun h => ?_, fun h4 => good ?_⟩
      · unfold okB at h; simp at h4; omega
      · simp at h4; exact .inr ⟨by omega, by omega⟩
  · have hj' : j = s.size := by omega
    subst hj'
    show pLenS (.string s) _
    rw [pLenS_s]
    refine spec_In ?_
    rw [nameOk_good fun i h => ht i h h] at hR
    exact hR

theorem impl_nameOk {s : ByteArray} (hs : s.size ≤ 9223372036854775807) {R : Value → Vw → Prop} (hR : R (.bool (nameOk s)) σ) : AC Tryz.prog w0 n_impl_nameOk [.string s] σ R := by
  refine ac_impl_nameOk ?_
  unfold vc_impl_nameOk
  rw [pLenS_s]
  refine loop_rule (m := s.size) (fun m l t => ∃ j, t = σ ∧ m + j = s.size ∧ (∀ (i : Nat) (h : i < s.size), i < j → okB (s[i]'h).toNat) ∧ l = [.string s, .bool false, .int .i64 s.size, .int .i64 (j : Nat)]) ?_ ⟨0, rfl, by omega, fun i h h' => by omega, rfl⟩
  rintro m l t L ⟨j, rfl, hm, ht, rfl⟩ hL
  simp only [vget, List.getD_cons_zero, List.getD_cons_succ]
  rw [pBin_lt, pIf_d]
  refine ⟨fun hj => ?_, fun hj => ?_⟩
  · have hj' : j < s.size := by omega
    have bad : ¬ okB (s[j]'hj').toNat → R (.bool false) t := fun h => by rw [nameOk_bad hj' h] at hR; exact hR
    have good : okB (s[j]'hj').toNat → L [.string s, .bool false, .int .i64 s.size, .int .i64 ((j + 1 : Nat) : Int)] t := fun h => hL _ _ (m - 1) (by omega) ⟨j + 1, rfl, by omega, fun i hi hij => by
      by_cases e : i = j
      · subst e; exact h
      · exact ht i hi (by omega), rfl⟩
    have add : ∀ K : Value → Prop, pBin Tryz.prog 3 .add (.int .i64 j) (.int .i64 1) K ↔ K (.int .i64 ((j + 1 : Nat) : Int)) := fun K => pBin_add (by omega)
    have idx : ∀ K : Value → Prop, K (.int .u8 ((s[j]'hj').toNat : Int)) → pIndexStr (.string s) (.int .i64 j) K := fun K hK => pIndexStr_s hj' hK
    simp only [add]
    refine idx _ ?_
    rw [pBin_lt, pIf_d]
    refine ⟨fun h1 => idx _ ?_, fun h1 => idx _ ?_⟩
    · rw [pBin_lt, pIf_d]
      refine ⟨fun h2 => bad fun h => by unfold okB at h; omega, fun h2 => idx _ ?_⟩
      rw [pBin_gt, pIf_d]
      exact ⟨fun h3 => bad fun h => by unfold okB at h; omega, fun h3 => good (.inr ⟨by omega, by omega⟩)⟩
    · rw [pBin_gt, pIf_d]
      refine ⟨fun h2 => idx _ ?_, fun h2 => good (.inl ⟨by omega, by omega⟩)⟩
      rw [pBin_lt, pIf_d]
      refine ⟨fun h2 => bad fun h => by unfold okB at h; omega, fun h2 => idx _ ?_⟩
      rw [pBin_gt, pIf_d]
      exact ⟨fun h3 => bad fun h => by unfold okB at h; omega, fun h3 => good (.inr ⟨by omega, by omega⟩)⟩
  · have hj' : j = s.size := by omega
    subst hj'
    show pLenS (.string s) _
    rw [pLenS_s]
    refine impl_within ?_
    rw [nameOk_good fun i h => ht i h h] at hR
    exact hR
end
end Go.Proofs.YtkbhjejalkbogaaGreatDoor

/- Paths: their names, their order, what lies within what. -/
set_option linter.unusedVariables false
set_option linter.unusedSimpArgs false
namespace Go.Proofs.YtkbhjejalkbogaaGreatDoor
open Go Go.Av

def strLt (a b : ByteArray) : Bool := Op.bytesLess a.toList b.toList
theorem bl_irrefl : ∀ (a : List UInt8), Op.bytesLess a a = false
  | [] => rfl
  | x :: r => by simp [Op.bytesLess, bl_irrefl r]
theorem strLt_irrefl (a : ByteArray) : strLt a a = false := bl_irrefl _
noncomputable def allNames : List ByteArray → Bool
  | [] => true
  | s :: r => nameOk s && allNames r
theorem allNames_iff {xs : List ByteArray} : allNames xs = true ↔ ∀ (j : Nat) (x : ByteArray), xs[j]? = some x → nameOk x = true := by
  induction xs with
  | nil => simp [allNames]
  | cons a r ih =>
    simp only [allNames, Bool.and_eq_true, ih]
    constructor
    · rintro ⟨h1, h2⟩ j x hj
      cases j with
      | zero => simp at hj; subst hj; exact h1
      | succ j => exact h2 j x (by simpa using hj)
    · intro h
      exact ⟨h 0 a rfl, fun j x hj => h (j + 1) x (by simpa using hj)⟩
theorem allNames_bad {xs : List ByteArray} {j : Nat} {x : ByteArray} (hj : xs[j]? = some x) (h : nameOk x = false) : allNames xs = false := by
  cases hc : allNames xs with
  | false => rfl
  | true => have := allNames_iff.1 hc j x hj; rw [h] at this; cases this

def lexLt : List ByteArray → List ByteArray → Bool
  | _, [] => false
  | [], _ :: _ => true
  | a :: r, b :: q => if a = b then lexLt r q else strLt a b

/-- The path b lies at or under a. -/
def within (b a : List ByteArray) : Bool := decide (a.length ≤ b.length ∧ b.take a.length = a)


section
variable {w0 : World} {σ : Vw}

theorem pBin_slt {P : Program} {T : Nat} {a b : ByteArray} {K : Value → Prop} : pBin P T .lss (.string a) (.string b) K ↔ K (.bool (strLt a b)) := pBin_s rfl
theorem RSl.at1 {v : Value} {xs : List ByteArray} (h : RSl 1 RS (Av.get w0 σ) v xs) {j : Nat} {x : ByteArray} (hj : xs[j]? = some x) {K : (Nat → Value) → Prop} (hK : ∀ g : Nat → Value, g 0 = .string x → x.size ≤ 9223372036854775807 → K g) :
    pIndexAddr 1 v (.int .i64 j) fun p => pLoad w0 1 p σ K := by
  refine h.at hj fun g hg => ?_
  obtain ⟨hg, hs⟩ := hg
  simp only [expl, List.cons.injEq, and_true] at hg
  exact hK g hg hs

theorem spec_PathOk {v : Value} {xs : List ByteArray} (h : RSl 1 RS (Av.get w0 σ) v xs) {R : Value → Vw → Prop} (hR : R (.bool (allNames xs && inB xs.length 1 4)) σ) : AC Tryz.prog w0 n_spec_l2PathOk [v] σ R := by
  refine ac_spec_l2PathOk ?_
  unfold vc_spec_l2PathOk
  have hl := h.le
  refine loop_rule (m := xs.length) (fun m l t => ∃ j, t = σ ∧ m + j = xs.length ∧ (∀ (i : Nat) (x : ByteArray), i < j → xs[i]? = some x → nameOk x = true) ∧ l = [v, .bool false, .int .i64 (j : Nat)]) ?_ ⟨0, rfl, by omega, fun i x h => by omega, rfl⟩
  rintro m l t L ⟨j, rfl, hm, ht, rfl⟩ hL
  simp only [vget, List.getD_cons_zero, List.getD_cons_succ]
  rw [h.len, pBin_lt, pIf_d]
  refine ⟨fun hj => ?_, fun hj => ?_⟩
  · have hj' : j < xs.length := by omega
    have hx := List.getElem?_eq_getElem hj'
    refine RSl.at1 h hx fun g hg hs => ?_
    rw [hg]
    refine spec_nameOk hs ?_
    rw [pUn_not, pIf_b]
    refine ⟨fun hb => ?_, fun hb => ?_⟩
    · rw [allNames_bad hx (by simpa using hb)] at hR; exact hR
    · rw [pBin_add (by omega)]
      refine hL _ _ (m - 1) (by omega) ⟨j + 1, rfl, by omega, fun i x hi he => ?_, rfl⟩
      by_cases e : i = j
      · subst e; rw [hx] at he; cases he; simpa using hb
      · exact ht i x (by omega) he
  · have hj' : j = xs.length := by omega
    subst hj'
    show pLen v _
    rw [h.len]
    refine spec_In ?_
    rw [allNames_iff.2 fun i x he => ht i x (List.getElem?_eq_some_iff.1 he).1 he] at hR
    exact hR

theorem impl_namesOk {v : Value} {xs : List ByteArray} {lo : Int} (h : RSl 1 RS (Av.get w0 σ) v xs) {R : Value → Vw → Prop} (hR : R (.bool (allNames xs && inB xs.length lo 4)) σ) : AC Tryz.prog w0 n_impl_namesOk [v, .int .i64 lo] σ R := by
  refine ac_impl_namesOk ?_
  unfold vc_impl_namesOk
  have hl := h.le
  rw [h.len]
  refine loop_rule (m := xs.length) (fun m l t => ∃ j, t = σ ∧ m + j = xs.length ∧ (∀ (i : Nat) (x : ByteArray), i < j → xs[i]? = some x → nameOk x = true) ∧ l = [v, .int .i64 lo, .bool false, v, .int .i64 xs.length, .int .i64 (j : Nat)]) ?_ ⟨0, rfl, by omega, fun i x h => by omega, rfl⟩
  rintro m l t L ⟨j, rfl, hm, ht, rfl⟩ hL
  simp only [vget, List.getD_cons_zero, List.getD_cons_succ]
  rw [pBin_lt, pIf_d]
  refine ⟨fun hj => ?_, fun hj => ?_⟩
  · have hj' : j < xs.length := by omega
    have hx := List.getElem?_eq_getElem hj'
    refine RSl.at1 h hx fun g hg hs => ?_
    rw [hg]
    refine impl_nameOk hs ?_
    rw [pUn_not, pIf_b]
    refine ⟨fun hb => ?_, fun hb => ?_⟩
    · rw [allNames_bad hx (by simpa using hb)] at hR; exact hR
    · rw [pBin_add (by omega)]
      refine hL _ _ (m - 1) (by omega) ⟨j + 1, rfl, by omega, fun i x hi he => ?_, rfl⟩
      by_cases e : i = j
      · subst e; rw [hx] at he; cases he; simpa using hb
      · exact ht i x (by omega) he
  · have hj' : j = xs.length := by omega
    subst hj'
    show pLen v _
    rw [h.len]
    refine impl_within ?_
    rw [allNames_iff.2 fun i x he => ht i x (List.getElem?_eq_some_iff.1 he).1 he] at hR
    exact hR
end
end Go.Proofs.YtkbhjejalkbogaaGreatDoor

/- Paths: their order, what lies within what; marks. -/
set_option linter.unusedVariables false
set_option linter.unusedSimpArgs false
namespace Go.Proofs.YtkbhjejalkbogaaGreatDoor
open Go Go.Av

section
variable {w0 : World} {σ : Vw}

theorem within_false {xs ys : List ByteArray} {j : Nat} {a b : ByteArray} (hx : xs[j]? = some a) (hy : ys[j]? = some b) (h : a ≠ b) : within xs ys = false := by
  unfold within
  simp only [decide_eq_false_iff_not]
  rintro ⟨h1, h2⟩
  have hlt := (List.getElem?_eq_some_iff.1 hy).1
  rw [← h2, List.getElem?_take_of_lt hlt, hx] at hy
  cases hy; exact h rfl

theorem spec_Within {v v' : Value} {xs ys : List ByteArray} (h : RSl 1 RS (Av.get w0 σ) v xs) (h' : RSl 1 RS (Av.get w0 σ) v' ys) {R : Value → Vw → Prop} (hR : R (.bool (within xs ys)) σ) : AC Tryz.prog w0 n_spec_l2Within [v, v'] σ R := by
  refine ac_spec_l2Within ?_
  unfold vc_spec_l2Within
  have hl := h'.le
  rw [h.len, h'.len, pBin_lt, pIf_d]
  refine ⟨fun hlt => ?_, fun hge => ?_⟩
  · have : within xs ys = false := by unfold within; simp; omega
    rw [this] at hR; exact hR
  refine loop_rule (m := ys.length) (fun m l t => ∃ j, t = σ ∧ m + j = ys.length ∧ xs.take j = ys.take j ∧ l = [v, v', .bool false, .int .i64 (j : Nat)]) ?_ ⟨0, rfl, by omega, by simp, rfl⟩
  rintro m l t L ⟨j, rfl, hm, ht, rfl⟩ hL
  simp only [vget, List.getD_cons_zero, List.getD_cons_succ]
  rw [h'.len, pBin_lt, pIf_d]
  refine ⟨fun hj => ?_, fun hj => ?_⟩
  · have hx := List.getElem?_eq_getElem (show j < xs.length by omega)
    have hy' := List.getElem?_eq_getElem (show j < ys.length by omega)
    refine RSl.at1 h hx fun g hg hs => ?_
    refine RSl.at1 h' hy' fun g' hg' hs' => ?_
    rw [hg, hg', pBin_sne, pIf_d]
    refine ⟨fun hne => ?_, fun heq => ?_⟩
    · rw [within_false hx hy' hne] at hR; exact hR
    · have heq' := Decidable.not_not.1 heq
      rw [pBin_add (by omega)]
      exact hL _ _ (m - 1) (by omega) ⟨j + 1, rfl, by omega, by rw [List.take_add_one, List.take_add_one, hx, hy', ht, heq'], rfl⟩
  · have hj' : j = ys.length := by omega
    subst hj'
    rw [List.take_length] at ht
    have : within xs ys = true := by unfold within; simp [ht]; omega
    rw [this] at hR; exact hR

noncomputable def markOkB (x : Mk) : Bool := if x.1 = [] then x.2 else allNames x.1 && inB x.1.length 1 4

end
end Go.Proofs.YtkbhjejalkbogaaGreatDoor

/- Trails: when one is sound; the law 'TrailOk', of the functions alone. -/
set_option linter.unusedVariables false
set_option linter.unusedSimpArgs false
namespace Go.Proofs.YtkbhjejalkbogaaGreatDoor
open Go Go.Av

def underB (ms : List Mk) (p : List ByteArray) : Bool := ms.any fun m => m.2 && within p m.1
def afterB (ms : List Mk) (j : Nat) (x : Mk) : Bool :=
  match j with
  | 0 => true
  | i + 1 => match ms[i]? with
    | some y => lexLt y.1 x.1
    | none => true
noncomputable def goodAt (ms : List Mk) (j : Nat) (x : Mk) : Bool := markOkB x && (afterB ms j x && !underB (ms.take j) x.1)
def allGood (ms : List Mk) : Prop := ∀ (j : Nat) (x : Mk), ms[j]? = some x → goodAt ms j x = true
open Classical in
noncomputable def trailOk (ms : List Mk) : Bool := decide (allGood ms) && decide ((ms.length : Int) ≤ 6)
section
variable {w0 : World} {σ : Vw}

theorem RSl.take {α : Type} {n : Nat} {Rl : (Addr → Option Value) → List Value → α → Prop} {v : Value} {xs : List α} (h : RSl n Rl (Av.get w0 σ) v xs) {j : Nat} (hj : j ≤ xs.length) {K : Value → Prop} (hK : ∀ v', RSl n Rl (Av.get w0 σ) v' (xs.take j) → K v') : pSlice n v none (some (.int .i64 j)) K := by
  obtain ⟨A, cap, rfl, hc, h3⟩ := h
  refine ⟨A, xs.length, cap, 0, j, rfl, rfl, rfl, by omega, by omega, by omega, hK _ ?_⟩
  have hl : (xs.take j).length = j := by simp; omega
  refine ⟨if cap = (0 : Int).toNat then A else A.map (·.add ((0 : Int).toNat * n)), cap - (0 : Int).toNat, by rw [hl]; simp, ⟨by rw [hl]; simp; omega, by simp; omega⟩, fun i x hi => ?_⟩
  have hij : i < j := by have := (List.getElem?_eq_some_iff.1 hi).1; rw [hl] at this; exact this
  rw [List.getElem?_take_of_lt hij] at hi
  obtain ⟨a, es, rfl, h5, h6, h7⟩ := h3 i x hi
  refine ⟨a, es, ?_, h5, h6, h7⟩
  split
  · rfl
  · simp [Addr.add]

end
end Go.Proofs.YtkbhjejalkbogaaGreatDoor

/- The law 'TrailOk', of the functions alone. -/
set_option linter.unusedVariables false
set_option linter.unusedSimpArgs false
namespace Go.Proofs.YtkbhjejalkbogaaGreatDoor
open Go Go.Av

section
variable {w0 : World} {σ : Vw}

theorem sumBy_mem {α : Type} {f : α → Nat} : ∀ {xs : List α} {x : α}, x ∈ xs → f x ≤ sumBy f xs
  | a :: r, x, h => by
    simp only [sumBy]
    rcases List.mem_cons.1 h with e | e
    · subst e; omega
    · have := sumBy_mem (f := f) e; omega

end
end Go.Proofs.YtkbhjejalkbogaaGreatDoor

/- Trees: what is read of one; their size, their copy, their comparison. -/
set_option linter.unusedVariables false
set_option linter.unusedSimpArgs false
namespace Go.Proofs.YtkbhjejalkbogaaGreatDoor
open Go Go.Av

inductive Tr where
  | mk (dir : Bool) (mode : Int) (text : ByteArray) (names : List ByteArray) (kids : List Tr)
noncomputable instance : DecidableEq Tr := fun _ _ => Classical.propDecidable _

/-- What is read: n bounds the depth. -/
def RT : Nat → (Addr → Option Value) → List Value → Tr → Prop
  | 0, _, _, _ => False
  | n + 1, rd, es, .mk d m t ns ks => ∃ u w, es = [.bool d, .int .i64 m, .string t, u, w] ∧ (-9223372036854775808 ≤ m ∧ m ≤ 9223372036854775807) ∧ t.size ≤ 9223372036854775807 ∧ RSl 1 RS rd u ns ∧ RSl 5 (RT n) rd w ks
def OT (w0 : World) : Nat → Vw → List Nat → List Value → Tr → Prop
  | 0, _, _, _, _ => False
  | n + 1, σ, F, es, .mk d m t ns ks => ∃ u w F1 F2, es = [.bool d, .int .i64 m, .string t, u, w] ∧ (-9223372036854775808 ≤ m ∧ m ≤ 9223372036854775807) ∧ t.size ≤ 9223372036854775807 ∧ OStrs w0 σ F1 u ns ∧ OSl w0 5 (OT w0 n) σ F2 w ks ∧ F = F1 ++ F2 ∧ F.Nodup
def szT : Nat → Tr → Nat
  | 0, _ => 0
  | n + 1, .mk d m t ns ks => t.size + (ns.length + sumS ns) + (ks.length + sumBy (szT n) ks)

theorem mono_rt : ∀ (n : Nat) (rd rd' : Addr → Option Value) (es : List Value) (x : Tr), Le rd rd' → RT n rd es x → RT n rd' es x
  | 0, _, _, _, _, _, h => h
  | n + 1, rd, rd', es, .mk d m t ns ks, hl, h => by
    obtain ⟨u, w, h1, h2, h3, h4, h5⟩ := h
    exact ⟨u, w, h1, h2, h3, h4.mono hl fun _ _ h => h, h5.mono hl fun es x => mono_rt n _ _ es x hl⟩

section
variable {w0 : World} {σ : Vw}

theorem ok_rt (w0 : World) : ∀ n, OOk w0 5 (RT n) (OT w0 n)
  | 0 => ⟨fun _ _ _ _ h => h.elim, fun _ _ _ _ _ h => h.elim, fun _ _ _ _ h => h.elim, fun _ _ _ _ h => h.elim, fun _ _ _ _ h => h.elim, fun _ _ _ _ h => h.elim⟩
  | n + 1 => by
    have ih := ok_rt w0 n
    refine ⟨?_, ?_, ?_, ?_, ?_, ?_⟩
    · rintro σ F es ⟨d, m, t, ns, ks⟩ ⟨u, w, F1, F2, h1, h2, h3, h4, h5, h6, h7⟩
      exact ⟨u, w, h1, h2, h3, h4.rel (ok_str w0), h5.rel ih⟩
    · rintro σ σ' F es ⟨d, m, t, ns, ks⟩ ⟨u, w, F1, F2, h1, h2, h3, h4, h5, h6, h7⟩ hF
      subst h6
      exact ⟨u, w, F1, F2, h1, h2, h3, h4.frame (ok_str w0) fun b hb => hF b (List.mem_append_left _ hb), h5.frame ih fun b hb => hF b (List.mem_append_right _ hb), rfl, h7⟩
    · rintro σ F es ⟨d, m, t, ns, ks⟩ ⟨u, w, F1, F2, h1, h2, h3, h4, h5, h6, h7⟩ b hb
      subst h6
      rcases List.mem_append.1 hb with h | h
      · exact h4.dom (ok_str w0) b h
      · exact h5.dom ih b h
    · rintro σ F es ⟨d, m, t, ns, ks⟩ ⟨u, w, F1, F2, h1, h2, h3, h4, h5, h6, h7⟩; exact h7
    · rintro σ F es ⟨d, m, t, ns, ks⟩ ⟨u, w, F1, F2, rfl, h2, h3, h4, h5, h6, h7⟩; rfl
    · rintro σ F es ⟨d, m, t, ns, ks⟩ ⟨u, w, F1, F2, rfl, h2, h3, h4, h5, h6, h7⟩ c hc
      simp at hc
      rcases hc with rfl | rfl | rfl | rfl | rfl
      · rfl
      · rfl
      · rfl
      · exact OSl.one' h4
      · exact OSl.one' h5

theorem pVal_5 {a b c d e : Value} {A : Prop} (h1 : a.oneCell' = true) (h2 : b.oneCell' = true) (h3 : c.oneCell' = true) (h4 : d.oneCell' = true) (h5 : e.oneCell' = true) : pVal true 5 (.agg ⟨[a, b, c, d, e]⟩) A ↔ A := pValN rfl (by simp [h1, h2, h3, h4, h5])

end
end Go.Proofs.YtkbhjejalkbogaaGreatDoor

/- Trees: their copy, their comparison. -/
set_option linter.unusedVariables false
set_option linter.unusedSimpArgs false
namespace Go.Proofs.YtkbhjejalkbogaaGreatDoor
open Go Go.Av

section
variable {w0 : World}

/-- No list in it is too long. -/
def fitT : Nat → Tr → Prop
  | 0, _ => True
  | n + 1, .mk d m t ns ks => ns.length ≤ 1000000000000 ∧ ks.length ≤ 1000000000000 ∧ ∀ k, k ∈ ks → fitT n k
theorem fit_of : ∀ (n : Nat) (x : Tr), szT n x ≤ 1000000000000 → fitT n x
  | 0, _, _ => trivial
  | n + 1, .mk d m t ns ks, h => by
    simp only [szT] at h
    refine ⟨by omega, by omega, fun k hk => fit_of n k ?_⟩
    have := sumBy_mem (f := szT n) hk
    omega

end
end Go.Proofs.YtkbhjejalkbogaaGreatDoor

/- Trees: when one is sound. -/
set_option linter.unusedVariables false
set_option linter.unusedSimpArgs false
namespace Go.Proofs.YtkbhjejalkbogaaGreatDoor
open Go Go.Av

def prevLt (ns : List ByteArray) (j : Nat) (x : ByteArray) : Bool :=
  match j with
  | 0 => true
  | i + 1 => match ns[i]? with
    | some y => strLt y x
    | none => true
noncomputable def nameAt (ns : List ByteArray) (j : Nat) (x : ByteArray) : Bool := nameOk x && prevLt ns j x
def namesP (ns : List ByteArray) : Prop := ∀ (j : Nat) (x : ByteArray), ns[j]? = some x → nameAt ns j x = true
open Classical in
noncomputable def plainB : Tr → Bool
  | .mk d m t ns ks => inB m 0 7 && (decide (ns.length = ks.length) && (if d = true then decide (namesP ns) && decide (t = ⟨#[]⟩) else decide (t.size ≤ 24) && decide (ns.length = 0)))
def allB {α : Type} (p : α → Bool) : List α → Bool
  | [] => true
  | a :: r => p a && allB p r
theorem allB_iff {α : Type} {p : α → Bool} {xs : List α} : allB p xs = true ↔ ∀ (j : Nat) (x : α), xs[j]? = some x → p x = true := by
  induction xs with
  | nil => simp [allB]
  | cons a r ih =>
    simp only [allB, Bool.and_eq_true, ih]
    constructor
    · rintro ⟨h1, h2⟩ j x hj
      cases j with
      | zero => simp at hj; subst hj; exact h1
      | succ j => exact h2 j x (by simpa using hj)
    · intro h
      exact ⟨h 0 a rfl, fun j x hj => h (j + 1) x (by simpa using hj)⟩
theorem allB_bad {α : Type} {p : α → Bool} {xs : List α} {j : Nat} {x : α} (hj : xs[j]? = some x) (h : p x = false) : allB p xs = false := by
  cases hc : allB p xs with
  | false => rfl
  | true => have := allB_iff.1 hc j x hj; rw [h] at this; cases this
noncomputable def soundB : Nat → Tr → Int → Bool
  | 0, _, _ => false
  | n + 1, .mk d m t ns ks, k => plainB (.mk d m t ns ks) && (decide (k ≤ 4) && allB (fun x => soundB n x (k + 1)) ks)

section
variable {w0 : World} {σ : Vw}

theorem pBin_sge {P : Program} {T : Nat} {a b : ByteArray} {K : Value → Prop} : pBin P T .geq (.string a) (.string b) K ↔ K (.bool (!strLt a b)) := pBin_s rfl

theorem spec_Plain {n : Nat} {es : List Value} {x : Tr} {R : Value → Vw → Prop} (h : RT n (Av.get w0 σ) es x) (hR : R (.bool (plainB x)) σ) : AC Tryz.prog w0 n_spec_l1Plain [.agg ⟨es⟩] σ R := by
  obtain _ | n := n
  · exact h.elim
  obtain ⟨d, m, t, ns, ks⟩ := x
  obtain ⟨u, w, rfl, h2, h3, h4, h5⟩ := h
  refine ac_spec_l1Plain ?_
  unfold vc_spec_l1Plain
  have hl := h4.le
  rw [pVal_5 rfl rfl rfl h4.one h5.one]
  simp only [cellOf_agg, List.getD_cons_zero, List.getD_cons_succ]
  refine spec_In ?_
  rw [pUn_not, pIf_b]
  refine ⟨fun hb => ?_, fun hm => ?_⟩
  · have : plainB (.mk d m t ns ks) = false := by simp at hb; simp [plainB, hb]
    rw [this] at hR; exact hR
  have hm' : inB m 0 7 = true := by simpa using hm
  rw [h4.len, h5.len, pBin_ne, pIf_d]
  refine ⟨fun hne => ?_, fun heq => ?_⟩
  · have : plainB (.mk d m t ns ks) = false := by
      have : ¬ ns.length = ks.length := by omega
      simp [plainB, this]
    rw [this] at hR; exact hR
  have heq' : ns.length = ks.length := by omega
  rw [pUn_not, pIf_b]
  refine ⟨fun hd => ?_, fun hd => ?_⟩
  · have hd' : d = false := by simpa using hd
    subst hd'
    have hp : plainB (.mk false m t ns ks) = (decide (t.size ≤ 24) && decide (ns.length = 0)) := by simp [plainB, hm', heq']
    rw [hp] at hR
    rw [pLenS_s, pBin_le, pIf_d]
    refine ⟨fun ht => ?_, fun ht => ?_⟩
    · rw [h4.len, pBin_eq]
      have e1 : decide (t.size ≤ 24) = true := by simp; omega
      have e2 : decide (ns.length = 0) = decide ((ns.length : Int) = 0) := by congr 1; apply propext; omega
      rw [e1, e2] at hR; exact hR
    · have e1 : decide (t.size ≤ 24) = false := by simp; omega
      rw [e1] at hR; exact hR
  · have hd' : d = true := by simpa using hd
    subst hd'
    have hp : ∀ b, b = plainB (.mk true m t ns ks) → R (.bool b) σ := fun b e => e ▸ hR
    refine loop_rule (m := ns.length) (fun k l s => ∃ j, s = σ ∧ k + j = ns.length ∧ (∀ (i : Nat) (x : ByteArray), i < j → ns[i]? = some x → nameAt ns i x = true) ∧ l = [.bool false, .int .i64 (j : Nat), .bool true, .int .i64 m, .string t, u, w]) ?_ ⟨0, rfl, by omega, fun i x h => by omega, rfl⟩
    rintro k l s L ⟨j, rfl, hk, ht, rfl⟩ hL
    simp only [vget, List.getD_cons_zero, List.getD_cons_succ]
    rw [h4.len, pBin_lt, pIf_d]
    refine ⟨fun hj => ?_, fun hj => ?_⟩
    · have hx := List.getElem?_eq_getElem (show j < ns.length by omega)
      generalize hxj : ns[j] = x at hx
      have bad : nameAt ns j x = false → R (.bool false) s := fun hb => hp false (by
        have : ¬ namesP ns := fun hh => by rw [hh j x hx] at hb; cases hb
        simp [plainB, this])
      have next : nameAt ns j x = true → L [.bool false, .int .i64 ((j : Int) + 1), .bool true, .int .i64 m, .string t, u, w] s := fun hg => hL _ _ (k - 1) (by omega) ⟨j + 1, rfl, by omega, fun i y hi he => by
        by_cases e : i = j
        · subst e; rw [hx] at he; cases he; exact hg
        · exact ht i y (by omega) he, rfl⟩
      refine RSl.at1 h4 hx fun g hg hs => ?_
      rw [hg]
      refine spec_nameOk hs ?_
      rw [pUn_not, pIf_b]
      refine ⟨fun hb => bad (by simp at hb; simp [nameAt, hb]), fun hg => ?_⟩
      have hg' : nameOk x = true := by simpa using hg
      rw [pBin_gt, pIf_d]
      refine ⟨fun hpos => ?_, fun h0 => ?_⟩
      · obtain ⟨i, rfl⟩ : ∃ i, j = i + 1 := ⟨j - 1, by omega⟩
        rw [pBin_sub (by omega)]
        have hy := List.getElem?_eq_getElem (show i < ns.length by omega)
        generalize hyi : ns[i] = y at hy
        rw [show ((i + 1 : Nat) : Int) - 1 = (i : Nat) by omega]
        refine RSl.at1 h4 hy fun g2 hg2 hs2 => ?_
        refine RSl.at1 h4 hx fun g3 hg3 hs3 => ?_
        have hpl : prevLt ns (i + 1) x = strLt y x := by simp [prevLt, hy]
        rw [hg2, hg3, pBin_sge, pIf_b]
        refine ⟨fun hb => bad (by simp at hb; simp [nameAt, hpl, hb]), fun hb => ?_⟩
        rw [pBin_add (by omega)]
        exact next (by simp at hb; simp [nameAt, hg', hpl, hb])
      · have : j = 0 := by omega
        subst this
        rw [pBin_add (by omega)]
        exact next (by simp [nameAt, hg', prevLt])
    · have hj' : j = ns.length := by omega
      subst hj'
      show pBin Tryz.prog 9 .eql (.string t) (.string ⟨#[]⟩) _
      rw [pBin_seq]
      refine hp _ ?_
      have : namesP ns := fun i x he => ht i x (List.getElem?_eq_some_iff.1 he).1 he
      simp [plainB, hm', heq', this]
end
end Go.Proofs.YtkbhjejalkbogaaGreatDoor

/- Trees: sound by either reading. -/
set_option linter.unusedVariables false
set_option linter.unusedSimpArgs false
namespace Go.Proofs.YtkbhjejalkbogaaGreatDoor
open Go Go.Av

section
variable {w0 : World}

theorem spec_Parts : ∀ (n : Nat) {σ : Vw} {es : List Value} {x : Tr} {k : Int} {R : Value → Vw → Prop}, RT n (Av.get w0 σ) es x → (0 ≤ k ∧ k ≤ 5) → R (.bool (soundB n x k)) σ → AC Tryz.prog w0 n_spec_l1Parts [.agg ⟨es⟩, .int .i64 k] σ R
  | 0, _, _, _, _, _, h, _, _ => h.elim
  | n + 1, σ, es, .mk d m t ns ks, k, R, h, hk, hR => by
    have h0 := h
    obtain ⟨u, w, rfl, h2, h3, h4, h5⟩ := h
    refine ac_spec_l1Parts ?_
    unfold vc_spec_l1Parts
    have hl := h5.le
    rw [pVal_5 rfl rfl rfl h4.one h5.one]
    simp only [cellOf_agg, List.getD_cons_zero, List.getD_cons_succ]
    refine spec_Plain h0 ?_
    rw [pUn_not, pIf_b]
    refine ⟨fun hb => ?_, fun hg => ?_⟩
    · have : soundB (n + 1) (.mk d m t ns ks) k = false := by simp at hb; simp [soundB, hb]
      rw [this] at hR; exact hR
    have hg' : plainB (.mk d m t ns ks) = true := by simpa using hg
    rw [pBin_gt, pIf_d]
    refine ⟨fun hb => ?_, fun hle => ?_⟩
    · have : soundB (n + 1) (.mk d m t ns ks) k = false := by
        have : ¬ k ≤ 4 := by omega
        simp [soundB, this]
      rw [this] at hR; exact hR
    have hle' : k ≤ 4 := by omega
    have hs : soundB (n + 1) (.mk d m t ns ks) k = allB (fun x => soundB n x (k + 1)) ks := by simp [soundB, hg', hle']
    rw [hs] at hR
    refine loop_rule (m := ks.length) (fun c l s => ∃ j, s = σ ∧ c + j = ks.length ∧ (∀ (i : Nat) (x : Tr), i < j → ks[i]? = some x → soundB n x (k + 1) = true) ∧ l = [.int .i64 k, .bool false, .int .i64 (j : Nat), .bool d, .int .i64 m, .string t, u, w]) ?_ ⟨0, rfl, by omega, fun i x h => by omega, rfl⟩
    rintro c l s L ⟨j, rfl, hc, ht, rfl⟩ hL
    simp only [vget, List.getD_cons_zero, List.getD_cons_succ]
    rw [h5.len, pBin_lt, pIf_d]
    refine ⟨fun hj => ?_, fun hj => ?_⟩
    · have hx := List.getElem?_eq_getElem (show j < ks.length by omega)
      generalize hxj : ks[j] = x at hx
      refine h5.at hx fun g hg => ?_
      rw [pBin_add (by omega)]
      refine spec_Parts n (x := x) hg (by omega) ?_
      rw [pUn_not, pIf_b]
      refine ⟨fun hb => ?_, fun hb => ?_⟩
      · rw [allB_bad hx (by simpa using hb)] at hR; exact hR
      · rw [pBin_add (by omega)]
        refine hL _ _ (c - 1) (by omega) ⟨j + 1, rfl, by omega, fun i y hi he => ?_, rfl⟩
        by_cases e : i = j
        · subst e; rw [hx] at he; cases he; simpa using hb
        · exact ht i y (by omega) he
    · have hj' : j = ks.length := by omega
      subst hj'
      rw [allB_iff.2 fun i x he => ht i x (List.getElem?_eq_some_iff.1 he).1 he] at hR
      exact hR
end
end Go.Proofs.YtkbhjejalkbogaaGreatDoor

/- Trees: sound by the program's own reading. -/
set_option linter.unusedVariables false
set_option linter.unusedSimpArgs false
namespace Go.Proofs.YtkbhjejalkbogaaGreatDoor
open Go Go.Av

section
variable {w0 : World}

end
end Go.Proofs.YtkbhjejalkbogaaGreatDoor

/- Trees: how many paths; the laws 'TreeOk' and 'TreeCount', of the functions alone. -/
set_option linter.unusedVariables false
set_option linter.unusedSimpArgs false
namespace Go.Proofs.YtkbhjejalkbogaaGreatDoor
open Go Go.Av

def cntT : Nat → Tr → Nat
  | 0, _ => 0
  | n + 1, .mk d m t ns ks => ks.length + sumBy (cntT n) ks
theorem sumBy_mono {α : Type} {f g : α → Nat} : ∀ {xs : List α}, (∀ x, x ∈ xs → f x ≤ g x) → sumBy f xs ≤ sumBy g xs
  | [], _ => by simp [sumBy]
  | a :: r, h => by
    have := sumBy_mono (xs := r) fun x hx => h x (List.mem_cons_of_mem _ hx)
    have := h a List.mem_cons_self
    simp only [sumBy]; omega
theorem cnt_le : ∀ (n : Nat) (x : Tr), cntT n x ≤ szT n x
  | 0, _ => by simp [cntT, szT]
  | n + 1, .mk d m t ns ks => by
    have := sumBy_mono (xs := ks) fun x _ => cnt_le n x
    simp only [cntT, szT]; omega

section
variable {w0 : World}

theorem spec_Count : ∀ (n : Nat) {σ : Vw} {es : List Value} {x : Tr} {R : Value → Vw → Prop}, RT n (Av.get w0 σ) es x → cntT n x ≤ 1000000000000 → R (.int .i64 (cntT n x)) σ → AC Tryz.prog w0 n_spec_l1Count [.agg ⟨es⟩] σ R
  | 0, _, _, _, _, h, _, _ => h.elim
  | n + 1, σ, es, .mk d m t ns ks, R, h, hb, hR => by
    obtain ⟨u, w, rfl, h2, h3, h4, h5⟩ := h
    refine ac_spec_l1Count ?_
    unfold vc_spec_l1Count
    rw [pVal_5 rfl rfl rfl h4.one h5.one]
    simp only [cellOf_agg, List.getD_cons_zero, List.getD_cons_succ]
    simp only [cntT] at hb hR
    rw [h5.len]
    refine loop_rule (m := ks.length) (fun c l s => ∃ j, s = σ ∧ c + j = ks.length ∧ l = [.int .i64 ((ks.length + sumBy (cntT n) (ks.take j) : Nat) : Int), .int .i64 (j : Nat), .bool d, .int .i64 m, .string t, u, w]) ?_ ⟨0, rfl, by omega, by simp [sumBy]⟩
    rintro c l s L ⟨j, rfl, hc, rfl⟩ hL
    simp only [vget, List.getD_cons_zero, List.getD_cons_succ]
    rw [h5.len, pBin_lt, pIf_d]
    refine ⟨fun hj => ?_, fun hj => ?_⟩
    · have hx := List.getElem?_eq_getElem (show j < ks.length by omega)
      generalize hxj : ks[j] = x at hx
      refine h5.at hx fun g hg => ?_
      have ht := sumBy_take (f := cntT n) hx
      have hle := sumBy_le (f := cntT n) (xs := ks) (j + 1)
      refine spec_Count n (x := x) hg (by omega) ?_
      rw [pBin_add (by omega), pBin_add (by omega)]
      refine hL _ _ (c - 1) (by omega) ⟨j + 1, rfl, by omega, ?_⟩
      rw [ht]
      congr 2
      omega
    · have hj' : j = ks.length := by omega
      subst hj'
      rw [List.take_length]
      exact hR

end
end Go.Proofs.YtkbhjejalkbogaaGreatDoor

/- Trees: the laws 'TreeOk' and 'TreeCount', of the functions alone. -/
set_option linter.unusedVariables false
set_option linter.unusedSimpArgs false
namespace Go.Proofs.YtkbhjejalkbogaaGreatDoor
open Go Go.Av

def isDir : Tr → Bool
  | .mk d _ _ _ _ => d
noncomputable def treeOk (n : Nat) (x : Tr) : Bool := isDir x && (soundB n x 0 && decide (cntT n x ≤ 30))
section
variable {w0 : World} {σ : Vw}

theorem RT.five {n : Nat} {rd : Addr → Option Value} {es : List Value} {x : Tr} (h : RT n rd es x) : ∃ a b c d e, es = [a, b, c, d, e] ∧ a = .bool (isDir x) ∧ ∀ A : Prop, pVal true 5 (.agg ⟨es⟩) A ↔ A := by
  obtain _ | n := n
  · exact h.elim
  · obtain ⟨d', m', t', ns', ks'⟩ := x
    obtain ⟨u', w', rfl, _, _, q4, q5⟩ := h
    exact ⟨_, _, _, _, _, rfl, rfl, fun A => pVal_5 rfl rfl rfl q4.one q5.one⟩

theorem spec_TreeOk {n : Nat} {es : List Value} {x : Tr} {R : Value → Vw → Prop} (h : RT n (Av.get w0 σ) es x) (hb : cntT n x ≤ 1000000000000) (hR : R (.bool (treeOk n x)) σ) : AC Tryz.prog w0 n_spec_TreeOk [.agg ⟨es⟩] σ R := by
  have h0 := h
  obtain ⟨a, b, c, d, e, rfl, rfl, hp⟩ := RT.five h
  refine ac_spec_TreeOk ?_
  unfold vc_spec_TreeOk
  rw [hp]
  simp only [cellOf_agg, List.getD_cons_zero, List.getD_cons_succ]
  rw [pIf_b]
  refine ⟨fun hd => ?_, fun hd => by simpa [treeOk, hd] using hR⟩
  refine spec_Parts n h0 (by omega) ?_
  rw [pIf_b]
  refine ⟨fun hs => ?_, fun hs => by simpa [treeOk, hs] using hR⟩
  refine spec_Count n h0 hb ?_
  rw [pBin_le]
  have : treeOk n x = decide ((cntT n x : Int) ≤ 30) := by
    simp only [treeOk, hd, hs, Bool.true_and]
    congr 1; apply propext; omega
  rw [this] at hR; exact hR

end
end Go.Proofs.YtkbhjejalkbogaaGreatDoor

/- How a tree is opened that came with the call. -/
set_option linter.unusedVariables false
set_option linter.unusedSimpArgs false
namespace Go.Proofs.YtkbhjejalkbogaaGreatDoor
open Go Go.Av Go.RowKit

theorem RT_up : ∀ (n : Nat) (rd : Addr → Option Value) (es : List Value) (x : Tr), RT n rd es x → RT (n + 1) rd es x
  | 0, _, _, _, h => h.elim
  | n + 1, rd, es, .mk d m t ns ks, h => by
    obtain ⟨u, w, h1, h2, h3, h4, h5⟩ := h
    exact ⟨u, w, h1, h2, h3, h4, h5.imp fun es x h => RT_up n rd es x h⟩
theorem RT_le {n m : Nat} (h : n ≤ m) {rd : Addr → Option Value} {es : List Value} {x : Tr} (hr : RT n rd es x) : RT m rd es x := by
  obtain ⟨k, rfl⟩ := Nat.exists_eq_add_of_le h
  clear h
  induction k with
  | zero => exact hr
  | succ k ih => exact RT_up _ _ _ _ ih

end Go.Proofs.YtkbhjejalkbogaaGreatDoor

/- What is at a path of a tree, by either reading. -/
set_option linter.unusedVariables false
set_option linter.unusedSimpArgs false
namespace Go.Proofs.YtkbhjejalkbogaaGreatDoor
open Go Go.Av

/-- The first place of a text. -/
def nidx : List ByteArray → ByteArray → Option Nat
  | [], _ => none
  | s :: r, x => if s = x then some 0 else (nidx r x).map (· + 1)
theorem nidx_some {ns : List ByteArray} {x : ByteArray} : ∀ {j : Nat}, nidx ns x = some j → ns[j]? = some x := by
  induction ns with
  | nil => intro j h; simp [nidx] at h
  | cons s r ih =>
    intro j h
    unfold nidx at h
    split at h
    · rename_i e; cases h; simp [e]
    · cases hr : nidx r x with
      | none => rw [hr] at h; cases h
      | some i => rw [hr] at h; cases h; simpa using ih hr
theorem nidx_at {ns : List ByteArray} {x : ByteArray} : ∀ {j : Nat}, ns[j]? = some x → (∀ (i : Nat) (y : ByteArray), i < j → ns[i]? = some y → y ≠ x) → nidx ns x = some j := by
  induction ns with
  | nil => intro j h; simp at h
  | cons s r ih =>
    intro j h hn
    unfold nidx
    cases j with
    | zero => simp at h; rw [if_pos h]
    | succ j =>
      rw [if_neg (hn 0 s (by omega) rfl), ih (by simpa using h) fun i y hi hy => hn (i + 1) y (by omega) (by simpa using hy)]
      rfl
theorem nidx_none {ns : List ByteArray} {x : ByteArray} (h : ∀ (i : Nat) (y : ByteArray), ns[i]? = some y → y ≠ x) : nidx ns x = none := by
  induction ns with
  | nil => rfl
  | cons s r ih =>
    unfold nidx
    rw [if_neg (h 0 s rfl), ih fun i y hy => h (i + 1) y (by simpa using hy)]
    rfl
/-- A place as a number, -1 for none. -/
def placeI : Option Nat → Int
  | some j => j
  | none => -1

/-- Names and parts are as many, all the way down. -/
def wfT : Nat → Tr → Prop
  | 0, _ => True
  | n + 1, .mk d m t ns ks => ns.length = ks.length ∧ ∀ k, k ∈ ks → wfT n k
def kidT : Tr → ByteArray → Option Tr
  | .mk _ _ _ ns ks, x => (nidx ns x).bind fun j => ks[j]?
def atT : Tr → List ByteArray → Option Tr
  | t, [] => some t
  | t, x :: r => (kidT t x).bind fun k => atT k r
def zeroT : Tr := .mk false 0 ⟨#[]⟩ [] []
theorem RT_zero (n : Nat) (rd : Addr → Option Value) : RT (n + 1) rd [.bool false, .int .i64 0, .string ⟨#[]⟩, .slice none 0 0, .slice none 0 0] zeroT :=
  ⟨_, _, rfl, by omega, by show 0 ≤ _; omega, ⟨none, 0, rfl, by simp, fun j x h => by simp at h⟩, ⟨none, 0, rfl, by simp, fun j x h => by simp at h⟩⟩
section
variable {w0 : World} {σ : Vw}

theorem spec_Find {n : Nat} {es : List Value} {d : Bool} {m : Int} {t : ByteArray} {ns : List ByteArray} {ks : List Tr} {x : ByteArray} (h : RT n (Av.get w0 σ) es (.mk d m t ns ks)) {R : Value → Vw → Prop} (hR : R (.int .i64 (placeI (nidx ns x))) σ) : AC Tryz.prog w0 n_spec_l1Find [.agg ⟨es⟩, .string x] σ R := by
  obtain _ | n := n
  · exact h.elim
  obtain ⟨u, w, rfl, h2, h3, h4, h5⟩ := h
  refine ac_spec_l1Find ?_
  unfold vc_spec_l1Find
  have hl := h4.le
  rw [pVal_5 rfl rfl rfl h4.one h5.one]
  simp only [cellOf_agg, List.getD_cons_zero, List.getD_cons_succ]
  refine loop_rule (m := ns.length) (fun c l s => ∃ j, s = σ ∧ c + j = ns.length ∧ (∀ (i : Nat) (y : ByteArray), i < j → ns[i]? = some y → y ≠ x) ∧ l = [.string x, .int .i64 0, .int .i64 (j : Nat), .bool d, .int .i64 m, .string t, u, w]) ?_ ⟨0, rfl, by omega, fun i y h => by omega, rfl⟩
  rintro c l s L ⟨j, rfl, hc, ht, rfl⟩ hL
  simp only [vget, List.getD_cons_zero, List.getD_cons_succ]
  rw [h4.len, pBin_lt, pIf_d]
  refine ⟨fun hj => ?_, fun hj => ?_⟩
  · have hx := List.getElem?_eq_getElem (show j < ns.length by omega)
    generalize hxj : ns[j] = y at hx
    refine RSl.at1 h4 hx fun g hg hs => ?_
    rw [hg, pBin_seq, pIf_d]
    refine ⟨fun he => ?_, fun hne => ?_⟩
    · subst he
      rw [nidx_at hx ht] at hR
      exact hR
    · rw [pBin_add (by omega)]
      refine hL _ _ (c - 1) (by omega) ⟨j + 1, rfl, by omega, fun i z hi hz => ?_, rfl⟩
      by_cases e : i = j
      · subst e; rw [hx] at hz; cases hz; exact hne
      · exact ht i z (by omega) hz
  · rw [nidx_none fun i y hy => ht i y (by have := (List.getElem?_eq_some_iff.1 hy).1; omega) hy] at hR
    exact hR

/-- What a kid is read as. -/
theorem kid_some {n : Nat} {d : Bool} {m : Int} {t : ByteArray} {ns : List ByteArray} {ks : List Tr} {x : ByteArray} (hw : wfT (n + 1) (.mk d m t ns ks)) {j : Nat} (hj : nidx ns x = some j) : ∃ k, ks[j]? = some k ∧ kidT (.mk d m t ns ks) x = some k ∧ wfT n k := by
  have h1 := nidx_some hj
  have hlt := (List.getElem?_eq_some_iff.1 h1).1
  have hw1 := hw.1
  have hk := List.getElem?_eq_getElem (show j < ks.length by omega)
  refine ⟨_, hk, ?_, hw.2 _ (List.getElem_mem _)⟩
  simp only [kidT, hj, Option.bind_some, hk]

theorem spec_At : ∀ (ps : List ByteArray) {n : Nat} {σ : Vw} {es : List Value} {v : Value} {x : Tr} {R : Value → Vw → Prop}, RT n (Av.get w0 σ) es x → wfT n x → RSl 1 RS (Av.get w0 σ) v ps →
    (∀ es', RT n (Av.get w0 σ) es' ((atT x ps).getD zeroT) → R (.tuple ⟨[.agg ⟨es'⟩, .bool (atT x ps).isSome]⟩) σ) → AC Tryz.prog w0 n_spec_l1At [.agg ⟨es⟩, v] σ R
  | ps, 0, _, _, _, _, _, h, _, _, _ => h.elim
  | ps, n + 1, σ, es, v, .mk d m t ns ks, R, h, hw, hp, hR => by
    have h0 := h
    obtain ⟨u, w, rfl, h2, h3, h4, h5⟩ := h
    refine ac_spec_l1At ?_
    unfold vc_spec_l1At
    have e5 : ∀ A : Prop, pVal true 5 (.agg ⟨[.bool d, .int .i64 m, .string t, u, w]⟩) A ↔ A := fun A => pVal_5 rfl rfl rfl h4.one h5.one
    rw [e5]
    simp only [cellOf_agg, List.getD_cons_zero, List.getD_cons_succ]
    rw [hp.len, pBin_eq, pIf_d]
    cases ps with
    | nil =>
      refine ⟨fun _ => ?_, fun h => absurd rfl h⟩
      rw [e5]
      exact hR _ h0
    | cons p r =>
      refine ⟨fun h => by simp at h; omega, fun _ => ?_⟩
      refine RSl.at1 (w0 := w0) (σ := σ) hp (j := 0) (x := p) rfl fun g hg hs => ?_
      rw [hg]
      refine spec_Find h0 ?_
      rw [pBin_lt, pIf_d]
      cases hj : nidx ns p with
      | none =>
        refine ⟨fun _ => ?_, fun h => absurd (show (-1 : Int) < 0 by omega) h⟩
        rw [pVal_5 rfl rfl rfl rfl rfl]
        have : atT (.mk d m t ns ks) (p :: r) = none := by simp [atT, kidT, hj]
        rw [this] at hR
        exact hR _ (RT_zero n _)
      | some j =>
        refine ⟨fun h => by simp only [placeI] at h; omega, fun _ => ?_⟩
        obtain ⟨k, hk1, hk2, hk3⟩ := kid_some hw hj
        have hat : atT (.mk d m t ns ks) (p :: r) = atT k r := by simp only [atT, hk2, Option.bind_some]
        rw [hat] at hR
        refine h5.at hk1 fun g8 hg8 => ?_
        refine hp.slice (l := 1) (u := (p :: r).length) rfl rfl (by simp) (Nat.le_refl _) fun v9 hv9 => ?_
        rw [List.take_length, List.drop_one, List.tail_cons] at hv9
        refine spec_At r hg8 hk3 hv9 fun es' he' => ?_
        rw [pExtract_s rfl, pExtract_s rfl]
        have hn : RT (n + 1) (Av.get w0 σ) es' ((atT k r).getD zeroT) := RT_up _ _ _ _ he'
        obtain ⟨a, b, c, d', e, rfl, _, hpv⟩ := RT.five hn
        rw [hpv]
        exact hR _ hn

theorem wf_RT_up : ∀ {n : Nat} {rd : Addr → Option Value} {es : List Value} {x : Tr}, RT n rd es x → wfT n x → wfT (n + 1) x
  | 0, _, _, _, h, _ => h.elim
  | n + 1, rd, es, .mk d m t ns ks, h, hw => by
    obtain ⟨u, w, h1, h2, h3, h4, A, cap, _, _, h5⟩ := h
    refine ⟨hw.1, fun k hk => ?_⟩
    obtain ⟨j, hj⟩ := List.getElem?_of_mem hk
    obtain ⟨a, es', _, _, _, h6⟩ := h5 j k hj
    exact wf_RT_up h6 (hw.2 k hk)

end
end Go.Proofs.YtkbhjejalkbogaaGreatDoor

/- Marks of texts. -/
set_option linter.unusedVariables false
set_option linter.unusedSimpArgs false
namespace Go.Proofs.YtkbhjejalkbogaaGreatDoor
open Go Go.Av

theorem size_strOfNums (xs : List Int) : (strOfNums xs).size = xs.length := by
  simp [strOfNums, ByteArray.size]
section
variable {w0 : World} {σ : Vw}

end
end Go.Proofs.YtkbhjejalkbogaaGreatDoor

/- Reading and listing: the functions 'TreeRead' and 'TreeList' by either text. -/
set_option linter.unusedVariables false
set_option linter.unusedSimpArgs false
namespace Go.Proofs.YtkbhjejalkbogaaGreatDoor
open Go Go.Av

def kidsOf : Tr → List Tr
  | .mk _ _ _ _ ks => ks
def namesOf : Tr → List ByteArray
  | .mk _ _ _ ns _ => ns
def dataOf : Tr → ByteArray
  | .mk _ _ t _ _ => t
def modeOf : Tr → Int
  | .mk _ m _ _ _ => m
/-- What can be read. -/
def IsT (n : Nat) (x : Tr) : Prop := ∃ rd es, RT n rd es x
theorem kid_mem {x : Tr} {nm : ByteArray} {k : Tr} (h : kidT x nm = some k) : k ∈ kidsOf x := by
  obtain ⟨d, m, t, ns, ks⟩ := x
  simp only [kidT, Option.bind_eq_some_iff] at h
  obtain ⟨j, _, hj⟩ := h
  exact List.mem_of_getElem? hj
theorem isT_kid {n : Nat} {x k : Tr} (h : IsT (n + 1) x) (hk : k ∈ kidsOf x) : IsT n k := by
  obtain ⟨d, m, t, ns, ks⟩ := x
  obtain ⟨rd, es, u, w, h1, h2, h3, h4, A, cap, _, _, h5⟩ := h
  obtain ⟨j, hj⟩ := List.getElem?_of_mem hk
  obtain ⟨a, es', _, _, _, h6⟩ := h5 j k hj
  exact ⟨rd, es', h6⟩
section
variable {w0 : World} {σ : Vw}

theorem RT.cells {n : Nat} {rd : Addr → Option Value} {es : List Value} {x : Tr} (h : RT n rd es x) : ∃ u w, es = [.bool (isDir x), .int .i64 (modeOf x), .string (dataOf x), u, w] ∧ (-9223372036854775808 ≤ modeOf x ∧ modeOf x ≤ 9223372036854775807) ∧ (dataOf x).size ≤ 9223372036854775807 ∧ RSl 1 RS rd u (namesOf x) ∧ RSl 5 (RT n) rd w (kidsOf x) ∧ ∀ A : Prop, pVal true 5 (.agg ⟨es⟩) A ↔ A := by
  obtain _ | n := n
  · exact h.elim
  · obtain ⟨d, m, t, ns, ks⟩ := x
    obtain ⟨u, w, rfl, h2, h3, h4, h5⟩ := h
    exact ⟨u, w, rfl, h2, h3, h4, h5.imp fun es x h => RT_up n rd es x h, fun A => pVal_5 rfl rfl rfl h4.one h5.one⟩

end
end Go.Proofs.YtkbhjejalkbogaaGreatDoor

/- Marks of trees. -/
set_option linter.unusedVariables false
set_option linter.unusedSimpArgs false
namespace Go.Proofs.YtkbhjejalkbogaaGreatDoor
open Go Go.Av

section
variable {w0 : World} {σ : Vw}

end
end Go.Proofs.YtkbhjejalkbogaaGreatDoor

/- The laws 'TreeRead' and 'TreeList', of the functions alone. -/
set_option linter.unusedVariables false
set_option linter.unusedSimpArgs false
namespace Go.Proofs.YtkbhjejalkbogaaGreatDoor
open Go Go.Av

section
variable {w0 : World} {σ : Vw}

end
end Go.Proofs.YtkbhjejalkbogaaGreatDoor

/- 'TreeAt': copies of trees by either hand; marks of trees that are results; the law. -/
set_option linter.unusedVariables false
set_option linter.unusedSimpArgs false
namespace Go.Proofs.YtkbhjejalkbogaaGreatDoor
open Go Go.Av

theorem none_at {σ s : Vw} (k : Keeps σ s) {i : Nat} (h : s i = none) : σ i = none := by
  cases hs : σ i with
  | none => rfl
  | some r => rw [k i r hs] at h; cases h
theorem sumBy_congr {α : Type} {f g : α → Nat} : ∀ {xs : List α}, (∀ x, x ∈ xs → f x = g x) → sumBy f xs = sumBy g xs
  | [], _ => rfl
  | x :: xs, h => by simp only [sumBy]; rw [h x (by simp), sumBy_congr fun y hy => h y (by simp [hy])]
theorem sz_up : ∀ {n : Nat} {x : Tr}, IsT n x → szT (n + 1) x = szT n x
  | 0, _, ⟨_, _, h⟩ => h.elim
  | n + 1, .mk d m t ns ks, h => by
    have : sumBy (szT (n + 1)) ks = sumBy (szT n) ks := sumBy_congr fun k hk => sz_up (isT_kid h hk)
    show t.size + (ns.length + sumS ns) + (ks.length + sumBy (szT (n + 1)) ks) = t.size + (ns.length + sumS ns) + (ks.length + sumBy (szT n) ks)
    rw [this]
theorem sz_at : ∀ (ps : List ByteArray) {n : Nat} {x y : Tr}, IsT n x → atT x ps = some y → IsT n y ∧ szT n y ≤ szT n x
  | [], n, x, y, h, e => by cases e; exact ⟨h, Nat.le_refl _⟩
  | p :: r, 0, x, y, ⟨_, _, h⟩, e => h.elim
  | p :: r, n + 1, .mk d m t ns ks, y, h, e => by
    simp only [atT, Option.bind_eq_some_iff] at e
    obtain ⟨k, hk, e⟩ := e
    have hm := kid_mem hk
    have hi := isT_kid h hm
    obtain ⟨h1, h2⟩ := sz_at r hi e
    have h3 := sumBy_mem (f := szT n) (show k ∈ ks from hm)
    have h4 := sz_up h1
    obtain ⟨rd, es, h1⟩ := h1
    refine ⟨⟨rd, es, RT_up _ _ _ _ h1⟩, ?_⟩
    rw [h4]
    show _ ≤ t.size + (ns.length + sumS ns) + (ks.length + sumBy (szT n) ks)
    omega
theorem sz_zero : ∀ n, szT n zeroT = 0
  | 0 => rfl
  | n + 1 => rfl
section
variable {w0 : World} {σ : Vw}

theorem spec_l1Copy : ∀ (n : Nat) {σ : Vw} {es : List Value} {x : Tr} {R : Value → Vw → Prop}, RT n (Av.get w0 σ) es x → fitT n x → (∀ es' F σ', Keeps σ σ' → OT w0 n σ' F es' x → (∀ b, b ∈ F → σ b = none) → R (.agg ⟨es'⟩) σ') → AC Tryz.prog w0 n_spec_l1Copy [.agg ⟨es⟩] σ R
  | 0, _, _, _, _, h, _, _ => h.elim
  | n + 1, σ, es, .mk d md t ns ks, R, h, hf, hR => by
    obtain ⟨u, w, rfl, h2, h3, h4, h5⟩ := h
    obtain ⟨f1, f2, f3⟩ := hf
    refine ac_spec_l1Copy ?_
    unfold vc_spec_l1Copy
    rw [pVal_5 rfl rfl rfl h4.one h5.one]
    simp only [cellOf_agg, List.getD_cons_zero, List.getD_cons_succ]
    intro b hb1 hb2
    have kb : Keeps σ (σ.put b ⟨t_string, [], 0, (0, 0)⟩) := Keeps.put hb2
    have hb0 : ∀ i, i ∈ [b] → σ i = none := fun i hi => by rw [List.mem_singleton.1 hi]; exact hb2
    refine (OAcc.new (w0 := w0) (σ := σ) (ety := t_string) (n := 1) (O := OStr) hb1).all (ok_str w0) h4 kb.le (fun es y hy => ⟨rfl, hy⟩) (by simpa using f1) (by omega) fun u' F1 s1 k1 o1 g1 => ?_
    have K1 := k1.old kb hb0
    have hF1 := fresh_in kb hb0 g1
    rw [List.nil_append] at o1
    have hl5 := h5.le
    rw [pVal1 rfl, pVal1 rfl, pVal1 rfl, pVal1 (OSl.one' o1.osl), pVal_5 rfl rfl rfl (OSl.one' o1.osl) rfl]
    refine loop_rule (m := ks.length) (fun m l s => ∃ (j : Nat) (v' : Value) (F2 : List Nat), m + j = ks.length ∧ Keeps σ s ∧ OStrs w0 s F1 u' ns ∧ OAcc w0 t_impl_Tree 5 (OT w0 n) s F2 v' (ks.take j) ∧ (∀ i, i ∈ F2 → σ i = none) ∧ (∀ i, i ∈ F1 → i ∉ F2) ∧
        l = [.int .i64 (j : Nat), .bool d, .int .i64 md, .string t, u, w, .bool false, .int .i64 0, .string ⟨#[]⟩, .slice none 0 0, .slice none 0 0, .bool d, .int .i64 md, .string t, u', v']) ?_
      ⟨0, _, [], by omega, K1, o1.osl, OAcc.nil, by simp, by simp, rfl⟩
    rintro m l s L ⟨j, v', F2, hm, ks', p1, p2, hF2, hd, rfl⟩ hL
    simp only [vget, List.getD_cons_zero, List.getD_cons_succ]
    have h5' := h5.mono ks'.le fun es x => mono_rt n _ _ es x ks'.le
    rw [h5'.len, pBin_lt, pIf_d]
    refine ⟨fun hi => ?_, fun hi => ?_⟩
    · have hx := List.getElem?_eq_getElem (show j < ks.length by omega)
      generalize hxi : ks[j]'(by omega) = y at hx
      refine h5'.at hx fun g hg => ?_
      refine spec_l1Copy n hg (f3 y (List.mem_of_getElem? hx)) fun es3 F3 s3 k3 o3 g3 => ?_
      obtain ⟨a, b', c, d', e, rfl, _, hpv⟩ := RT.five ((ok_rt w0 n).rel _ _ _ _ o3)
      rw [hpv]
      simp only [cellOf_agg, List.getD_cons_zero, List.getD_cons_succ]
      have p2' := p2.frame (ok_rt w0 n) (k3.but_at fun b hb => (p2.dom (ok_rt w0 n) b hb).2)
      have p1' := p1.frame (ok_str w0) (k3.but_at fun b hb => (p1.dom (ok_str w0) b hb).2)
      refine p2'.one (ok_rt w0 n) o3 (fun i hi hi' => (p2.dom (ok_rt w0 n) i hi').2 (g3 i hi)) (by rw [List.length_take]; omega) (by omega) fun v4 F4 s4 k4 o4 g4 => ?_
      rw [pVal1 (OSl.one' o4.osl), pBin_add (by omega)]
      have K3 := ks'.trans k3
      have hF3 : ∀ i, i ∈ F3 → σ i = none := fun i hi => none_at ks' (g3 i hi)
      refine hL _ _ (m - 1) (by omega) ⟨j + 1, v4, F4, by omega, k4.old K3 hF2, p1'.frame (ok_str w0) (k4.at (fun i hi => (p1'.dom (ok_str w0) i hi).2) hd), ?_, fun i hi => ?_, fun i hi hi' => ?_, rfl⟩
      · rw [List.take_add_one, hx]; exact o4
      · rcases g4 i hi with h | h | h
        · exact hF2 i h
        · exact hF3 i h
        · exact none_at K3 h
      · rcases g4 i hi' with h | h | h
        · exact hd i hi h
        · exact (p1.dom (ok_str w0) i hi).2 (g3 i h)
        · exact (p1'.dom (ok_str w0) i hi).2 h
    · have e : j = ks.length := by omega
      subst e
      rw [List.take_length] at p2
      rw [pVal_5 rfl rfl rfl (OSl.one' p1) (OSl.one' p2.osl)]
      refine hR _ (F1 ++ F2) s ks' ⟨u', v', F1, F2, rfl, h2, h3, p1, p2.osl, rfl, List.nodup_append.2 ⟨p1.2.1, p2.osl.2.1, fun a ha b hb e => hd a ha (e ▸ hb)⟩⟩ fun i hi => ?_
      rcases List.mem_append.1 hi with h | h
      · exact hF1 i h
      · exact hF2 i h

end
end Go.Proofs.YtkbhjejalkbogaaGreatDoor

/- Lists of our own that grow, whose elements are read where they lie, old or new: what an append keeps. -/
set_option linter.unusedVariables false
set_option linter.unusedSimpArgs false
namespace Go.Av
open Go Go.RowKit

section
variable {P : Program} {w0 : World} {σ σ' : Vw} {α : Type}

theorem OAcc.rebase {ety n : Nat} {Rel : (Addr → Option Value) → List Value → α → Prop} (ok : ROk n Rel) {rd rd' : Addr → Option Value} {F : List Nat} {v : Value} {xs : List α} (h : OAcc w0 ety n (OB Rel rd) σ F v xs) (hle : Le rd rd') : OAcc w0 ety n (OB Rel rd') σ F v xs := by
  obtain ⟨h1, h2, h3 | ⟨b, cap, css, Fs, g1, g2, g3, g4, g5, g6, g7, g8⟩⟩ := h
  · exact ⟨h1, h2, .inl h3⟩
  · exact ⟨h1, h2, .inr ⟨b, cap, css, Fs, g1, g2, g3, g4, g5, g6, g7, fun j c x f e1 e2 e3 => by
      have := g8 j c x f e1 e2 e3
      exact ⟨this.1, ok.mono _ _ _ _ hle this.2⟩⟩⟩

/-- A list that grows in a row of our own. -/
def GA (w0 : World) (ety n : Nat) (Rel : (Addr → Option Value) → List Value → α → Prop) (σ : Vw) (F : List Nat) (v : Value) (xs : List α) : Prop :=
  OAcc w0 ety n (OB Rel (Av.get w0 σ)) σ F v xs

variable {ety n : Nat} {Rel : (Addr → Option Value) → List Value → α → Prop}
theorem GA.dom (ok : ROk n Rel) {F : List Nat} {v : Value} {xs : List α} (h : GA w0 ety n Rel σ F v xs) : ∀ b, b ∈ F → w0.heap.size ≤ b ∧ σ b ≠ none := OAcc.dom (ok_base ok w0 _) h
theorem GA.frame (ok : ROk n Rel) {F : List Nat} {v : Value} {xs : List α} (h : GA w0 ety n Rel σ F v xs) (hF : ∀ b, b ∈ F → σ' b = σ b) (hx : Ext σ σ') : GA w0 ety n Rel σ' F v xs :=
  OAcc.rebase ok (OAcc.frame (ok_base ok w0 _) h hF) hx.le
theorem GA.keep (ok : ROk n Rel) {F : List Nat} {v : Value} {xs : List α} (h : GA w0 ety n Rel σ F v xs) (k : Keeps σ σ') : GA w0 ety n Rel σ' F v xs := h.frame ok (k.but_at fun b hb => (h.dom ok b hb).2) k.ext
theorem GA.rsl (ok : ROk n Rel) {F : List Nat} {v : Value} {xs : List α} (h : GA w0 ety n Rel σ F v xs) : RSl n Rel (Av.get w0 σ) v xs :=
  (OSl.rel (ok_base ok w0 _) (OAcc.osl h)).unbase ok (Le.refl _)
theorem GA.nil : GA w0 ety n Rel σ [] (.slice none 0 0) [] := OAcc.nil
theorem GA.push (ok : ROk n Rel) {bytes : Nat} {F : List Nat} {v : Value} {xs : List α} {y : α} {es : List Value} (h : GA w0 ety n Rel σ F v xs) (hy : Rel (Av.get w0 σ) es y) (hl : xs.length ≤ 100000000000) (hb : bytes ≤ 140) {K : Value → Vw → Prop}
    (hK : ∀ v' F' σ', Ext σ σ' → KeepsBut F σ σ' → GA w0 ety n Rel σ' F' v' (xs ++ [y]) → (∀ i, i ∈ F' → i ∈ F ∨ σ i = none) → K v' σ') : allOne es ∧ pAppend w0 ety n bytes v 1 es σ K :=
  OAcc.oneX (ok_base ok w0 _) (f := []) h ⟨rfl, hy⟩ (fun i hi => by cases hi) (by omega) hb fun v' F' σ' x k o f => hK v' F' σ' x k (OAcc.rebase ok o x.le) fun i hi => by
    rcases f i hi with e | e | e
    · exact .inl e
    · cases e
    · exact .inr e
theorem GA.cell {F : List Nat} {v : Value} {xs : List α} (h : GA w0 ety n Rel σ F v xs) : v.oneCell' = true := by
  obtain ⟨_, _, ⟨rfl, _⟩ | ⟨_, _, _, _, rfl, _⟩⟩ := h <;> rfl
/-- Two rows of our own, none of both. -/
def Apart (F G : List Nat) : Prop := ∀ i, i ∈ F → i ∉ G
theorem Apart.symm {F G : List Nat} (h : Apart F G) : Apart G F := fun i hi hi' => h i hi' hi
theorem Apart.grow {F F' G : List Nat} (h : Apart F G) (hG : ∀ b, b ∈ G → σ b ≠ none) (hF : ∀ i, i ∈ F' → i ∈ F ∨ σ i = none) : Apart F' G := fun i hi hi' => by
  rcases hF i hi with e | e
  · exact h i e hi'
  · exact hG i hi' e
theorem GA.other (ok : ROk n Rel) {F G : List Nat} {v : Value} {xs : List α} (h : GA w0 ety n Rel σ G v xs) (hd : Apart F G) (x : Ext σ σ') (k : KeepsBut F σ σ') : GA w0 ety n Rel σ' G v xs :=
  h.frame ok (k.at (fun b hb => (h.dom ok b hb).2) fun b hb hb' => hd b hb' hb) x
end
end Go.Av
namespace Go.Proofs.YtkbhjejalkbogaaGreatDoor
open Go Go.Av
theorem rok_s : ROk 1 RS := ⟨fun _ _ _ _ _ h => h, fun _ _ _ h => by rw [h.1]; rfl, fun _ _ _ h c hc => by rw [h.1] at hc; rw [List.mem_singleton.1 hc]; rfl⟩
theorem rok_rt : ∀ n, ROk 5 (RT n)
  | 0 => ⟨fun _ _ _ _ _ h => h.elim, fun _ _ _ h => h.elim, fun _ _ _ h => h.elim⟩
  | n + 1 => by
    refine ⟨fun rd rd' es x hl h => mono_rt _ _ _ _ _ hl h, fun rd es x h => ?_, fun rd es x h c hc => ?_⟩
    · obtain ⟨d, m, t, ns, ks⟩ := x
      obtain ⟨u, w, rfl, _⟩ := h; rfl
    · obtain ⟨d, m, t, ns, ks⟩ := x
      obtain ⟨u, w, rfl, _, _, hu, hw⟩ := h
      simp at hc
      rcases hc with rfl | rfl | rfl | rfl | rfl
      · rfl
      · rfl
      · rfl
      · exact hu.one
      · exact hw.one
end Go.Proofs.YtkbhjejalkbogaaGreatDoor

/- A tree in which something else is set at a path, by the reference's hand: that it is one, and not too large. -/
set_option linter.unusedVariables false
set_option linter.unusedSimpArgs false
namespace Go.Proofs.YtkbhjejalkbogaaGreatDoor
open Go Go.Av

theorem sz_more {n m : Nat} {x : Tr} (h : IsT n x) (hm : n ≤ m) : szT m x = szT n x := by
  obtain ⟨k, rfl⟩ := Nat.exists_eq_add_of_le hm
  clear hm
  induction k with
  | zero => rfl
  | succ k ih =>
    obtain ⟨rd, es, h1⟩ := h
    rw [← ih]
    exact sz_up ⟨rd, es, RT_le (Nat.le_add_right n k) h1⟩
theorem wf_more {n m : Nat} {rd : Addr → Option Value} {es : List Value} {x : Tr} (h : RT n rd es x) (hw : wfT n x) (hm : n ≤ m) : wfT m x := by
  obtain ⟨k, rfl⟩ := Nat.exists_eq_add_of_le hm
  clear hm
  induction k with
  | zero => exact hw
  | succ k ih => exact wf_RT_up (RT_le (Nat.le_add_right n k) h) ih
theorem RT.isT {n : Nat} {rd : Addr → Option Value} {es : List Value} {x : Tr} (h : RT n rd es x) : IsT n x := ⟨rd, es, h⟩
theorem RT.shape {n : Nat} {rd : Addr → Option Value} {es : List Value} {x : Tr} (h : RT n rd es x) : ∃ a b c d e, es = [a, b, c, d, e] ∧ (∀ A : Prop, pVal true 5 (.agg ⟨[a, b, c, d, e]⟩) A ↔ A) := by
  obtain ⟨u, w, rfl, _, _, _, _, h⟩ := h.cells
  exact ⟨_, _, _, _, _, rfl, h⟩

def nmW (l : List ByteArray) : Nat := l.length + sumS l
def kdW (n : Nat) (l : List Tr) : Nat := l.length + sumBy (szT n) l
theorem nmW_snoc {l : List ByteArray} {x : ByteArray} : nmW (l ++ [x]) = nmW l + (1 + x.size) := by
  have : ∀ l : List ByteArray, sumS (l ++ [x]) = sumS l + x.size := fun l => by
    induction l with
    | nil => simp [sumS]
    | cons a r ih => simp only [List.cons_append, sumS, ih]; omega
  simp only [nmW, List.length_append, List.length_singleton, this]; omega
theorem kdW_snoc {n : Nat} {l : List Tr} {x : Tr} : kdW n (l ++ [x]) = kdW n l + (1 + szT n x) := by
  have : ∀ l : List Tr, sumBy (szT n) (l ++ [x]) = sumBy (szT n) l + szT n x := fun l => by
    induction l with
    | nil => simp [sumBy]
    | cons a r ih => simp only [List.cons_append, sumBy, ih]; omega
  simp only [kdW, List.length_append, List.length_singleton, this]; omega
theorem nmW_take {l : List ByteArray} {j : Nat} {x : ByteArray} (h : l[j]? = some x) : nmW (l.take (j + 1)) = nmW (l.take j) + (1 + x.size) := by
  rw [List.take_add_one, h]; exact nmW_snoc
theorem kd_mul {n C : Nat} : ∀ {l : List Tr}, sumBy (fun k => (szT n k + 1) * C) l = kdW n l * C
  | [] => by simp [kdW, sumBy]
  | a :: r => by
    have := kd_mul (n := n) (C := C) (l := r)
    simp only [sumBy, this, kdW, List.length_cons]
    rw [← Nat.add_mul]
    congr 1; omega

section
variable {w0 : World} {σ : Vw}

/-- How far a tree has come that is put together part by part. -/
def SetS (w0 : World) (σ : Vw) (N T : Nat) (s : Vw) (u w : Value) : Prop := ∃ F1 F2 ys zs, Keeps σ s ∧ GA w0 t_string 1 RS s F1 u ys ∧ GA w0 t_impl_Tree 5 (RT N) s F2 w zs ∧ Apart F1 F2 ∧ (∀ b, b ∈ F1 → σ b = none) ∧ (∀ b, b ∈ F2 → σ b = none) ∧ ys.length = zs.length ∧ (∀ z, z ∈ zs → wfT N z) ∧ nmW ys + kdW N zs ≤ T
theorem SetS.le {N T T' : Nat} {s : Vw} {u w : Value} (h : SetS w0 σ N T s u w) (hT : T ≤ T') : SetS w0 σ N T' s u w := by
  obtain ⟨F1, F2, ys, zs, h1, h2, h3, h4, h5, h6, h7, h8, h9⟩ := h
  exact ⟨F1, F2, ys, zs, h1, h2, h3, h4, h5, h6, h7, h8, by omega⟩
theorem SetS.keep {N T : Nat} {s s' : Vw} {u w : Value} (h : SetS w0 σ N T s u w) (k : Keeps s s') : SetS w0 σ N T s' u w := by
  obtain ⟨F1, F2, ys, zs, h1, h2, h3, h4, h5, h6, h7, h8, h9⟩ := h
  exact ⟨F1, F2, ys, zs, h1.trans k, h2.keep rok_s k, h3.keep (rok_rt N) k, h4, h5, h6, h7, h8, h9⟩
theorem SetS.nil {N : Nat} : SetS w0 σ N 0 σ (.slice none 0 0) (.slice none 0 0) :=
  ⟨[], [], [], [], Keeps.refl _, GA.nil, GA.nil, fun i h => by (cases h), fun i h => by (cases h), fun i h => by (cases h), rfl, fun z h => by (cases h), by simp [nmW, kdW, sumS, sumBy]⟩
theorem SetS.keeps {N T : Nat} {s : Vw} {u w : Value} (h : SetS w0 σ N T s u w) : Keeps σ s := by obtain ⟨F1, F2, ys, zs, h1, _⟩ := h; exact h1
/-- A name and a part are added. -/
theorem SetS.add {N T : Nat} {s : Vw} {u w : Value} {nm : ByteArray} {es : List Value} {y : Tr} (h : SetS w0 σ N T s u w) (hn : nm.size ≤ 9223372036854775807) (hy : RT N (Av.get w0 s) es y) (hw : wfT N y) (hT : T ≤ 100000000000) {K : Value → Value → Vw → Prop}
    (hK : ∀ u' w' s', SetS w0 σ N (T + (1 + nm.size) + (1 + szT N y)) s' u' w' → K u' w' s') :
    pVal false 1 (.string nm) (allOne [.string nm] ∧ pAppend w0 t_string 1 16 u 1 [.string nm] s (fun u' s1 => pVal false 1 u' (pVal true 5 (.agg ⟨es⟩) (allOne es ∧ pAppend w0 t_impl_Tree 5 80 w 1 es s1 (fun w' s2 => pVal false 1 w' (K u' w' s2)))))) := by
  obtain ⟨F1, F2, ys, zs, h1, h2, h3, h4, h5, h6, h7, h8, h9⟩ := h
  obtain ⟨a, b, c, d, e, rfl, hp⟩ := hy.shape
  have l1 : ys.length ≤ 100000000000 := by simp only [nmW] at h9; omega
  rw [pVal1 rfl]
  refine h2.push rok_s ⟨rfl, hn⟩ l1 (by omega) fun u' F1' s1 x1 k1 g1 f1 => ?_
  rw [pVal1 g1.cell, hp]
  have h3' := h3.other (rok_rt N) h4 x1 k1
  refine h3'.push (rok_rt N) (mono_rt N _ _ _ _ x1.le hy) (by omega) (by omega) fun w' F2' s2 x2 k2 g2 f2 => ?_
  rw [pVal1 g2.cell]
  have a1 : Apart F1' F2 := h4.grow (fun b hb => (h3.dom (rok_rt N) b hb).2) f1
  have a2 : Apart F2' F1' := a1.symm.grow (fun b hb => (g1.dom rok_s b hb).2) f2
  have K1 := k1.old h1 h5
  have n1 : ∀ b, b ∈ F1' → σ b = none := fun b hb => by
    rcases f1 b hb with e | e
    · exact h5 b e
    · exact none_at h1 e
  have n2 : ∀ b, b ∈ F2' → σ b = none := fun b hb => by
    rcases f2 b hb with e | e
    · exact h6 b e
    · exact none_at K1 e
  refine hK _ _ _ ⟨F1', F2', ys ++ [nm], zs ++ [y], k2.old K1 h6, g1.other rok_s a1.symm x2 k2, g2, a2.symm, n1, n2, by simp [h7], fun z hz => ?_, ?_⟩
  · rcases List.mem_append.1 hz with e | e
    · exact h8 z e
    · rw [List.mem_singleton.1 e]; exact hw
  · rw [nmW_snoc, kdW_snoc]; omega
/-- What is put together is a tree. -/
theorem SetS.tree {N T : Nat} {s : Vw} {u w : Value} (h : SetS w0 σ N T s u w) {d : Bool} {m : Int} {t : ByteArray} (hm : -9223372036854775808 ≤ m ∧ m ≤ 9223372036854775807) (ht : t.size ≤ 9223372036854775807) :
    ∃ y, RT (N + 1) (Av.get w0 s) [.bool d, .int .i64 m, .string t, u, w] y ∧ wfT (N + 1) y ∧ szT (N + 1) y ≤ t.size + T := by
  obtain ⟨F1, F2, ys, zs, h1, h2, h3, h4, h5, h6, h7, h8, h9⟩ := h
  refine ⟨.mk d m t ys zs, ⟨u, w, rfl, hm, ht, h2.rsl rok_s, h3.rsl (rok_rt N)⟩, ⟨h7, h8⟩, ?_⟩
  show t.size + (ys.length + sumS ys) + (zs.length + sumBy (szT N) zs) ≤ _
  simp only [nmW, kdW] at h9; omega

set_option maxHeartbeats 4000000 in
theorem spec_l2Set {k : Nat} {P : Nat} {gone : Bool} {z : Tr} : ∀ (n : Nat) {σ : Vw} {es ez : List Value} {u : Value} {x : Tr} {ps : List ByteArray}, RT n (Av.get w0 σ) es x → wfT n x → RSl 1 RS (Av.get w0 σ) u ps → ps ≠ [] → RT k (Av.get w0 σ) ez z → wfT k z → (∀ s, s ∈ ps → s.size ≤ P) → (szT n x + 1) * (P + szT k z + 4) ≤ 100000000000 →
    ∀ {R : Value → Vw → Prop}, (∀ es' y σ', Keeps σ σ' → RT (n + k) (Av.get w0 σ') es' y → wfT (n + k) y → szT (n + k) y + 1 ≤ (szT n x + 1) * (P + szT k z + 4) → R (.agg ⟨es'⟩) σ') → AC Tryz.prog w0 n_spec_l2Set [.agg ⟨es⟩, u, .agg ⟨ez⟩, .bool gone] σ R
  | 0, _, _, _, _, _, _, h, _, _, _, _, _, _, _, _, _ => h.elim
  | n + 1, σ, es, ez, u, .mk d md t ns ks, ps, h, hw, hu, hne, hz, hwz, hP, hbig, R, hR => by
    obtain ⟨un, wk, rfl, hmd, ht, hun, hwk⟩ := h
    obtain ⟨z0, z1, z2, z3, z4, rfl, hpz⟩ := hz.shape
    refine ac_spec_l2Set ?_
    unfold vc_spec_l2Set cs_spec_l2Set_4 cs_spec_l2Set_3 cs_spec_l2Set_5 cs_spec_l2Set_2 cs_spec_l2Set_1
    rw [pVal_5 rfl rfl rfl hun.one hwk.one, hpz]
    simp only [cellOf_agg, List.getD_cons_zero, List.getD_cons_succ]
    rw [pVal1 rfl, pVal1 rfl, pVal1 rfl, pVal_5 rfl rfl rfl rfl rfl]
    obtain ⟨p0, hp0⟩ : ∃ p0, ps[0]? = some p0 := ⟨_, List.getElem?_eq_getElem (List.length_pos_iff.2 hne)⟩
    have hp0s := hP p0 (List.mem_of_getElem? hp0)
    have hwl := hw.1
    have hl1 := hun.le
    have hl2 := hu.le
    have hszk : szT (n + k) z = szT k z := sz_more hz.isT (by omega)
    have hszx : szT (n + 1) (.mk d md t ns ks) = t.size + nmW ns + kdW n ks := rfl
    rw [hszx] at hbig hR
    generalize hC : P + szT k z + 4 = C at *
    have hmul : (t.size + nmW ns + kdW n ks + 1) * C = t.size * C + nmW ns * C + kdW n ks * C + C := by rw [Nat.add_mul, Nat.add_mul, Nat.add_mul, Nat.one_mul]
    have hC4 : 4 ≤ C := by omega
    have hm1 : t.size ≤ t.size * C := Nat.le_mul_of_pos_right _ (by omega)
    have hm2 : nmW ns ≤ nmW ns * C := Nat.le_mul_of_pos_right _ (by omega)
    -- what stands so far, by the number of rounds
    have bnd : ∀ (i : Nat), nmW (ns.take i) + sumBy (fun k => (szT n k + 1) * C) (ks.take i) ≤ nmW ns + kdW n ks * C := fun i => by
      have h1 := sumBy_le (f := fun k => (szT n k + 1) * C) (xs := ks) i
      rw [kd_mul (l := ks)] at h1
      have h2 : nmW (ns.take i) ≤ nmW ns := by
        have := sumBy_le (f := ByteArray.size) (xs := ns) i
        rw [← sumS_eq, ← sumS_eq] at this
        simp only [nmW, List.length_take]; omega
      omega
    refine loop_rule (m := ns.length) (fun c l s => ∃ (i : Nat) (done : Bool) (v22 v23 : Value), c + i = ns.length ∧ SetS w0 σ (n + k) (nmW (ns.take i) + sumBy (fun k => (szT n k + 1) * C) (ks.take i) + (if done = true then C - 2 else 0)) s v22 v23 ∧
        l = [u, .bool gone, .bool done, .int .i64 (i : Nat), .bool d, .int .i64 md, .string t, un, wk, z0, z1, z2, z3, z4, .bool false, .int .i64 0, .string ⟨#[]⟩, .slice none 0 0, .slice none 0 0, .bool d, .int .i64 md, .string t, v22, v23]) ?_
      ⟨0, false, _, _, by omega, (SetS.nil (w0 := w0) (σ := σ)).le (by omega), rfl⟩
    rintro c l s L ⟨i, done, v22, v23, hc, hS, rfl⟩ hL
    simp only [vget, List.getD_cons_zero, List.getD_cons_succ]
    have ks0 := hS.keeps
    have hns := hun.mono ks0.le fun _ _ h => h
    have hus := hu.mono ks0.le fun _ _ h => h
    rw [hns.len, pBin_lt, pIf_d]
    have fin : ∀ (s : Vw) (v22 v23 : Value) (T : Nat), SetS w0 σ (n + k) T s v22 v23 → T ≤ nmW ns + kdW n ks * C + (C - 2) → pVal true 5 (.agg (⟨[.bool d, .int .i64 md, .string t, v22, v23]⟩)) (R (.agg (⟨[.bool d, .int .i64 md, .string t, v22, v23]⟩)) s) := fun s v22 v23 T hS hT => by
      obtain ⟨y, hy, hwy, hsz⟩ := hS.tree (d := d) hmd ht
      obtain ⟨_, _, _, _, _, _, _, hp5⟩ := hy.five
      rw [hp5]
      refine hR _ y s hS.keeps ?_ ?_ ?_
      · rw [Nat.add_right_comm]; exact hy
      · rw [Nat.add_right_comm]; exact hwy
      · rw [Nat.add_right_comm]; omega
    refine ⟨fun hi => ?_, fun hi => ?_⟩
    · have hx := List.getElem?_eq_getElem (show i < ns.length by omega)
      have hy := List.getElem?_eq_getElem (show i < ks.length by omega)
      generalize ns[i]'(by omega) = nm at hx
      generalize ks[i]'(by omega) = kid at hy
      have hb1 := bnd i
      have hb2 := bnd (i + 1)
      have t1 := nmW_take hx
      have t2 := sumBy_take (f := fun k => (szT n k + 1) * C) hy
      have hkid1 : szT n kid + 1 ≤ (szT n kid + 1) * C := Nat.le_mul_of_pos_right _ (by omega)
      refine RSl.at1 hns hx fun g6 hg6 hnm => ?_
      rw [hg6]
      have KID : (nm = p0 → 2 ≤ ps.length) → ∀ (done : Bool) (s : Vw) (v22 v23 : Value), SetS w0 σ (n + k) (nmW (ns.take i) + sumBy (fun k => (szT n k + 1) * C) (ks.take i) + (if done = true then C - 2 else 0)) s v22 v23 →
          pIndexAddr 5 wk (.int .i64 (i : Nat)) (fun v212 => pLoad w0 5 v212 s (fun g213 => pVal true 5 (.agg (⟨[g213 0, g213 1, g213 2, g213 3, g213 4]⟩)) (pIndexAddr 1 u (.int .i64 0) (fun v214 => pLoad w0 1 v214 s (fun g215 => pBin Tryz.prog 9 .eql (.string nm) (g215 0) (fun v216 => pIf v216
            (pSlice 1 u (some (.int .i64 1)) none (fun v217 => AC Tryz.prog w0 n_spec_l2Set ([.agg (⟨[g213 0, g213 1, g213 2, g213 3, g213 4]⟩), v217, .agg (⟨[z0, z1, z2, z3, z4]⟩), .bool gone]) s (fun v218 s219 => pVal true 5 v218 (pVal false 1 (.string nm) (allOne [.string nm] ∧ pAppend w0 t_string 1 16 v22 1 [.string nm] s219 (fun v220 s221 => pVal false 1 v220 (pVal true 5 (.agg (⟨[cellOf v218 0, cellOf v218 1, cellOf v218 2, cellOf v218 3, cellOf v218 4]⟩)) (allOne [cellOf v218 0, cellOf v218 1, cellOf v218 2, cellOf v218 3, cellOf v218 4] ∧ pAppend w0 t_impl_Tree 5 80 v23 1 [cellOf v218 0, cellOf v218 1, cellOf v218 2, cellOf v218 3, cellOf v218 4] s221 (fun v222 s223 => pVal false 1 v222 (pBin Tryz.prog 3 .add (.int .i64 (i : Nat)) (.int .i64 1) (fun v224 => L [u, .bool gone, .bool done, v224, .bool d, .int .i64 md, .string t, un, wk, z0, z1, z2, z3, z4, .bool false, .int .i64 0, .string ⟨#[]⟩, .slice none 0 0, .slice none 0 0, .bool d, .int .i64 md, .string t, v220, v222] s223)))))))))))
            (pVal false 1 (.string nm) (allOne [.string nm] ∧ pAppend w0 t_string 1 16 v22 1 [.string nm] s (fun v225 s226 => pVal false 1 v225 (pVal true 5 (.agg (⟨[g213 0, g213 1, g213 2, g213 3, g213 4]⟩)) (allOne [g213 0, g213 1, g213 2, g213 3, g213 4] ∧ pAppend w0 t_impl_Tree 5 80 v23 1 [g213 0, g213 1, g213 2, g213 3, g213 4] s226 (fun v227 s228 => pVal false 1 v227 (pBin Tryz.prog 3 .add (.int .i64 (i : Nat)) (.int .i64 1) (fun v229 => L [u, .bool gone, .bool done, v229, .bool d, .int .i64 md, .string t, un, wk, z0, z1, z2, z3, z4, .bool false, .int .i64 0, .string ⟨#[]⟩, .slice none 0 0, .slice none 0 0, .bool d, .int .i64 md, .string t, v225, v227] s228)))))))))))))) := fun hq done s v22 v23 hS => by
        have ks0 := hS.keeps
        have hus := hu.mono ks0.le fun _ _ h => h
        have hks := hwk.mono ks0.le fun es x => mono_rt n _ _ es x ks0.le
        have hT : nmW (ns.take i) + sumBy (fun k => (szT n k + 1) * C) (ks.take i) + (if done = true then C - 2 else 0) ≤ 100000000000 := by split <;> omega
        have hmem := List.mem_of_getElem? hy
        refine hks.at hy fun g hg => ?_
        simp only [expl] at hg
        obtain ⟨_, _, _, _, _, _, _, hp5⟩ := hg.five
        rw [hp5]
        refine RSl.at1 hus hp0 fun g0 hg0 _ => ?_
        rw [hg0, pBin_seq, pIf_d]
        refine ⟨fun e => ?_, fun e => ?_⟩
        · have hlen := hq e
          refine RSl.slice (n := 1) hus (l := 1) (u := ps.length) rfl rfl (by omega) (Nat.le_refl _) fun v' hv' => ?_
          rw [List.take_length] at hv'
          refine spec_l2Set (P := P) n hg (hw.2 kid hmem) hv' (fun e0 => by have := congrArg List.length e0; simp at this; omega) (mono_rt k _ _ _ _ ks0.le hz) hwz (fun s hs => hP s (List.mem_of_mem_drop hs)) (by rw [hC]; omega) fun es' y s' k' hy' hwy hsz => ?_
          rw [hC] at hsz
          obtain ⟨a, b, c', d', e', rfl, hpy⟩ := hy'.shape
          rw [hpy]
          simp only [cellOf_agg, List.getD_cons_zero, List.getD_cons_succ]
          refine (hS.keep k').add hnm hy' hwy hT fun u' w' s' h' => ?_
          rw [pBin_add (by omega)]
          refine hL _ _ (c - 1) (by omega) ⟨i + 1, done, u', w', by omega, h'.le ?_, rfl⟩
          rw [t1, t2]; omega
        · refine hS.add hnm (RT_le (Nat.le_add_right n k) hg) (wf_more hg (hw.2 kid hmem) (Nat.le_add_right n k)) hT fun u' w' s' h' => ?_
          rw [pBin_add (by omega)]
          refine hL _ _ (c - 1) (by omega) ⟨i + 1, done, u', w', by omega, h'.le ?_, rfl⟩
          rw [t1, t2, sz_more hg.isT (Nat.le_add_right n k)]
          omega
      have D2 : ∀ (KP : Prop) (done : Bool) (s : Vw) (v22 v23 : Value), SetS w0 σ (n + k) (nmW (ns.take i) + sumBy (fun k => (szT n k + 1) * C) (ks.take i) + (if done = true then C - 2 else 0)) s v22 v23 → ((nm = p0 → 2 ≤ ps.length) → KP) →
          pIndexAddr 1 u (.int .i64 0) (fun v62 => pLoad w0 1 v62 s (fun g63 => pBin Tryz.prog 9 .eql (.string nm) (g63 0) (fun v64 => pIf v64 (pLen u (fun v65 => pBin Tryz.prog 3 .eql v65 (.int .i64 1) (fun v66 => pIf v66 (pBin Tryz.prog 3 .add (.int .i64 (i : Nat)) (.int .i64 1) (fun v67 => L [u, .bool gone, .bool done, v67, .bool d, .int .i64 md, .string t, un, wk, z0, z1, z2, z3, z4, .bool false, .int .i64 0, .string ⟨#[]⟩, .slice none 0 0, .slice none 0 0, .bool d, .int .i64 md, .string t, v22, v23] s)) KP))) KP))) := fun KP done s v22 v23 hS hKP => by
        have ks0 := hS.keeps
        have hus := hu.mono ks0.le fun _ _ h => h
        refine RSl.at1 hus hp0 fun g0 hg0 _ => ?_
        rw [hg0, pBin_seq, pIf_d]
        refine ⟨fun e => ?_, fun e => hKP fun e' => absurd e' e⟩
        rw [hus.len, pBin_eq, pIf_d]
        refine ⟨fun e1 => ?_, fun e1 => hKP fun _ => by have := List.length_pos_iff.2 hne; omega⟩
        rw [pBin_add (by omega)]
        refine hL _ _ (c - 1) (by omega) ⟨i + 1, done, v22, v23, by omega, hS.le ?_, rfl⟩
        rw [t1, t2]; omega
      rw [hus.len, pBin_eq, pIf_d]
      refine ⟨fun hl => ?_, fun hl => D2 _ done s v22 v23 hS fun hq => KID hq done s v22 v23 hS⟩
      rw [pUn_not, pIf_b]
      refine ⟨fun hd => ?_, fun hd => D2 _ done s v22 v23 hS fun hq => KID hq done s v22 v23 hS⟩
      rw [pUn_not, pIf_b]
      refine ⟨fun hg => ?_, fun hg => D2 _ done s v22 v23 hS fun hq => KID hq done s v22 v23 hS⟩
      refine RSl.at1 hus hp0 fun g0 hg0 _ => ?_
      rw [hg0, pBin_sge, pIf_b]
      refine ⟨fun hge => ?_, fun hge => D2 _ done s v22 v23 hS fun hq => KID hq done s v22 v23 hS⟩
      refine RSl.at1 hus hp0 fun g1 hg1 hps => ?_
      rw [hg1]
      have hd0 : done = false := by simpa using hd
      subst hd0
      refine hS.add hps (RT_le (Nat.le_add_left k n) (mono_rt k _ _ _ _ ks0.le hz)) (wf_more hz hwz (Nat.le_add_left k n)) (by rw [if_neg (by simp)]; omega) fun u' w' s' h' => ?_
      have h'' := h'.le (T' := nmW (ns.take i) + sumBy (fun k => (szT n k + 1) * C) (ks.take i) + (if true = true then C - 2 else 0)) (by rw [if_neg (by simp), if_pos rfl]; omega)
      exact D2 _ true s' u' w' h'' fun hq => KID hq true s' u' w' h''
    · have e : i = ns.length := by omega
      subst e
      have hb := bnd ns.length
      show pLen u _
      rw [hus.len, pBin_eq, pIf_d]
      have last := fin s v22 v23 _ hS (by split <;> omega)
      refine ⟨fun hl => ?_, fun hl => last⟩
      show pUn .not (.bool done) _
      rw [pUn_not, pIf_b]
      refine ⟨fun hd => ?_, fun hd => last⟩
      show pUn .not (.bool gone) _
      rw [pUn_not, pIf_b]
      refine ⟨fun hg => ?_, fun hg => last⟩
      have hd0 : done = false := by simpa using hd
      subst hd0
      refine RSl.at1 hus hp0 fun g1 hg1 hps => ?_
      rw [hg1]
      refine hS.add hps (RT_le (Nat.le_add_left k n) (mono_rt k _ _ _ _ ks0.le hz)) (wf_more hz hwz (Nat.le_add_left k n)) (by rw [if_neg (by simp)]; omega) fun u' w' s' h' => ?_
      exact fin s' u' w' _ h' (by rw [if_neg (by simp)]; omega)
end
end Go.Proofs.YtkbhjejalkbogaaGreatDoor

/- Texts as lists of bytes; what is cut at a byte; decimals. Plain. -/
set_option linter.unusedVariables false
set_option linter.unusedSimpArgs false
namespace Go.Av
open Go Go.RowKit

abbrev bl (s : ByteArray) : List UInt8 := s.data.toList
def ofL (l : List UInt8) : ByteArray := ⟨l.toArray⟩
theorem bl_ofL (l : List UInt8) : bl (ofL l) = l := rfl
theorem bl_inj {a b : ByteArray} (h : bl a = bl b) : a = b := by
  cases a; cases b
  simp only [ByteArray.mk.injEq]
  exact Array.toList_inj.1 h
theorem ofL_bl (s : ByteArray) : ofL (bl s) = s := bl_inj (bl_ofL _)
theorem size_bl (s : ByteArray) : (bl s).length = s.size := by
  show s.data.toList.length = s.data.size
  simp
theorem size_ofL (l : List UInt8) : (ofL l).size = l.length := by rw [← size_bl, bl_ofL]
theorem bl_append (a b : ByteArray) : bl (a ++ b) = bl a ++ bl b := by
  show (a ++ b).data.toList = _
  rw [ByteArray.data_append, Array.toList_append]
theorem ofL_append (a b : List UInt8) : ofL a ++ ofL b = ofL (a ++ b) := bl_inj (by rw [bl_append, bl_ofL, bl_ofL, bl_ofL])
theorem bl_extract (s : ByteArray) (i j : Nat) : bl (s.extract i j) = ((bl s).drop i).take (j - i) := by
  simp [bl, ByteArray.data_extract, Array.toList_extract, List.extract_eq_take_drop]
theorem bl_get (s : ByteArray) (i : Nat) (h : i < s.size) : (bl s)[i]? = some (s[i]'h) := by
  rw [List.getElem?_eq_getElem (by rw [size_bl]; exact h)]
  rfl
theorem bl_empty : bl ⟨#[]⟩ = [] := rfl
theorem bl_byte (n : Nat) : bl (strOfNums [((n % 256 : Nat) : Int)]) = [UInt8.ofNat n] := by
  simp only [bl, strOfNums, List.map_cons, List.map_nil]
  congr 1
  apply UInt8.toNat_inj.1
  simp
  omega

/-- What lies between the places of a byte. -/
def cutL (c : UInt8) : List UInt8 → List (List UInt8)
  | [] => [[]]
  | b :: r => if b = c then [] :: cutL c r else match cutL c r with
    | h :: t => (b :: h) :: t
    | [] => [[b]]
theorem cutL_ne (c : UInt8) : ∀ l, cutL c l ≠ []
  | [] => by simp [cutL]
  | b :: r => by
    unfold cutL
    split
    · simp
    · split
      · simp
      · simp
theorem cutL_none {c : UInt8} : ∀ {l : List UInt8}, c ∉ l → cutL c l = [l]
  | [], _ => rfl
  | b :: r, h => by
    have h1 : b ≠ c := fun e => h (e ▸ List.mem_cons_self)
    have h2 : c ∉ r := fun e => h (List.mem_cons_of_mem _ e)
    unfold cutL
    rw [if_neg h1, cutL_none h2]
theorem cutL_at {c : UInt8} : ∀ {a r : List UInt8}, c ∉ a → cutL c (a ++ c :: r) = a :: cutL c r
  | [], r, _ => by simp [cutL]
  | b :: a, r, h => by
    have h1 : b ≠ c := fun e => h (e ▸ List.mem_cons_self)
    have h2 : c ∉ a := fun e => h (List.mem_cons_of_mem _ e)
    rw [List.cons_append]
    conv => lhs; unfold cutL
    rw [if_neg h1, cutL_at h2]
theorem cutL_len_le (c : UInt8) : ∀ l : List UInt8, (cutL c l).length ≤ l.length + 1
  | [] => by simp [cutL]
  | b :: r => by
    have := cutL_len_le c r
    unfold cutL
    split
    · simp only [List.length_cons]; omega
    · split
      · rename_i h t e
        rw [e] at this
        simp only [List.length_cons] at this ⊢; omega
      · simp
theorem cutL_mem {c : UInt8} : ∀ {l w : List UInt8}, w ∈ cutL c l → c ∉ w ∧ w.length ≤ l.length
  | [], w, h => by simp [cutL] at h; subst h; simp
  | b :: r, w, h => by
    unfold cutL at h
    split at h
    · rcases List.mem_cons.1 h with e | e
      · subst e; simp
      · have := cutL_mem e; exact ⟨this.1, by simp only [List.length_cons]; omega⟩
    · rename_i hb
      split at h
      · rename_i x t e
        rcases List.mem_cons.1 h with e' | e'
        · subst e'
          have := cutL_mem (c := c) (l := r) (w := x) (by rw [e]; exact List.mem_cons_self)
          refine ⟨fun hc => ?_, by simp only [List.length_cons]; omega⟩
          rcases List.mem_cons.1 hc with e'' | e''
          · exact hb e''.symm
          · exact this.1 e''
        · have := cutL_mem (c := c) (l := r) (w := w) (by rw [e]; exact List.mem_cons_of_mem _ e')
          exact ⟨this.1, by simp only [List.length_cons]; omega⟩
      · rename_i e
        exact absurd e (cutL_ne c r)
/-- The pieces of a text. -/
def cutS (c : UInt8) (s : ByteArray) : List ByteArray := (cutL c (bl s)).map ofL
theorem cutS_len (c : UInt8) (s : ByteArray) : (cutS c s).length ≤ s.size + 1 := by
  have := cutL_len_le c (bl s)
  rw [size_bl] at this
  simpa [cutS] using this
theorem cutS_pos (c : UInt8) (s : ByteArray) : 0 < (cutS c s).length := by
  have := cutL_ne c (bl s)
  simp only [cutS, List.length_map]
  exact List.length_pos_iff.2 this
theorem cutS_mem {c : UInt8} {s w : ByteArray} (h : w ∈ cutS c s) : w.size ≤ s.size := by
  obtain ⟨l, hl, rfl⟩ := List.mem_map.1 h
  have := (cutL_mem hl).2
  rw [size_bl] at this
  rw [size_ofL]; exact this

/-! ### Decimals -/
def dig (n : Nat) : UInt8 := UInt8.ofNat (48 + n % 10)
def decL (k : Nat) : List UInt8 := if h : k < 10 then [dig k] else decL (k / 10) ++ [dig k]
termination_by k
decreasing_by omega
theorem decL_small {k : Nat} (h : k < 10) : decL k = [dig k] := by rw [decL, dif_pos h]
theorem decL_big {k : Nat} (h : ¬ k < 10) : decL k = decL (k / 10) ++ [dig k] := by rw [decL, dif_neg h]
theorem decL_len (k : Nat) : 1 ≤ (decL k).length ∧ (decL k).length ≤ k / 10 + 1 := by
  induction k using Nat.strongRecOn with
  | _ k ih =>
    by_cases h : k < 10
    · rw [decL_small h]; simp
    · rw [decL_big h]
      have := ih (k / 10) (by omega)
      simp only [List.length_append, List.length_singleton]
      omega
/-- A number's figures. -/
def decN (k : Nat) : ByteArray := ofL (decL k)
def minText : ByteArray := ⟨#[45, 57, 50, 50, 51, 51, 55, 50, 48, 51, 54, 56, 53, 52, 55, 55, 53, 56, 48, 56]⟩
def decZ (n : Int) : ByteArray := if n < 0 then ⟨#[45]⟩ ++ decN (-n).toNat else decN n.toNat
theorem decN_size (k : Nat) : 1 ≤ (decN k).size ∧ (decN k).size ≤ k / 10 + 1 := by
  rw [decN, size_ofL]; exact decL_len k
theorem decZ_nat (k : Nat) : decZ (k : Int) = decN k := by
  unfold decZ
  rw [if_neg (by omega), Int.toNat_natCast]
theorem dig_toNat (n : Nat) : (dig n).toNat = 48 + n % 10 := by
  unfold dig
  simp
  omega
theorem decL_digits : ∀ (k : Nat) (b : UInt8), b ∈ decL k → 48 ≤ b.toNat ∧ b.toNat ≤ 57 := by
  intro k
  induction k using Nat.strongRecOn with
  | _ k ih =>
    intro b hb
    by_cases h : k < 10
    · rw [decL_small h, List.mem_singleton] at hb
      subst hb
      rw [dig_toNat]; omega
    · rw [decL_big h] at hb
      rcases List.mem_append.1 hb with e | e
      · exact ih (k / 10) (by omega) b e
      · rw [List.mem_singleton.1 e, dig_toNat]; omega

end Go.Av

/- Bytes written into a text, by the reference's hand: how many they are. -/
set_option linter.unusedVariables false
set_option linter.unusedSimpArgs false
namespace Go.Proofs.YtkbhjejalkbogaaGreatDoor
open Go Go.Av

section
variable {w0 : World} {σ : Vw}

/-- Bytes in a row of our own, n of them in sight. -/
def BR (w0 : World) (σ0 σ : Vw) (v : Value) (n : Nat) : Prop := ∃ b c r, v = .slice (some ⟨b, 0, none⟩) n c ∧ n ≤ c ∧ w0.heap.size ≤ b ∧ σ b = some r ∧ σ0 b = none ∧ Keeps σ0 σ ∧ (∀ i, i < n → ∃ x : Int, r.cells[i]? = some (.int .u8 x)) ∧
  (r.cells.length = c ∨ (c ≤ 9223372036854775807 ∧ r.cells.length = n ∧ r.ety = t_uint8 ∧ r.cap = c ∧ r.fz = (0, 0)))

theorem setAt_get {l new : List Value} {o i : Nat} (h : o + new.length ≤ l.length) : (setAt l o new)[i]? = if i < o then l[i]? else if i < o + new.length then new[i - o]? else l[i]? := by
  have e : l = l.take o ++ ((l.drop o).take new.length ++ (l.drop o).drop new.length) := by rw [List.take_append_drop, List.take_append_drop]
  have ho : (l.take o).length = o := by rw [List.length_take]; omega
  have hn : ((l.drop o).take new.length).length = new.length := by rw [List.length_take, List.length_drop]; omega
  have hset : setAt l o new = l.take o ++ (new ++ (l.drop o).drop new.length) := by
    conv => lhs; rw [e]
    have := setAt_mid (l.take o) ((l.drop o).take new.length) new ((l.drop o).drop new.length) hn
    rw [ho] at this
    exact this
  rw [hset]
  split
  · rename_i h1
    rw [List.getElem?_append_left (by omega), List.getElem?_take_of_lt h1]
  · split
    · rw [List.getElem?_append_right (by omega), ho, List.getElem?_append_left (by omega)]
    · rw [List.getElem?_append_right (by omega), ho, List.getElem?_append_right (by omega), List.drop_drop, List.getElem?_drop]
      congr 1; omega
theorem setAt_len {l new : List Value} {o : Nat} (h : o + new.length ≤ l.length) : (setAt l o new).length = l.length := by
  have e : l = l.take o ++ ((l.drop o).take new.length ++ (l.drop o).drop new.length) := by rw [List.take_append_drop, List.take_append_drop]
  have ho : (l.take o).length = o := by rw [List.length_take]; omega
  have hn : ((l.drop o).take new.length).length = new.length := by rw [List.length_take, List.length_drop]; omega
  have hset : setAt l o new = l.take o ++ (new ++ (l.drop o).drop new.length) := by
    conv => lhs; rw [e]
    have := setAt_mid (l.take o) ((l.drop o).take new.length) new ((l.drop o).drop new.length) hn
    rw [ho] at this
    exact this
  rw [hset]
  simp only [List.length_append, ho, List.length_drop]; omega

theorem BR.start {s : ByteArray} (hs : s.size ≤ 1000000) {K : Value → Vw → Prop} (hK : ∀ v σ', BR w0 σ σ' v s.size → K v σ') : pBytes w0 t_uint8 (.string s) σ K := by
  refine ⟨s, rfl, fun b c h1 h2 h3 => hK _ _ ⟨b, c, _, rfl, h3, h1, put_at, h2, Keeps.put h2, fun i hi => ?_, .inl ?_⟩⟩
  · have hl : s.data.toList.length = s.size := Array.length_toList
    have hi' : i < s.data.toList.length := by omega
    refine ⟨(s.data.toList[i].toNat : Int), ?_⟩
    rw [List.getElem?_append_left (by rw [List.length_map]; exact hi'), List.getElem?_map, List.getElem?_eq_getElem hi']; rfl
  · have : s.data.toList.length = s.size := Array.length_toList
    simp only [List.length_append, List.length_map, this, List.length_replicate]; omega
theorem BR.push {s : Vw} {v : Value} {n : Nat} {x : Int} (h : BR w0 σ s v n) (hn : n ≤ 10000000) {K : Value → Vw → Prop} (hK : ∀ v' s', BR w0 σ s' v' (n + 1) → K v' s') : allOne [.int .u8 x] ∧ pAppend w0 t_uint8 1 1 v 1 [.int .u8 x] s K := by
  refine ⟨fun c hc => by rw [List.mem_singleton.1 hc]; rfl, ?_⟩
  obtain ⟨b, c, r, rfl, h1, h2, h3, h4, h5, h6, h7⟩ := h
  rcases h7 with h7 | ⟨h8, h9, h10, h11, h12⟩
  · by_cases hc : n < c
    · refine .inl ⟨b, 0, n, c, r, rfl, h3, by omega, rfl, fun u hu => by rw [List.mem_singleton.1 hu]; rfl, by simp; omega, hK _ _ ⟨b, c, _, rfl, by omega, h2, put_at, h4, h5.fill h4, fun i hi => ?_, .inl ?_⟩⟩
      · simp only
        rw [setAt_get (by simp; omega)]
        simp only [Nat.mul_one, Nat.zero_add, List.length_singleton]
        split
        · rename_i hlt; exact h6 i hlt
        · first | rw [if_pos (by omega), show i - n = 0 by omega] | rw [show i - n = 0 by omega]
          exact ⟨x, rfl⟩
      · simp only
        rw [setAt_len (by simp; omega)]; exact h7
    · have hcn : c = n := by omega
      subst hcn
      refine .inr (.inr ⟨b, c, r, rfl, h3, by omega, by omega, rfl, by omega, by omega, fun b' c' q1 q2 q3 q4 => hK _ _ ⟨b', c', _, rfl, q3, q1, put_at, none_at h5 q2, h5.trans (Keeps.put q2), fun i hi => ?_, .inr ⟨q4, by simp [h7], rfl, by simp, rfl⟩⟩⟩)
      simp only
      by_cases hi2 : i < c
      · rw [List.getElem?_append_left (by omega)]; exact h6 i hi2
      · rw [List.getElem?_append_right (by omega), h7, show i - c = 0 by omega]; exact ⟨x, rfl⟩
  · obtain ⟨ety, cells, cap, fz⟩ := r
    simp only at h9 h10 h11 h12 h6
    subst h10 h11 h12
    refine .inr (.inl ⟨n, cells, ⟨by omega, .inr ⟨b, cap, rfl, by rw [h3, Nat.mul_one], h1, h8⟩⟩, rfl, by omega, by omega, fun v' s' hg => ?_⟩)
    rcases hg with ⟨_, _, hv, _⟩ | ⟨b', c', rfl, g1, g2, rfl, g3, g4⟩
    · cases hv
    · refine hK _ _ ⟨b', c', _, rfl, g1, g3, put_at, ?_, ?_, fun i hi => ?_, .inr ⟨g2, by simp [h9], rfl, by simp, rfl⟩⟩
      · rcases g4 with e | ⟨_, _, e⟩
        · exact none_at h5 e
        · cases e; exact h4
      · rcases g4 with e | ⟨_, _, e⟩
        · exact h5.trans (Keeps.put e)
        · cases e; exact h5.fill h4
      · simp only
        by_cases hi2 : i < n
        · rw [List.getElem?_append_left (by omega)]; exact h6 i hi2
        · rw [List.getElem?_append_right (by omega), h9, show i - n = 0 by omega]; exact ⟨x, rfl⟩
theorem BR.set {s : Vw} {v : Value} {n j : Nat} {x : Int} (h : BR w0 σ s v n) (hj : j < n) {K : Vw → Prop} (hK : ∀ s', BR w0 σ s' v n → K s') : pIndexAddr 1 v (.int .i64 (j : Nat)) (fun p => pVal false 1 (.int .u8 x) (pStore p [.int .u8 x] s K)) := by
  obtain ⟨b, c, r, rfl, h1, h2, h3, h4, h5, h6, h7⟩ := h
  have hcl : n ≤ r.cells.length := by rcases h7 with h | h <;> omega
  refine ⟨⟨b, 0, none⟩, n, c, .i64, j, rfl, rfl, by omega, by omega, ?_⟩
  show pVal false 1 (.int .u8 x) (pStore _ _ _ _)
  rw [pVal1 rfl, addr_add]
  refine ⟨b, _, r, rfl, h3, by simp; omega, hK _ ⟨b, c, _, rfl, h1, h2, put_at, h4, h5.fill h4, fun i hi => ?_, ?_⟩⟩
  · simp only
    rw [setAt_get (by simp; omega)]
    simp only [Int.toNat_natCast, Nat.mul_one, Nat.zero_add, List.length_singleton]
    split
    · exact h6 i hi
    · split
      · rw [show i - j = 0 by omega]; exact ⟨x, rfl⟩
      · exact h6 i hi
  · simp only
    rw [setAt_len (by simp; omega)]
    exact h7
theorem BR.str {s : Vw} {v : Value} {n : Nat} (h : BR w0 σ s v n) {K : Value → Prop} (hK : ∀ t : ByteArray, t.size = n → K (.string t)) : pStr w0 v s K := by
  obtain ⟨b, c, r, rfl, h1, h2, h3, h4, h5, h6, h7⟩ := h
  obtain ⟨xs, e1, e2⟩ := listOf (fun i (x : Int) => r.cells[i]? = some (.int .u8 x)) n h6
  refine .inr ⟨b, 0, n, c, xs, rfl, e1, fun j hj => ?_, hK _ (by rw [size_strOfNums, e1])⟩
  rw [Nat.zero_add, get_row h2 h3]
  have := e2 j _ (List.getElem?_eq_getElem (show j < xs.length by omega))
  rw [this, List.getD_eq_getElem?_getD, List.getElem?_eq_getElem (by omega)]; rfl

theorem spec_l2Write {s d : ByteArray} {a : Nat} (hs : s.size ≤ 1000000) (hd : d.size ≤ 1000000) (ha : a ≤ 1000000) {R : Value → Vw → Prop} (hR : ∀ t σ', Keeps σ σ' → t.size ≤ s.size + a + d.size → R (.string t) σ') : AC Tryz.prog w0 n_spec_l2Write [.string s, .int .i64 (a : Nat), .string d] σ R := by
  refine ac_spec_l2Write ?_
  unfold vc_spec_l2Write
  refine BR.start hs fun v0 s1 h0 => ?_
  refine loop_rule (m := a + d.size) (fun m l st => ∃ (n : Nat) (v : Value), a + d.size ≤ m + n ∧ n ≤ s.size + a + d.size ∧ BR w0 σ st v n ∧ l = [.int .i64 (a : Nat), .string d, v]) ?_ ⟨s.size, v0, by omega, by omega, h0, rfl⟩
  rintro m l st L ⟨n, v, hm, hn, hb, rfl⟩ hL
  simp only [vget, List.getD_cons_zero, List.getD_cons_succ]
  have hlen : ∀ {K : Value → Prop}, pLen v K ↔ K (.int .i64 (n : Nat)) := by
    obtain ⟨b, c, r, rfl, _⟩ := hb
    exact pLen_s
  rw [hlen, pLenS_s, pBin_add (by omega), pBin_lt, pIf_d]
  refine ⟨fun hlt => ?_, fun hge => ?_⟩
  · rw [pVal1 rfl]
    exact hb.push (by omega) fun v' s' h' => hL _ _ (m - 1) (by omega) ⟨n + 1, v', by omega, by omega, h', rfl⟩
  · show pLoop _ _ _ _
    refine loop_rule (m := d.size) (fun m l st => ∃ j : Nat, m + j = d.size ∧ BR w0 σ st v n ∧ l = [.int .i64 (a : Nat), .string d, v, .int .i64 (j : Nat)]) ?_ ⟨0, by omega, hb, rfl⟩
    rintro m' l st' L' ⟨j, hm', hb', rfl⟩ hL'
    simp only [vget, List.getD_cons_zero, List.getD_cons_succ]
    rw [pLenS_s, pBin_lt, pIf_d]
    refine ⟨fun hlt => ?_, fun hge2 => ?_⟩
    · rw [pBin_add (by omega)]
      refine pIndexStr_s (by omega) ?_
      rw [show ((a : Nat) : Int) + ((j : Nat) : Int) = ((a + j : Nat) : Int) by omega]
      refine hb'.set (by omega) fun s' h' => ?_
      rw [pBin_add (by omega)]
      exact hL' _ _ (m' - 1) (by omega) ⟨j + 1, by omega, h', rfl⟩
    · show pStr w0 v st' _
      refine hb'.str fun t ht => hR t st' ?_ (by omega)
      obtain ⟨_, _, _, _, _, _, _, _, h5, _⟩ := hb'
      exact h5
end
end Go.Proofs.YtkbhjejalkbogaaGreatDoor

/- Marks of marks. -/
set_option linter.unusedVariables false
set_option linter.unusedSimpArgs false
namespace Go.Proofs.YtkbhjejalkbogaaGreatDoor
open Go Go.Av

section
variable {w0 : World} {σ : Vw}

/-! ### Marks of marks -/
end
end Go.Proofs.YtkbhjejalkbogaaGreatDoor

/- Calls; marks of marks; the trail of a call by either hand; the law 'TrailOf'. -/
set_option linter.unusedVariables false
set_option linter.unusedSimpArgs false
namespace Go.Proofs.YtkbhjejalkbogaaGreatDoor
open Go Go.Av

/-- A call: its kind, its path, where to, a number, bytes. -/
abbrev Cl := Int × List ByteArray × List ByteArray × Int × ByteArray
abbrev i64r (n : Int) : Prop := -9223372036854775808 ≤ n ∧ n ≤ 9223372036854775807
def RCl (rd : Addr → Option Value) (es : List Value) (c : Cl) : Prop := ∃ u w, es = [.int .i64 c.1, u, w, .int .i64 c.2.2.2.1, .string c.2.2.2.2] ∧ RSl 1 RS rd u c.2.1 ∧ RSl 1 RS rd w c.2.2.1 ∧ i64r c.1 ∧ i64r c.2.2.2.1 ∧ c.2.2.2.2.size ≤ 9223372036854775807
noncomputable def pathB (xs : List ByteArray) : Bool := allNames xs && inB xs.length 1 4
noncomputable def callOk (c : Cl) : Bool :=
  inB c.1 1 6 && (pathB c.2.1 && (if c.1 = 1 ∨ c.1 = 6 then inB c.2.2.2.1 0 7 else if c.1 = 2 ∨ c.1 = 3 then inB c.2.2.2.1 0 24 else if c.1 = 5 then pathB c.2.2.1 else true))
section
variable {w0 : World} {σ : Vw}

theorem callOk_no {k a : Int} {p t : List ByteArray} {d : ByteArray} (h : ¬ (1 ≤ k ∧ k ≤ 6)) : callOk (k, p, t, a, d) = false := by
  have : inB k 1 6 = false := by simp only [inB]; simpa using h
  simp [callOk, this]
theorem callOk_path {k a : Int} {p t : List ByteArray} {d : ByteArray} (h : pathB p = false) : callOk (k, p, t, a, d) = false := by simp [callOk, h]

theorem inB_yes {k lo hi : Int} (h : lo ≤ k ∧ k ≤ hi) : inB k lo hi = true := by simp [inB, h]

set_option maxRecDepth 20000 in
set_option maxHeartbeats 4000000 in
theorem spec_l2CallOk {es : List Value} {c : Cl} (h : RCl (Av.get w0 σ) es c) {R : Value → Vw → Prop} (hR : R (.bool (callOk c)) σ) : AC Tryz.prog w0 n_spec_l2CallOk [.agg ⟨es⟩] σ R := by
  obtain ⟨k, p, t, a, d⟩ := c
  obtain ⟨u, w, rfl, hu, hw, _⟩ := h
  refine ac_spec_l2CallOk ?_
  unfold vc_spec_l2CallOk cs_spec_l2CallOk_1
  rw [pVal_5 rfl hu.one hw.one rfl rfl]
  simp only [cellOf_agg, List.getD_cons_zero, List.getD_cons_succ]
  simp only at hu hw
  have A7 : k = 1 ∨ k = 6 → AC Tryz.prog w0 n_spec_l2PathOk [u] σ (fun v1 s2 => pIf v1 (AC Tryz.prog w0 n_spec_l1In [.int .i64 a, .int .i64 0, .int .i64 7] s2 (fun v3 s4 => R v3 s4)) (R (.bool false) s2)) := fun hk => by
    refine spec_PathOk hu (pIf_b.2 ⟨fun e => spec_In ?_, fun e => ?_⟩)
    · have : callOk (k, p, t, a, d) = inB a 0 7 := by
        simp only [callOk]
        rw [if_pos hk, inB_yes (by omega), show pathB p = true from e]; simp
      rw [this] at hR; exact hR
    · rw [callOk_path e] at hR; exact hR
  have A24 : k = 2 ∨ k = 3 → AC Tryz.prog w0 n_spec_l2PathOk [u] σ (fun v1 s2 => pIf v1 (AC Tryz.prog w0 n_spec_l1In [.int .i64 a, .int .i64 0, .int .i64 24] s2 (fun v3 s4 => R v3 s4)) (R (.bool false) s2)) := fun hk => by
    refine spec_PathOk hu (pIf_b.2 ⟨fun e => spec_In ?_, fun e => ?_⟩)
    · have : callOk (k, p, t, a, d) = inB a 0 24 := by
        simp only [callOk]
        rw [if_neg (by omega), if_pos hk, inB_yes (by omega), show pathB p = true from e]; simp
      rw [this] at hR; exact hR
    · rw [callOk_path e] at hR; exact hR
  have A4 : k = 4 → AC Tryz.prog w0 n_spec_l2PathOk [u] σ (fun v1 s2 => R v1 s2) := fun hk => by
    refine spec_PathOk hu ?_
    have : callOk (k, p, t, a, d) = pathB p := by
      simp only [callOk]
      rw [if_neg (by omega), if_neg (by omega), if_neg (by omega), inB_yes (by omega)]; simp
    rw [this] at hR; exact hR
  have A5 : k = 5 → AC Tryz.prog w0 n_spec_l2PathOk [u] σ (fun v1 s2 => pIf v1 (AC Tryz.prog w0 n_spec_l2PathOk [w] s2 (fun v3 s4 => R v3 s4)) (R (.bool false) s2)) := fun hk => by
    refine spec_PathOk hu (pIf_b.2 ⟨fun e => spec_PathOk hw ?_, fun e => ?_⟩)
    · have : callOk (k, p, t, a, d) = pathB t := by
        simp only [callOk]
        rw [if_neg (by omega), if_neg (by omega), if_pos hk, inB_yes (by omega), show pathB p = true from e]; simp
      rw [this] at hR; exact hR
    · rw [callOk_path e] at hR; exact hR
  have A0 : ¬ (1 ≤ k ∧ k ≤ 6) → R (.bool false) σ := fun hk => by rw [callOk_no hk] at hR; exact hR
  clear hR
  repeat' (first | (with_reducible refine pBin_eq.2 ?_; with_reducible refine pIf_d.2 ⟨fun _ => ?_, fun _ => ?_⟩) | with_reducible refine pIf_d.2 ⟨fun _ => ?_, fun _ => ?_⟩)
  all_goals first | (exfalso; omega) | (with_reducible refine A7 ?_; omega) | (with_reducible refine A24 ?_; omega) | (with_reducible refine A4 ?_; omega) | (with_reducible refine A5 ?_; omega) | (with_reducible refine A0 ?_; omega)

end

end Go.Proofs.YtkbhjejalkbogaaGreatDoor

/- Entries of a layer: size, copy, comparison, marks. -/
set_option linter.unusedVariables false
set_option linter.unusedSimpArgs false
namespace Go.Proofs.YtkbhjejalkbogaaGreatDoor
open Go Go.Av

theorem pNotIf {b : Bool} {A B : Prop} : pUn .not (.bool b) (fun v => pIf v A B) ↔ (b = false → A) ∧ (b = true → B) := by
  rw [pUn_not, pIf_b]
  cases b <;> simp

/-- An entry: a path, what it is, a bool, a number, bytes. -/
abbrev En := List ByteArray × Int × Bool × Int × ByteArray
def enOk (x : En) : Prop := (-9223372036854775808 ≤ x.2.1 ∧ x.2.1 ≤ 9223372036854775807) ∧ (-9223372036854775808 ≤ x.2.2.2.1 ∧ x.2.2.2.1 ≤ 9223372036854775807) ∧ x.2.2.2.2.size ≤ 9223372036854775807
def REn (rd : Addr → Option Value) (es : List Value) (x : En) : Prop := ∃ v, es = [v, .int .i64 x.2.1, .bool x.2.2.1, .int .i64 x.2.2.2.1, .string x.2.2.2.2] ∧ RSl 1 RS rd v x.1 ∧ enOk x
def OEn (w0 : World) (σ : Vw) (F : List Nat) (es : List Value) (x : En) : Prop := ∃ v, es = [v, .int .i64 x.2.1, .bool x.2.2.1, .int .i64 x.2.2.2.1, .string x.2.2.2.2] ∧ OStrs w0 σ F v x.1 ∧ enOk x
def cEn (x : En) : Nat := x.1.length + 4
section
variable {w0 : World} {σ : Vw}

theorem ok_en (w0 : World) : OOk w0 5 REn (OEn w0) := by
  refine ⟨?_, ?_, ?_, ?_, ?_, ?_⟩
  · rintro σ F es x ⟨v, h1, h2, h3⟩; exact ⟨v, h1, h2.rel (ok_str w0), h3⟩
  · rintro σ σ' F es x ⟨v, h1, h2, h3⟩ hF; exact ⟨v, h1, h2.frame (ok_str w0) hF, h3⟩
  · rintro σ F es x ⟨v, h1, h2, h3⟩; exact h2.dom (ok_str w0)
  · rintro σ F es x ⟨v, h1, h2, h3⟩; exact h2.2.1
  · rintro σ F es x ⟨v, rfl, h2, h3⟩; rfl
  · rintro σ F es x ⟨v, rfl, h2, h3⟩ c hc
    simp at hc
    rcases hc with rfl | rfl | rfl | rfl | rfl
    · exact OSl.one' h2
    · rfl
    · rfl
    · rfl
    · rfl
theorem mono_en {rd rd' : Addr → Option Value} {es : List Value} {x : En} (hl : Le rd rd') (h : REn rd es x) : REn rd' es x := by
  obtain ⟨v, h1, h2, h3⟩ := h; exact ⟨v, h1, h2.mono hl fun _ _ h => h, h3⟩

end

end Go.Proofs.YtkbhjejalkbogaaGreatDoor

/- A contract of the kit's, as one of ours. -/
set_option linter.unusedVariables false
set_option linter.unusedSimpArgs false
namespace Go.Av
open Go Go.RowKit

theorem Aft.below {w0 w w' : World} {σ : Vw} (h : Sat w0 σ w) (k : Below w.heap.size w w') : Aft w0 σ w σ w' := by
  refine ⟨⟨h.bel.trans (k.mono h.bel.size), fun b r hb => ?_⟩, k.size, fun b hb _ => k.block b hb, fun b r hb => .inl (by rw [hb]; simp)⟩
  obtain ⟨h1, cur, hc, h2⟩ := h.row b r hb
  exact ⟨h1, cur, (k.block b (h.lt hb)).trans hc, h2⟩

/-- What a call gives that leaves all that is there as it was. -/
theorem AC.of_calls {P : Program} {w0 : World} {f : FuncId} {args : List Value} {σ : Vw} {R : Value → Vw → Prop} (hf : ∃ fn, P.funcs[f]? = some fn ∧ (fn.name == "runtime.NumGoroutine") = false ∧ fn.body.isNone = false)
    (h : ∀ w, Sat w0 σ w → Calls P f args.toArray w fun e w' => ∃ v, e = .returned v ∧ R v σ ∧ Below w.heap.size w w') : AC P w0 f args σ R :=
  ⟨hf, fun w hw => (h w hw).mono fun e w' ⟨v, he, hR, hk⟩ => ⟨v, σ, he, hR, Aft.below hw hk⟩⟩
end Go.Av

/- A disk's rows: the law 'DiskOk', of the functions alone. -/
set_option linter.unusedVariables false
set_option linter.unusedSimpArgs false
namespace Go.Proofs.YtkbhjejalkbogaaGreatDoor
open Go Go.Av

section
variable {w0 : World} {σ : Vw}

def okD : List ByteArray → Bool
  | [] => true
  | s :: r => decide (s.size ≤ 64) && okD r
end
end Go.Proofs.YtkbhjejalkbogaaGreatDoor

/- Writes of a disk: the law 'DiskWrite', of the functions alone. -/
set_option linter.unusedVariables false
set_option linter.unusedSimpArgs false
namespace Go.Proofs.YtkbhjejalkbogaaGreatDoor
open Go Go.Av

section
variable {w0 : World} {σ : Vw}

end
end Go.Proofs.YtkbhjejalkbogaaGreatDoor

/- The law 'DiskWrite', of the functions alone. -/
set_option linter.unusedVariables false
set_option linter.unusedSimpArgs false
namespace Go.Proofs.YtkbhjejalkbogaaGreatDoor
open Go Go.Av

section
variable {w0 : World} {σ : Vw}

end
end Go.Proofs.YtkbhjejalkbogaaGreatDoor

/-
  DERIVED: THE SHELF's CONTRACTS AT THIS DUMP, IN PLAIN WORDS (tools/lay-plain.mjs out of 'TryzShelf.lean', which tools/lay-shelf.mjs wrote): THE SAME DECLARATIONS UNDER THE SAME NAMES: 'import', 'namespace', 'open', 'def', 'theorem' AND NOTHING ELSE: no command of the shelf's: FOR A HAND-IN. Each laying: the table of numbers ('.._ren') and one theorem, a field a fact of the dump's own or the kernel's comparison; each contract: ONE APPLICATION.
-/
namespace Go.Proofs
open Go.Shelf
def Tryz.lays169_ren : Go.Shelf.Ren := ⟨fun | 169 => 40 | n => n, fun | 70 => 62 | 9 => 9 | 0 => 0 | 72 => 64 | 37 => 22 | 127 => 108 | 3 => 3 | 5 => 5 | n => n, fun | n => n⟩
theorem Tryz.lays169 : Go.Proofs.Lays.n169 Tryz.prog Tryz.lays169_ren := {
  mixed := by kernel_rfl
  f169 := Tryz.func40.trans (congrArg some (by kernel_rfl))
  t0 := Tryz.underlying0
  a0 := Tryz.isAgg0
  z0 := Tryz.sizeOf0
  v0 := Tryz.zeroValue0
  t3 := Tryz.underlying3
  a3 := Tryz.isAgg3
  z3 := Tryz.sizeOf3
  v3 := Tryz.zeroValue3
  t9 := Tryz.underlying9
  a9 := Tryz.isAgg9
  z9 := Tryz.sizeOf9
  v9 := Tryz.zeroValue9
  t37 := Tryz.underlying22
  a37 := Tryz.isAgg22
  z37 := Tryz.sizeOf22
  v37 := Tryz.zeroValue22
  t70 := Tryz.underlying62
  a70 := Tryz.isAgg62
  z70 := Tryz.sizeOf62
  v70 := Tryz.zeroValue62
  t72 := Tryz.underlying64
  a72 := Tryz.isAgg64
  z72 := Tryz.sizeOf64
  v72 := Tryz.zeroValue64
  t127 := Tryz.underlying108
  a127 := Tryz.isAgg108
  z127 := Tryz.sizeOf108
  v127 := Tryz.zeroValue108 }
theorem Tryz.Builder_Extra_169 : Builder.Extra Tryz.prog Tryz.lays169_ren := {
  sizeBuilder := by kernel_rfl
  liesBuilder := by kernel_rfl
  t5 := Tryz.underlying5
  a5 := Tryz.isAgg5
  z5 := Tryz.sizeOf5
  v5 := Tryz.zeroValue5
  infoByte := by kernel_rfl
  cellsByte := by kernel_rfl
  sizeByte := by kernel_rfl
  neB5 := by decide }
def Tryz.lays156_ren : Go.Shelf.Ren := ⟨fun | 156 => 115 | 165 => 156 | 166 => 37 | 169 => 40 | 240 => 72 | 241 => 181 | 276 => 134 | 277 => 204 | n => n, fun | 31 => 31 | 9 => 9 | 3 => 3 | 4 => 4 | 0 => 0 | 20 => 20 | 72 => 64 | 76 => 68 | 70 => 62 | 37 => 22 | 75 => 67 | 127 => 108 | 164 => 146 | 5 => 5 | 80 => 70 | n => n, fun | n => n⟩
theorem Tryz.lays156 : Go.Proofs.Lays.n156 Tryz.prog Tryz.lays156_ren := {
  mixed := by kernel_rfl
  f156 := Tryz.func115.trans (congrArg some (by kernel_rfl))
  f165 := Tryz.func156.trans (congrArg some (by kernel_rfl))
  f166 := Tryz.func37.trans (congrArg some (by kernel_rfl))
  f169 := Tryz.func40.trans (congrArg some (by kernel_rfl))
  f240 := Tryz.func72.trans (congrArg some (by kernel_rfl))
  f241 := Tryz.func181.trans (congrArg some (by kernel_rfl))
  f276 := Tryz.func134.trans (congrArg some (by kernel_rfl))
  f277 := Tryz.func204.trans (congrArg some (by kernel_rfl))
  t0 := Tryz.underlying0
  a0 := Tryz.isAgg0
  z0 := Tryz.sizeOf0
  v0 := Tryz.zeroValue0
  t3 := Tryz.underlying3
  a3 := Tryz.isAgg3
  z3 := Tryz.sizeOf3
  v3 := Tryz.zeroValue3
  t4 := Tryz.underlying4
  a4 := Tryz.isAgg4
  z4 := Tryz.sizeOf4
  v4 := Tryz.zeroValue4
  t9 := Tryz.underlying9
  a9 := Tryz.isAgg9
  z9 := Tryz.sizeOf9
  v9 := Tryz.zeroValue9
  t20 := Tryz.underlying20
  a20 := Tryz.isAgg20
  z20 := Tryz.sizeOf20
  v20 := Tryz.zeroValue20
  t31 := Tryz.underlying31
  a31 := Tryz.isAgg31
  z31 := Tryz.sizeOf31
  v31 := Tryz.zeroValue31
  t37 := Tryz.underlying22
  a37 := Tryz.isAgg22
  z37 := Tryz.sizeOf22
  v37 := Tryz.zeroValue22
  t70 := Tryz.underlying62
  a70 := Tryz.isAgg62
  z70 := Tryz.sizeOf62
  v70 := Tryz.zeroValue62
  t72 := Tryz.underlying64
  a72 := Tryz.isAgg64
  z72 := Tryz.sizeOf64
  v72 := Tryz.zeroValue64
  t75 := Tryz.underlying67
  a75 := Tryz.isAgg67
  z75 := Tryz.sizeOf67
  v75 := Tryz.zeroValue67
  t76 := Tryz.underlying68
  a76 := Tryz.isAgg68
  z76 := Tryz.sizeOf68
  v76 := Tryz.zeroValue68
  t127 := Tryz.underlying108
  a127 := Tryz.isAgg108
  z127 := Tryz.sizeOf108
  v127 := Tryz.zeroValue108
  t164 := Tryz.underlying146
  a164 := Tryz.isAgg146
  z164 := Tryz.sizeOf146
  v164 := Tryz.zeroValue146 }
theorem Tryz.Builder_Extra_156 : Builder.Extra Tryz.prog Tryz.lays156_ren := {
  sizeBuilder := by kernel_rfl
  liesBuilder := by kernel_rfl
  t5 := Tryz.underlying5
  a5 := Tryz.isAgg5
  z5 := Tryz.sizeOf5
  v5 := Tryz.zeroValue5
  infoByte := by kernel_rfl
  cellsByte := by kernel_rfl
  sizeByte := by kernel_rfl
  neB5 := by decide }
open Go.RowKit in
/-- strings.Join: "Join concatenates the elements of its first argument to create a single string. The separator string sep is placed between elements in the resulting string.": HOWEVER MANY ELEMENTS. Below the heap's end the world is as it was. (LAID: no walk: one application.) -/
theorem Tryz.strings_Join (bk o c : Nat) (xs : List ByteArray) (sep : ByteArray) (w : World) (hcells : ∀ (j : Nat) x, xs[j]? = some x → w.cell? ⟨bk, o + j, none⟩ = some (.string x)) (hbk : bk < w.heap.size) (hN : xs.length ≤ 140737488355328) (hcap : xs.length ≤ c) (hlen : (Lib.join (xs.map (·.data.toList)) sep.data.toList).length ≤ 140737488355328) :
    Calls Tryz.prog 115 #[.slice (some ⟨bk, o, none⟩) xs.length c, .string sep] w fun e w' => e = .returned (.string ⟨(Lib.join (xs.map (·.data.toList)) sep.data.toList).toArray⟩) ∧ Below w.heap.size w w' := Any.strings_Join Tryz.lays156 Tryz.Builder_Extra_156 bk o c xs sep w hcells hbk hN hcap hlen
def Tryz.lays172_ren : Go.Shelf.Ren := ⟨fun | 172 => 66 | 244 => 128 | 245 => 129 | 247 => 166 | 279 => 167 | 280 => 168 | 281 => 169 | 282 => 170 | 287 => 184 | 316 => 185 | 171 => 73 | 205 => 186 | 321 => 205 | 322 => 206 | 243 => 135 | 246 => 171 | 283 => 187 | 284 => 188 | 285 => 189 | 286 => 190 | 129 => 201 | 317 => 207 | 318 => 208 | 319 => 209 | 320 => 210 | 337 => 216 | 338 => 217 | n => n, fun | 9 => 9 | 3 => 3 | 75 => 67 | 76 => 68 | 4 => 4 | 5 => 5 | 167 => 166 | 37 => 22 | 0 => 0 | 85 => 167 | 2 => 2 | 168 => 169 | 53 => 179 | 175 => 180 | 46 => 177 | 210 => 183 | 127 => 108 | 145 => 210 | 143 => 208 | 21 => 21 | 171 => 185 | 173 => 188 | 212 => 212 | 51 => 199 | 20 => 20 | 213 => 213 | 232 => 223 | 233 => 224 | 80 => 70 | n => n, fun | 15 => 1 | 16 => 2 | 17 => 5 | 18 => 6 | 19 => 7 | n => n⟩
def Tryz.laysM246_ren : Go.Shelf.Ren := ⟨fun | 246 => 171 | 283 => 187 | 284 => 188 | 285 => 189 | 286 => 190 | 129 => 201 | 317 => 207 | 318 => 208 | 319 => 209 | 320 => 210 | 337 => 216 | 338 => 217 | n => n, fun | 2 => 2 | 3 => 3 | 9 => 9 | 4 => 4 | 171 => 185 | 0 => 0 | 53 => 179 | 37 => 22 | 5 => 5 | 173 => 188 | 212 => 212 | 51 => 199 | 20 => 20 | 213 => 213 | 46 => 177 | 232 => 223 | 233 => 224 | n => n, fun | 17 => 5 | 18 => 6 | 19 => 7 | n => n⟩
def Tryz.laysM243_ren : Go.Shelf.Ren := ⟨fun | 243 => 135 | 246 => 171 | 283 => 187 | 284 => 188 | 285 => 189 | 286 => 190 | 129 => 201 | 317 => 207 | 318 => 208 | 319 => 209 | 320 => 210 | 337 => 216 | 338 => 217 | n => n, fun | 3 => 3 | 9 => 9 | 2 => 2 | 4 => 4 | 171 => 185 | 0 => 0 | 53 => 179 | 37 => 22 | 5 => 5 | 173 => 188 | 212 => 212 | 51 => 199 | 20 => 20 | 213 => 213 | 46 => 177 | 232 => 223 | 233 => 224 | n => n, fun | 17 => 5 | 18 => 6 | 19 => 7 | n => n⟩
def Tryz.laysM171_ren : Go.Shelf.Ren := ⟨fun | 171 => 73 | 243 => 135 | 246 => 171 | 283 => 187 | 284 => 188 | 285 => 189 | 286 => 190 | 129 => 201 | 317 => 207 | 318 => 208 | 319 => 209 | 320 => 210 | 337 => 216 | 338 => 217 | n => n, fun | 3 => 3 | 9 => 9 | 2 => 2 | 4 => 4 | 171 => 185 | 0 => 0 | 53 => 179 | 37 => 22 | 5 => 5 | 173 => 188 | 212 => 212 | 51 => 199 | 20 => 20 | 213 => 213 | 46 => 177 | 232 => 223 | 233 => 224 | n => n, fun | 17 => 5 | 18 => 6 | 19 => 7 | n => n⟩
theorem Tryz.laysM171 : Go.Proofs.LaysM.n171 Tryz.prog Tryz.laysM171_ren := {
  mixed := by kernel_rfl
  f129 := Tryz.func201.trans (congrArg some (by kernel_rfl))
  f171 := Tryz.func73.trans (congrArg some (by kernel_rfl))
  f243 := Tryz.func135.trans (congrArg some (by kernel_rfl))
  f246 := Tryz.func171.trans (congrArg some (by kernel_rfl))
  f283 := Tryz.func187.trans (congrArg some (by kernel_rfl))
  f284 := Tryz.func188.trans (congrArg some (by kernel_rfl))
  f285 := Tryz.func189.trans (congrArg some (by kernel_rfl))
  f286 := Tryz.func190.trans (congrArg some (by kernel_rfl))
  f317 := Tryz.func207.trans (congrArg some (by kernel_rfl))
  f318 := Tryz.func208.trans (congrArg some (by kernel_rfl))
  f319 := Tryz.func209.trans (congrArg some (by kernel_rfl))
  f320 := Tryz.func210.trans (congrArg some (by kernel_rfl))
  f337 := Tryz.func216.trans (congrArg some (by kernel_rfl))
  f338 := Tryz.func217.trans (congrArg some (by kernel_rfl))
  t0 := Tryz.underlying0
  a0 := Tryz.isAgg0
  z0 := Tryz.sizeOf0
  v0 := Tryz.zeroValue0
  t2 := Tryz.underlying2
  a2 := Tryz.isAgg2
  z2 := Tryz.sizeOf2
  v2 := Tryz.zeroValue2
  t3 := Tryz.underlying3
  a3 := Tryz.isAgg3
  z3 := Tryz.sizeOf3
  v3 := Tryz.zeroValue3
  t4 := Tryz.underlying4
  a4 := Tryz.isAgg4
  z4 := Tryz.sizeOf4
  v4 := Tryz.zeroValue4
  t5 := Tryz.underlying5
  a5 := Tryz.isAgg5
  z5 := Tryz.sizeOf5
  v5 := Tryz.zeroValue5
  t9 := Tryz.underlying9
  a9 := Tryz.isAgg9
  z9 := Tryz.sizeOf9
  v9 := Tryz.zeroValue9
  t20 := Tryz.underlying20
  a20 := Tryz.isAgg20
  z20 := Tryz.sizeOf20
  v20 := Tryz.zeroValue20
  t37 := Tryz.underlying22
  a37 := Tryz.isAgg22
  z37 := Tryz.sizeOf22
  v37 := Tryz.zeroValue22
  t46 := Tryz.underlying177
  a46 := Tryz.isAgg177
  z46 := Tryz.sizeOf177
  v46 := Tryz.zeroValue177
  t51 := Tryz.underlying199
  a51 := Tryz.isAgg199
  z51 := Tryz.sizeOf199
  v51 := Tryz.zeroValue199
  t53 := Tryz.underlying179
  a53 := Tryz.isAgg179
  z53 := Tryz.sizeOf179
  v53 := Tryz.zeroValue179
  t171 := Tryz.underlying185
  a171 := Tryz.isAgg185
  z171 := Tryz.sizeOf185
  v171 := Tryz.zeroValue185
  t173 := Tryz.underlying188
  a173 := Tryz.isAgg188
  z173 := Tryz.sizeOf188
  v173 := Tryz.zeroValue188
  t212 := Tryz.underlying212
  a212 := Tryz.isAgg212
  z212 := Tryz.sizeOf212
  v212 := Tryz.zeroValue212
  t213 := Tryz.underlying213
  a213 := Tryz.isAgg213
  z213 := Tryz.sizeOf213
  t232 := Tryz.underlying223
  a232 := Tryz.isAgg223
  z232 := Tryz.sizeOf223
  v232 := Tryz.zeroValue223
  t233 := Tryz.underlying224
  a233 := Tryz.isAgg224
  z233 := Tryz.sizeOf224
  v233 := Tryz.zeroValue224
  g17 := by kernel_rfl
  g18 := by kernel_rfl
  g19 := by kernel_rfl
  i0 := by kernel_rfl
  i2 := by kernel_rfl
  i3 := by kernel_rfl
  i4 := by kernel_rfl
  i5 := by kernel_rfl
  i9 := by kernel_rfl
  i20 := by kernel_rfl
  i37 := by kernel_rfl
  i46 := by kernel_rfl
  i51 := by kernel_rfl
  i53 := by kernel_rfl
  i171 := by kernel_rfl
  i173 := by kernel_rfl
  i212 := by kernel_rfl
  i232 := by kernel_rfl
  i233 := by kernel_rfl
  m17 := by kernel_rfl
  m18 := by kernel_rfl
  m19 := by kernel_rfl }
open Go.RowKit Go.Sort Go.Lib in
/-- strconv.Itoa: "Itoa is equivalent to FormatInt(int64(i), 10).": i's DECIMAL NUMERAL ('Lib.itoa': a '-' where i is negative, then the digits), FOR EVERY int. The world behind the call: the world before it, new blocks behind the heap (the library's 'var a [24]byte'), draws. (LAID: no walk: one application.) -/
theorem Tryz.strconv_Itoa (n : Int) (h0 : -9223372036854775808 ≤ n) (h1 : n ≤ 9223372036854775807) (w : World) (htab : Lib.TabIs Tryz.prog w "internal/strconv.uint64pow10" .u64 Lib.pow10Tab) :
    Calls Tryz.prog 73 #[.int .i64 n] w fun e w' => e = .returned (.string ⟨(Lib.itoa n).toArray⟩) ∧ ∃ k os, w' = grow (w.drewN k) os := Any.strconv_Itoa Tryz.laysM171 n h0 h1 w htab
def Tryz.laysC172_ren : Go.Shelf.Ren := ⟨fun | 172 => 66 | 244 => 128 | 245 => 129 | 247 => 166 | 279 => 167 | 280 => 168 | 281 => 169 | 282 => 170 | 287 => 184 | 316 => 185 | 171 => 73 | 205 => 186 | 321 => 205 | 322 => 206 | 243 => 135 | 246 => 171 | 283 => 187 | 284 => 188 | 285 => 189 | 286 => 190 | 129 => 201 | 317 => 207 | 318 => 208 | 319 => 209 | 320 => 210 | 337 => 216 | 338 => 217 | n => n, fun | 9 => 9 | 3 => 3 | 75 => 67 | 76 => 68 | 4 => 4 | 5 => 5 | 167 => 166 | 37 => 22 | 0 => 0 | 85 => 167 | 2 => 2 | 168 => 169 | 53 => 179 | 175 => 180 | 46 => 177 | 210 => 183 | 127 => 108 | 145 => 210 | 143 => 208 | 21 => 21 | 171 => 185 | 173 => 188 | 212 => 212 | 51 => 199 | 20 => 20 | 213 => 213 | 232 => 223 | 233 => 224 | 80 => 70 | n => n, fun | 15 => 1 | 16 => 2 | 17 => 5 | 18 => 6 | 19 => 7 | n => n⟩
theorem Tryz.laysC172 : Go.Proofs.LaysC.n172 Tryz.prog Tryz.laysC172_ren := {
  mixed := by kernel_rfl
  f129 := Tryz.func201.trans (congrArg some (by kernel_rfl))
  f171 := Tryz.func73.trans (congrArg some (by kernel_rfl))
  f172 := Tryz.func66.trans (congrArg some (by kernel_rfl))
  f205 := Tryz.func186.trans (congrArg some (by kernel_rfl))
  f243 := Tryz.func135.trans (congrArg some (by kernel_rfl))
  f244 := Tryz.func128.trans (congrArg some (by kernel_rfl))
  f245 := Tryz.func129.trans (congrArg some (by kernel_rfl))
  f246 := Tryz.func171.trans (congrArg some (by kernel_rfl))
  f247 := Tryz.func166.trans (congrArg some (by kernel_rfl))
  f279 := Tryz.func167.trans (congrArg some (by kernel_rfl))
  f280 := Tryz.func168.trans (congrArg some (by kernel_rfl))
  f281 := Tryz.func169.trans (congrArg some (by kernel_rfl))
  f282 := Tryz.func170.trans (congrArg some (by kernel_rfl))
  f283 := Tryz.func187.trans (congrArg some (by kernel_rfl))
  f284 := Tryz.func188.trans (congrArg some (by kernel_rfl))
  f285 := Tryz.func189.trans (congrArg some (by kernel_rfl))
  f286 := Tryz.func190.trans (congrArg some (by kernel_rfl))
  f287 := Tryz.func184.trans (congrArg some (by kernel_rfl))
  f316 := Tryz.func185.trans (congrArg some (by kernel_rfl))
  f317 := Tryz.func207.trans (congrArg some (by kernel_rfl))
  f318 := Tryz.func208.trans (congrArg some (by kernel_rfl))
  f319 := Tryz.func209.trans (congrArg some (by kernel_rfl))
  f320 := Tryz.func210.trans (congrArg some (by kernel_rfl))
  f321 := Tryz.func205.trans (congrArg some (by kernel_rfl))
  f322 := Tryz.func206.trans (congrArg some (by kernel_rfl))
  f337 := Tryz.func216.trans (congrArg some (by kernel_rfl))
  f338 := Tryz.func217.trans (congrArg some (by kernel_rfl))
  t0 := Tryz.underlying0
  a0 := Tryz.isAgg0
  z0 := Tryz.sizeOf0
  v0 := Tryz.zeroValue0
  t2 := Tryz.underlying2
  a2 := Tryz.isAgg2
  z2 := Tryz.sizeOf2
  v2 := Tryz.zeroValue2
  t3 := Tryz.underlying3
  a3 := Tryz.isAgg3
  z3 := Tryz.sizeOf3
  v3 := Tryz.zeroValue3
  t4 := Tryz.underlying4
  a4 := Tryz.isAgg4
  z4 := Tryz.sizeOf4
  v4 := Tryz.zeroValue4
  t5 := Tryz.underlying5
  a5 := Tryz.isAgg5
  z5 := Tryz.sizeOf5
  v5 := Tryz.zeroValue5
  t9 := Tryz.underlying9
  a9 := Tryz.isAgg9
  z9 := Tryz.sizeOf9
  v9 := Tryz.zeroValue9
  t20 := Tryz.underlying20
  a20 := Tryz.isAgg20
  z20 := Tryz.sizeOf20
  v20 := Tryz.zeroValue20
  t21 := Tryz.underlying21
  a21 := Tryz.isAgg21
  z21 := Tryz.sizeOf21
  v21 := Tryz.zeroValue21
  t37 := Tryz.underlying22
  a37 := Tryz.isAgg22
  z37 := Tryz.sizeOf22
  v37 := Tryz.zeroValue22
  t46 := Tryz.underlying177
  a46 := Tryz.isAgg177
  z46 := Tryz.sizeOf177
  v46 := Tryz.zeroValue177
  t51 := Tryz.underlying199
  a51 := Tryz.isAgg199
  z51 := Tryz.sizeOf199
  v51 := Tryz.zeroValue199
  t53 := Tryz.underlying179
  a53 := Tryz.isAgg179
  z53 := Tryz.sizeOf179
  v53 := Tryz.zeroValue179
  t75 := Tryz.underlying67
  a75 := Tryz.isAgg67
  z75 := Tryz.sizeOf67
  v75 := Tryz.zeroValue67
  t76 := Tryz.underlying68
  a76 := Tryz.isAgg68
  z76 := Tryz.sizeOf68
  v76 := Tryz.zeroValue68
  t85 := Tryz.underlying167
  a85 := Tryz.isAgg167
  z85 := Tryz.sizeOf167
  v85 := Tryz.zeroValue167
  t127 := Tryz.underlying108
  a127 := Tryz.isAgg108
  z127 := Tryz.sizeOf108
  v127 := Tryz.zeroValue108
  t143 := Tryz.underlying208
  a143 := Tryz.isAgg208
  z143 := Tryz.sizeOf208
  v143 := Tryz.zeroValue208
  t145 := Tryz.underlying210
  a145 := Tryz.isAgg210
  z145 := Tryz.sizeOf210
  v145 := Tryz.zeroValue210
  t167 := Tryz.underlying166
  a167 := Tryz.isAgg166
  z167 := Tryz.sizeOf166
  v167 := Tryz.zeroValue166
  t168 := Tryz.underlying169
  a168 := Tryz.isAgg169
  z168 := Tryz.sizeOf169
  v168 := Tryz.zeroValue169
  t171 := Tryz.underlying185
  a171 := Tryz.isAgg185
  z171 := Tryz.sizeOf185
  v171 := Tryz.zeroValue185
  t173 := Tryz.underlying188
  a173 := Tryz.isAgg188
  z173 := Tryz.sizeOf188
  v173 := Tryz.zeroValue188
  t175 := Tryz.underlying180
  a175 := Tryz.isAgg180
  z175 := Tryz.sizeOf180
  v175 := Tryz.zeroValue180
  t210 := Tryz.underlying183
  a210 := Tryz.isAgg183
  z210 := Tryz.sizeOf183
  v210 := Tryz.zeroValue183
  t212 := Tryz.underlying212
  a212 := Tryz.isAgg212
  z212 := Tryz.sizeOf212
  v212 := Tryz.zeroValue212
  t213 := Tryz.underlying213
  a213 := Tryz.isAgg213
  z213 := Tryz.sizeOf213
  t232 := Tryz.underlying223
  a232 := Tryz.isAgg223
  z232 := Tryz.sizeOf223
  v232 := Tryz.zeroValue223
  t233 := Tryz.underlying224
  a233 := Tryz.isAgg224
  z233 := Tryz.sizeOf224
  v233 := Tryz.zeroValue224
  g15 := by kernel_rfl
  g16 := by kernel_rfl
  g17 := by kernel_rfl
  g18 := by kernel_rfl
  g19 := by kernel_rfl
  t80 := Tryz.underlying70
  a80 := Tryz.isAgg70
  z80 := Tryz.sizeOf70
  v80 := Tryz.zeroValue70
  i0 := by kernel_rfl
  i2 := by kernel_rfl
  i3 := by kernel_rfl
  i4 := by kernel_rfl
  i5 := by kernel_rfl
  i9 := by kernel_rfl
  i20 := by kernel_rfl
  i21 := by kernel_rfl
  i37 := by kernel_rfl
  i46 := by kernel_rfl
  i51 := by kernel_rfl
  i53 := by kernel_rfl
  i75 := by kernel_rfl
  i76 := by kernel_rfl
  i80 := by kernel_rfl
  i85 := by kernel_rfl
  i127 := by kernel_rfl
  i143 := by kernel_rfl
  i145 := by kernel_rfl
  i167 := by kernel_rfl
  i168 := by kernel_rfl
  i171 := by kernel_rfl
  i173 := by kernel_rfl
  i175 := by kernel_rfl
  i210 := by kernel_rfl
  i212 := by kernel_rfl
  i232 := by kernel_rfl
  i233 := by kernel_rfl
  m15 := by kernel_rfl
  m16 := by kernel_rfl
  m17 := by kernel_rfl
  m18 := by kernel_rfl
  m19 := by kernel_rfl
  c0 := by kernel_rfl
  c2 := by kernel_rfl
  c3 := by kernel_rfl
  c4 := by kernel_rfl
  c5 := by kernel_rfl
  c9 := by kernel_rfl
  c20 := by kernel_rfl
  c21 := by kernel_rfl
  c37 := by kernel_rfl
  c46 := by kernel_rfl
  c51 := by kernel_rfl
  c53 := by kernel_rfl
  c75 := by kernel_rfl
  c76 := by kernel_rfl
  c80 := by kernel_rfl
  c85 := by kernel_rfl
  c127 := by kernel_rfl
  c143 := by kernel_rfl
  c145 := by kernel_rfl
  c167 := by kernel_rfl
  c168 := by kernel_rfl
  c171 := by kernel_rfl
  c173 := by kernel_rfl
  c175 := by kernel_rfl
  c210 := by kernel_rfl
  c212 := by kernel_rfl
  c213 := by kernel_rfl
  c232 := by kernel_rfl
  c233 := by kernel_rfl }
open Go.RowKit in
/-- strconv.Atoi, AT EVERY STRING THAT SPELLS AN int ('Lib.atoiAll .. = .ok v'; of whatever length: leading zeros count): v, AND NO ERROR. The world: as it was, or with the one new row that '[]byte(..)' lays. (LAID: no walk: one application.) -/
theorem Tryz.strconv_Atoi_ok (s : ByteArray) (hmax : s.size ≤ 9223372036854775806) (v : Int) (h : Lib.atoiAll s.data.toList = .ok v) (w : World) :
    Calls Tryz.prog 66 #[.string s] w fun e w' => e = .returned (.tuple #[.int .i64 v, .nilIface]) ∧ (w' = w ∨ ∃ t, w' = Lib.bytesWorld w 5 t) := Any.strconv_Atoi_ok Tryz.laysC172 s hmax v h w
open Go.RowKit in
theorem Tryz.strconv_Atoi_range_var (s : ByteArray) (hlim : s.size ≤ 281474976710656) (h : Lib.atoiAll s.data.toList = .range) (tp : TypeId) (p : Value) (w : World) (hvar : w.var? Tryz.prog "strconv.ErrRange" = some #[.iface tp p]) :
    Calls Tryz.prog 66 #[.string s] w fun e w' => ∃ N, e = .returned (.tuple #[.int .i64 (Lib.atoiSat s.data.toList), .iface 169 (.pointer (some ⟨N, 0, none⟩))]) ∧ w.heap.size ≤ N ∧ w'.heap[N]? = some (.cells #[.string ⟨#[65, 116, 111, 105]⟩, .string s, .iface tp p] 183 (0, 0)) ∧ Below w.heap.size w w' := Any.strconv_Atoi_range_var Tryz.laysC172 s hlim h tp p w hvar
def Tryz.lays221_ren : Go.Shelf.Ren := ⟨fun | 221 => 64 | 268 => 124 | 138 => 125 | 143 => 126 | 195 => 162 | 197 => 163 | 218 => 164 | 219 => 155 | 260 => 183 | 217 => 177 | 225 => 178 | 224 => 179 | 267 => 180 | 266 => 202 | 314 => 203 | n => n, fun | 9 => 9 | 3 => 3 | 31 => 31 | 4 => 4 | 0 => 0 | 105 => 162 | 21 => 21 | 5 => 5 | 46 => 177 | 119 => 203 | 139 => 206 | 138 => 205 | 146 => 200 | 51 => 199 | n => n, fun | 1 => 0 | 3 => 3 | 4 => 4 | n => n⟩
def Tryz.lays146_ren : Go.Shelf.Ren := ⟨fun | 146 => 29 | 221 => 64 | 268 => 124 | 138 => 125 | 143 => 126 | 195 => 162 | 197 => 163 | 218 => 164 | 219 => 155 | 260 => 183 | 217 => 177 | 225 => 178 | 224 => 179 | 267 => 180 | 266 => 202 | 314 => 203 | n => n, fun | 9 => 9 | 31 => 31 | 3 => 3 | 4 => 4 | 0 => 0 | 105 => 162 | 21 => 21 | 5 => 5 | 46 => 177 | 119 => 203 | 139 => 206 | 138 => 205 | 146 => 200 | 51 => 199 | n => n, fun | 1 => 0 | 3 => 3 | 4 => 4 | n => n⟩
theorem Tryz.lays146 : Go.Proofs.Lays.n146 Tryz.prog Tryz.lays146_ren := {
  mixed := by kernel_rfl
  f138 := Tryz.func125.trans (congrArg some (by kernel_rfl))
  f143 := Tryz.func126.trans (congrArg some (by kernel_rfl))
  f146 := Tryz.func29.trans (congrArg some (by kernel_rfl))
  f195 := Tryz.func162.trans (congrArg some (by kernel_rfl))
  f197 := Tryz.func163.trans (congrArg some (by kernel_rfl))
  f217 := Tryz.func177.trans (congrArg some (by kernel_rfl))
  f218 := Tryz.func164.trans (congrArg some (by kernel_rfl))
  f219 := Tryz.func155.trans (congrArg some (by kernel_rfl))
  f221 := Tryz.func64.trans (congrArg some (by kernel_rfl))
  f224 := Tryz.func179.trans (congrArg some (by kernel_rfl))
  f225 := Tryz.func178.trans (congrArg some (by kernel_rfl))
  f260 := Tryz.func183.trans (congrArg some (by kernel_rfl))
  f266 := Tryz.func202.trans (congrArg some (by kernel_rfl))
  f267 := Tryz.func180.trans (congrArg some (by kernel_rfl))
  f268 := Tryz.func124.trans (congrArg some (by kernel_rfl))
  f314 := Tryz.func203.trans (congrArg some (by kernel_rfl))
  t0 := Tryz.underlying0
  a0 := Tryz.isAgg0
  z0 := Tryz.sizeOf0
  v0 := Tryz.zeroValue0
  t3 := Tryz.underlying3
  a3 := Tryz.isAgg3
  z3 := Tryz.sizeOf3
  v3 := Tryz.zeroValue3
  t4 := Tryz.underlying4
  a4 := Tryz.isAgg4
  z4 := Tryz.sizeOf4
  v4 := Tryz.zeroValue4
  t5 := Tryz.underlying5
  a5 := Tryz.isAgg5
  z5 := Tryz.sizeOf5
  v5 := Tryz.zeroValue5
  t9 := Tryz.underlying9
  a9 := Tryz.isAgg9
  z9 := Tryz.sizeOf9
  v9 := Tryz.zeroValue9
  t21 := Tryz.underlying21
  a21 := Tryz.isAgg21
  z21 := Tryz.sizeOf21
  v21 := Tryz.zeroValue21
  t31 := Tryz.underlying31
  a31 := Tryz.isAgg31
  z31 := Tryz.sizeOf31
  v31 := Tryz.zeroValue31
  t46 := Tryz.underlying177
  a46 := Tryz.isAgg177
  z46 := Tryz.sizeOf177
  v46 := Tryz.zeroValue177
  t51 := Tryz.underlying199
  a51 := Tryz.isAgg199
  z51 := Tryz.sizeOf199
  v51 := Tryz.zeroValue199
  t105 := Tryz.underlying162
  a105 := Tryz.isAgg162
  z105 := Tryz.sizeOf162
  v105 := Tryz.zeroValue162
  t119 := Tryz.underlying203
  a119 := Tryz.isAgg203
  z119 := Tryz.sizeOf203
  t138 := Tryz.underlying205
  a138 := Tryz.isAgg205
  z138 := Tryz.sizeOf205
  v138 := Tryz.zeroValue205
  t139 := Tryz.underlying206
  a139 := Tryz.isAgg206
  z139 := Tryz.sizeOf206
  v139 := Tryz.zeroValue206
  t146 := Tryz.underlying200
  a146 := Tryz.isAgg200
  z146 := Tryz.sizeOf200
  v146 := Tryz.zeroValue200
  g1 := by kernel_rfl
  g3 := by kernel_rfl
  g4 := by kernel_rfl }
open Go.RowKit Go.Lib in
/-- strings.Split. (LAID: no walk: one application.) -/
theorem Tryz.strings_Split (s sep : ByteArray) (m : Int) (w : World) (hs : s.size < 4294967281) (hm : w.cell? ⟨0, 0, none⟩ = some (.int .i64 m)) (h1 : 1 ≤ sep.size) :
    Calls Tryz.prog 29 #[.string s, .string sep] w fun e w' =>
      e = .returned (.slice (some ⟨w.heap.size, 0, none⟩) (Lib.countB s sep + 1) (Lib.countB s sep + 1)) ∧ w' = w.alloc (.cells ((Lib.splitB sep 0 (Lib.countB s sep) s).map Value.string).toArray 9) := Any.strings_Split Tryz.lays146 (by kernel_rfl) s sep m w hs hm h1
end Go.Proofs

/- Decimals by either hand; how a text is cut into blocks. -/
set_option linter.unusedVariables false
set_option linter.unusedSimpArgs false
namespace Go.Proofs.YtkbhjejalkbogaaGreatDoor
open Go Go.Av Go.RowKit

theorem nums_dig (n : Nat) : strOfNums [((48 + n % 10 : Nat) : Int)] = ofL [dig n] := by
  have h := bl_byte (48 + n % 10)
  rw [Nat.mod_eq_of_lt (by omega)] at h
  exact bl_inj (by rw [h, bl_ofL]; rfl)
theorem pUn_neg {n : Int} {K : Value → Prop} (h : -9223372036854775807 ≤ n ∧ n ≤ 9223372036854775807) : pUn .neg (.int .i64 n) K ↔ K (.int .i64 (-n)) := by
  have e : aun .neg (.int .i64 n) = some (.int .i64 (-n)) := by
    show some (Value.int .i64 (IntKind.i64.wrap (0 - n))) = _
    rw [IntWalk.i64_in (0 - n) (by omega), Int.zero_sub]
  exact ⟨fun ⟨_, h', hK⟩ => by rw [e] at h'; cases h'; exact hK, fun hK => ⟨_, e, hK⟩⟩
theorem dec_min : decZ (-9223372036854775808) = minText := by
  have : decL 9223372036854775808 = [57, 50, 50, 51, 51, 55, 50, 48, 51, 54, 56, 53, 52, 55, 55, 53, 56, 48, 56] := by
    simp [decL_big, decL_small, dig]
  unfold decZ
  rw [if_pos (by omega)]
  have e : (-(-9223372036854775808 : Int)).toNat = 9223372036854775808 := rfl
  rw [e, decN, this]
  rfl
theorem decN_big {k : Nat} (h : ¬ k < 10) : decN k = decN (k / 10) ++ ofL [dig k] := by
  rw [decN, decL_big h, ← ofL_append]; rfl

section
variable {w0 : World} {σ : Vw}

theorem dec_row {σ' : Vw} {k : Nat} {K : Vw → Value → Prop} (hK : ∀ s, Keeps σ' s → K s (.string (ofL [dig k]))) : pNew w0 5 [.int .u8 ((48 + k % 10 : Nat) : Int)] σ' (fun n s => pStr w0 (.slice (some (Addr.mk n 0 none)) 1 1) s (fun v => K s v)) := by
  intro b h1 h2
  refine pStr1 (by rw [get_row h1 put_at]; rfl) ?_
  rw [nums_dig]
  exact hK _ (Keeps.put h2)

/-- The table that strconv reads stands as it is laid. -/
def Tab (w0 : World) : Prop := ∀ w, Below w0.heap.size w0 w → Lib.TabIs Tryz.prog w "internal/strconv.uint64pow10" .u64 Lib.pow10Tab
theorem itoa_decL : ∀ u : Nat, Lib.decDigits u = decL u := by
  intro u
  induction u using Nat.strongRecOn with
  | _ u ih =>
    rw [Lib.decDigits, decL]
    split
    · rename_i h
      congr 2
      omega
    · rw [ih (u / 10) (by omega)]; rfl
theorem itoa_dec (n : Int) : (⟨(Lib.itoa n).toArray⟩ : ByteArray) = decZ n := by
  show ofL (Lib.itoa n) = _
  unfold Lib.itoa decZ
  split
  · rw [itoa_decL, show (-n).toNat = n.natAbs by omega, decN]
    show ofL ([45] ++ decL n.natAbs) = ofL [45] ++ _
    rw [ofL_append]
  · rw [itoa_decL]; rfl
theorem strconv_Itoa (tab : Tab w0) {n : Int} {R : Value → Vw → Prop} (hn : -9223372036854775808 ≤ n ∧ n ≤ 9223372036854775807) (hR : R (.string (decZ n)) σ) : AC Tryz.prog w0 n_strconv_Itoa [.int .i64 n] σ R := by
  refine AC.of_calls is_strconv_Itoa fun w hw => ?_
  refine (Tryz.strconv_Itoa n hn.1 hn.2 w (tab w hw.bel)).mono ?_
  rintro e w' ⟨rfl, k, os, rfl⟩
  exact ⟨_, rfl, by rw [itoa_dec]; exact hR, Lib.below_grow _ _ (Nat.le_refl _) _ _⟩

/-! ### Blocks -/
end
end Go.Proofs.YtkbhjejalkbogaaGreatDoor

/- Decimals of the tree's own hand; hex. -/
set_option linter.unusedVariables false
set_option linter.unusedSimpArgs false
namespace Go.Proofs.YtkbhjejalkbogaaGreatDoor
open Go Go.Av Go.RowKit

open IntWalk in
theorem pBin_quo8 {P : Program} {T : Nat} {a : Int} {K : Value → Prop} (h : 0 ≤ a ∧ a ≤ 255) : pBin P T .quo (.int .u8 a) (.int .u8 16) K ↔ K (.int .u8 (a / 16)) :=
  pBin_i (by simp only [aint]; rw [if_neg (by omega), Int.tdiv_eq_ediv_of_nonneg h.1, u8_in _ (by omega)])
open IntWalk in
theorem pBin_add8 {P : Program} {T : Nat} {a b : Int} {K : Value → Prop} (h : 0 ≤ a + b ∧ a + b ≤ 255) : pBin P T .add (.int .u8 a) (.int .u8 b) K ↔ K (.int .u8 (a + b)) :=
  pBin_i (by simp only [aint]; rw [u8_in _ h])
def hexT : ByteArray := ⟨#[48, 49, 50, 51, 52, 53, 54, 55, 56, 57, 97, 98, 99, 100, 101, 102]⟩
def hexD (n : Nat) : UInt8 := (bl hexT).getD n 0
def hexL (l : List UInt8) : List UInt8 := l.flatMap fun b => [hexD (b.toNat / 16), hexD (b.toNat % 16)]
def dataT (s : ByteArray) : ByteArray := if s.size = 0 then ⟨#[45]⟩ else ofL (hexL (bl s))
theorem hex_at {n : Nat} (h : n < 16) : hexT.extract n (n + 1) = ofL [hexD n] := by
  apply bl_inj
  rw [bl_extract, bl_ofL]
  have : ∀ n : Fin 16, ((bl hexT).drop n.val).take (n.val + 1 - n.val) = [hexD n.val] := by decide
  exact this ⟨n, h⟩
theorem hexL_len (l : List UInt8) : (hexL l).length = 2 * l.length := by
  induction l with
  | nil => rfl
  | cons a r ih => simp only [hexL, List.flatMap_cons, List.length_append, List.length_cons, List.length_nil] at ih ⊢; omega
theorem hexL_snoc (l : List UInt8) (b : UInt8) : hexL (l ++ [b]) = hexL l ++ [hexD (b.toNat / 16), hexD (b.toNat % 16)] := by simp [hexL, List.flatMap_append]

section
variable {w0 : World} {σ : Vw}

theorem spec_l1Dec_nat : ∀ (k : Nat), k ≤ 9223372036854775807 → ∀ {σ : Vw} {R : Value → Vw → Prop}, (∀ σ', Keeps σ σ' → R (.string (decN k)) σ') → AC Tryz.prog w0 n_spec_l1Dec [.int .i64 (k : Nat)] σ R := by
  intro k
  induction k using Nat.strongRecOn with
  | _ k ih =>
    intro hk σ R hR
    refine ac_spec_l1Dec ?_
    unfold vc_spec_l1Dec
    rw [pBin_lt, pIf_d]
    refine ⟨fun h => by omega, fun _ => ?_⟩
    rw [pBin_lt, pIf_d]
    refine ⟨fun h => by omega, fun _ => ?_⟩
    rw [pBin_lt, pIf_d]
    refine ⟨fun h10 => ?_, fun h10 => ?_⟩
    · rw [pBin_add (by omega), pConv_u8 (by omega), pVal1 rfl, show (48 : Int) + (k : Nat) = ((48 + k % 10 : Nat) : Int) by omega]
      refine dec_row fun s k1 => ?_
      have := hR s k1
      rw [decN, decL_small (by omega)] at this
      exact this
    · have hb : ¬ k < 10 := by omega
      have hd := (decN_size (k / 10)).2
      rw [decN_big hb] at hR
      have hcat : ∀ K : Value → Prop, pBin Tryz.prog 9 .add (.string (decN (k / 10))) (.string (ofL [dig k])) K ↔ K (.string (decN (k / 10) ++ ofL [dig k])) := fun K => pBin_cat (by rw [size_ofL]; simp only [List.length_singleton]; omega)
      rw [pBin_quo (by omega), pBin_rem (by omega), pBin_add (by omega), pConv_u8 (by omega), show (48 : Int) + (k : Nat) % 10 = ((48 + k % 10 : Nat) : Int) by omega, show ((k : Nat) : Int) / 10 = ((k / 10 : Nat) : Int) by omega]
      refine ⟨ih (k / 10) (by omega) (by omega) fun s k1 => ?_, ?_⟩
      · rw [pVal1 rfl]
        refine dec_row fun s2 k2 => ?_
        rw [hcat]
        exact hR s2 (k1.trans k2)
      · rw [pVal1 rfl]
        refine dec_row fun s2 k2 => ?_
        refine ih (k / 10) (by omega) (by omega) fun s k1 => ⟨k1.ext, ?_⟩
        rw [hcat]
        exact hR s (k2.trans k1)

theorem spec_l1Dec {n : Int} {R : Value → Vw → Prop} (hn : -9223372036854775808 ≤ n ∧ n ≤ 9223372036854775807) (hR : ∀ σ', Keeps σ σ' → R (.string (decZ n)) σ') : AC Tryz.prog w0 n_spec_l1Dec [.int .i64 n] σ R := by
  by_cases h0 : 0 ≤ n
  · obtain ⟨k, rfl⟩ : ∃ k : Nat, n = k := ⟨n.toNat, by omega⟩
    rw [decZ_nat] at hR
    exact spec_l1Dec_nat k (by omega) hR
  refine ac_spec_l1Dec ?_
  unfold vc_spec_l1Dec
  rw [pBin_lt, pIf_d]
  refine ⟨fun h1 => ?_, fun h1 => ?_⟩
  · have : n = -9223372036854775808 := by omega
    subst this
    have := hR σ (Keeps.refl σ)
    rw [dec_min] at this
    exact this
  rw [pBin_lt, pIf_d]
  refine ⟨fun _ => ?_, fun h => by omega⟩
  rw [pUn_neg (by omega)]
  obtain ⟨k, hk⟩ : ∃ k : Nat, -n = k := ⟨(-n).toNat, by omega⟩
  rw [hk]
  have e : decZ n = ⟨#[45]⟩ ++ decN k := by
    unfold decZ
    rw [if_pos (by omega), hk, Int.toNat_natCast]
  rw [e] at hR
  refine spec_l1Dec_nat k (by omega) fun s k1 => ?_
  have hd := (decN_size k).2
  rw [pBin_cat (by show 1 + _ ≤ _; omega)]
  exact hR s k1


theorem spec_l1Hex {s : ByteArray} (hs : s.size ≤ 1000000000) {R : Value → Vw → Prop} (hR : R (.string (dataT s)) σ) : AC Tryz.prog w0 n_spec_l1Hex [.string s] σ R := by
  refine ac_spec_l1Hex ?_
  unfold vc_spec_l1Hex
  have hlen : (bl s).length = s.size := size_bl s
  refine loop_rule (m := s.size) (fun m l st => ∃ i : Nat, m + i = s.size ∧ st = σ ∧ l = [.string s, .string (ofL (hexL ((bl s).take i))), .int .i64 (i : Nat)]) ?_ ⟨0, by omega, rfl, rfl⟩
  rintro m l st L ⟨i, hm, rfl, rfl⟩ hL
  simp only [vget, List.getD_cons_zero, List.getD_cons_succ]
  rw [pLenS_s, pBin_lt, pIf_d]
  refine ⟨fun hi => ?_, fun hi => ?_⟩
  · have hi' : i < s.size := by omega
    have hget := bl_get s i hi'
    generalize hx : s[i]'hi' = x at hget
    have hx2 : x.toNat < 256 := x.toNat_lt
    have idx : ∀ {K : Value → Prop}, K (.int .u8 (x.toNat : Int)) → pIndexStr (.string s) (.int .i64 (i : Nat)) K := fun hK => pIndexStr_s hi' (by rw [hx]; exact hK)
    have hsz : (ofL (hexL ((bl s).take i))).size = 2 * i := by rw [size_ofL, hexL_len, List.length_take]; omega
    refine idx ?_
    rw [pBin_quo8 (by omega)]
    refine idx ?_
    rw [pBin_quo8 (by omega), pBin_add8 (by omega)]
    refine pSliceStr_s (s := hexT) (l := ((x.toNat / 16 : Nat) : Int)) (h := ((x.toNat / 16 + 1 : Nat) : Int)) (by show some _ = some _; congr 1) (by show some _ = some _; congr 1) (by have : hexT.size = 16 := rfl; omega) ?_
    rw [Int.toNat_natCast, Int.toNat_natCast, hex_at (by omega), pBin_cat (by rw [hsz, size_ofL]; simp; omega)]
    refine idx ?_
    rw [pBin_rem (by omega)]
    refine idx ?_
    rw [pBin_rem (by omega), pBin_add8 (by omega)]
    refine pSliceStr_s (s := hexT) (l := ((x.toNat % 16 : Nat) : Int)) (h := ((x.toNat % 16 + 1 : Nat) : Int)) (by show some _ = some _; congr 1) (by show some _ = some _; congr 1) (by have : hexT.size = 16 := rfl; omega) ?_
    rw [Int.toNat_natCast, Int.toNat_natCast, hex_at (by omega), pBin_cat (by rw [ByteArray.size_append, hsz, size_ofL, size_ofL]; simp; omega), pBin_add (by omega)]
    refine hL _ _ (m - 1) (by omega) ⟨i + 1, by omega, rfl, ?_⟩
    rw [List.take_add_one, hget, Option.toList_some, hexL_snoc, ofL_append, ofL_append]
    simp
  · have e : i = s.size := by omega
    subst e
    rw [List.take_of_length_le (by omega)]
    show pBin Tryz.prog 9 .eql (.string (ofL (hexL (bl s)))) (.string ⟨#[]⟩) _
    rw [pBin_seq, pIf_d]
    have hsz : (ofL (hexL (bl s))).size = 2 * s.size := by rw [size_ofL, hexL_len]; omega
    refine ⟨fun h => ?_, fun h => ?_⟩
    · have h0 := congrArg ByteArray.size h
      rw [hsz] at h0
      have h1 : (⟨#[]⟩ : ByteArray).size = 0 := rfl
      rw [dataT, if_pos (by omega)] at hR; exact hR
    · rw [dataT, if_neg (fun h0 => h (by rw [List.eq_nil_of_length_eq_zero (hlen.trans h0)]; rfl))] at hR; exact hR
end
end Go.Proofs.YtkbhjejalkbogaaGreatDoor

/- Paths and trails as texts; the law 'TrailShow'. -/
set_option linter.unusedVariables false
set_option linter.unusedSimpArgs false
namespace Go.Proofs.YtkbhjejalkbogaaGreatDoor
open Go Go.Av Go.RowKit

/-- A path as a text, as rounds make it. -/
def shN : List ByteArray → ByteArray
  | [] => ⟨#[]⟩
  | p :: r => ⟨#[47]⟩ ++ p ++ shN r
theorem shN_snoc : ∀ (r : List ByteArray) (p : ByteArray), shN (r ++ [p]) = shN r ++ ⟨#[47]⟩ ++ p
  | [], p => by
    apply bl_inj
    simp [shN, bl_append]
  | q :: r, p => by
    apply bl_inj
    simp [shN, shN_snoc r p, bl_append]
theorem shN_size : ∀ (r : List ByteArray), (shN r).size = r.length + sumS r
  | [] => rfl
  | p :: r => by
    simp only [shN, ByteArray.size_append, shN_size r, List.length_cons, sumS]
    show 1 + _ + _ = _; omega
def pathT (ps : List ByteArray) : ByteArray := if ps = [] then ⟨#[47]⟩ else shN ps
theorem pathT_size (ps : List ByteArray) : (pathT ps).size ≤ 1 + ps.length + sumS ps := by
  unfold pathT
  split
  · show 1 ≤ _; omega
  · rw [shN_size]; omega
theorem shN_join : ∀ (p : ByteArray) (r : List ByteArray), shN (p :: r) = ⟨#[47]⟩ ++ ofL (Lib.join ((p :: r).map bl) [47]) := by
  intro p r
  apply bl_inj
  have e : ∀ r : List ByteArray, bl (shN r) = Lib.joinTail [47] (r.map bl) := by
    intro r
    induction r with
    | nil => rfl
    | cons q r ih =>
      simp only [shN, bl_append, ih, Lib.joinTail, List.map_cons, List.flatten_cons]
  rw [List.map_cons, Lib.join_cons, shN, bl_append, bl_append, e, bl_append, bl_ofL, List.append_assoc]
def markX (m : Mk) : ByteArray := (if m.2 = true then (⟨#[115, 117, 98, 32]⟩ : ByteArray) else ⟨#[97, 116, 32]⟩) ++ pathT m.1 ++ ⟨#[10]⟩
def marksX (ms : List Mk) : ByteArray := ms.foldl (fun a m => a ++ markX m) ⟨#[]⟩
section
variable {w0 : World} {σ : Vw}

theorem strings_Join {v : Value} {p : ByteArray} {r : List ByteArray} (h : RSl 1 RS (Av.get w0 σ) v (p :: r)) (hb : (p :: r).length + sumS (p :: r) ≤ 1000000000) {R : Value → Vw → Prop} (hR : R (.string (ofL (Lib.join ((p :: r).map bl) [47]))) σ) : AC Tryz.prog w0 n_strings_Join [v, .string ⟨#[47]⟩] σ R := by
  refine AC.of_calls is_strings_Join fun w hw => ?_
  obtain ⟨A, cap, rfl, hc, h3⟩ := h
  have cell : ∀ (j : Nat) (x : ByteArray), (p :: r)[j]? = some x → ∃ a, A = some a ∧ w.cell? (a.add j) = some (.string x) := fun j x hj => by
    obtain ⟨a, es, e1, e2, e3, e4⟩ := h3 j x hj
    obtain ⟨rfl, _⟩ := e4
    refine ⟨a, e1, ?_⟩
    have := e3 0 (by omega)
    rw [show j * 1 + 0 = j by omega] at this
    exact hw.get this
  obtain ⟨⟨bk, o, sp⟩, rfl, h0⟩ := cell 0 p rfl
  have hsp : sp = none := by
    cases sp with
    | none => rfl
    | some q =>
      simp only [Addr.add, if_true, World.cell?] at h0
      split at h0 <;> simp at h0
  subst hsp
  have hcells : ∀ (j : Nat) (x : ByteArray), (p :: r)[j]? = some x → w.cell? ⟨bk, o + j, none⟩ = some (.string x) := fun j x hj => by
    obtain ⟨a, e1, e2⟩ := cell j x hj
    cases e1
    rwa [addr_add] at e2
  have hbk : bk < w.heap.size := by
    rcases Nat.lt_or_ge bk w.heap.size with h' | h'
    · exact h'
    · simp [Addr.add, World.cell?, Array.getElem?_eq_none h'] at h0
  have hj : (Lib.join ((p :: r).map bl) [47]).length ≤ 140737488355328 := by
    have e := congrArg ByteArray.size (shN_join p r)
    rw [shN_size, ByteArray.size_append, size_ofL] at e
    omega
  refine (Tryz.strings_Join bk o cap (p :: r) ⟨#[47]⟩ w hcells hbk (by omega) hc.1 hj).mono ?_
  rintro e w' ⟨rfl, k⟩
  exact ⟨_, rfl, hR, k⟩

theorem spec_l3Name {v : Value} {ps : List ByteArray} (h : RSl 1 RS (Av.get w0 σ) v ps) (hb : ps.length + sumS ps ≤ 1000000000) {R : Value → Vw → Prop} (hR : R (.string (pathT ps)) σ) : AC Tryz.prog w0 n_spec_l3Name [v] σ R := by
  refine ac_spec_l3Name ?_
  unfold vc_spec_l3Name
  have hl := h.le
  refine loop_rule (m := ps.length) (fun m l s => ∃ j : Nat, s = σ ∧ m + j = ps.length ∧ l = [v, .string (shN (ps.take j)), .int .i64 (j : Nat)]) ?_ ⟨0, rfl, by omega, rfl⟩
  rintro m l s L ⟨j, rfl, hm, rfl⟩ hL
  simp only [vget, List.getD_cons_zero, List.getD_cons_succ]
  have hsz := shN_size (ps.take j)
  have hle := sumS_le (xs := ps) j
  have hlt := List.length_take_le j ps
  rw [h.len, pBin_lt, pIf_d]
  refine ⟨fun hi => ?_, fun hi => ?_⟩
  · have hx := List.getElem?_eq_getElem (show j < ps.length by omega)
    generalize hxi : ps[j]'(by omega) = y at hx
    have hs1 := sumS_take hx
    have hs2 := sumS_le (xs := ps) (j + 1)
    rw [List.length_take] at hsz
    rw [pBin_cat (by show _ + 1 ≤ _; omega)]
    refine RSl.at1 h hx fun g hg hs => ?_
    rw [hg, pBin_cat (by rw [ByteArray.size_append]; show _ + 1 + _ ≤ _; omega), pBin_add (by omega)]
    refine hL _ _ (m - 1) (by omega) ⟨j + 1, rfl, by omega, ?_⟩
    rw [List.take_add_one, hx, Option.toList_some, shN_snoc]; simp
  · have e : j = ps.length := by omega
    subst e
    rw [List.take_length]
    show pBin Tryz.prog 9 .eql (.string (shN ps)) (.string ⟨#[]⟩) _
    rw [pBin_seq, pIf_d]
    have he : shN ps = ⟨#[]⟩ ↔ ps = [] := by
      constructor
      · intro he
        have := shN_size ps
        rw [he] at this
        have h0 : (⟨#[]⟩ : ByteArray).size = 0 := rfl
        exact List.eq_nil_of_length_eq_zero (by omega)
      · rintro rfl; rfl
    refine ⟨fun hh => ?_, fun hh => ?_⟩
    · rw [pathT, if_pos (he.1 hh)] at hR; exact hR
    · rw [pathT, if_neg (fun e => hh (he.2 e))] at hR; exact hR

theorem impl_pathText {v : Value} {ps : List ByteArray} (h : RSl 1 RS (Av.get w0 σ) v ps) (hb : ps.length + sumS ps ≤ 1000000000) {R : Value → Vw → Prop} (hR : R (.string (pathT ps)) σ) : AC Tryz.prog w0 n_impl_pathText [v] σ R := by
  refine ac_impl_pathText ?_
  unfold vc_impl_pathText
  rw [h.len, pBin_eq, pIf_d]
  refine ⟨fun hi => ?_, fun hi => ?_⟩
  · have e : ps = [] := List.eq_nil_of_length_eq_zero (by omega)
    rw [pathT, if_pos e] at hR; exact hR
  · cases ps with
    | nil => exact absurd rfl hi
    | cons p r =>
      refine strings_Join h hb ?_
      have e := shN_join p r
      have e2 := congrArg ByteArray.size e
      rw [shN_size, ByteArray.size_append] at e2
      rw [pBin_cat (by omega), ← e]
      rw [pathT, if_neg (by simp)] at hR; exact hR

end
end Go.Proofs.YtkbhjejalkbogaaGreatDoor

/- Bytes in rows of our own; hex by the program's hand; a line of a tree. -/
set_option linter.unusedVariables false
set_option linter.unusedSimpArgs false
namespace Go.Proofs.YtkbhjejalkbogaaGreatDoor
open Go Go.Av Go.RowKit

def encB (x : UInt8) : List Value := [.int .u8 (x.toNat : Int)]
abbrev OBy := OFl encB (fun _ => True)
abbrev RBy := RFl encB (fun _ => True)
theorem nums_bytes (l : List UInt8) : strOfNums (l.map fun x => (x.toNat : Int)) = ofL l := by
  apply bl_inj
  rw [bl_ofL]
  simp only [bl, strOfNums]
  induction l with
  | nil => rfl
  | cons a r ih =>
    simp only [List.map_cons, List.cons.injEq] at ih ⊢
    refine ⟨UInt8.toNat_inj.1 ?_, by simpa using ih⟩
    simp

section
variable {w0 : World} {σ : Vw}

theorem ok_by (w0 : World) : OOk w0 1 RBy OBy := ok_fl (n := 1) (enc := encB) (good := fun _ => True) (fun _ => rfl) (fun x c h => by simp [encB] at h; subst h; rfl) w0

theorem pStr_own {F : List Nat} {v : Value} {xs : List UInt8} (h : OSl w0 1 OBy σ F v xs) {K : Value → Prop} (hK : K (.string (ofL xs))) : pStr w0 v σ K := by
  have hr := h.rel (ok_by w0)
  obtain ⟨h1, h2, ⟨rfl, rfl, _⟩ | ⟨b, off, cap, r, pre, post, css, Fs, rfl, gc, g2, g3, g4, g5, g6, g7, g8, g9⟩⟩ := h
  · exact .inl ⟨0, 0, rfl, hK⟩
  · refine .inr ⟨b, off, xs.length, cap, xs.map fun x => (x.toNat : Int), rfl, by simp, fun j hj => ?_, by rw [nums_bytes]; exact hK⟩
    obtain ⟨A, cap', e1, _, h3⟩ := hr
    cases e1
    have hx := List.getElem?_eq_getElem hj
    generalize xs[j]'hj = x at hx
    obtain ⟨a, es, e2, _, e3, e4, _⟩ := h3 j x hx
    cases e2
    have := e3 0 (by omega)
    rw [show j * 1 + 0 = j by omega, addr_add, e4] at this
    rw [this]
    simp [encB, List.getD, hx]

theorem pIndexStr_k {s : ByteArray} {k : IntKind} {j : Nat} {K : Value → Prop} (h : j < s.size) (hK : K (.int .u8 ((s[j]'h).toNat : Int))) : pIndexStr (.string s) (.int k j) K :=
  ⟨s, k, j, rfl, rfl, by omega, h, hK⟩
theorem hex_idx {n : Nat} (h : n < 16) {K : Value → Prop} (hK : K (.int .u8 ((hexD n).toNat : Int))) : pIndexStr (.string hexT) (.int .u8 (n : Nat)) K := by
  have hs : n < hexT.size := h
  refine pIndexStr_k hs ?_
  have e := bl_get hexT n hs
  have : hexT[n]'hs = hexD n := by
    unfold hexD
    rw [List.getD, e]; rfl
  rw [this]; exact hK

theorem impl_hexOf {s : ByteArray} (hs : s.size ≤ 1000000000) {R : Value → Vw → Prop} (hR : ∀ σ', Keeps σ σ' → R (.string (ofL (hexL (bl s)))) σ') : AC Tryz.prog w0 n_impl_hexOf [.string s] σ R := by
  refine ac_impl_hexOf ?_
  unfold vc_impl_hexOf
  intro b h1 h2
  have kb : Keeps σ (σ.put b ⟨t_uint8, [], 0, (0, 0)⟩) := Keeps.put h2
  have hb0 : ∀ i, i ∈ [b] → σ i = none := fun i hi => by rw [List.mem_singleton.1 hi]; exact h2
  have hlen : (bl s).length = s.size := size_bl s
  refine loop_rule (m := s.size) (fun m l st => ∃ (i : Nat) (v : Value) (F : List Nat), m + i = s.size ∧ Keeps σ st ∧ (∀ j, j ∈ F → σ j = none) ∧ OAcc w0 t_uint8 1 OBy st F v (hexL ((bl s).take i)) ∧ l = [.string s, v, .int .i64 (i : Nat)]) ?_
    ⟨0, _, [b], by omega, kb, hb0, OAcc.new h1, rfl⟩
  rintro m l st L ⟨i, v, F, hm, ks, hF, ho, rfl⟩ hL
  simp only [vget, List.getD_cons_zero, List.getD_cons_succ]
  rw [pLenS_s, pBin_lt, pIf_d]
  refine ⟨fun hi => ?_, fun hi => ?_⟩
  · have hi' : i < s.size := by omega
    have hget := bl_get s i hi'
    generalize hx : s[i]'hi' = x at hget
    have hx2 : x.toNat < 256 := x.toNat_lt
    have idx : ∀ {K : Value → Prop}, K (.int .u8 (x.toNat : Int)) → pIndexStr (.string s) (.int .i64 (i : Nat)) K := fun hK => pIndexStr_s hi' (by rw [hx]; exact hK)
    refine idx ?_
    rw [pBin_quo8 (by omega), show (x.toNat : Int) / 16 = ((x.toNat / 16 : Nat) : Int) by omega]
    refine hex_idx (by omega) ?_
    refine idx ?_
    rw [pBin_rem (by omega), show (x.toNat : Int) % 16 = ((x.toNat % 16 : Nat) : Int) by omega]
    refine hex_idx (by omega) ?_
    rw [pVal1 rfl, pVal1 rfl]
    have hl := hexL_len ((bl s).take i)
    rw [List.length_take] at hl
    refine ⟨by simp [allOne, Value.oneCell'], ?_⟩
    refine ho.push (ok_by w0) (m := 2) (ys := [hexD (x.toNat / 16), hexD (x.toNat % 16)]) (nss := [encB (hexD (x.toNat / 16)), encB (hexD (x.toNat % 16))]) (Gs := [[], []]) rfl rfl rfl rfl (fun j c y g e1 e2 e3 => ?_) (by simp) (by simp) (by omega) (by omega) fun v' F' s' k' o' f' => ?_
    · match j with
      | 0 => simp at e1 e2 e3; subst e1 e2 e3; exact ⟨rfl, rfl, trivial⟩
      | 1 => simp at e1 e2 e3; subst e1 e2 e3; exact ⟨rfl, rfl, trivial⟩
      | j + 2 => simp at e1
    · rw [pBin_add (by omega)]
      refine hL _ _ (m - 1) (by omega) ⟨i + 1, v', F', by omega, k'.old ks hF, fresh_in ks hF fun j hj => ?_, ?_, by simp⟩
      · rcases f' j hj with h | h | h
        · exact .inl h
        · simp at h
        · exact .inr h
      · rw [List.take_add_one, hget, Option.toList_some, hexL_snoc]; exact o'
  · have e : i = s.size := by omega
    subst e
    rw [List.take_of_length_le (by omega)] at ho
    exact pStr_own ho.osl (hR st ks)

theorem impl_dataText {s : ByteArray} (hs : s.size ≤ 1000000000) {R : Value → Vw → Prop} (hR : ∀ σ', Keeps σ σ' → R (.string (dataT s)) σ') : AC Tryz.prog w0 n_impl_dataText [.string s] σ R := by
  refine ac_impl_dataText ?_
  unfold vc_impl_dataText
  rw [pBin_seq, pIf_d]
  refine ⟨fun h => ?_, fun h => ?_⟩
  · rw [dataT, if_pos (by rw [h]; rfl)] at hR; exact hR σ (Keeps.refl _)
  · have h0 : ¬ s.size = 0 := fun e => h (bl_inj (by rw [List.eq_nil_of_length_eq_zero ((size_bl s).trans e)]))
    rw [dataT, if_neg h0] at hR
    exact impl_hexOf hs hR
end
end Go.Proofs.YtkbhjejalkbogaaGreatDoor

/- A tree as a text: what it is, and by the reference's hand; a line by the program's. -/
set_option linter.unusedVariables false
set_option linter.unusedSimpArgs false
namespace Go.Proofs.YtkbhjejalkbogaaGreatDoor
open Go Go.Av Go.RowKit

def catB : List ByteArray → ByteArray
  | [] => ⟨#[]⟩
  | a :: r => a ++ catB r
theorem catB_snoc : ∀ (l : List ByteArray) (a : ByteArray), catB (l ++ [a]) = catB l ++ a
  | [], a => by apply bl_inj; simp [catB, bl_append]
  | b :: l, a => by apply bl_inj; simp [catB, catB_snoc l a, bl_append]
/-- What is sound is short. -/
def shortT : Nat → Tr → Prop
  | 0, _ => False
  | n + 1, .mk d m t ns ks => (0 ≤ m ∧ m ≤ 7) ∧ t.size ≤ 24 ∧ ns.length = ks.length ∧ (∀ x, x ∈ ns → x.size ≤ 5) ∧ ∀ k, k ∈ ks → shortT n k
theorem sound_short : ∀ (n : Nat) (x : Tr) (k : Int), soundB n x k = true → shortT n x
  | 0, _, _, h => by simp [soundB] at h
  | n + 1, .mk d m t ns ks, k, h => by
    simp only [soundB, plainB, Bool.and_eq_true, decide_eq_true_eq, inB] at h
    obtain ⟨⟨h1, h2, h3⟩, _, h4⟩ := h
    refine ⟨h1, ?_, h2, fun x hx => ?_, fun c hc => ?_⟩
    · cases d
      · simp at h3; exact h3.1
      · simp at h3; rw [h3.2]; show 0 ≤ 24; omega
    · cases d
      · simp at h3; rw [h3.2] at hx; cases hx
      · simp at h3
        obtain ⟨j, hj⟩ := List.getElem?_of_mem hx
        have := h3.1 j x hj
        simp only [nameAt, nameOk, Bool.and_eq_true, decide_eq_true_eq, inB] at this
        omega
    · obtain ⟨j, hj⟩ := List.getElem?_of_mem hc
      exact sound_short n c _ (allB_iff.1 h4 j c hj)
theorem dec_one {m : Int} (h : 0 ≤ m ∧ m ≤ 7) : (decZ m).size ≤ 1 := by
  have e : decZ m = decN m.toNat := by unfold decZ; rw [if_neg (by omega)]
  rw [e]
  have := (decN_size m.toNat).2; omega
theorem dataT_size (t : ByteArray) : (dataT t).size ≤ 1 + 2 * t.size := by
  unfold dataT
  split
  · show 1 ≤ _; omega
  · rw [size_ofL, hexL_len, size_bl]; omega
theorem catB_size {α : Type} {f : α → ByteArray} {g : α → Nat} : ∀ {l : List α}, (∀ x, x ∈ l → (f x).size ≤ g x) → (catB (l.map f)).size ≤ sumBy g l
  | [], _ => by simp [catB, sumBy, ByteArray.size]
  | a :: r, h => by
    have h1 := h a (by simp)
    have h2 := catB_size (l := r) fun x hx => h x (by simp [hx])
    simp only [List.map_cons, catB, sumBy, ByteArray.size_append]; omega
section
variable {w0 : World} {σ : Vw}

end
end Go.Proofs.YtkbhjejalkbogaaGreatDoor
