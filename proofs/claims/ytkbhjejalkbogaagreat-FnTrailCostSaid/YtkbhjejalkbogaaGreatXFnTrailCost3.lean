/- The law FnTrailCost holds: it returns true, and the input reads as it did. No condition. This is part 3 of 6 of its proof. -/
import Derived.Test.YtkbhjejalkbogaaGreatXFnTrailCost2

/- What each function owes, reckoned out, part 3. MADE BY PROGRAM (emit.py). -/
set_option linter.unusedVariables false
namespace Go.Proofs.YtkbhjejalkbogaaGreat
open Go.Av renaming vget → G, cellOf → C, pVal → V, pBin → B, pIndexAddr → X, pLoad → L, pField → F, pIf → Q, pExtract → E, pAppend → A, pLen → N, pNew → W
open Go.Proofs.Tryz renaming prog → P
open Go Go.Av

/-- spec.l4Spoil -/
def kp_spec_l4Spoil : Nat → Keep
  | 4 => ⟨[], [], [], .step 0 (.step 1 (.step 2 (.step 3 (.step 4 (.step 5 (.step 6 (.step 7 (.step 8 (.step 9 (.step 10 (.step 11 (.done)))))))))))), [(1, [0]), (5, [4]), (7, [4, 5, 6]), (8, [4, 5, 6, 7]), (9, [3, 4, 5, 6, 7, 8]), (10, [0, 1, 2, 3, 4, 5, 6, 7, 8, 9]), (11, [0, 1, 2, 3, 4, 5, 6, 7, 8, 9, 10])]⟩
  | 8 => ⟨[8], [(4, 5), (5, 5)], [4, 5], .done, []⟩
  | 10 => ⟨[], [], [], .step 0 (.step 1 (.step 2 (.step 3 (.step 4 (.step 5 (.step 6 (.step 7 (.step 8 (.step 9 (.done)))))))))), [(1, [0]), (3, [2]), (4, [2, 3]), (5, [2, 3, 4]), (6, [2, 3, 4, 5]), (7, [0, 1, 2, 3, 4, 5, 6]), (8, [0, 1, 2, 3, 4, 5, 6, 7]), (9, [0, 1, 2, 3, 4, 5, 6, 7, 8])]⟩
  | 19 => ⟨[], [], [], .step 0 (.step 1 (.step 2 (.step 3 (.step 4 (.step 5 (.step 6 (.step 7 (.step 8 (.done))))))))), [(1, [0]), (4, [2, 3]), (5, [2, 3, 4]), (6, [0, 1, 2, 3, 4, 5]), (7, [0, 1, 2, 3, 4, 5, 6]), (8, [0, 1, 2, 3, 4, 5, 6, 7])]⟩
  | 27 => ⟨[0, 7], [(4, 5), (5, 5)], [4, 5], .done, []⟩
  | _ => ⟨[], [], [], .done, []⟩
def esc_spec_l4Spoil : Nat → Bool
  | 60 => true
  | 83 => true
  | 117 => true
  | 119 => true
  | _ => false
def cs_spec_l4Spoil_1 (w0 : World) (v900 : Value) (s901 : Vw) (v902 : Value) (R : Value → Vw → Prop) : Prop :=
  AC P w0 n_p_spec_l1Rd_pick [v900, .int .i64 8] s901 (fun v500 s501 => B P 3 .eql v500 (.int .i64 0) fun v502 => Q v502 (V false 1 (.int .i64 (-1)) (V false 1 (.int .i64 7) (V false 1 (.int .i64 8) (W w0 3 [.int .i64 (-1), .int .i64 7, .int .i64 8] s501 fun n503 s504 => AC P w0 n_p_spec_l1Rd_pick [v900, .int .i64 3] s504 fun v505 s506 => X 1 (.slice (some (Addr.mk n503 0 none)) 3 3) v505 fun v507 => L w0 1 v507 s506 fun g508 => V false 1 (g508 0) (V true 5 (.agg (⟨[C v902 0, g508 0, C v902 2, C v902 3, C v902 4]⟩)) (R (.agg (⟨[C v902 0, g508 0, C v902 2, C v902 3, C v902 4]⟩)) s506)))))) (B P 3 .eql v500 (.int .i64 1) fun v509 => Q v509 (pUn .not (C v902 0) fun v510 => V false 1 v510 (V true 5 (.agg (⟨[v510, C v902 1, C v902 2, C v902 3, C v902 4]⟩)) (R (.agg (⟨[v510, C v902 1, C v902 2, C v902 3, C v902 4]⟩)) s501))) (B P 3 .eql v500 (.int .i64 2) fun v511 => Q v511 (B P 9 .add (C v902 2) (.string ({ data := #[120] })) fun v512 => V false 1 v512 (V true 5 (.agg (⟨[C v902 0, C v902 1, v512, C v902 3, C v902 4]⟩)) (R (.agg (⟨[C v902 0, C v902 1, v512, C v902 3, C v902 4]⟩)) s501))) (B P 3 .eql v500 (.int .i64 3) fun v513 => Q v513 (V false 1 (.string ({ data := #[122, 122] })) (V false 1 (.string ({ data := #[] })) (V false 1 (.string ({ data := #[97] })) (V false 1 (.string ({ data := #[90] })) (V false 1 (.string ({ data := #[116, 111, 111, 108, 111, 110, 103] })) (W w0 9 ([.string ({ data := #[122, 122] }), .string ({ data := #[] }), .string ({ data := #[97] }), .string ({ data := #[90] }), .string ({ data := #[116, 111, 111, 108, 111, 110, 103] })]) s501 fun n514 s515 => AC P w0 n_p_spec_l1Rd_of [v900, .slice (some (Addr.mk n514 0 none)) 5 5] s515 fun v516 s517 => V false 1 v516 ((allOne [v516]) ∧ (A w0 9 1 16 (C v902 3) 1 [v516] s517 fun v518 s519 => V false 1 v518 (V true 5 (.agg (⟨[.bool false, .int .i64 0, .string ({ data := #[] }), .slice none 0 0, .slice none 0 0]⟩)) ((allOne ([.bool false, .int .i64 0, .string ({ data := #[] }), .slice none 0 0, .slice none 0 0])) ∧ (A w0 26 5 80 (C v902 4) 1 ([.bool false, .int .i64 0, .string ({ data := #[] }), .slice none 0 0, .slice none 0 0]) s519 fun v520 s521 => V false 1 v520 (V true 5 (.agg (⟨[C v902 0, C v902 1, C v902 2, v518, v520]⟩)) (R (.agg (⟨[C v902 0, C v902 1, C v902 2, v518, v520]⟩)) s521))))))))))))) (B P 3 .eql v500 (.int .i64 4) fun v522 => Q v522 (V false 1 (.string ({ data := #[122, 122, 122] })) ((allOne ([.string ({ data := #[122, 122, 122] })])) ∧ (A w0 9 1 16 (C v902 3) 1 ([.string ({ data := #[122, 122, 122] })]) s501 fun v523 s524 => V false 1 v523 (V true 5 (.agg (⟨[C v902 0, C v902 1, C v902 2, v523, C v902 4]⟩)) (R (.agg (⟨[C v902 0, C v902 1, C v902 2, v523, C v902 4]⟩)) s524))))) (B P 3 .eql v500 (.int .i64 5) fun v525 => Q v525 (AC P w0 n_p_spec_l1Rd_pick [v900, .int .i64 2] s501 fun v526 s527 => B P 3 .add (.int .i64 24) v526 fun v528 => AC P w0 n_spec_l1Many ([.string ({ data := #[100] }), v528]) s527 fun v529 s530 => V false 1 v529 (V true 5 (.agg (⟨[C v902 0, C v902 1, v529, C v902 3, C v902 4]⟩)) (R (.agg (⟨[C v902 0, C v902 1, v529, C v902 3, C v902 4]⟩)) s530))) (B P 3 .eql v500 (.int .i64 6) fun v531 => Q v531 (pLoop (fun l532 K533 s534 => AC P w0 n_p_spec_l1Rd_pick [G l532 0, .int .i64 2] s534 fun v535 s536 => B P 3 .add (.int .i64 4) v535 fun v537 => B P 3 .lss (G l532 1) v537 fun v538 => Q v538 (V false 1 (.string ({ data := #[110] })) (W w0 9 ([.string ({ data := #[110] })]) s536 fun n539 s540 => V true 5 (.agg (⟨[G l532 7, G l532 8, G l532 9, G l532 10, G l532 11]⟩)) (W w0 26 [G l532 7, G l532 8, G l532 9, G l532 10, G l532 11] s540 fun n541 s542 => V false 1 (.bool true) (V false 1 (.slice (some (Addr.mk n539 0 none)) 1 1) (V false 1 (.slice (some (Addr.mk n541 0 none)) 1 1) (V true 5 (.agg (⟨[.bool true, .int .i64 0, .string ({ data := #[] }), .slice (some (Addr.mk n539 0 none)) 1 1, .slice (some (Addr.mk n541 0 none)) 1 1]⟩)) (B P 3 .add (G l532 1) (.int .i64 1) fun v543 => K533 .normal ([G l532 0, v543, G l532 2, G l532 3, G l532 4, G l532 5, G l532 6, .bool true, .int .i64 0, .string ({ data := #[] }), .slice (some (Addr.mk n539 0 none)) 1 1, .slice (some (Addr.mk n541 0 none)) 1 1]) s542))))))) (K533 (.exit 3) [G l532 0, G l532 1, G l532 2, G l532 3, G l532 4, G l532 5, G l532 6, G l532 7, G l532 8, G l532 9, G l532 10, G l532 11] s536)) ([v900, .int .i64 0, .bool false, .int .i64 0, .string ({ data := #[] }), .slice none 0 0, .slice none 0 0, C v902 0, C v902 1, C v902 2, C v902 3, C v902 4]) s501 fun x544 l545 s546 => match x544 with | .normal => V true 5 (.agg (⟨[G l545 7, G l545 8, G l545 9, G l545 10, G l545 11]⟩)) (R (.agg (⟨[G l545 7, G l545 8, G l545 9, G l545 10, G l545 11]⟩)) s546) | .ret => R (.agg (⟨[G l545 2, G l545 3, G l545 4, G l545 5, G l545 6]⟩)) s546 | .exit i547 => (match Nat.beq i547 3 with | true => V true 5 (.agg (⟨[G l545 7, G l545 8, G l545 9, G l545 10, G l545 11]⟩)) (R (.agg (⟨[G l545 7, G l545 8, G l545 9, G l545 10, G l545 11]⟩)) s546) | false => (match Nat.beq i547 0 with | true => V true 5 (.agg (⟨[G l545 7, G l545 8, G l545 9, G l545 10, G l545 11]⟩)) (R (.agg (⟨[G l545 7, G l545 8, G l545 9, G l545 10, G l545 11]⟩)) s546) | false => False))) (pLoop (fun l548 K549 s550 => B P 3 .lss (G l548 0) (.int .i64 30) fun v551 => Q v551 (B P 3 .add (.int .i64 100) (G l548 0) fun v552 => AC P w0 n_spec_l1Dec [v552] s550 fun v553 s554 => B P 9 .add (.string ({ data := #[122, 122] })) v553 fun v555 => V false 1 v555 ((allOne [v555]) ∧ (A w0 9 1 16 (G l548 9) 1 [v555] s554 fun v556 s557 => V false 1 v556 (V true 5 (.agg (⟨[.bool false, .int .i64 0, .string ({ data := #[] }), .slice none 0 0, .slice none 0 0]⟩)) ((allOne ([.bool false, .int .i64 0, .string ({ data := #[] }), .slice none 0 0, .slice none 0 0])) ∧ (A w0 26 5 80 (G l548 10) 1 ([.bool false, .int .i64 0, .string ({ data := #[] }), .slice none 0 0, .slice none 0 0]) s557 fun v558 s559 => V false 1 v558 (B P 3 .add (G l548 0) (.int .i64 1) fun v560 => K549 .normal [v560, G l548 1, G l548 2, G l548 3, G l548 4, G l548 5, G l548 6, G l548 7, G l548 8, v556, v558] s559))))))) (K549 (.exit 1) [G l548 0, G l548 1, G l548 2, G l548 3, G l548 4, G l548 5, G l548 6, G l548 7, G l548 8, G l548 9, G l548 10] s550)) ([.int .i64 0, .bool false, .int .i64 0, .string ({ data := #[] }), .slice none 0 0, .slice none 0 0, C v902 0, C v902 1, C v902 2, C v902 3, C v902 4]) s501 fun x561 l562 s563 => match x561 with | .normal => V true 5 (.agg (⟨[G l562 6, G l562 7, G l562 8, G l562 9, G l562 10]⟩)) (R (.agg (⟨[G l562 6, G l562 7, G l562 8, G l562 9, G l562 10]⟩)) s563) | .ret => R (.agg (⟨[G l562 1, G l562 2, G l562 3, G l562 4, G l562 5]⟩)) s563 | .exit i564 => (match Nat.beq i564 1 with | true => V true 5 (.agg (⟨[G l562 6, G l562 7, G l562 8, G l562 9, G l562 10]⟩)) (R (.agg (⟨[G l562 6, G l562 7, G l562 8, G l562 9, G l562 10]⟩)) s563) | false => (match Nat.beq i564 0 with | true => V true 5 (.agg (⟨[G l562 6, G l562 7, G l562 8, G l562 9, G l562 10]⟩)) (R (.agg (⟨[G l562 6, G l562 7, G l562 8, G l562 9, G l562 10]⟩)) s563) | false => False))))))))))
def vc_spec_l4Spoil (w0 : World) (a0 a1 : Value) (σ : Vw) (R : Value → Vw → Prop) : Prop :=
  V true 5 a1 (AC P w0 n_spec_l1Copy ([.agg (⟨[C a1 0, C a1 1, C a1 2, C a1 3, C a1 4]⟩)]) σ fun v0 s1 => V true 5 v0 (N (C v0 4) fun v2 => B P 3 .gtr v2 (.int .i64 0) fun v3 => Q v3 (AC P w0 n_p_spec_l1Rd_pick [a0, .int .i64 2] s1 fun v4 s5 => B P 3 .eql v4 (.int .i64 0) fun v6 => Q v6 (N (C v0 4) fun v7 => AC P w0 n_p_spec_l1Rd_pick [a0, v7] s5 fun v8 s9 => X 5 (C v0 4) v8 fun v10 => L w0 5 v10 s9 fun g11 => AC P w0 n_spec_l4Spoil ([a0, .agg (⟨[g11 0, g11 1, g11 2, g11 3, g11 4]⟩)]) s9 fun v12 s13 => X 5 (C v0 4) v8 fun v14 => V true 5 v12 (pStore v14 [C v12 0, C v12 1, C v12 2, C v12 3, C v12 4] s13 fun s15 => V true 5 (.agg (⟨[C v0 0, C v0 1, C v0 2, C v0 3, C v0 4]⟩)) (R (.agg (⟨[C v0 0, C v0 1, C v0 2, C v0 3, C v0 4]⟩)) s15))) (cs_spec_l4Spoil_1 w0 a0 s5 v0 R)) (cs_spec_l4Spoil_1 w0 a0 s1 v0 R)))

theorem vc_spec_l4Spoil_eq (w0 : World) (a0 a1 : Value) (σ : Vw) (R : Value → Vw → Prop) : vc_spec_l4Spoil w0 a0 a1 σ R = den Tryz.prog w0 kp_spec_l4Spoil esc_spec_l4Spoil (Tryz.f84.body.getD .skip) (entry Tryz.f84.ntmps [a0, a1]) σ (retK Tryz.prog Tryz.f84.results.toList R) := by kernel_rfl
theorem ac_spec_l4Spoil {w0 : World} {a0 a1 : Value} {σ : Vw} {R : Value → Vw → Prop} (h : vc_spec_l4Spoil w0 a0 a1 σ R) : AC Tryz.prog w0 n_spec_l4Spoil [a0, a1] σ R := by
  refine ac_rule (fn := Tryz.f84) (c := Tryz.f84.body.getD .skip) kp_spec_l4Spoil esc_spec_l4Spoil Tryz.func84 (by kernel_rfl) (by kernel_rfl) ?_
  rw [← vc_spec_l4Spoil_eq]
  exact h

/-- spec.l13Play -/
def kp_spec_l13Play : Nat → Keep
  | 3 => ⟨[0, 2, 9], [(6, 5), (8, 5)], [6, 8], .done, []⟩
  | 5 => ⟨[], [], [], .step 0 (.step 1 (.step 2 (.step 3 (.step 10 (.step 4 (.step 5 (.step 6 (.step 7 (.step 8 (.step 9 (.step 11 (.step 12 (.step 13 (.done)))))))))))))), [(4, [2, 3]), (5, [0, 1, 2, 3, 4]), (6, [0, 1, 2, 3, 4, 5]), (7, [0, 1, 2, 3, 4, 5, 6]), (8, [0, 1, 2, 3, 4, 5, 6]), (9, [0, 1, 2, 3, 4, 5, 6]), (11, [0, 1, 2, 3, 4, 5, 6, 7, 10]), (12, [0, 1, 2, 3, 4, 5, 6, 7, 8, 10, 11]), (13, [0, 1, 2, 3, 4, 5, 6, 7, 8, 9, 10, 11, 12])]⟩
  | _ => ⟨[], [], [], .done, []⟩
def esc_spec_l13Play : Nat → Bool
  | 14 => true
  | _ => false
def vc_spec_l13Play (w0 : World) (a0 a1 a2 : Value) (σ : Vw) (R : Value → Vw → Prop) : Prop :=
  V true 5 a1 (V true 5 (.agg (⟨[C a1 0, C a1 1, C a1 2, C a1 3, C a1 4]⟩)) (W w0 31 [] σ fun n0 s1 => pLoop (fun l2 K3 s4 => B P 3 .gtr (G l2 1) (.int .i64 0) fun v5 => Q v5 (AC P w0 n_spec_l4Call ([G l2 0, .agg (⟨[G l2 8, G l2 9, G l2 10, G l2 11, G l2 12]⟩)]) s4 fun v6 s7 => AC P w0 n_spec_TrailDo ([.agg (⟨[G l2 8, G l2 9, G l2 10, G l2 11, G l2 12]⟩), G l2 2, v6]) s7 fun v8 s9 => E v8 0 fun v10 => E v8 1 fun v11 => E v8 2 fun v12 => V true 5 v10 (B P 3 .eql v12 (.int .i64 0) fun v13 => Q v13 (V true 5 (.agg (⟨[C v10 0, C v10 1, C v10 2, C v10 3, C v10 4]⟩)) (B P 3 .sub (G l2 1) (.int .i64 1) fun v14 => K3 .normal [G l2 0, v14, v11, G l2 3, G l2 4, G l2 5, G l2 6, G l2 7, C v10 0, C v10 1, C v10 2, C v10 3, C v10 4] s9)) (B P 3 .sub (G l2 1) (.int .i64 1) fun v15 => K3 .normal [G l2 0, v15, G l2 2, G l2 3, G l2 4, G l2 5, G l2 6, G l2 7, G l2 8, G l2 9, G l2 10, G l2 11, G l2 12] s9))) (K3 (.exit 0) [G l2 0, G l2 1, G l2 2, G l2 3, G l2 4, G l2 5, G l2 6, G l2 7, G l2 8, G l2 9, G l2 10, G l2 11, G l2 12] s4)) ([a0, a2, .slice (some (Addr.mk n0 0 none)) 0 0, .bool false, .int .i64 0, .string ({ data := #[] }), .slice none 0 0, .slice none 0 0, C a1 0, C a1 1, C a1 2, C a1 3, C a1 4]) s1 fun x16 l17 s18 => match x16 with | .normal => V true 5 (.agg (⟨[G l17 8, G l17 9, G l17 10, G l17 11, G l17 12]⟩)) (R (.tuple (⟨[.agg (⟨[G l17 8, G l17 9, G l17 10, G l17 11, G l17 12]⟩), G l17 2]⟩)) s18) | .ret => False | .exit i19 => (match Nat.beq i19 0 with | true => V true 5 (.agg (⟨[G l17 8, G l17 9, G l17 10, G l17 11, G l17 12]⟩)) (R (.tuple (⟨[.agg (⟨[G l17 8, G l17 9, G l17 10, G l17 11, G l17 12]⟩), G l17 2]⟩)) s18) | false => False)))
theorem vc_spec_l13Play_eq (w0 : World) (a0 a1 a2 : Value) (σ : Vw) (R : Value → Vw → Prop) : vc_spec_l13Play w0 a0 a1 a2 σ R = den Tryz.prog w0 kp_spec_l13Play esc_spec_l13Play (Tryz.f85.body.getD .skip) (entry Tryz.f85.ntmps [a0, a1, a2]) σ (retK Tryz.prog Tryz.f85.results.toList R) := by kernel_rfl
theorem ac_spec_l13Play {w0 : World} {a0 a1 a2 : Value} {σ : Vw} {R : Value → Vw → Prop} (h : vc_spec_l13Play w0 a0 a1 a2 σ R) : AC Tryz.prog w0 n_spec_l13Play [a0, a1, a2] σ R := by
  refine ac_rule (fn := Tryz.f85) (c := Tryz.f85.body.getD .skip) kp_spec_l13Play esc_spec_l13Play Tryz.func85 (by kernel_rfl) (by kernel_rfl) ?_
  rw [← vc_spec_l13Play_eq]
  exact h

/-- spec.l4Path -/
def kp_spec_l4Path : Nat → Keep
  | 3 => ⟨[0, 5], [(6, 5)], [6], .done, []⟩
  | 6 => ⟨[], [], [], .step 0 (.step 1 (.step 2 (.step 3 (.step 4 (.step 5 (.step 6 (.step 7 (.step 8 (.step 9 (.done)))))))))), [(1, [0]), (4, [3]), (5, [3, 4]), (6, [2, 3, 4, 5]), (7, [0, 1, 2, 3, 4, 5, 6]), (8, [0, 1, 2, 3, 4, 5, 6, 7]), (9, [0, 1, 2, 3, 4, 5, 6, 7, 8])]⟩
  | _ => ⟨[], [], [], .done, []⟩
def esc_spec_l4Path : Nat → Bool
  | 9 => true
  | _ => false
def cs_spec_l4Path_2 (w0 : World) (v900 : Value) (K901 : AX → List Value → Vw → Prop) (l902 : List Value) (v903 : Value) (s904 : Vw) (R : Value → Vw → Prop) : Prop :=
  B P 3 .lss v900 (.int .i64 0) (fun v500 => Q v500 (K901 (.exit 0) [G l902 0, v903, G l902 2, G l902 3, G l902 4, G l902 5, G l902 6] s904) (N (G l902 6) fun v501 => B P 3 .geq v900 v501 fun v502 => Q v502 (K901 (.exit 0) [G l902 0, v903, G l902 2, G l902 3, G l902 4, G l902 5, G l902 6] s904) (X 5 (G l902 6) v900 fun v503 => L w0 5 v503 s904 fun g504 => V true 5 (.agg (⟨[g504 0, g504 1, g504 2, g504 3, g504 4]⟩)) (K901 .normal [G l902 0, v903, g504 0, g504 1, g504 2, g504 3, g504 4] s904))))
def cs_spec_l4Path_1 (w0 : World) (l900 : List Value) (s901 : Vw) (K902 : AX → List Value → Vw → Prop) (R : Value → Vw → Prop) : Prop :=
  AC P w0 n_spec_l4Name [G l900 0] s901 (fun v500 s501 => N (G l900 5) fun v502 => B P 3 .gtr v502 (.int .i64 0) fun v503 => Q v503 (AC P w0 n_p_spec_l1Rd_pick [G l900 0, .int .i64 4] s501 fun v504 s505 => B P 3 .gtr v504 (.int .i64 0) fun v506 => Q v506 (N (G l900 5) fun v507 => AC P w0 n_p_spec_l1Rd_pick [G l900 0, v507] s505 fun v508 s509 => X 1 (G l900 5) v508 fun v510 => L w0 1 v510 s509 fun g511 => V false 1 (g511 0) ((allOne [g511 0]) ∧ (A w0 9 1 16 (G l900 1) 1 [g511 0] s509 fun v512 s513 => AC P w0 n_spec_l1Find ([.agg (⟨[G l900 2, G l900 3, G l900 4, G l900 5, G l900 6]⟩), g511 0]) s513 fun v514 s515 => cs_spec_l4Path_2 w0 v514 K902 l900 v512 s515 R))) (V false 1 v500 ((allOne [v500]) ∧ (A w0 9 1 16 (G l900 1) 1 [v500] s505 fun v521 s522 => AC P w0 n_spec_l1Find ([.agg (⟨[G l900 2, G l900 3, G l900 4, G l900 5, G l900 6]⟩), v500]) s522 fun v523 s524 => cs_spec_l4Path_2 w0 v523 K902 l900 v521 s524 R)))) (V false 1 v500 ((allOne [v500]) ∧ (A w0 9 1 16 (G l900 1) 1 [v500] s501 fun v530 s531 => AC P w0 n_spec_l1Find ([.agg (⟨[G l900 2, G l900 3, G l900 4, G l900 5, G l900 6]⟩), v500]) s531 fun v532 s533 => cs_spec_l4Path_2 w0 v532 K902 l900 v530 s533 R))))
def vc_spec_l4Path (w0 : World) (a0 a1 : Value) (σ : Vw) (R : Value → Vw → Prop) : Prop :=
  V true 5 a1 (W w0 9 [] σ fun n0 s1 => V true 5 (.agg (⟨[C a1 0, C a1 1, C a1 2, C a1 3, C a1 4]⟩)) (pLoop (fun l2 K3 s4 => N (G l2 1) fun v5 => B P 3 .lss v5 (.int .i64 4) fun v6 => Q v6 (N (G l2 1) fun v7 => B P 3 .eql v7 (.int .i64 0) fun v8 => Q v8 (cs_spec_l4Path_1 w0 l2 s4 K3 R) (AC P w0 n_p_spec_l1Rd_pick [G l2 0, .int .i64 3] s4 fun v48 s49 => B P 3 .gtr v48 (.int .i64 0) fun v50 => Q v50 (cs_spec_l4Path_1 w0 l2 s49 K3 R) (K3 (.exit 0) [G l2 0, G l2 1, G l2 2, G l2 3, G l2 4, G l2 5, G l2 6] s49))) (K3 (.exit 0) [G l2 0, G l2 1, G l2 2, G l2 3, G l2 4, G l2 5, G l2 6] s4)) [a0, .slice (some (Addr.mk n0 0 none)) 0 0, C a1 0, C a1 1, C a1 2, C a1 3, C a1 4] s1 fun x90 l91 s92 => match x90 with | .normal => R (G l91 1) s92 | .ret => False | .exit i93 => (match Nat.beq i93 0 with | true => R (G l91 1) s92 | false => False)))

theorem vc_spec_l4Path_eq (w0 : World) (a0 a1 : Value) (σ : Vw) (R : Value → Vw → Prop) : vc_spec_l4Path w0 a0 a1 σ R = den Tryz.prog w0 kp_spec_l4Path esc_spec_l4Path (Tryz.f86.body.getD .skip) (entry Tryz.f86.ntmps [a0, a1]) σ (retK Tryz.prog Tryz.f86.results.toList R) := by kernel_rfl
theorem ac_spec_l4Path {w0 : World} {a0 a1 : Value} {σ : Vw} {R : Value → Vw → Prop} (h : vc_spec_l4Path w0 a0 a1 σ R) : AC Tryz.prog w0 n_spec_l4Path [a0, a1] σ R := by
  refine ac_rule (fn := Tryz.f86) (c := Tryz.f86.body.getD .skip) kp_spec_l4Path esc_spec_l4Path Tryz.func86 (by kernel_rfl) (by kernel_rfl) ?_
  rw [← vc_spec_l4Path_eq]
  exact h

/-- spec.l4Data -/
def kp_spec_l4Data : Nat → Keep
  | _ => ⟨[], [], [], .done, []⟩
def esc_spec_l4Data : Nat → Bool
  | 7 => true
  | _ => false
def vc_spec_l4Data (w0 : World) (a0 : Value) (σ : Vw) (R : Value → Vw → Prop) : Prop :=
  AC P w0 n_p_spec_l1Rd_pick [a0, .int .i64 25] σ fun v0 s1 => AC P w0 n_spec_l1Many ([.string ({ data := #[122] }), v0]) s1 fun v2 s3 => V false 1 (.string ({ data := #[] })) (V false 1 (.string ({ data := #[120] })) (V false 1 (.string ({ data := #[104, 101, 108, 108, 111] })) (V false 1 (.string ({ data := #[0, 255] })) (V false 1 (.string ({ data := #[48, 49, 50, 51, 52, 53, 54, 55, 56, 57] })) (V false 1 v2 (W w0 9 ([.string ({ data := #[] }), .string ({ data := #[120] }), .string ({ data := #[104, 101, 108, 108, 111] }), .string ({ data := #[0, 255] }), .string ({ data := #[48, 49, 50, 51, 52, 53, 54, 55, 56, 57] }), v2]) s3 fun n4 s5 => AC P w0 n_p_spec_l1Rd_of [a0, .slice (some (Addr.mk n4 0 none)) 6 6] s5 fun v6 s7 => R v6 s7))))))
theorem vc_spec_l4Data_eq (w0 : World) (a0 : Value) (σ : Vw) (R : Value → Vw → Prop) : vc_spec_l4Data w0 a0 σ R = den Tryz.prog w0 kp_spec_l4Data esc_spec_l4Data (Tryz.f87.body.getD .skip) (entry Tryz.f87.ntmps [a0]) σ (retK Tryz.prog Tryz.f87.results.toList R) := by kernel_rfl
theorem ac_spec_l4Data {w0 : World} {a0 : Value} {σ : Vw} {R : Value → Vw → Prop} (h : vc_spec_l4Data w0 a0 σ R) : AC Tryz.prog w0 n_spec_l4Data [a0] σ R := by
  refine ac_rule (fn := Tryz.f87) (c := Tryz.f87.body.getD .skip) kp_spec_l4Data esc_spec_l4Data Tryz.func87 (by kernel_rfl) (by kernel_rfl) ?_
  rw [← vc_spec_l4Data_eq]
  exact h

/-- spec.TreeDo -/
def kp_spec_TreeDo : Nat → Keep
  | _ => ⟨[], [], [], .done, []⟩
def esc_spec_TreeDo : Nat → Bool
  | _ => false
def vc_spec_TreeDo (w0 : World) (a0 a1 : Value) (σ : Vw) (R : Value → Vw → Prop) : Prop :=
  V true 5 a0 (V true 5 a1 (AC P w0 n_spec_TreeOk ([.agg (⟨[C a0 0, C a0 1, C a0 2, C a0 3, C a0 4]⟩)]) σ fun v0 s1 => pUn .not v0 fun v2 => Q v2 (V true 5 (.agg (⟨[.bool false, .int .i64 0, .string ({ data := #[] }), .slice none 0 0, .slice none 0 0]⟩)) (R (.tuple (⟨[.agg (⟨[.bool false, .int .i64 0, .string ({ data := #[] }), .slice none 0 0, .slice none 0 0]⟩), .int .i64 1]⟩)) s1)) (AC P w0 n_spec_l2CallOk ([.agg (⟨[C a1 0, C a1 1, C a1 2, C a1 3, C a1 4]⟩)]) s1 fun v3 s4 => pUn .not v3 fun v5 => Q v5 (AC P w0 n_spec_l1Copy ([.agg (⟨[C a0 0, C a0 1, C a0 2, C a0 3, C a0 4]⟩)]) s4 fun v6 s7 => V true 5 v6 (R (.tuple (⟨[.agg (⟨[C v6 0, C v6 1, C v6 2, C v6 3, C v6 4]⟩), .int .i64 2]⟩)) s7)) (AC P w0 n_spec_l2Do ([.agg (⟨[C a0 0, C a0 1, C a0 2, C a0 3, C a0 4]⟩), .agg (⟨[C a1 0, C a1 1, C a1 2, C a1 3, C a1 4]⟩)]) s4 fun v8 s9 => E v8 0 fun v10 => E v8 1 fun v11 => V true 5 v10 (AC P w0 n_spec_l1Copy ([.agg (⟨[C v10 0, C v10 1, C v10 2, C v10 3, C v10 4]⟩)]) s9 fun v12 s13 => V true 5 v12 (R (.tuple (⟨[.agg (⟨[C v12 0, C v12 1, C v12 2, C v12 3, C v12 4]⟩), v11]⟩)) s13))))))
theorem vc_spec_TreeDo_eq (w0 : World) (a0 a1 : Value) (σ : Vw) (R : Value → Vw → Prop) : vc_spec_TreeDo w0 a0 a1 σ R = den Tryz.prog w0 kp_spec_TreeDo esc_spec_TreeDo (Tryz.f88.body.getD .skip) (entry Tryz.f88.ntmps [a0, a1]) σ (retK Tryz.prog Tryz.f88.results.toList R) := by kernel_rfl
theorem ac_spec_TreeDo {w0 : World} {a0 a1 : Value} {σ : Vw} {R : Value → Vw → Prop} (h : vc_spec_TreeDo w0 a0 a1 σ R) : AC Tryz.prog w0 n_spec_TreeDo [a0, a1] σ R := by
  refine ac_rule (fn := Tryz.f88) (c := Tryz.f88.body.getD .skip) kp_spec_TreeDo esc_spec_TreeDo Tryz.func88 (by kernel_rfl) (by kernel_rfl) ?_
  rw [← vc_spec_TreeDo_eq]
  exact h

/-- spec.l4Calls -/
def kp_spec_l4Calls : Nat → Keep
  | 1 => ⟨[0, 2], [(4, 5), (6, 5)], [4, 6], .done, []⟩
  | 3 => ⟨[], [], [], .step 0 (.step 1 (.step 2 (.step 8 (.step 3 (.step 4 (.step 5 (.step 6 (.step 7 (.step 9 (.step 10 (.done))))))))))), [(3, [1, 2]), (4, [0, 1, 2, 3]), (5, [0, 1, 2, 3, 4]), (6, [0, 1, 2, 3, 4, 5]), (7, [0, 1, 2, 3, 4, 5]), (9, [0, 1, 2, 3, 4, 5, 6, 8]), (10, [0, 1, 2, 3, 4, 5, 6, 7, 8, 9])]⟩
  | _ => ⟨[], [], [], .done, []⟩
def esc_spec_l4Calls : Nat → Bool
  | _ => false
def vc_spec_l4Calls (w0 : World) (a0 a1 a2 : Value) (σ : Vw) (R : Value → Vw → Prop) : Prop :=
  V true 5 a1 (pLoop (fun l0 K1 s2 => B P 3 .gtr (G l0 1) (.int .i64 0) fun v3 => Q v3 (AC P w0 n_spec_l4Call ([G l0 0, .agg (⟨[G l0 2, G l0 3, G l0 4, G l0 5, G l0 6]⟩)]) s2 fun v4 s5 => AC P w0 n_spec_TreeDo ([.agg (⟨[G l0 2, G l0 3, G l0 4, G l0 5, G l0 6]⟩), v4]) s5 fun v6 s7 => E v6 0 fun v8 => E v6 1 fun v9 => V true 5 v8 (B P 3 .eql v9 (.int .i64 0) fun v10 => Q v10 (V true 5 (.agg (⟨[C v8 0, C v8 1, C v8 2, C v8 3, C v8 4]⟩)) (B P 3 .sub (G l0 1) (.int .i64 1) fun v11 => K1 .normal [G l0 0, v11, C v8 0, C v8 1, C v8 2, C v8 3, C v8 4, G l0 7, G l0 8, G l0 9, G l0 10, G l0 11] s7)) (B P 3 .sub (G l0 1) (.int .i64 1) fun v12 => K1 .normal [G l0 0, v12, G l0 2, G l0 3, G l0 4, G l0 5, G l0 6, G l0 7, G l0 8, G l0 9, G l0 10, G l0 11] s7))) (K1 (.exit 0) [G l0 0, G l0 1, G l0 2, G l0 3, G l0 4, G l0 5, G l0 6, G l0 7, G l0 8, G l0 9, G l0 10, G l0 11] s2)) ([a0, a2, C a1 0, C a1 1, C a1 2, C a1 3, C a1 4, .bool false, .int .i64 0, .string ({ data := #[] }), .slice none 0 0, .slice none 0 0]) σ fun x13 l14 s15 => match x13 with | .normal => V true 5 (.agg (⟨[G l14 2, G l14 3, G l14 4, G l14 5, G l14 6]⟩)) (R (.agg (⟨[G l14 2, G l14 3, G l14 4, G l14 5, G l14 6]⟩)) s15) | .ret => R (.agg (⟨[G l14 7, G l14 8, G l14 9, G l14 10, G l14 11]⟩)) s15 | .exit i16 => (match Nat.beq i16 0 with | true => V true 5 (.agg (⟨[G l14 2, G l14 3, G l14 4, G l14 5, G l14 6]⟩)) (R (.agg (⟨[G l14 2, G l14 3, G l14 4, G l14 5, G l14 6]⟩)) s15) | false => False))
theorem vc_spec_l4Calls_eq (w0 : World) (a0 a1 a2 : Value) (σ : Vw) (R : Value → Vw → Prop) : vc_spec_l4Calls w0 a0 a1 a2 σ R = den Tryz.prog w0 kp_spec_l4Calls esc_spec_l4Calls (Tryz.f89.body.getD .skip) (entry Tryz.f89.ntmps [a0, a1, a2]) σ (retK Tryz.prog Tryz.f89.results.toList R) := by kernel_rfl
theorem ac_spec_l4Calls {w0 : World} {a0 a1 a2 : Value} {σ : Vw} {R : Value → Vw → Prop} (h : vc_spec_l4Calls w0 a0 a1 a2 σ R) : AC Tryz.prog w0 n_spec_l4Calls [a0, a1, a2] σ R := by
  refine ac_rule (fn := Tryz.f89) (c := Tryz.f89.body.getD .skip) kp_spec_l4Calls esc_spec_l4Calls Tryz.func89 (by kernel_rfl) (by kernel_rfl) ?_
  rw [← vc_spec_l4Calls_eq]
  exact h

/-- spec.l13Trail -/
def kp_spec_l13Trail : Nat → Keep
  | 3 => ⟨[0, 5, 6], [(3, 5)], [3], .done, []⟩
  | _ => ⟨[], [], [], .done, []⟩
def esc_spec_l13Trail : Nat → Bool
  | 7 => true
  | _ => false
def vc_spec_l13Trail (w0 : World) (a0 a1 : Value) (σ : Vw) (R : Value → Vw → Prop) : Prop :=
  V true 5 a1 (W w0 31 [] σ fun n0 s1 => AC P w0 n_p_spec_l1Rd_pick [a0, .int .i64 9] s1 fun v2 s3 => pLoop (fun l4 K5 s6 => B P 3 .gtr (G l4 2) (.int .i64 0) fun v7 => Q v7 (AC P w0 n_spec_l13Mark ([G l4 0, .agg (⟨[G l4 3, G l4 4, G l4 5, G l4 6, G l4 7]⟩)]) s6 fun v8 s9 => AC P w0 n_spec_TrailAdd [G l4 1, v8] s9 fun v10 s11 => B P 3 .sub (G l4 2) (.int .i64 1) fun v12 => K5 .normal [G l4 0, v10, v12, G l4 3, G l4 4, G l4 5, G l4 6, G l4 7] s11) (K5 (.exit 0) [G l4 0, G l4 1, G l4 2, G l4 3, G l4 4, G l4 5, G l4 6, G l4 7] s6)) [a0, .slice (some (Addr.mk n0 0 none)) 0 0, v2, C a1 0, C a1 1, C a1 2, C a1 3, C a1 4] s3 fun x13 l14 s15 => match x13 with | .normal => R (G l14 1) s15 | .ret => False | .exit i16 => (match Nat.beq i16 0 with | true => R (G l14 1) s15 | false => False))
theorem vc_spec_l13Trail_eq (w0 : World) (a0 a1 : Value) (σ : Vw) (R : Value → Vw → Prop) : vc_spec_l13Trail w0 a0 a1 σ R = den Tryz.prog w0 kp_spec_l13Trail esc_spec_l13Trail (Tryz.f90.body.getD .skip) (entry Tryz.f90.ntmps [a0, a1]) σ (retK Tryz.prog Tryz.f90.results.toList R) := by kernel_rfl
theorem ac_spec_l13Trail {w0 : World} {a0 a1 : Value} {σ : Vw} {R : Value → Vw → Prop} (h : vc_spec_l13Trail w0 a0 a1 σ R) : AC Tryz.prog w0 n_spec_l13Trail [a0, a1] σ R := by
  refine ac_rule (fn := Tryz.f90) (c := Tryz.f90.body.getD .skip) kp_spec_l13Trail esc_spec_l13Trail Tryz.func90 (by kernel_rfl) (by kernel_rfl) ?_
  rw [← vc_spec_l13Trail_eq]
  exact h

/-- spec.l13Spoil -/
def kp_spec_l13Spoil : Nat → Keep
  | 4 => ⟨[0, 5, 6], [], [], .done, []⟩
  | 14 => ⟨[], [], [], .step 0 (.step 1 (.step 2 (.step 3 (.step 4 (.step 5 (.step 6 (.step 7 (.step 8 (.step 9 (.step 10 (.step 11 (.step 12 (.step 13 (.step 14 (.done))))))))))))))), [(4, [2, 3]), (5, [2, 3, 4]), (6, [2, 3, 4, 5]), (9, [7, 8]), (10, [7, 8, 9]), (11, [2, 3, 4, 5, 6, 7, 8, 9, 10]), (12, [0, 1, 2, 3, 4, 5, 6, 7, 8, 9, 10, 11]), (13, [0, 1, 2, 3, 4, 5, 6, 7, 8, 9, 10, 11, 12]), (14, [0, 1, 2, 3, 4, 5, 6, 7, 8, 9, 10, 11, 12, 13])]⟩
  | _ => ⟨[], [], [], .done, []⟩
def esc_spec_l13Spoil : Nat → Bool
  | 31 => true
  | 44 => true
  | 69 => true
  | _ => false
def cs_spec_l13Spoil_1 (w0 : World) (v900 : Value) (v901 : Value) (s902 : Vw) (R : Value → Vw → Prop) : Prop :=
  pLoop (fun l500 K501 s502 => N (G l500 1) fun v503 => AC P w0 n_p_spec_l1Rd_pick [G l500 0, .int .i64 2] s502 fun v504 s505 => B P 3 .add (.int .i64 6) v504 fun v506 => B P 3 .lss v503 v506 fun v507 => Q v507 (B P 3 .add (.int .i64 100) (G l500 2) fun v508 => AC P w0 n_spec_l1Dec [v508] s505 fun v509 s510 => B P 9 .add (.string ({ data := #[122] })) v509 fun v511 => V false 1 v511 (W w0 9 [v511] s510 fun n512 s513 => V false 1 (.slice (some (Addr.mk n512 0 none)) 1 1) (V true 2 (.agg (⟨[.slice (some (Addr.mk n512 0 none)) 1 1, .bool false]⟩)) ((allOne [.slice (some (Addr.mk n512 0 none)) 1 1, .bool false]) ∧ (A w0 31 2 32 (G l500 1) 1 [.slice (some (Addr.mk n512 0 none)) 1 1, .bool false] s513 fun v514 s515 => B P 3 .add (G l500 2) (.int .i64 1) fun v516 => K501 .normal [G l500 0, v514, v516] s515))))) (K501 (.exit 0) [G l500 0, G l500 1, G l500 2] s505)) [v900, v901, .int .i64 0] s902 (fun x517 l518 s519 => match x517 with | .normal => R (G l518 1) s519 | .ret => False | .exit i520 => (match Nat.beq i520 0 with | true => R (G l518 1) s519 | false => False))
def vc_spec_l13Spoil (w0 : World) (a0 a1 : Value) (σ : Vw) (R : Value → Vw → Prop) : Prop :=
  AC P w0 n_spec_l11Copy [a1] σ fun v0 s1 => N v0 fun v2 => B P 3 .eql v2 (.int .i64 0) fun v3 => Q v3 (cs_spec_l13Spoil_1 w0 a0 v0 s1 R) (AC P w0 n_p_spec_l1Rd_pick [a0, .int .i64 4] s1 fun v25 s26 => B P 3 .eql v25 (.int .i64 0) fun v27 => Q v27 (cs_spec_l13Spoil_1 w0 a0 v0 s26 R) (N v0 fun v49 => AC P w0 n_p_spec_l1Rd_pick [a0, v49] s26 fun v50 s51 => AC P w0 n_p_spec_l1Rd_pick [a0, .int .i64 4] s51 fun v52 s53 => B P 3 .eql v52 (.int .i64 0) fun v54 => Q v54 (X 2 v0 v50 fun v55 => F 1 v55 fun v56 => L w0 1 v56 s53 fun g57 => pUn .not (g57 0) fun v58 => X 2 v0 v50 fun v59 => F 1 v59 fun v60 => V false 1 v58 (pStore v60 [v58] s53 fun s61 => R v0 s61)) (B P 3 .eql v52 (.int .i64 1) fun v62 => Q v62 (X 2 v0 v50 fun v63 => F 0 v63 fun v64 => L w0 1 v64 s53 fun g65 => V false 1 (.string ({ data := #[97] })) (V false 1 (.string ({ data := #[] })) (V false 1 (.string ({ data := #[120] })) (W w0 9 ([.string ({ data := #[97] }), .string ({ data := #[] }), .string ({ data := #[120] })]) s53 fun n66 s67 => (Stay w0 s53 s67 v64 1) ∧ (AC P w0 n_p_spec_l1Rd_of [a0, .slice (some (Addr.mk n66 0 none)) 3 3] s67 fun v68 s69 => (Stay w0 s67 s69 v64 1) ∧ (V false 1 v68 ((allOne [v68]) ∧ (A w0 9 1 16 (g65 0) 1 [v68] s69 fun v70 s71 => X 2 v0 v50 fun v72 => F 0 v72 fun v73 => V false 1 v70 (pStore v73 [v70] s71 fun s74 => R v0 s74))))))))) (B P 3 .eql v52 (.int .i64 2) fun v75 => Q v75 (X 2 v0 v50 fun v76 => L w0 2 v76 s53 fun g77 => V true 2 (.agg (⟨[g77 0, g77 1]⟩)) ((allOne [g77 0, g77 1]) ∧ (A w0 31 2 32 v0 1 [g77 0, g77 1] s53 fun v78 s79 => R v78 s79))) (W w0 9 [] s53 fun n80 s81 => X 2 v0 v50 fun v82 => F 0 v82 fun v83 => V false 1 (.slice (some (Addr.mk n80 0 none)) 0 0) (pStore v83 [.slice (some (Addr.mk n80 0 none)) 0 0] s81 fun s84 => R v0 s84))))))

theorem vc_spec_l13Spoil_eq (w0 : World) (a0 a1 : Value) (σ : Vw) (R : Value → Vw → Prop) : vc_spec_l13Spoil w0 a0 a1 σ R = den Tryz.prog w0 kp_spec_l13Spoil esc_spec_l13Spoil (Tryz.f91.body.getD .skip) (entry Tryz.f91.ntmps [a0, a1]) σ (retK Tryz.prog Tryz.f91.results.toList R) := by kernel_rfl
theorem ac_spec_l13Spoil {w0 : World} {a0 a1 : Value} {σ : Vw} {R : Value → Vw → Prop} (h : vc_spec_l13Spoil w0 a0 a1 σ R) : AC Tryz.prog w0 n_spec_l13Spoil [a0, a1] σ R := by
  refine ac_rule (fn := Tryz.f91) (c := Tryz.f91.body.getD .skip) kp_spec_l13Spoil esc_spec_l13Spoil Tryz.func91 (by kernel_rfl) (by kernel_rfl) ?_
  rw [← vc_spec_l13Spoil_eq]
  exact h

/-- (*spec.l1Rd).of -/
def kp_p_spec_l1Rd_of : Nat → Keep
  | _ => ⟨[], [], [], .done, []⟩
def esc_p_spec_l1Rd_of : Nat → Bool
  | _ => false
def vc_p_spec_l1Rd_of (w0 : World) (a0 a1 : Value) (σ : Vw) (R : Value → Vw → Prop) : Prop :=
  N a1 fun v0 => AC P w0 n_p_spec_l1Rd_pick [a0, v0] σ fun v1 s2 => X 1 a1 v1 fun v3 => L w0 1 v3 s2 fun g4 => R (g4 0) s2
theorem vc_p_spec_l1Rd_of_eq (w0 : World) (a0 a1 : Value) (σ : Vw) (R : Value → Vw → Prop) : vc_p_spec_l1Rd_of w0 a0 a1 σ R = den Tryz.prog w0 kp_p_spec_l1Rd_of esc_p_spec_l1Rd_of (Tryz.f92.body.getD .skip) (entry Tryz.f92.ntmps [a0, a1]) σ (retK Tryz.prog Tryz.f92.results.toList R) := by kernel_rfl
theorem ac_p_spec_l1Rd_of {w0 : World} {a0 a1 : Value} {σ : Vw} {R : Value → Vw → Prop} (h : vc_p_spec_l1Rd_of w0 a0 a1 σ R) : AC Tryz.prog w0 n_p_spec_l1Rd_of [a0, a1] σ R := by
  refine ac_rule (fn := Tryz.f92) (c := Tryz.f92.body.getD .skip) kp_p_spec_l1Rd_of esc_p_spec_l1Rd_of Tryz.func92 (by kernel_rfl) (by kernel_rfl) ?_
  rw [← vc_p_spec_l1Rd_of_eq]
  exact h

/-- (impl.Tree).sound -/
def kp_impl_Tree_sound : Nat → Keep
  | 8 => ⟨[1, 4, 41, 42, 43], [(2, 5)], [2], .done, []⟩
  | _ => ⟨[], [], [], .done, []⟩
def esc_impl_Tree_sound : Nat → Bool
  | _ => false
def cs_impl_Tree_sound_1 (w0 : World) (l900 : List Value) (s901 : Vw) (K902 : AX → List Value → Vw → Prop) (R : Value → Vw → Prop) : Prop :=
  X 5 (G l900 9) (G l900 4) (fun v500 => L w0 5 v500 s901 fun g501 => B P 3 .add (G l900 0) (.int .i64 1) fun v502 => AC P w0 n_impl_Tree_sound ([.agg (⟨[g501 0, g501 1, g501 2, g501 3, g501 4]⟩), v502]) s901 fun v503 s504 => pUn .not v503 fun v505 => Q v505 (K902 .ret [G l900 0, .bool false, G l900 2, G l900 3, G l900 4, G l900 5, G l900 6, G l900 7, G l900 8, G l900 9] s504) (B P 3 .add (G l900 4) (.int .i64 1) fun v506 => K902 .normal [G l900 0, G l900 1, G l900 2, G l900 3, v506, G l900 5, G l900 6, G l900 7, G l900 8, G l900 9] s504))
def vc_impl_Tree_sound (w0 : World) (a0 a1 : Value) (σ : Vw) (R : Value → Vw → Prop) : Prop :=
  V true 5 a0 (AC P w0 n_impl_modeOk [C a0 1] σ fun v0 s1 => pUn .not v0 fun v2 => Q v2 (R (.bool false) s1) (B P 3 .gtr a1 (.int .i64 4) fun v3 => Q v3 (R (.bool false) s1) (N (C a0 3) fun v4 => N (C a0 4) fun v5 => B P 3 .neq v4 v5 fun v6 => Q v6 (R (.bool false) s1) (pUn .not (C a0 0) fun v7 => Q v7 (pLenS (C a0 2) fun v8 => B P 3 .leq v8 (.int .i64 24) fun v9 => Q v9 (N (C a0 3) fun v10 => B P 3 .eql v10 (.int .i64 0) fun v11 => R v11 s1) (R (.bool false) s1)) (B P 9 .neq (C a0 2) (.string ({ data := #[] })) fun v12 => Q v12 (R (.bool false) s1) (N (C a0 3) fun v13 => pLoop (fun l14 K15 s16 => B P 3 .lss (G l14 4) (G l14 3) fun v17 => Q v17 (X 1 (G l14 2) (G l14 4) fun v18 => L w0 1 v18 s16 fun g19 => AC P w0 n_impl_nameOk [g19 0] s16 fun v20 s21 => pUn .not v20 fun v22 => Q v22 (K15 .ret [G l14 0, .bool false, G l14 2, G l14 3, G l14 4, G l14 5, G l14 6, G l14 7, G l14 8, G l14 9] s21) (B P 3 .gtr (G l14 4) (.int .i64 0) fun v23 => Q v23 (B P 3 .sub (G l14 4) (.int .i64 1) fun v24 => X 1 (G l14 8) v24 fun v25 => L w0 1 v25 s21 fun g26 => B P 9 .geq (g26 0) (g19 0) fun v27 => Q v27 (K15 .ret [G l14 0, .bool false, G l14 2, G l14 3, G l14 4, G l14 5, G l14 6, G l14 7, G l14 8, G l14 9] s21) (cs_impl_Tree_sound_1 w0 l14 s21 K15 R)) (cs_impl_Tree_sound_1 w0 l14 s21 K15 R))) (K15 (.exit 0) [G l14 0, G l14 1, G l14 2, G l14 3, G l14 4, G l14 5, G l14 6, G l14 7, G l14 8, G l14 9] s16)) [a1, .bool false, C a0 3, v13, .int .i64 0, C a0 0, C a0 1, C a0 2, C a0 3, C a0 4] s1 fun x42 l43 s44 => match x42 with | .normal => R (.bool true) s44 | .ret => R (G l43 1) s44 | .exit i45 => (match Nat.beq i45 0 with | true => R (.bool true) s44 | false => False)))))))

theorem vc_impl_Tree_sound_eq (w0 : World) (a0 a1 : Value) (σ : Vw) (R : Value → Vw → Prop) : vc_impl_Tree_sound w0 a0 a1 σ R = den Tryz.prog w0 kp_impl_Tree_sound esc_impl_Tree_sound (Tryz.f93.body.getD .skip) (entry Tryz.f93.ntmps [a0, a1]) σ (retK Tryz.prog Tryz.f93.results.toList R) := by kernel_rfl
theorem ac_impl_Tree_sound {w0 : World} {a0 a1 : Value} {σ : Vw} {R : Value → Vw → Prop} (h : vc_impl_Tree_sound w0 a0 a1 σ R) : AC Tryz.prog w0 n_impl_Tree_sound [a0, a1] σ R := by
  refine ac_rule (fn := Tryz.f93) (c := Tryz.f93.body.getD .skip) kp_impl_Tree_sound esc_impl_Tree_sound Tryz.func93 (by kernel_rfl) (by kernel_rfl) ?_
  rw [← vc_impl_Tree_sound_eq]
  exact h

/-- (impl.Tree).paths -/
def kp_impl_Tree_paths : Nat → Keep
  | 3 => ⟨[3, 7, 8, 9], [], [], .done, []⟩
  | _ => ⟨[], [], [], .done, []⟩
def esc_impl_Tree_paths : Nat → Bool
  | _ => false
def vc_impl_Tree_paths (w0 : World) (a0 : Value) (σ : Vw) (R : Value → Vw → Prop) : Prop :=
  V true 5 a0 (N (C a0 4) fun v0 => pLoop (fun l1 K2 s3 => B P 3 .lss (G l1 3) (G l1 2) fun v4 => Q v4 (X 5 (G l1 1) (G l1 3) fun v5 => L w0 5 v5 s3 fun g6 => V true 5 (.agg (⟨[g6 0, g6 1, g6 2, g6 3, g6 4]⟩)) (AC P w0 n_impl_Tree_paths ([.agg (⟨[g6 0, g6 1, g6 2, g6 3, g6 4]⟩)]) s3 fun v7 s8 => B P 3 .add (G l1 0) v7 fun v9 => B P 3 .add (G l1 3) (.int .i64 1) fun v10 => K2 .normal [v9, G l1 1, G l1 2, v10] s8)) (K2 (.exit 0) [G l1 0, G l1 1, G l1 2, G l1 3] s3)) [.int .i64 1, C a0 4, v0, .int .i64 0] σ fun x11 l12 s13 => match x11 with | .normal => R (G l12 0) s13 | .ret => False | .exit i14 => (match Nat.beq i14 0 with | true => R (G l12 0) s13 | false => False))
theorem vc_impl_Tree_paths_eq (w0 : World) (a0 : Value) (σ : Vw) (R : Value → Vw → Prop) : vc_impl_Tree_paths w0 a0 σ R = den Tryz.prog w0 kp_impl_Tree_paths esc_impl_Tree_paths (Tryz.f94.body.getD .skip) (entry Tryz.f94.ntmps [a0]) σ (retK Tryz.prog Tryz.f94.results.toList R) := by kernel_rfl
theorem ac_impl_Tree_paths {w0 : World} {a0 : Value} {σ : Vw} {R : Value → Vw → Prop} (h : vc_impl_Tree_paths w0 a0 σ R) : AC Tryz.prog w0 n_impl_Tree_paths [a0] σ R := by
  refine ac_rule (fn := Tryz.f94) (c := Tryz.f94.body.getD .skip) kp_impl_Tree_paths esc_impl_Tree_paths Tryz.func94 (by kernel_rfl) (by kernel_rfl) ?_
  rw [← vc_impl_Tree_paths_eq]
  exact h

/-- impl.fresh -/
def kp_impl_fresh : Nat → Keep
  | _ => ⟨[], [], [], .done, []⟩
def esc_impl_fresh : Nat → Bool
  | 5 => true
  | 6 => true
  | _ => false
def vc_impl_fresh (w0 : World) (a0 a1 : Value) (σ : Vw) (R : Value → Vw → Prop) : Prop :=
  V true 5 a1 (W w0 80 [] σ fun n0 s1 => W w0 34 [.slice none 0 0] s1 fun n2 s3 => V false 1 (.slice (some (Addr.mk n0 0 none)) 0 0) (pStore (.pointer (some (Addr.mk n2 0 none))) [.slice (some (Addr.mk n0 0 none)) 0 0] s3 fun s4 => AC P w0 n_impl_Tree_each ([.agg (⟨[C a1 0, C a1 1, C a1 2, C a1 3, C a1 4]⟩), a0, .func (Fn.func 136) ⟨[]⟩ (⟨[.pointer (some (Addr.mk n2 0 none))]⟩)]) s4 fun v5 s6 => L w0 1 (.pointer (some (Addr.mk n2 0 none))) s6 fun g7 => R (g7 0) s6))
theorem vc_impl_fresh_eq (w0 : World) (a0 a1 : Value) (σ : Vw) (R : Value → Vw → Prop) : vc_impl_fresh w0 a0 a1 σ R = den Tryz.prog w0 kp_impl_fresh esc_impl_fresh (Tryz.f95.body.getD .skip) (entry Tryz.f95.ntmps [a0, a1]) σ (retK Tryz.prog Tryz.f95.results.toList R) := by kernel_rfl
theorem ac_impl_fresh {w0 : World} {a0 a1 : Value} {σ : Vw} {R : Value → Vw → Prop} (h : vc_impl_fresh w0 a0 a1 σ R) : AC Tryz.prog w0 n_impl_fresh [a0, a1] σ R := by
  refine ac_rule (fn := Tryz.f95) (c := Tryz.f95.body.getD .skip) kp_impl_fresh esc_impl_fresh Tryz.func95 (by kernel_rfl) (by kernel_rfl) ?_
  rw [← vc_impl_fresh_eq]
  exact h

/-- impl.gone -/
def kp_impl_gone : Nat → Keep
  | _ => ⟨[], [], [], .done, []⟩
def esc_impl_gone : Nat → Bool
  | 3 => true
  | _ => false
def vc_impl_gone (w0 : World) (a0 : Value) (σ : Vw) (R : Value → Vw → Prop) : Prop :=
  W w0 9 [] σ fun n0 s1 => pAppendS w0 9 1 16 (.slice (some (Addr.mk n0 0 none)) 0 0) a0 s1 fun v2 s3 => V false 1 v2 (V false 1 (.int .i64 1) (V true 5 (.agg (⟨[v2, .int .i64 1, .bool false, .int .i64 0, .string ({ data := #[] })]⟩)) (R (.agg (⟨[v2, .int .i64 1, .bool false, .int .i64 0, .string ({ data := #[] })]⟩)) s3)))
theorem vc_impl_gone_eq (w0 : World) (a0 : Value) (σ : Vw) (R : Value → Vw → Prop) : vc_impl_gone w0 a0 σ R = den Tryz.prog w0 kp_impl_gone esc_impl_gone (Tryz.f96.body.getD .skip) (entry Tryz.f96.ntmps [a0]) σ (retK Tryz.prog Tryz.f96.results.toList R) := by kernel_rfl
theorem ac_impl_gone {w0 : World} {a0 : Value} {σ : Vw} {R : Value → Vw → Prop} (h : vc_impl_gone w0 a0 σ R) : AC Tryz.prog w0 n_impl_gone [a0] σ R := by
  refine ac_rule (fn := Tryz.f96) (c := Tryz.f96.body.getD .skip) kp_impl_gone esc_impl_gone Tryz.func96 (by kernel_rfl) (by kernel_rfl) ?_
  rw [← vc_impl_gone_eq]
  exact h

/-- impl.marked -/
def kp_impl_marked : Nat → Keep
  | _ => ⟨[], [], [], .done, []⟩
def esc_impl_marked : Nat → Bool
  | 3 => true
  | _ => false
def vc_impl_marked (w0 : World) (a0 a1 : Value) (σ : Vw) (R : Value → Vw → Prop) : Prop :=
  V false 1 a1 (W w0 23 [a1] σ fun n0 s1 => L w0 1 (.pointer (some (Addr.mk n0 0 none))) s1 fun g2 => AC P w0 n_impl_under [a0, g2 0] s1 fun v3 s4 => Q v3 (R (.bool true) s4) (AC P w0 n_slices_ContainsFunc_impl_Mark_impl_Mark ([a0, .func (Fn.func 138) ⟨[]⟩ (⟨[.pointer (some (Addr.mk n0 0 none))]⟩)]) s4 fun v5 s6 => R v5 s6))
theorem vc_impl_marked_eq (w0 : World) (a0 a1 : Value) (σ : Vw) (R : Value → Vw → Prop) : vc_impl_marked w0 a0 a1 σ R = den Tryz.prog w0 kp_impl_marked esc_impl_marked (Tryz.f97.body.getD .skip) (entry Tryz.f97.ntmps [a0, a1]) σ (retK Tryz.prog Tryz.f97.results.toList R) := by kernel_rfl
theorem ac_impl_marked {w0 : World} {a0 a1 : Value} {σ : Vw} {R : Value → Vw → Prop} (h : vc_impl_marked w0 a0 a1 σ R) : AC Tryz.prog w0 n_impl_marked [a0, a1] σ R := by
  refine ac_rule (fn := Tryz.f97) (c := Tryz.f97.body.getD .skip) kp_impl_marked esc_impl_marked Tryz.func97 (by kernel_rfl) (by kernel_rfl) ?_
  rw [← vc_impl_marked_eq]
  exact h

/-- impl.changes -/
def kp_impl_changes : Nat → Keep
  | 3 => ⟨[], [], [], .step 0 (.step 2 (.step 4 (.step 5 (.step 1 (.step 3 (.step 6 (.step 7 (.step 8 (.step 9 (.done)))))))))), [(3, [1, 2]), (5, [4]), (6, [1, 2, 3, 4, 5]), (7, [1, 2, 3, 4, 5, 6]), (8, [0, 1, 2, 3, 4, 5, 6, 7]), (9, [0, 1, 2, 3, 4, 5, 6, 7, 8])]⟩
  | 5 => ⟨[], [], [], .step 0 (.step 2 (.step 4 (.step 5 (.step 1 (.step 3 (.step 6 (.step 7 (.step 8 (.step 9 (.done)))))))))), [(3, [1, 2]), (5, [4]), (6, [1, 2, 3, 4, 5]), (7, [1, 2, 3, 4, 5, 6]), (8, [0, 1, 2, 3, 4, 5, 6, 7]), (9, [0, 1, 2, 3, 4, 5, 6, 7, 8])]⟩
  | _ => ⟨[], [], [], .done, []⟩
def esc_impl_changes : Nat → Bool
  | 8 => true
  | 15 => true
  | 29 => true
  | _ => false
def vc_impl_changes (w0 : World) (a0 a1 a2 : Value) (σ : Vw) (R : Value → Vw → Prop) : Prop :=
  V true 5 a1 (V true 5 a2 (W w0 80 [] σ fun n0 s1 => B P 3 .neq (C a1 1) (C a2 1) fun v2 => Q v2 (W w0 9 [] s1 fun n3 s4 => pAppendS w0 9 1 16 (.slice (some (Addr.mk n3 0 none)) 0 0) a0 s4 fun v5 s6 => V false 1 v5 (V false 1 (.int .i64 3) (V false 1 (C a2 1) (V true 5 (.agg (⟨[v5, .int .i64 3, .bool false, C a2 1, .string ({ data := #[] })]⟩)) ((allOne ([v5, .int .i64 3, .bool false, C a2 1, .string ({ data := #[] })])) ∧ (A w0 80 5 64 (.slice (some (Addr.mk n0 0 none)) 0 0) 1 ([v5, .int .i64 3, .bool false, C a2 1, .string ({ data := #[] })]) s6 fun v7 s8 => B P 9 .neq (C a1 2) (C a2 2) fun v9 => Q v9 (W w0 9 [] s8 fun n10 s11 => pAppendS w0 9 1 16 (.slice (some (Addr.mk n10 0 none)) 0 0) a0 s11 fun v12 s13 => V false 1 v12 (V false 1 (.int .i64 4) (V false 1 (C a2 2) (V true 5 (.agg (⟨[v12, .int .i64 4, .bool false, .int .i64 0, C a2 2]⟩)) ((allOne [v12, .int .i64 4, .bool false, .int .i64 0, C a2 2]) ∧ (A w0 80 5 64 v7 1 [v12, .int .i64 4, .bool false, .int .i64 0, C a2 2] s13 fun v14 s15 => R v14 s15)))))) (R v7 s8))))))) (B P 9 .neq (C a1 2) (C a2 2) fun v16 => Q v16 (W w0 9 [] s1 fun n17 s18 => pAppendS w0 9 1 16 (.slice (some (Addr.mk n17 0 none)) 0 0) a0 s18 fun v19 s20 => V false 1 v19 (V false 1 (.int .i64 4) (V false 1 (C a2 2) (V true 5 (.agg (⟨[v19, .int .i64 4, .bool false, .int .i64 0, C a2 2]⟩)) ((allOne [v19, .int .i64 4, .bool false, .int .i64 0, C a2 2]) ∧ (A w0 80 5 64 (.slice (some (Addr.mk n0 0 none)) 0 0) 1 [v19, .int .i64 4, .bool false, .int .i64 0, C a2 2] s20 fun v21 s22 => R v21 s22)))))) (R (.slice (some (Addr.mk n0 0 none)) 0 0) s1))))
theorem vc_impl_changes_eq (w0 : World) (a0 a1 a2 : Value) (σ : Vw) (R : Value → Vw → Prop) : vc_impl_changes w0 a0 a1 a2 σ R = den Tryz.prog w0 kp_impl_changes esc_impl_changes (Tryz.f98.body.getD .skip) (entry Tryz.f98.ntmps [a0, a1, a2]) σ (retK Tryz.prog Tryz.f98.results.toList R) := by kernel_rfl
theorem ac_impl_changes {w0 : World} {a0 a1 a2 : Value} {σ : Vw} {R : Value → Vw → Prop} (h : vc_impl_changes w0 a0 a1 a2 σ R) : AC Tryz.prog w0 n_impl_changes [a0, a1, a2] σ R := by
  refine ac_rule (fn := Tryz.f98) (c := Tryz.f98.body.getD .skip) kp_impl_changes esc_impl_changes Tryz.func98 (by kernel_rfl) (by kernel_rfl) ?_
  rw [← vc_impl_changes_eq]
  exact h

/-- impl.either -/
def kp_impl_either : Nat → Keep
  | 1 => ⟨[], [], [], .step 1 (.step 2 (.step 3 (.step 4 (.step 6 (.step 7 (.step 8 (.step 9 (.step 0 (.step 5 (.step 10 (.step 11 (.done)))))))))))), [(2, [1]), (3, [1, 2]), (4, [1, 2, 3]), (5, [0, 1, 2, 3, 4]), (7, [6]), (8, [6, 7]), (9, [6, 7, 8]), (10, [0, 1, 2, 3, 4, 5, 6, 7, 8, 9]), (11, [0, 1, 2, 3, 4, 5, 6, 7, 8, 9, 10])]⟩
  | _ => ⟨[], [], [], .done, []⟩
def esc_impl_either : Nat → Bool
  | 6 => true
  | _ => false
def vc_impl_either (w0 : World) (a0 a1 : Value) (σ : Vw) (R : Value → Vw → Prop) : Prop :=
  pNil a0 (F 3 a0 fun v0 => L w0 1 v0 σ fun g1 => pNil a1 (F 3 a1 fun v2 => L w0 1 v2 σ fun g3 => W w0 9 [] σ fun n4 s5 => (Stay w0 σ s5 v2 1) ∧ ((Stay w0 σ s5 v0 1) ∧ (pAppendS w0 9 1 16 (.slice (some (Addr.mk n4 0 none)) 0 0) (g1 0) s5 fun v6 s7 => (Stay w0 s5 s7 v2 1) ∧ (pAppendS w0 9 1 16 v6 (g3 0) s7 fun v8 s9 => AC P w0 n_slices_Sort_string_string [v8] s9 fun v10 s11 => AC P w0 n_slices_Compact_string_string [v8] s11 fun v12 s13 => R v12 s13)))))
theorem vc_impl_either_eq (w0 : World) (a0 a1 : Value) (σ : Vw) (R : Value → Vw → Prop) : vc_impl_either w0 a0 a1 σ R = den Tryz.prog w0 kp_impl_either esc_impl_either (Tryz.f99.body.getD .skip) (entry Tryz.f99.ntmps [a0, a1]) σ (retK Tryz.prog Tryz.f99.results.toList R) := by kernel_rfl
theorem ac_impl_either {w0 : World} {a0 a1 : Value} {σ : Vw} {R : Value → Vw → Prop} (h : vc_impl_either w0 a0 a1 σ R) : AC Tryz.prog w0 n_impl_either [a0, a1] σ R := by
  refine ac_rule (fn := Tryz.f99) (c := Tryz.f99.body.getD .skip) kp_impl_either esc_impl_either Tryz.func99 (by kernel_rfl) (by kernel_rfl) ?_
  rw [← vc_impl_either_eq]
  exact h

/-- impl.below -/
def kp_impl_below : Nat → Keep
  | _ => ⟨[], [], [], .done, []⟩
def esc_impl_below : Nat → Bool
  | 5 => true
  | _ => false
def vc_impl_below (w0 : World) (a0 a1 : Value) (σ : Vw) (R : Value → Vw → Prop) : Prop :=
  W w0 9 [] σ fun n0 s1 => pAppendS w0 9 1 16 (.slice (some (Addr.mk n0 0 none)) 0 0) a0 s1 fun v2 s3 => V false 1 a1 ((allOne [a1]) ∧ (A w0 9 1 16 v2 1 [a1] s3 fun v4 s5 => R v4 s5))
theorem vc_impl_below_eq (w0 : World) (a0 a1 : Value) (σ : Vw) (R : Value → Vw → Prop) : vc_impl_below w0 a0 a1 σ R = den Tryz.prog w0 kp_impl_below esc_impl_below (Tryz.f100.body.getD .skip) (entry Tryz.f100.ntmps [a0, a1]) σ (retK Tryz.prog Tryz.f100.results.toList R) := by kernel_rfl
theorem ac_impl_below {w0 : World} {a0 a1 : Value} {σ : Vw} {R : Value → Vw → Prop} (h : vc_impl_below w0 a0 a1 σ R) : AC Tryz.prog w0 n_impl_below [a0, a1] σ R := by
  refine ac_rule (fn := Tryz.f100) (c := Tryz.f100.body.getD .skip) kp_impl_below esc_impl_below Tryz.func100 (by kernel_rfl) (by kernel_rfl) ?_
  rw [← vc_impl_below_eq]
  exact h

/-- impl.leads -/
def kp_impl_leads : Nat → Keep
  | 2 => ⟨[1, 4, 7, 8, 9], [], [], .done, []⟩
  | _ => ⟨[], [], [], .done, []⟩
def esc_impl_leads : Nat → Bool
  | _ => false
def vc_impl_leads (w0 : World) (a0 a1 : Value) (σ : Vw) (R : Value → Vw → Prop) : Prop :=
  N a0 fun v0 => pLoop (fun l1 K2 s3 => B P 3 .lss (G l1 4) (G l1 3) fun v4 => Q v4 (X 2 (G l1 2) (G l1 4) fun v5 => L w0 2 v5 s3 fun g6 => V true 2 (.agg (⟨[g6 0, g6 1]⟩)) (AC P w0 n_impl_begins [g6 0, G l1 0] s3 fun v7 s8 => Q v7 (K2 .ret [G l1 0, .bool true, G l1 2, G l1 3, G l1 4] s8) (B P 3 .add (G l1 4) (.int .i64 1) fun v9 => K2 .normal [G l1 0, G l1 1, G l1 2, G l1 3, v9] s8))) (K2 (.exit 0) [G l1 0, G l1 1, G l1 2, G l1 3, G l1 4] s3)) [a1, .bool false, a0, v0, .int .i64 0] σ fun x10 l11 s12 => match x10 with | .normal => R (.bool false) s12 | .ret => R (G l11 1) s12 | .exit i13 => (match Nat.beq i13 0 with | true => R (.bool false) s12 | false => False)
theorem vc_impl_leads_eq (w0 : World) (a0 a1 : Value) (σ : Vw) (R : Value → Vw → Prop) : vc_impl_leads w0 a0 a1 σ R = den Tryz.prog w0 kp_impl_leads esc_impl_leads (Tryz.f101.body.getD .skip) (entry Tryz.f101.ntmps [a0, a1]) σ (retK Tryz.prog Tryz.f101.results.toList R) := by kernel_rfl
theorem ac_impl_leads {w0 : World} {a0 a1 : Value} {σ : Vw} {R : Value → Vw → Prop} (h : vc_impl_leads w0 a0 a1 σ R) : AC Tryz.prog w0 n_impl_leads [a0, a1] σ R := by
  refine ac_rule (fn := Tryz.f101) (c := Tryz.f101.body.getD .skip) kp_impl_leads esc_impl_leads Tryz.func101 (by kernel_rfl) (by kernel_rfl) ?_
  rw [← vc_impl_leads_eq]
  exact h

/-- (*impl.Tree).kid -/
def kp_p_impl_Tree_kid : Nat → Keep
  | _ => ⟨[], [], [], .done, []⟩
def esc_p_impl_Tree_kid : Nat → Bool
  | _ => false
def vc_p_impl_Tree_kid (w0 : World) (a0 a1 : Value) (σ : Vw) (R : Value → Vw → Prop) : Prop :=
  pNil a0 (F 3 a0 fun v0 => L w0 1 v0 σ fun g1 => AC P w0 n_slices_Index_string_string [g1 0, a1] σ fun v2 s3 => B P 3 .lss v2 (.int .i64 0) fun v4 => Q v4 (R (.pointer none) s3) (pNil a0 (F 4 a0 fun v5 => L w0 1 v5 s3 fun g6 => N (g6 0) fun v7 => B P 3 .geq v2 v7 fun v8 => Q v8 (R (.pointer none) s3) (pNil a0 (F 4 a0 fun v9 => L w0 1 v9 s3 fun g10 => X 5 (g10 0) v2 fun v11 => R v11 s3)))))
theorem vc_p_impl_Tree_kid_eq (w0 : World) (a0 a1 : Value) (σ : Vw) (R : Value → Vw → Prop) : vc_p_impl_Tree_kid w0 a0 a1 σ R = den Tryz.prog w0 kp_p_impl_Tree_kid esc_p_impl_Tree_kid (Tryz.f102.body.getD .skip) (entry Tryz.f102.ntmps [a0, a1]) σ (retK Tryz.prog Tryz.f102.results.toList R) := by kernel_rfl
theorem ac_p_impl_Tree_kid {w0 : World} {a0 a1 : Value} {σ : Vw} {R : Value → Vw → Prop} (h : vc_p_impl_Tree_kid w0 a0 a1 σ R) : AC Tryz.prog w0 n_p_impl_Tree_kid [a0, a1] σ R := by
  refine ac_rule (fn := Tryz.f102) (c := Tryz.f102.body.getD .skip) kp_p_impl_Tree_kid esc_p_impl_Tree_kid Tryz.func102 (by kernel_rfl) (by kernel_rfl) ?_
  rw [← vc_p_impl_Tree_kid_eq]
  exact h

/-- spec.l1Parts -/
def kp_spec_l1Parts : Nat → Keep
  | 4 => ⟨[1, 4, 5], [(2, 5)], [2], .done, []⟩
  | _ => ⟨[], [], [], .done, []⟩
def esc_spec_l1Parts : Nat → Bool
  | _ => false
def vc_spec_l1Parts (w0 : World) (a0 a1 : Value) (σ : Vw) (R : Value → Vw → Prop) : Prop :=
  V true 5 a0 (AC P w0 n_spec_l1Plain ([.agg (⟨[C a0 0, C a0 1, C a0 2, C a0 3, C a0 4]⟩)]) σ fun v0 s1 => pUn .not v0 fun v2 => Q v2 (R (.bool false) s1) (B P 3 .gtr a1 (.int .i64 4) fun v3 => Q v3 (R (.bool false) s1) (pLoop (fun l4 K5 s6 => N (G l4 7) fun v7 => B P 3 .lss (G l4 2) v7 fun v8 => Q v8 (X 5 (G l4 7) (G l4 2) fun v9 => L w0 5 v9 s6 fun g10 => B P 3 .add (G l4 0) (.int .i64 1) fun v11 => AC P w0 n_spec_l1Parts ([.agg (⟨[g10 0, g10 1, g10 2, g10 3, g10 4]⟩), v11]) s6 fun v12 s13 => pUn .not v12 fun v14 => Q v14 (K5 .ret [G l4 0, .bool false, G l4 2, G l4 3, G l4 4, G l4 5, G l4 6, G l4 7] s13) (B P 3 .add (G l4 2) (.int .i64 1) fun v15 => K5 .normal [G l4 0, G l4 1, v15, G l4 3, G l4 4, G l4 5, G l4 6, G l4 7] s13)) (K5 (.exit 0) [G l4 0, G l4 1, G l4 2, G l4 3, G l4 4, G l4 5, G l4 6, G l4 7] s6)) [a1, .bool false, .int .i64 0, C a0 0, C a0 1, C a0 2, C a0 3, C a0 4] s1 fun x16 l17 s18 => match x16 with | .normal => R (.bool true) s18 | .ret => R (G l17 1) s18 | .exit i19 => (match Nat.beq i19 0 with | true => R (.bool true) s18 | false => False))))
theorem vc_spec_l1Parts_eq (w0 : World) (a0 a1 : Value) (σ : Vw) (R : Value → Vw → Prop) : vc_spec_l1Parts w0 a0 a1 σ R = den Tryz.prog w0 kp_spec_l1Parts esc_spec_l1Parts (Tryz.f103.body.getD .skip) (entry Tryz.f103.ntmps [a0, a1]) σ (retK Tryz.prog Tryz.f103.results.toList R) := by kernel_rfl
theorem ac_spec_l1Parts {w0 : World} {a0 a1 : Value} {σ : Vw} {R : Value → Vw → Prop} (h : vc_spec_l1Parts w0 a0 a1 σ R) : AC Tryz.prog w0 n_spec_l1Parts [a0, a1] σ R := by
  refine ac_rule (fn := Tryz.f103) (c := Tryz.f103.body.getD .skip) kp_spec_l1Parts esc_spec_l1Parts Tryz.func103 (by kernel_rfl) (by kernel_rfl) ?_
  rw [← vc_spec_l1Parts_eq]
  exact h

/-- spec.l1Count -/
def kp_spec_l1Count : Nat → Keep
  | 3 => ⟨[3, 4], [(1, 5)], [1], .done, []⟩
  | _ => ⟨[], [], [], .done, []⟩
def esc_spec_l1Count : Nat → Bool
  | _ => false
def vc_spec_l1Count (w0 : World) (a0 : Value) (σ : Vw) (R : Value → Vw → Prop) : Prop :=
  V true 5 a0 (N (C a0 4) fun v0 => pLoop (fun l1 K2 s3 => N (G l1 6) fun v4 => B P 3 .lss (G l1 1) v4 fun v5 => Q v5 (X 5 (G l1 6) (G l1 1) fun v6 => L w0 5 v6 s3 fun g7 => AC P w0 n_spec_l1Count ([.agg (⟨[g7 0, g7 1, g7 2, g7 3, g7 4]⟩)]) s3 fun v8 s9 => B P 3 .add (G l1 0) v8 fun v10 => B P 3 .add (G l1 1) (.int .i64 1) fun v11 => K2 .normal [v10, v11, G l1 2, G l1 3, G l1 4, G l1 5, G l1 6] s9) (K2 (.exit 0) [G l1 0, G l1 1, G l1 2, G l1 3, G l1 4, G l1 5, G l1 6] s3)) [v0, .int .i64 0, C a0 0, C a0 1, C a0 2, C a0 3, C a0 4] σ fun x12 l13 s14 => match x12 with | .normal => R (G l13 0) s14 | .ret => False | .exit i15 => (match Nat.beq i15 0 with | true => R (G l13 0) s14 | false => False))
theorem vc_spec_l1Count_eq (w0 : World) (a0 : Value) (σ : Vw) (R : Value → Vw → Prop) : vc_spec_l1Count w0 a0 σ R = den Tryz.prog w0 kp_spec_l1Count esc_spec_l1Count (Tryz.f104.body.getD .skip) (entry Tryz.f104.ntmps [a0]) σ (retK Tryz.prog Tryz.f104.results.toList R) := by kernel_rfl
theorem ac_spec_l1Count {w0 : World} {a0 : Value} {σ : Vw} {R : Value → Vw → Prop} (h : vc_spec_l1Count w0 a0 σ R) : AC Tryz.prog w0 n_spec_l1Count [a0] σ R := by
  refine ac_rule (fn := Tryz.f104) (c := Tryz.f104.body.getD .skip) kp_spec_l1Count esc_spec_l1Count Tryz.func104 (by kernel_rfl) (by kernel_rfl) ?_
  rw [← vc_spec_l1Count_eq]
  exact h

/-- spec.l3New -/
def kp_spec_l3New : Nat → Keep
  | 1 => ⟨[], [], [], .step 1 (.step 3 (.step 4 (.step 5 (.step 6 (.step 7 (.step 8 (.step 0 (.step 2 (.step 9 (.step 10 (.step 11 (.done)))))))))))), [(2, [0, 1]), (4, [3]), (6, [5]), (8, [7]), (9, [0, 1, 2, 3, 4, 5, 6, 7, 8]), (10, [0, 1, 2, 3, 4, 5, 6, 7, 8, 9]), (11, [0, 1, 2, 3, 4, 5, 6, 7, 8, 9, 10])]⟩
  | 3 => ⟨[0, 5, 6], [(3, 5)], [3], .done, []⟩
  | 5 => ⟨[], [], [], .step 0 (.step 1 (.step 2 (.step 3 (.step 4 (.step 5 (.step 6 (.step 8 (.step 9 (.step 10 (.step 11 (.step 12 (.step 7 (.step 13 (.step 14 (.step 15 (.done)))))))))))))))), [(3, [2]), (5, [2, 3, 4]), (6, [2, 3, 4, 5]), (7, [1, 2, 3, 4, 5, 6]), (9, [8]), (11, [8, 9, 10]), (12, [8, 9, 10, 11]), (13, [1, 2, 3, 4, 5, 6, 7, 8, 9, 10, 11, 12]), (14, [0, 1, 2, 3, 4, 5, 6, 7, 8, 9, 10, 11, 12, 13]), (15, [0, 1, 2, 3, 4, 5, 6, 7, 8, 9, 10, 11, 12, 13, 14])]⟩
  | _ => ⟨[], [], [], .done, []⟩
def esc_spec_l3New : Nat → Bool
  | 7 => true
  | 17 => true
  | _ => false
def vc_spec_l3New (w0 : World) (a0 a1 : Value) (σ : Vw) (R : Value → Vw → Prop) : Prop :=
  V true 5 a1 (W w0 9 [] σ fun n0 s1 => pAppendS w0 9 1 16 (.slice (some (Addr.mk n0 0 none)) 0 0) a0 s1 fun v2 s3 => V false 1 v2 (V false 1 (.int .i64 2) (V false 1 (C a1 0) (V false 1 (C a1 1) (V false 1 (C a1 2) (V true 5 (.agg (⟨[v2, .int .i64 2, C a1 0, C a1 1, C a1 2]⟩)) (W w0 80 [v2, .int .i64 2, C a1 0, C a1 1, C a1 2] s3 fun n4 s5 => pLoop (fun l6 K7 s8 => N (G l6 6) fun v9 => B P 3 .lss (G l6 2) v9 fun v10 => Q v10 (X 1 (G l6 6) (G l6 2) fun v11 => L w0 1 v11 s8 fun g12 => X 5 (G l6 7) (G l6 2) fun v13 => L w0 5 v13 s8 fun g14 => AC P w0 n_spec_l3Path [G l6 0, g12 0] s8 fun v15 s16 => (Stay w0 s8 s16 v13 5) ∧ (AC P w0 n_spec_l3New ([v15, .agg (⟨[g14 0, g14 1, g14 2, g14 3, g14 4]⟩)]) s16 fun v17 s18 => pAppendS w0 80 5 64 (G l6 1) v17 s18 fun v19 s20 => B P 3 .add (G l6 2) (.int .i64 1) fun v21 => K7 .normal [G l6 0, v19, v21, G l6 3, G l6 4, G l6 5, G l6 6, G l6 7] s20)) (K7 (.exit 0) [G l6 0, G l6 1, G l6 2, G l6 3, G l6 4, G l6 5, G l6 6, G l6 7] s8)) [a0, .slice (some (Addr.mk n4 0 none)) 1 1, .int .i64 0, C a1 0, C a1 1, C a1 2, C a1 3, C a1 4] s5 fun x22 l23 s24 => match x22 with | .normal => R (G l23 1) s24 | .ret => False | .exit i25 => (match Nat.beq i25 0 with | true => R (G l23 1) s24 | false => False))))))))
theorem vc_spec_l3New_eq (w0 : World) (a0 a1 : Value) (σ : Vw) (R : Value → Vw → Prop) : vc_spec_l3New w0 a0 a1 σ R = den Tryz.prog w0 kp_spec_l3New esc_spec_l3New (Tryz.f105.body.getD .skip) (entry Tryz.f105.ntmps [a0, a1]) σ (retK Tryz.prog Tryz.f105.results.toList R) := by kernel_rfl
theorem ac_spec_l3New {w0 : World} {a0 a1 : Value} {σ : Vw} {R : Value → Vw → Prop} (h : vc_spec_l3New w0 a0 a1 σ R) : AC Tryz.prog w0 n_spec_l3New [a0, a1] σ R := by
  refine ac_rule (fn := Tryz.f105) (c := Tryz.f105.body.getD .skip) kp_spec_l3New esc_spec_l3New Tryz.func105 (by kernel_rfl) (by kernel_rfl) ?_
  rw [← vc_spec_l3New_eq]
  exact h

/-- spec.l3Gone -/
def kp_spec_l3Gone : Nat → Keep
  | _ => ⟨[], [], [], .done, []⟩
def esc_spec_l3Gone : Nat → Bool
  | 3 => true
  | 7 => true
  | _ => false
def vc_spec_l3Gone (w0 : World) (a0 : Value) (σ : Vw) (R : Value → Vw → Prop) : Prop :=
  W w0 9 [] σ fun n0 s1 => pAppendS w0 9 1 16 (.slice (some (Addr.mk n0 0 none)) 0 0) a0 s1 fun v2 s3 => V false 1 v2 (V false 1 (.int .i64 1) (V true 5 (.agg (⟨[v2, .int .i64 1, .bool false, .int .i64 0, .string ({ data := #[] })]⟩)) (W w0 80 ([v2, .int .i64 1, .bool false, .int .i64 0, .string ({ data := #[] })]) s3 fun n4 s5 => R (.slice (some (Addr.mk n4 0 none)) 1 1) s5)))
theorem vc_spec_l3Gone_eq (w0 : World) (a0 : Value) (σ : Vw) (R : Value → Vw → Prop) : vc_spec_l3Gone w0 a0 σ R = den Tryz.prog w0 kp_spec_l3Gone esc_spec_l3Gone (Tryz.f106.body.getD .skip) (entry Tryz.f106.ntmps [a0]) σ (retK Tryz.prog Tryz.f106.results.toList R) := by kernel_rfl
theorem ac_spec_l3Gone {w0 : World} {a0 : Value} {σ : Vw} {R : Value → Vw → Prop} (h : vc_spec_l3Gone w0 a0 σ R) : AC Tryz.prog w0 n_spec_l3Gone [a0] σ R := by
  refine ac_rule (fn := Tryz.f106) (c := Tryz.f106.body.getD .skip) kp_spec_l3Gone esc_spec_l3Gone Tryz.func106 (by kernel_rfl) (by kernel_rfl) ?_
  rw [← vc_spec_l3Gone_eq]
  exact h

/-- spec.l11Under -/
def kp_spec_l11Under : Nat → Keep
  | 2 => ⟨[0, 1, 4, 5], [], [], .done, []⟩
  | _ => ⟨[], [], [], .done, []⟩
def esc_spec_l11Under : Nat → Bool
  | _ => false
def vc_spec_l11Under (w0 : World) (a0 a1 : Value) (σ : Vw) (R : Value → Vw → Prop) : Prop :=
  pLoop (fun l0 K1 s2 => N (G l0 0) fun v3 => B P 3 .lss (G l0 3) v3 fun v4 => Q v4 (X 2 (G l0 0) (G l0 3) fun v5 => F 1 v5 fun v6 => L w0 1 v6 s2 fun g7 => Q (g7 0) (X 2 (G l0 0) (G l0 3) fun v8 => F 0 v8 fun v9 => L w0 1 v9 s2 fun g10 => AC P w0 n_spec_l2Within [G l0 1, g10 0] s2 fun v11 s12 => Q v11 (K1 .ret [G l0 0, G l0 1, .bool true, G l0 3] s12) (B P 3 .add (G l0 3) (.int .i64 1) fun v13 => K1 .normal [G l0 0, G l0 1, G l0 2, v13] s12)) (B P 3 .add (G l0 3) (.int .i64 1) fun v14 => K1 .normal [G l0 0, G l0 1, G l0 2, v14] s2)) (K1 (.exit 0) [G l0 0, G l0 1, G l0 2, G l0 3] s2)) [a0, a1, .bool false, .int .i64 0] σ fun x15 l16 s17 => match x15 with | .normal => R (.bool false) s17 | .ret => R (G l16 2) s17 | .exit i18 => (match Nat.beq i18 0 with | true => R (.bool false) s17 | false => False)
theorem vc_spec_l11Under_eq (w0 : World) (a0 a1 : Value) (σ : Vw) (R : Value → Vw → Prop) : vc_spec_l11Under w0 a0 a1 σ R = den Tryz.prog w0 kp_spec_l11Under esc_spec_l11Under (Tryz.f107.body.getD .skip) (entry Tryz.f107.ntmps [a0, a1]) σ (retK Tryz.prog Tryz.f107.results.toList R) := by kernel_rfl
theorem ac_spec_l11Under {w0 : World} {a0 a1 : Value} {σ : Vw} {R : Value → Vw → Prop} (h : vc_spec_l11Under w0 a0 a1 σ R) : AC Tryz.prog w0 n_spec_l11Under [a0, a1] σ R := by
  refine ac_rule (fn := Tryz.f107) (c := Tryz.f107.body.getD .skip) kp_spec_l11Under esc_spec_l11Under Tryz.func107 (by kernel_rfl) (by kernel_rfl) ?_
  rw [← vc_spec_l11Under_eq]
  exact h

/-- spec.l3Walk -/
def kp_spec_l3Walk : Nat → Keep
  | 2 => ⟨[], [], [], .step 0 (.step 2 (.step 3 (.step 1 (.step 4 (.step 5 (.step 6 (.done))))))), [(1, [0]), (4, [0, 1, 2, 3]), (5, [0, 1, 2, 3, 4]), (6, [0, 1, 2, 3, 4, 5])]⟩
  | 6 => ⟨[0, 7, 8, 9], [(4, 5), (5, 5)], [4, 5], .done, []⟩
  | 7 => ⟨[], [], [], .step 0 (.step 1 (.step 2 (.step 3 (.step 4 (.step 5 (.step 6 (.step 8 (.step 9 (.step 10 (.step 11 (.step 12 (.step 13 (.step 14 (.step 15 (.step 16 (.step 17 (.step 7 (.step 18 (.step 19 (.step 20 (.done))))))))))))))))))))), [(3, [2]), (5, [2, 3, 4]), (6, [2, 3, 4, 5]), (7, [1, 2, 3, 4, 5, 6]), (9, [8]), (11, [8, 9, 10]), (12, [8, 9, 10, 11]), (14, [13]), (16, [13, 14, 15]), (17, [13, 14, 15, 16]), (18, [1, 2, 3, 4, 5, 6, 7, 8, 9, 10, 11, 12, 13, 14, 15, 16, 17]), (19, [0, 1, 2, 3, 4, 5, 6, 7, 8, 9, 10, 11, 12, 13, 14, 15, 16, 17, 18]), (20, [0, 1, 2, 3, 4, 5, 6, 7, 8, 9, 10, 11, 12, 13, 14, 15, 16, 17, 18, 19])]⟩
  | 10 => ⟨[], [], [], .step 0 (.step 1 (.step 2 (.step 3 (.step 4 (.step 5 (.step 6 (.step 7 (.step 8 (.step 9 (.step 10 (.step 11 (.step 12 (.step 13 (.step 14 (.step 15 (.step 16 (.step 17 (.step 18 (.step 19 (.step 20 (.step 21 (.step 22 (.step 23 (.step 24 (.step 25 (.done)))))))))))))))))))))))))), [(2, [1]), (3, [1, 2]), (4, [0, 1, 2, 3]), (5, [0, 1, 2, 3, 4]), (6, [0, 1, 2, 3, 4, 5]), (7, [0, 1, 2, 3, 4, 5]), (8, [0, 1, 2, 3, 4, 5, 7]), (9, [0, 1, 2, 3, 4, 5, 7, 8]), (10, [0, 1, 2, 3, 4, 5, 6, 7, 8, 9]), (11, [0, 1, 2, 3, 4, 5, 6, 7, 8, 9, 10]), (12, [0, 1, 2, 3, 4, 5, 6, 7, 8, 9, 10, 11]), (13, [0, 1, 2, 3, 4, 5, 6, 7, 8, 9, 10, 11, 12]), (14, [0, 1, 2, 3, 4, 5, 6, 7, 8, 9, 10, 11]), (15, [0, 1, 2, 3, 4, 5, 6, 7, 8, 9, 10, 11, 12, 13, 14]), (16, [0, 1, 2, 3, 4, 5, 6, 7, 8, 9, 10, 11, 12, 13, 14, 15]), (17, [0, 1, 2, 3, 4, 5, 6, 7, 8, 9, 10, 11]), (18, [0, 1, 2, 3, 4, 5, 6, 7, 8, 9, 10, 11, 17]), (19, [0, 1, 2, 3, 4, 5, 6, 7, 8, 9, 10, 11]), (20, [0, 1, 2, 3, 4, 5, 6, 7, 8, 9, 10, 11, 17, 18, 19]), (21, [0, 1, 2, 3, 4, 5, 6, 7, 8, 9, 10, 11, 17, 18, 19, 20]), (22, [0, 1, 2, 3, 4, 5, 6, 7, 8, 9, 10, 11, 12, 13, 14, 15, 16, 17, 18, 19, 20, 21]), (23, [0, 1, 2, 3, 4, 5, 6, 7, 8, 9, 10, 11, 12, 13, 14, 15, 16, 17, 18, 19, 20, 21, 22]), (24, [0, 1, 2, 3, 4, 5, 6, 7, 8, 9, 10, 11, 12, 13, 14, 15, 16, 17, 18, 19, 20, 21, 22, 23]), (25, [0, 1, 2, 3, 4, 5, 6, 7, 8, 9, 10, 11, 12, 13, 14, 15, 16, 17, 18, 19, 20, 21, 22, 23, 24])]⟩
  | 13 => ⟨[], [], [], .step 0 (.step 1 (.step 2 (.step 3 (.step 4 (.step 5 (.step 6 (.step 7 (.step 8 (.step 9 (.step 10 (.step 11 (.step 12 (.step 13 (.step 14 (.step 15 (.step 16 (.step 17 (.step 18 (.done))))))))))))))))))), [(2, [1]), (3, [1, 2]), (4, [0, 1, 2, 3]), (5, [0, 1, 2, 3, 4]), (6, [0, 1, 2, 3, 4, 5]), (7, [0, 1, 2, 3, 4, 5, 6]), (8, [0, 1, 2, 3, 4, 5]), (9, [0, 1, 2, 3, 4, 5, 6, 7, 8]), (10, [0, 1, 2, 3, 4, 5, 6, 7, 8, 9]), (11, [0, 1, 2, 3, 4, 5]), (12, [0, 1, 2, 3, 4, 5, 11]), (13, [0, 1, 2, 3, 4, 5]), (14, [0, 1, 2, 3, 4, 5, 11, 12, 13]), (15, [0, 1, 2, 3, 4, 5, 11, 12, 13, 14]), (16, [0, 1, 2, 3, 4, 5, 6, 7, 8, 9, 10, 11, 12, 13, 14, 15]), (17, [0, 1, 2, 3, 4, 5, 6, 7, 8, 9, 10, 11, 12, 13, 14, 15, 16]), (18, [0, 1, 2, 3, 4, 5, 6, 7, 8, 9, 10, 11, 12, 13, 14, 15, 16, 17])]⟩
  | 14 => ⟨[], [], [], .step 0 (.step 1 (.step 2 (.step 3 (.step 4 (.step 5 (.step 6 (.step 8 (.step 9 (.step 10 (.step 11 (.step 12 (.step 7 (.step 13 (.step 14 (.step 15 (.done)))))))))))))))), [(3, [2]), (5, [2, 3, 4]), (6, [2, 3, 4, 5]), (7, [1, 2, 3, 4, 5, 6]), (9, [8]), (11, [8, 9, 10]), (12, [8, 9, 10, 11]), (13, [1, 2, 3, 4, 5, 6, 7, 8, 9, 10, 11, 12]), (14, [0, 1, 2, 3, 4, 5, 6, 7, 8, 9, 10, 11, 12, 13]), (15, [0, 1, 2, 3, 4, 5, 6, 7, 8, 9, 10, 11, 12, 13, 14])]⟩
  | _ => ⟨[], [], [], .done, []⟩
def esc_spec_l3Walk : Nat → Bool
  | _ => false
def cs_spec_l3Walk_3 (w0 : World) (l900 : List Value) (s901 : Vw) (K902 : AX → List Value → Vw → Prop) (R : Value → Vw → Prop) : Prop :=
  X 1 (G l900 12) (G l900 3) (fun v500 => L w0 1 v500 s901 fun g501 => X 5 (G l900 13) (G l900 3) fun v502 => L w0 5 v502 s901 fun g503 => AC P w0 n_spec_l3Path [G l900 0, g501 0] s901 fun v504 s505 => (Stay w0 s901 s505 v502 5) ∧ (AC P w0 n_spec_l3New ([v504, .agg (⟨[g503 0, g503 1, g503 2, g503 3, g503 4]⟩)]) s505 fun v506 s507 => pAppendS w0 80 5 64 (G l900 1) v506 s507 fun v508 s509 => B P 3 .add (G l900 3) (.int .i64 1) fun v510 => K902 .normal [G l900 0, v508, G l900 2, v510, G l900 4, G l900 5, G l900 6, G l900 7, G l900 8, G l900 9, G l900 10, G l900 11, G l900 12, G l900 13] s509))
def cs_spec_l3Walk_1 (w0 : World) (l900 : List Value) (s901 : Vw) (K902 : AX → List Value → Vw → Prop) (R : Value → Vw → Prop) : Prop :=
  N (G l900 7) (fun v500 => B P 3 .geq (G l900 2) v500 fun v501 => Q v501 (cs_spec_l3Walk_3 w0 l900 s901 K902 R) (X 1 (G l900 12) (G l900 3) fun v513 => L w0 1 v513 s901 fun g514 => X 1 (G l900 7) (G l900 2) fun v515 => L w0 1 v515 s901 fun g516 => B P 9 .lss (g514 0) (g516 0) fun v517 => Q v517 (cs_spec_l3Walk_3 w0 l900 s901 K902 R) (X 1 (G l900 7) (G l900 2) fun v529 => L w0 1 v529 s901 fun g530 => X 5 (G l900 8) (G l900 2) fun v531 => L w0 5 v531 s901 fun g532 => X 5 (G l900 13) (G l900 3) fun v533 => L w0 5 v533 s901 fun g534 => AC P w0 n_spec_l3Path [G l900 0, g530 0] s901 fun v535 s536 => (Stay w0 s901 s536 v533 5) ∧ ((Stay w0 s901 s536 v531 5) ∧ (AC P w0 n_spec_l3Walk ([v535, .agg (⟨[g532 0, g532 1, g532 2, g532 3, g532 4]⟩), .agg (⟨[g534 0, g534 1, g534 2, g534 3, g534 4]⟩)]) s536 fun v537 s538 => pAppendS w0 80 5 64 (G l900 1) v537 s538 fun v539 s540 => B P 3 .add (G l900 2) (.int .i64 1) fun v541 => B P 3 .add (G l900 3) (.int .i64 1) fun v542 => K902 .normal [G l900 0, v539, v541, v542, G l900 4, G l900 5, G l900 6, G l900 7, G l900 8, G l900 9, G l900 10, G l900 11, G l900 12, G l900 13] s540)))))
def cs_spec_l3Walk_2 (w0 : World) (l900 : List Value) (s901 : Vw) (K902 : AX → List Value → Vw → Prop) (R : Value → Vw → Prop) : Prop :=
  N (G l900 12) (fun v500 => B P 3 .geq (G l900 3) v500 fun v501 => Q v501 (X 1 (G l900 7) (G l900 2) fun v502 => L w0 1 v502 s901 fun g503 => AC P w0 n_spec_l3Path [G l900 0, g503 0] s901 fun v504 s505 => AC P w0 n_spec_l3Gone [v504] s505 fun v506 s507 => pAppendS w0 80 5 64 (G l900 1) v506 s507 fun v508 s509 => B P 3 .add (G l900 2) (.int .i64 1) fun v510 => K902 .normal [G l900 0, v508, v510, G l900 3, G l900 4, G l900 5, G l900 6, G l900 7, G l900 8, G l900 9, G l900 10, G l900 11, G l900 12, G l900 13] s509) (N (G l900 7) fun v511 => B P 3 .lss (G l900 2) v511 fun v512 => Q v512 (X 1 (G l900 7) (G l900 2) fun v513 => L w0 1 v513 s901 fun g514 => X 1 (G l900 12) (G l900 3) fun v515 => L w0 1 v515 s901 fun g516 => B P 9 .lss (g514 0) (g516 0) fun v517 => Q v517 (X 1 (G l900 7) (G l900 2) fun v518 => L w0 1 v518 s901 fun g519 => AC P w0 n_spec_l3Path [G l900 0, g519 0] s901 fun v520 s521 => AC P w0 n_spec_l3Gone [v520] s521 fun v522 s523 => pAppendS w0 80 5 64 (G l900 1) v522 s523 fun v524 s525 => B P 3 .add (G l900 2) (.int .i64 1) fun v526 => K902 .normal [G l900 0, v524, v526, G l900 3, G l900 4, G l900 5, G l900 6, G l900 7, G l900 8, G l900 9, G l900 10, G l900 11, G l900 12, G l900 13] s525) (cs_spec_l3Walk_1 w0 l900 s901 K902 R)) (cs_spec_l3Walk_1 w0 l900 s901 K902 R)))
def vc_spec_l3Walk (w0 : World) (a0 a1 a2 : Value) (σ : Vw) (R : Value → Vw → Prop) : Prop :=
  V true 5 a1 (V true 5 a2 (B P 4 .neq (C a1 0) (C a2 0) fun v0 => Q v0 (AC P w0 n_spec_l3Gone [a0] σ fun v1 s2 => AC P w0 n_spec_l3New ([a0, .agg (⟨[C a2 0, C a2 1, C a2 2, C a2 3, C a2 4]⟩)]) s2 fun v3 s4 => pAppendS w0 80 5 64 v1 v3 s4 fun v5 s6 => R v5 s6) (AC P w0 n_spec_l3Part ([a0, .agg (⟨[C a1 0, C a1 1, C a1 2, C a1 3, C a1 4]⟩), .agg (⟨[C a2 0, C a2 1, C a2 2, C a2 3, C a2 4]⟩)]) σ fun v7 s8 => pLoop (fun l9 K10 s11 => N (G l9 7) fun v12 => B P 3 .lss (G l9 2) v12 fun v13 => Q v13 (cs_spec_l3Walk_2 w0 l9 s11 K10 R) (N (G l9 12) fun v127 => B P 3 .lss (G l9 3) v127 fun v128 => Q v128 (cs_spec_l3Walk_2 w0 l9 s11 K10 R) (K10 (.exit 0) [G l9 0, G l9 1, G l9 2, G l9 3, G l9 4, G l9 5, G l9 6, G l9 7, G l9 8, G l9 9, G l9 10, G l9 11, G l9 12, G l9 13] s11))) [a0, v7, .int .i64 0, .int .i64 0, C a1 0, C a1 1, C a1 2, C a1 3, C a1 4, C a2 0, C a2 1, C a2 2, C a2 3, C a2 4] s8 fun x242 l243 s244 => match x242 with | .normal => R (G l243 1) s244 | .ret => False | .exit i245 => (match Nat.beq i245 0 with | true => R (G l243 1) s244 | false => False))))

theorem vc_spec_l3Walk_eq (w0 : World) (a0 a1 a2 : Value) (σ : Vw) (R : Value → Vw → Prop) : vc_spec_l3Walk w0 a0 a1 a2 σ R = den Tryz.prog w0 kp_spec_l3Walk esc_spec_l3Walk (Tryz.f108.body.getD .skip) (entry Tryz.f108.ntmps [a0, a1, a2]) σ (retK Tryz.prog Tryz.f108.results.toList R) := by kernel_rfl
theorem ac_spec_l3Walk {w0 : World} {a0 a1 a2 : Value} {σ : Vw} {R : Value → Vw → Prop} (h : vc_spec_l3Walk w0 a0 a1 a2 σ R) : AC Tryz.prog w0 n_spec_l3Walk [a0, a1, a2] σ R := by
  refine ac_rule (fn := Tryz.f108) (c := Tryz.f108.body.getD .skip) kp_spec_l3Walk esc_spec_l3Walk Tryz.func108 (by kernel_rfl) (by kernel_rfl) ?_
  rw [← vc_spec_l3Walk_eq]
  exact h

/-- spec.l11Marked -/
def kp_spec_l11Marked : Nat → Keep
  | 2 => ⟨[0, 1, 4, 5], [], [], .done, []⟩
  | _ => ⟨[], [], [], .done, []⟩
def esc_spec_l11Marked : Nat → Bool
  | _ => false
def vc_spec_l11Marked (w0 : World) (a0 a1 : Value) (σ : Vw) (R : Value → Vw → Prop) : Prop :=
  pLoop (fun l0 K1 s2 => N (G l0 0) fun v3 => B P 3 .lss (G l0 3) v3 fun v4 => Q v4 (X 2 (G l0 0) (G l0 3) fun v5 => F 0 v5 fun v6 => L w0 1 v6 s2 fun g7 => AC P w0 n_spec_l11Same [g7 0, G l0 1] s2 fun v8 s9 => Q v8 (K1 .ret [G l0 0, G l0 1, .bool true, G l0 3] s9) (X 2 (G l0 0) (G l0 3) fun v10 => F 1 v10 fun v11 => L w0 1 v11 s9 fun g12 => Q (g12 0) (X 2 (G l0 0) (G l0 3) fun v13 => F 0 v13 fun v14 => L w0 1 v14 s9 fun g15 => AC P w0 n_spec_l2Within [G l0 1, g15 0] s9 fun v16 s17 => Q v16 (K1 .ret [G l0 0, G l0 1, .bool true, G l0 3] s17) (B P 3 .add (G l0 3) (.int .i64 1) fun v18 => K1 .normal [G l0 0, G l0 1, G l0 2, v18] s17)) (B P 3 .add (G l0 3) (.int .i64 1) fun v19 => K1 .normal [G l0 0, G l0 1, G l0 2, v19] s9))) (K1 (.exit 0) [G l0 0, G l0 1, G l0 2, G l0 3] s2)) [a0, a1, .bool false, .int .i64 0] σ fun x20 l21 s22 => match x20 with | .normal => R (.bool false) s22 | .ret => R (G l21 2) s22 | .exit i23 => (match Nat.beq i23 0 with | true => R (.bool false) s22 | false => False)
theorem vc_spec_l11Marked_eq (w0 : World) (a0 a1 : Value) (σ : Vw) (R : Value → Vw → Prop) : vc_spec_l11Marked w0 a0 a1 σ R = den Tryz.prog w0 kp_spec_l11Marked esc_spec_l11Marked (Tryz.f109.body.getD .skip) (entry Tryz.f109.ntmps [a0, a1]) σ (retK Tryz.prog Tryz.f109.results.toList R) := by kernel_rfl
theorem ac_spec_l11Marked {w0 : World} {a0 a1 : Value} {σ : Vw} {R : Value → Vw → Prop} (h : vc_spec_l11Marked w0 a0 a1 σ R) : AC Tryz.prog w0 n_spec_l11Marked [a0, a1] σ R := by
  refine ac_rule (fn := Tryz.f109) (c := Tryz.f109.body.getD .skip) kp_spec_l11Marked esc_spec_l11Marked Tryz.func109 (by kernel_rfl) (by kernel_rfl) ?_
  rw [← vc_spec_l11Marked_eq]
  exact h

/-- spec.l3Part -/
def kp_spec_l3Part : Nat → Keep
  | 3 => ⟨[], [], [], .step 0 (.step 2 (.step 4 (.step 5 (.step 1 (.step 3 (.step 6 (.step 7 (.step 8 (.step 9 (.done)))))))))), [(3, [1, 2]), (5, [4]), (6, [1, 2, 3, 4, 5]), (7, [1, 2, 3, 4, 5, 6]), (8, [0, 1, 2, 3, 4, 5, 6, 7]), (9, [0, 1, 2, 3, 4, 5, 6, 7, 8])]⟩
  | 5 => ⟨[], [], [], .step 0 (.step 2 (.step 4 (.step 5 (.step 1 (.step 3 (.step 6 (.step 7 (.step 8 (.step 9 (.done)))))))))), [(3, [1, 2]), (5, [4]), (6, [1, 2, 3, 4, 5]), (7, [1, 2, 3, 4, 5, 6]), (8, [0, 1, 2, 3, 4, 5, 6, 7]), (9, [0, 1, 2, 3, 4, 5, 6, 7, 8])]⟩
  | _ => ⟨[], [], [], .done, []⟩
def esc_spec_l3Part : Nat → Bool
  | 8 => true
  | 15 => true
  | 29 => true
  | _ => false
def vc_spec_l3Part (w0 : World) (a0 a1 a2 : Value) (σ : Vw) (R : Value → Vw → Prop) : Prop :=
  V true 5 a1 (V true 5 a2 (W w0 80 [] σ fun n0 s1 => B P 3 .neq (C a1 1) (C a2 1) fun v2 => Q v2 (W w0 9 [] s1 fun n3 s4 => pAppendS w0 9 1 16 (.slice (some (Addr.mk n3 0 none)) 0 0) a0 s4 fun v5 s6 => V false 1 v5 (V false 1 (.int .i64 3) (V false 1 (C a2 1) (V true 5 (.agg (⟨[v5, .int .i64 3, .bool false, C a2 1, .string ({ data := #[] })]⟩)) ((allOne ([v5, .int .i64 3, .bool false, C a2 1, .string ({ data := #[] })])) ∧ (A w0 80 5 64 (.slice (some (Addr.mk n0 0 none)) 0 0) 1 ([v5, .int .i64 3, .bool false, C a2 1, .string ({ data := #[] })]) s6 fun v7 s8 => B P 9 .neq (C a1 2) (C a2 2) fun v9 => Q v9 (W w0 9 [] s8 fun n10 s11 => pAppendS w0 9 1 16 (.slice (some (Addr.mk n10 0 none)) 0 0) a0 s11 fun v12 s13 => V false 1 v12 (V false 1 (.int .i64 4) (V false 1 (C a2 2) (V true 5 (.agg (⟨[v12, .int .i64 4, .bool false, .int .i64 0, C a2 2]⟩)) ((allOne [v12, .int .i64 4, .bool false, .int .i64 0, C a2 2]) ∧ (A w0 80 5 64 v7 1 [v12, .int .i64 4, .bool false, .int .i64 0, C a2 2] s13 fun v14 s15 => R v14 s15)))))) (R v7 s8))))))) (B P 9 .neq (C a1 2) (C a2 2) fun v16 => Q v16 (W w0 9 [] s1 fun n17 s18 => pAppendS w0 9 1 16 (.slice (some (Addr.mk n17 0 none)) 0 0) a0 s18 fun v19 s20 => V false 1 v19 (V false 1 (.int .i64 4) (V false 1 (C a2 2) (V true 5 (.agg (⟨[v19, .int .i64 4, .bool false, .int .i64 0, C a2 2]⟩)) ((allOne [v19, .int .i64 4, .bool false, .int .i64 0, C a2 2]) ∧ (A w0 80 5 64 (.slice (some (Addr.mk n0 0 none)) 0 0) 1 [v19, .int .i64 4, .bool false, .int .i64 0, C a2 2] s20 fun v21 s22 => R v21 s22)))))) (R (.slice (some (Addr.mk n0 0 none)) 0 0) s1))))
theorem vc_spec_l3Part_eq (w0 : World) (a0 a1 a2 : Value) (σ : Vw) (R : Value → Vw → Prop) : vc_spec_l3Part w0 a0 a1 a2 σ R = den Tryz.prog w0 kp_spec_l3Part esc_spec_l3Part (Tryz.f110.body.getD .skip) (entry Tryz.f110.ntmps [a0, a1, a2]) σ (retK Tryz.prog Tryz.f110.results.toList R) := by kernel_rfl
theorem ac_spec_l3Part {w0 : World} {a0 a1 a2 : Value} {σ : Vw} {R : Value → Vw → Prop} (h : vc_spec_l3Part w0 a0 a1 a2 σ R) : AC Tryz.prog w0 n_spec_l3Part [a0, a1, a2] σ R := by
  refine ac_rule (fn := Tryz.f110) (c := Tryz.f110.body.getD .skip) kp_spec_l3Part esc_spec_l3Part Tryz.func110 (by kernel_rfl) (by kernel_rfl) ?_
  rw [← vc_spec_l3Part_eq]
  exact h

/-- spec.l12Names -/
def kp_spec_l12Names : Nat → Keep
  | 3 => ⟨[5, 6], [(3, 5)], [3], .done, []⟩
  | 6 => ⟨[5, 6, 7], [(3, 5)], [3], .step 0 (.step 1 (.step 2 (.step 3 (.step 4 (.step 5 (.step 6 (.step 7 (.step 8 (.step 9 (.step 10 (.step 11 (.step 12 (.step 13 (.step 14 (.step 15 (.done)))))))))))))))), [(2, [1]), (3, [0, 1, 2]), (4, [0, 1, 2, 3]), (5, [0, 1, 2, 3, 4]), (6, [0, 1, 2, 3, 4]), (7, [0, 1, 2, 3, 4, 5, 6]), (8, [0, 1, 2, 3, 4, 5, 6, 7]), (9, [0, 1, 2, 3, 4]), (10, [0, 1, 2, 3, 4, 9]), (11, [0, 1, 2, 3, 4]), (12, [0, 1, 2, 3, 4, 9, 10, 11]), (13, [0, 1, 2, 3, 4, 9, 10, 11, 12]), (14, [0, 1, 2, 3, 4, 5, 6, 7, 8, 9, 10, 11, 12, 13]), (15, [0, 1, 2, 3, 4, 5, 6, 7, 8, 9, 10, 11, 12, 13, 14])]⟩
  | 8 => ⟨[], [], [], .step 0 (.step 1 (.step 2 (.step 3 (.step 4 (.step 5 (.step 6 (.step 7 (.step 8 (.step 9 (.step 10 (.step 11 (.step 12 (.step 13 (.step 14 (.step 15 (.done)))))))))))))))), [(2, [1]), (3, [0, 1, 2]), (4, [0, 1, 2, 3]), (5, [0, 1, 2, 3, 4]), (6, [0, 1, 2, 3, 4]), (7, [0, 1, 2, 3, 4, 5, 6]), (8, [0, 1, 2, 3, 4, 5, 6, 7]), (9, [0, 1, 2, 3, 4]), (10, [0, 1, 2, 3, 4, 9]), (11, [0, 1, 2, 3, 4]), (12, [0, 1, 2, 3, 4, 9, 10, 11]), (13, [0, 1, 2, 3, 4, 9, 10, 11, 12]), (14, [0, 1, 2, 3, 4, 5, 6, 7, 8, 9, 10, 11, 12, 13]), (15, [0, 1, 2, 3, 4, 5, 6, 7, 8, 9, 10, 11, 12, 13, 14])]⟩
  | 9 => ⟨[], [], [], .step 1 (.step 2 (.step 3 (.step 5 (.step 6 (.step 7 (.step 8 (.step 9 (.step 10 (.step 12 (.step 13 (.step 14 (.step 0 (.step 4 (.step 11 (.step 15 (.step 16 (.done))))))))))))))))), [(3, [1, 2]), (4, [0, 1, 2, 3]), (6, [5]), (8, [5, 6, 7]), (9, [5, 6, 7, 8]), (10, [5, 6, 7, 8, 9]), (11, [0, 1, 2, 3, 4, 5, 6, 7, 8, 9, 10]), (14, [12, 13]), (15, [0, 1, 2, 3, 4, 5, 6, 7, 8, 9, 10, 11, 12, 13, 14]), (16, [0, 1, 2, 3, 4, 5, 6, 7, 8, 9, 10, 11, 12, 13, 14, 15])]⟩
  | _ => ⟨[], [], [], .done, []⟩
def esc_spec_l12Names : Nat → Bool
  | 8 => true
  | 53 => true
  | _ => false
def cs_spec_l12Names_1 (w0 : World) (l900 : List Value) (s901 : Vw) (K902 : AX → List Value → Vw → Prop) (R : Value → Vw → Prop) : Prop :=
  pSlice 1 (G l900 0) none (some (G l900 2)) (fun v500 => X 1 (G l900 6) (G l900 1) fun v501 => L w0 1 v501 s901 fun g502 => V false 1 (g502 0) (pSlice 1 (G l900 0) (some (G l900 2)) none fun v503 => W w0 9 [] s901 fun n504 s505 => (Stay w0 s901 s505 v501 1) ∧ (pAppendS w0 9 1 16 (.slice (some (Addr.mk n504 0 none)) 0 0) v500 s505 fun v506 s507 => (Stay w0 s505 s507 v501 1) ∧ ((allOne [g502 0]) ∧ (A w0 9 1 16 v506 1 [g502 0] s507 fun v508 s509 => pAppendS w0 9 1 16 v508 v503 s509 fun v510 s511 => B P 3 .add (G l900 1) (.int .i64 1) fun v512 => K902 .normal [v510, v512, G l900 3, G l900 4, G l900 5, G l900 6, G l900 7] s511)))))
def vc_spec_l12Names (w0 : World) (a0 a1 : Value) (σ : Vw) (R : Value → Vw → Prop) : Prop :=
  V true 5 a0 (V true 5 a1 (W w0 9 [] σ fun n0 s1 => pAppendS w0 9 1 16 (.slice (some (Addr.mk n0 0 none)) 0 0) (C a0 3) s1 fun v2 s3 => pLoop (fun l4 K5 s6 => N (G l4 5) fun v7 => B P 3 .lss (G l4 1) v7 fun v8 => Q v8 (pLoop (fun l9 K10 s11 => N (G l9 0) fun v12 => B P 3 .lss (G l9 2) v12 fun v13 => Q v13 (X 1 (G l9 0) (G l9 2) fun v14 => L w0 1 v14 s11 fun g15 => X 1 (G l9 6) (G l9 1) fun v16 => L w0 1 v16 s11 fun g17 => B P 9 .lss (g15 0) (g17 0) fun v18 => Q v18 (B P 3 .add (G l9 2) (.int .i64 1) fun v19 => K10 .normal [G l9 0, G l9 1, v19, G l9 3, G l9 4, G l9 5, G l9 6, G l9 7] s11) (K10 (.exit 2) [G l9 0, G l9 1, G l9 2, G l9 3, G l9 4, G l9 5, G l9 6, G l9 7] s11)) (K10 (.exit 2) [G l9 0, G l9 1, G l9 2, G l9 3, G l9 4, G l9 5, G l9 6, G l9 7] s11)) [G l4 0, G l4 1, .int .i64 0, G l4 2, G l4 3, G l4 4, G l4 5, G l4 6] s6 fun x20 l21 s22 => match x20 with | .normal => N (G l21 0) (fun v23 => B P 3 .eql (G l21 2) v23 fun v24 => Q v24 (cs_spec_l12Names_1 w0 l21 s22 K5 R) (X 1 (G l21 0) (G l21 2) fun v38 => L w0 1 v38 s22 fun g39 => X 1 (G l21 6) (G l21 1) fun v40 => L w0 1 v40 s22 fun g41 => B P 9 .neq (g39 0) (g41 0) fun v42 => Q v42 (cs_spec_l12Names_1 w0 l21 s22 K5 R) (B P 3 .add (G l21 1) (.int .i64 1) fun v56 => K5 .normal [G l21 0, v56, G l21 3, G l21 4, G l21 5, G l21 6, G l21 7] s22))) | .ret => K5 .ret [G l21 0, G l21 1, G l21 3, G l21 4, G l21 5, G l21 6, G l21 7] s22 | .exit i57 => (match Nat.beq i57 2 with | true => N (G l21 0) (fun v58 => B P 3 .eql (G l21 2) v58 fun v59 => Q v59 (cs_spec_l12Names_1 w0 l21 s22 K5 R) (X 1 (G l21 0) (G l21 2) fun v73 => L w0 1 v73 s22 fun g74 => X 1 (G l21 6) (G l21 1) fun v75 => L w0 1 v75 s22 fun g76 => B P 9 .neq (g74 0) (g76 0) fun v77 => Q v77 (cs_spec_l12Names_1 w0 l21 s22 K5 R) (B P 3 .add (G l21 1) (.int .i64 1) fun v91 => K5 .normal [G l21 0, v91, G l21 3, G l21 4, G l21 5, G l21 6, G l21 7] s22))) | false => (match Nat.beq i57 1 with | true => B P 3 .add (G l21 1) (.int .i64 1) (fun v92 => K5 .normal [G l21 0, v92, G l21 3, G l21 4, G l21 5, G l21 6, G l21 7] s22) | false => K5 (.exit i57) [G l21 0, G l21 1, G l21 3, G l21 4, G l21 5, G l21 6, G l21 7] s22))) (K5 (.exit 0) [G l4 0, G l4 1, G l4 2, G l4 3, G l4 4, G l4 5, G l4 6] s6)) [v2, .int .i64 0, C a1 0, C a1 1, C a1 2, C a1 3, C a1 4] s3 fun x93 l94 s95 => match x93 with | .normal => R (G l94 0) s95 | .ret => False | .exit i96 => (match Nat.beq i96 0 with | true => R (G l94 0) s95 | false => False)))

theorem vc_spec_l12Names_eq (w0 : World) (a0 a1 : Value) (σ : Vw) (R : Value → Vw → Prop) : vc_spec_l12Names w0 a0 a1 σ R = den Tryz.prog w0 kp_spec_l12Names esc_spec_l12Names (Tryz.f111.body.getD .skip) (entry Tryz.f111.ntmps [a0, a1]) σ (retK Tryz.prog Tryz.f111.results.toList R) := by kernel_rfl
theorem ac_spec_l12Names {w0 : World} {a0 a1 : Value} {σ : Vw} {R : Value → Vw → Prop} (h : vc_spec_l12Names w0 a0 a1 σ R) : AC Tryz.prog w0 n_spec_l12Names [a0, a1] σ R := by
  refine ac_rule (fn := Tryz.f111) (c := Tryz.f111.body.getD .skip) kp_spec_l12Names esc_spec_l12Names Tryz.func111 (by kernel_rfl) (by kernel_rfl) ?_
  rw [← vc_spec_l12Names_eq]
  exact h

/-- spec.l3Path -/
def kp_spec_l3Path : Nat → Keep
  | _ => ⟨[], [], [], .done, []⟩
def esc_spec_l3Path : Nat → Bool
  | 5 => true
  | _ => false
def vc_spec_l3Path (w0 : World) (a0 a1 : Value) (σ : Vw) (R : Value → Vw → Prop) : Prop :=
  W w0 9 [] σ fun n0 s1 => pAppendS w0 9 1 16 (.slice (some (Addr.mk n0 0 none)) 0 0) a0 s1 fun v2 s3 => V false 1 a1 ((allOne [a1]) ∧ (A w0 9 1 16 v2 1 [a1] s3 fun v4 s5 => R v4 s5))
theorem vc_spec_l3Path_eq (w0 : World) (a0 a1 : Value) (σ : Vw) (R : Value → Vw → Prop) : vc_spec_l3Path w0 a0 a1 σ R = den Tryz.prog w0 kp_spec_l3Path esc_spec_l3Path (Tryz.f112.body.getD .skip) (entry Tryz.f112.ntmps [a0, a1]) σ (retK Tryz.prog Tryz.f112.results.toList R) := by kernel_rfl
theorem ac_spec_l3Path {w0 : World} {a0 a1 : Value} {σ : Vw} {R : Value → Vw → Prop} (h : vc_spec_l3Path w0 a0 a1 σ R) : AC Tryz.prog w0 n_spec_l3Path [a0, a1] σ R := by
  refine ac_rule (fn := Tryz.f112) (c := Tryz.f112.body.getD .skip) kp_spec_l3Path esc_spec_l3Path Tryz.func112 (by kernel_rfl) (by kernel_rfl) ?_
  rw [← vc_spec_l3Path_eq]
  exact h

/-- (*spec.l12Look).leads -/
def kp_p_spec_l12Look_leads : Nat → Keep
  | 2 => ⟨[0, 1, 4, 5], [], [], .done, []⟩
  | _ => ⟨[], [], [], .done, []⟩
def esc_p_spec_l12Look_leads : Nat → Bool
  | _ => false
def vc_p_spec_l12Look_leads (w0 : World) (a0 a1 : Value) (σ : Vw) (R : Value → Vw → Prop) : Prop :=
  pLoop (fun l0 K1 s2 => pNil (G l0 0) (F 0 (G l0 0) fun v3 => L w0 1 v3 s2 fun g4 => N (g4 0) fun v5 => B P 3 .lss (G l0 3) v5 fun v6 => Q v6 (pNil (G l0 0) (F 0 (G l0 0) fun v7 => L w0 1 v7 s2 fun g8 => X 2 (g8 0) (G l0 3) fun v9 => F 0 v9 fun v10 => L w0 1 v10 s2 fun g11 => AC P w0 n_spec_l2Within [g11 0, G l0 1] s2 fun v12 s13 => Q v12 (K1 .ret [G l0 0, G l0 1, .bool true, G l0 3] s13) (B P 3 .add (G l0 3) (.int .i64 1) fun v14 => K1 .normal [G l0 0, G l0 1, G l0 2, v14] s13))) (K1 (.exit 0) [G l0 0, G l0 1, G l0 2, G l0 3] s2))) [a0, a1, .bool false, .int .i64 0] σ fun x15 l16 s17 => match x15 with | .normal => R (.bool false) s17 | .ret => R (G l16 2) s17 | .exit i18 => (match Nat.beq i18 0 with | true => R (.bool false) s17 | false => False)
theorem vc_p_spec_l12Look_leads_eq (w0 : World) (a0 a1 : Value) (σ : Vw) (R : Value → Vw → Prop) : vc_p_spec_l12Look_leads w0 a0 a1 σ R = den Tryz.prog w0 kp_p_spec_l12Look_leads esc_p_spec_l12Look_leads (Tryz.f113.body.getD .skip) (entry Tryz.f113.ntmps [a0, a1]) σ (retK Tryz.prog Tryz.f113.results.toList R) := by kernel_rfl
theorem ac_p_spec_l12Look_leads {w0 : World} {a0 a1 : Value} {σ : Vw} {R : Value → Vw → Prop} (h : vc_p_spec_l12Look_leads w0 a0 a1 σ R) : AC Tryz.prog w0 n_p_spec_l12Look_leads [a0, a1] σ R := by
  refine ac_rule (fn := Tryz.f113) (c := Tryz.f113.body.getD .skip) kp_p_spec_l12Look_leads esc_p_spec_l12Look_leads Tryz.func113 (by kernel_rfl) (by kernel_rfl) ?_
  rw [← vc_p_spec_l12Look_leads_eq]
  exact h

/-- spec.l12Kid -/
def kp_spec_l12Kid : Nat → Keep
  | _ => ⟨[], [], [], .done, []⟩
def esc_spec_l12Kid : Nat → Bool
  | 8 => true
  | _ => false
def vc_spec_l12Kid (w0 : World) (a0 a1 : Value) (σ : Vw) (R : Value → Vw → Prop) : Prop :=
  V true 5 a0 (V false 1 a1 (W w0 9 [a1] σ fun n0 s1 => AC P w0 n_spec_l1At ([.agg (⟨[C a0 0, C a0 1, C a0 2, C a0 3, C a0 4]⟩), .slice (some (Addr.mk n0 0 none)) 1 1]) s1 fun v2 s3 => E v2 0 fun v4 => E v2 1 fun v5 => V true 5 v4 (R (.tuple (⟨[.agg (⟨[C v4 0, C v4 1, C v4 2, C v4 3, C v4 4]⟩), v5]⟩)) s3)))
theorem vc_spec_l12Kid_eq (w0 : World) (a0 a1 : Value) (σ : Vw) (R : Value → Vw → Prop) : vc_spec_l12Kid w0 a0 a1 σ R = den Tryz.prog w0 kp_spec_l12Kid esc_spec_l12Kid (Tryz.f114.body.getD .skip) (entry Tryz.f114.ntmps [a0, a1]) σ (retK Tryz.prog Tryz.f114.results.toList R) := by kernel_rfl
theorem ac_spec_l12Kid {w0 : World} {a0 a1 : Value} {σ : Vw} {R : Value → Vw → Prop} (h : vc_spec_l12Kid w0 a0 a1 σ R) : AC Tryz.prog w0 n_spec_l12Kid [a0, a1] σ R := by
  refine ac_rule (fn := Tryz.f114) (c := Tryz.f114.body.getD .skip) kp_spec_l12Kid esc_spec_l12Kid Tryz.func114 (by kernel_rfl) (by kernel_rfl) ?_
  rw [← vc_spec_l12Kid_eq]
  exact h

/-- impl.namesOk -/
def kp_impl_namesOk : Nat → Keep
  | 2 => ⟨[0, 1, 4, 7, 8, 9], [], [], .done, []⟩
  | _ => ⟨[], [], [], .done, []⟩
def esc_impl_namesOk : Nat → Bool
  | _ => false
def vc_impl_namesOk (w0 : World) (a0 a1 : Value) (σ : Vw) (R : Value → Vw → Prop) : Prop :=
  N a0 fun v0 => pLoop (fun l1 K2 s3 => B P 3 .lss (G l1 5) (G l1 4) fun v4 => Q v4 (X 1 (G l1 3) (G l1 5) fun v5 => L w0 1 v5 s3 fun g6 => AC P w0 n_impl_nameOk [g6 0] s3 fun v7 s8 => pUn .not v7 fun v9 => Q v9 (K2 .ret [G l1 0, G l1 1, .bool false, G l1 3, G l1 4, G l1 5] s8) (B P 3 .add (G l1 5) (.int .i64 1) fun v10 => K2 .normal [G l1 0, G l1 1, G l1 2, G l1 3, G l1 4, v10] s8)) (K2 (.exit 0) [G l1 0, G l1 1, G l1 2, G l1 3, G l1 4, G l1 5] s3)) [a0, a1, .bool false, a0, v0, .int .i64 0] σ fun x11 l12 s13 => match x11 with | .normal => N (G l12 0) (fun v14 => AC P w0 n_impl_within [v14, G l12 1, .int .i64 4] s13 fun v15 s16 => R v15 s16) | .ret => R (G l12 2) s13 | .exit i17 => (match Nat.beq i17 0 with | true => N (G l12 0) (fun v18 => AC P w0 n_impl_within [v18, G l12 1, .int .i64 4] s13 fun v19 s20 => R v19 s20) | false => False)
theorem vc_impl_namesOk_eq (w0 : World) (a0 a1 : Value) (σ : Vw) (R : Value → Vw → Prop) : vc_impl_namesOk w0 a0 a1 σ R = den Tryz.prog w0 kp_impl_namesOk esc_impl_namesOk (Tryz.f115.body.getD .skip) (entry Tryz.f115.ntmps [a0, a1]) σ (retK Tryz.prog Tryz.f115.results.toList R) := by kernel_rfl
theorem ac_impl_namesOk {w0 : World} {a0 a1 : Value} {σ : Vw} {R : Value → Vw → Prop} (h : vc_impl_namesOk w0 a0 a1 σ R) : AC Tryz.prog w0 n_impl_namesOk [a0, a1] σ R := by
  refine ac_rule (fn := Tryz.f115) (c := Tryz.f115.body.getD .skip) kp_impl_namesOk esc_impl_namesOk Tryz.func115 (by kernel_rfl) (by kernel_rfl) ?_
  rw [← vc_impl_namesOk_eq]
  exact h

/-- impl.begins -/
def kp_impl_begins : Nat → Keep
  | 4 => ⟨[0, 1, 4, 12, 13], [], [], .done, []⟩
  | 6 => ⟨[], [], [], .step 0 (.step 1 (.step 2 (.step 3 (.step 4 (.step 5 (.step 6 (.step 7 (.step 8 (.done))))))))), [(2, [0, 1]), (3, [0, 1, 2]), (6, [4, 5]), (7, [4, 5, 6]), (8, [0, 1, 2, 3, 4, 5, 6, 7])]⟩
  | _ => ⟨[], [], [], .done, []⟩
def esc_impl_begins : Nat → Bool
  | _ => false
def vc_impl_begins (w0 : World) (a0 a1 : Value) (σ : Vw) (R : Value → Vw → Prop) : Prop :=
  N a0 fun v0 => N a1 fun v1 => B P 3 .lss v0 v1 fun v2 => Q v2 (R (.bool false) σ) (N a1 fun v3 => pLoop (fun l4 K5 s6 => B P 3 .lss (G l4 4) (G l4 3) fun v7 => Q v7 (X 1 (G l4 0) (G l4 4) fun v8 => L w0 1 v8 s6 fun g9 => X 1 (G l4 1) (G l4 4) fun v10 => L w0 1 v10 s6 fun g11 => B P 9 .neq (g9 0) (g11 0) fun v12 => Q v12 (K5 .ret [G l4 0, G l4 1, .bool false, G l4 3, G l4 4] s6) (B P 3 .add (G l4 4) (.int .i64 1) fun v13 => K5 .normal [G l4 0, G l4 1, G l4 2, G l4 3, v13] s6)) (K5 (.exit 0) [G l4 0, G l4 1, G l4 2, G l4 3, G l4 4] s6)) [a0, a1, .bool false, v3, .int .i64 0] σ fun x14 l15 s16 => match x14 with | .normal => R (.bool true) s16 | .ret => R (G l15 2) s16 | .exit i17 => (match Nat.beq i17 0 with | true => R (.bool true) s16 | false => False))
theorem vc_impl_begins_eq (w0 : World) (a0 a1 : Value) (σ : Vw) (R : Value → Vw → Prop) : vc_impl_begins w0 a0 a1 σ R = den Tryz.prog w0 kp_impl_begins esc_impl_begins (Tryz.f116.body.getD .skip) (entry Tryz.f116.ntmps [a0, a1]) σ (retK Tryz.prog Tryz.f116.results.toList R) := by kernel_rfl
theorem ac_impl_begins {w0 : World} {a0 a1 : Value} {σ : Vw} {R : Value → Vw → Prop} (h : vc_impl_begins w0 a0 a1 σ R) : AC Tryz.prog w0 n_impl_begins [a0, a1] σ R := by
  refine ac_rule (fn := Tryz.f116) (c := Tryz.f116.body.getD .skip) kp_impl_begins esc_impl_begins Tryz.func116 (by kernel_rfl) (by kernel_rfl) ?_
  rw [← vc_impl_begins_eq]
  exact h

/-- spec.l2PathOk -/
def kp_spec_l2PathOk : Nat → Keep
  | 2 => ⟨[0, 2, 3], [], [], .done, []⟩
  | _ => ⟨[], [], [], .done, []⟩
def esc_spec_l2PathOk : Nat → Bool
  | _ => false
def vc_spec_l2PathOk (w0 : World) (a0 : Value) (σ : Vw) (R : Value → Vw → Prop) : Prop :=
  pLoop (fun l0 K1 s2 => N (G l0 0) fun v3 => B P 3 .lss (G l0 2) v3 fun v4 => Q v4 (X 1 (G l0 0) (G l0 2) fun v5 => L w0 1 v5 s2 fun g6 => AC P w0 n_spec_l1NameOk [g6 0] s2 fun v7 s8 => pUn .not v7 fun v9 => Q v9 (K1 .ret [G l0 0, .bool false, G l0 2] s8) (B P 3 .add (G l0 2) (.int .i64 1) fun v10 => K1 .normal [G l0 0, G l0 1, v10] s8)) (K1 (.exit 0) [G l0 0, G l0 1, G l0 2] s2)) [a0, .bool false, .int .i64 0] σ fun x11 l12 s13 => match x11 with | .normal => N (G l12 0) (fun v14 => AC P w0 n_spec_l1In [v14, .int .i64 1, .int .i64 4] s13 fun v15 s16 => R v15 s16) | .ret => R (G l12 1) s13 | .exit i17 => (match Nat.beq i17 0 with | true => N (G l12 0) (fun v18 => AC P w0 n_spec_l1In [v18, .int .i64 1, .int .i64 4] s13 fun v19 s20 => R v19 s20) | false => False)
theorem vc_spec_l2PathOk_eq (w0 : World) (a0 : Value) (σ : Vw) (R : Value → Vw → Prop) : vc_spec_l2PathOk w0 a0 σ R = den Tryz.prog w0 kp_spec_l2PathOk esc_spec_l2PathOk (Tryz.f120.body.getD .skip) (entry Tryz.f120.ntmps [a0]) σ (retK Tryz.prog Tryz.f120.results.toList R) := by kernel_rfl
theorem ac_spec_l2PathOk {w0 : World} {a0 : Value} {σ : Vw} {R : Value → Vw → Prop} (h : vc_spec_l2PathOk w0 a0 σ R) : AC Tryz.prog w0 n_spec_l2PathOk [a0] σ R := by
  refine ac_rule (fn := Tryz.f120) (c := Tryz.f120.body.getD .skip) kp_spec_l2PathOk esc_spec_l2PathOk Tryz.func120 (by kernel_rfl) (by kernel_rfl) ?_
  rw [← vc_spec_l2PathOk_eq]
  exact h

/-- cmp.Compare[string] -/
def kp_cmp_Compare_string : Nat → Keep
  | _ => ⟨[], [], [], .done, []⟩
def esc_cmp_Compare_string : Nat → Bool
  | _ => false
def vc_cmp_Compare_string (w0 : World) (a0 a1 : Value) (σ : Vw) (R : Value → Vw → Prop) : Prop :=
  AC P w0 n_cmp_isNaN_string [a0] σ fun v0 s1 => AC P w0 n_cmp_isNaN_string [a1] s1 fun v2 s3 => Q v0 (Q v2 (R (.int .i64 0) s3) (R (.int .i64 (-1)) s3)) (Q v2 (R (.int .i64 1) s3) (B P 9 .lss a0 a1 fun v4 => Q v4 (R (.int .i64 (-1)) s3) (B P 9 .gtr a0 a1 fun v5 => Q v5 (R (.int .i64 1) s3) (R (.int .i64 0) s3))))
theorem vc_cmp_Compare_string_eq (w0 : World) (a0 a1 : Value) (σ : Vw) (R : Value → Vw → Prop) : vc_cmp_Compare_string w0 a0 a1 σ R = den Tryz.prog w0 kp_cmp_Compare_string esc_cmp_Compare_string (Tryz.f121.body.getD .skip) (entry Tryz.f121.ntmps [a0, a1]) σ (retK Tryz.prog Tryz.f121.results.toList R) := by kernel_rfl
theorem ac_cmp_Compare_string {w0 : World} {a0 a1 : Value} {σ : Vw} {R : Value → Vw → Prop} (h : vc_cmp_Compare_string w0 a0 a1 σ R) : AC Tryz.prog w0 n_cmp_Compare_string [a0, a1] σ R := by
  refine ac_rule (fn := Tryz.f121) (c := Tryz.f121.body.getD .skip) kp_cmp_Compare_string esc_cmp_Compare_string Tryz.func121 (by kernel_rfl) (by kernel_rfl) ?_
  rw [← vc_cmp_Compare_string_eq]
  exact h

end Go.Proofs.YtkbhjejalkbogaaGreat

/- What each function owes, reckoned out, part 4. MADE BY PROGRAM (emit.py). -/
set_option linter.unusedVariables false
namespace Go.Proofs.YtkbhjejalkbogaaGreat
open Go.Av renaming vget → G, cellOf → C, pVal → V, pBin → B, pIndexAddr → X, pLoad → L, pField → F, pIf → Q, pExtract → E, pAppend → A, pLen → N, pNew → W
open Go.Proofs.Tryz renaming prog → P
open Go Go.Av

/-- spec.l4Call -/
def kp_spec_l4Call : Nat → Keep
  | 1 => ⟨[], [], [], .step 0 (.step 3 (.step 4 (.step 7 (.step 1 (.step 2 (.step 5 (.step 6 (.step 8 (.done))))))))), [(1, [0]), (2, [0, 1]), (5, [0, 1, 3, 4]), (6, [0, 1, 2, 3, 4, 5]), (8, [0, 1, 2, 3, 4, 5, 6, 7])]⟩
  | _ => ⟨[], [], [], .done, []⟩
def esc_spec_l4Call : Nat → Bool
  | 45 => true
  | 63 => true
  | 71 => true
  | 75 => true
  | 80 => true
  | 87 => true
  | _ => false
def cs_spec_l4Call_4 (w0 : World) (s900 : Vw) (v901 : Value) (v902 : Value) (v903 : Value) (R : Value → Vw → Prop) : Prop :=
  V false 1 (.int .i64 (-1)) (V false 1 (.int .i64 8) (V false 1 (.int .i64 24) (V false 1 (.int .i64 25) (W w0 3 [.int .i64 (-1), .int .i64 8, .int .i64 24, .int .i64 25] s900 fun n500 s501 => AC P w0 n_p_spec_l1Rd_pick [v901, .int .i64 4] s501 fun v502 s503 => X 1 (.slice (some (Addr.mk n500 0 none)) 4 4) v502 fun v504 => L w0 1 v504 s503 fun g505 => V false 1 (g505 0) (V true 5 (.agg (⟨[v902, v903, .slice none 0 0, g505 0, .string ({ data := #[] })]⟩)) (R (.agg (⟨[v902, v903, .slice none 0 0, g505 0, .string ({ data := #[] })]⟩)) s503))))))
def cs_spec_l4Call_2 (w0 : World) (v900 : Value) (s901 : Vw) (v902 : Value) (v903 : Value) (v904 : Value) (R : Value → Vw → Prop) : Prop :=
  AC P w0 n_p_spec_l1Rd_pick [v900, .int .i64 40] s901 (fun v500 s501 => B P 3 .eql v500 (.int .i64 0) fun v502 => Q v502 (V false 1 (.int .i64 0) (V false 1 (.int .i64 7) (V false 1 (.int .i64 (-1)) (W w0 3 [.int .i64 0, .int .i64 7, .int .i64 (-1)] s501 fun n503 s504 => AC P w0 n_p_spec_l1Rd_pick [v900, .int .i64 3] s504 fun v505 s506 => X 1 (.slice (some (Addr.mk n503 0 none)) 3 3) v505 fun v507 => L w0 1 v507 s506 fun g508 => V false 1 (g508 0) (V true 5 (.agg (⟨[g508 0, v902, .slice none 0 0, v903, .string ({ data := #[] })]⟩)) (R (.agg (⟨[g508 0, v902, .slice none 0 0, v903, .string ({ data := #[] })]⟩)) s506)))))) (B P 3 .eql v500 (.int .i64 1) fun v509 => Q v509 (W w0 9 [] s501 fun n510 s511 => V false 1 (.slice (some (Addr.mk n510 0 none)) 0 0) (V true 5 (.agg (⟨[v904, .slice (some (Addr.mk n510 0 none)) 0 0, .slice none 0 0, v903, .string ({ data := #[] })]⟩)) (R (.agg (⟨[v904, .slice (some (Addr.mk n510 0 none)) 0 0, .slice none 0 0, v903, .string ({ data := #[] })]⟩)) s511))) (B P 3 .eql v500 (.int .i64 2) fun v512 => Q v512 (W w0 9 [] s501 fun n513 s514 => pAppendS w0 9 1 16 (.slice (some (Addr.mk n513 0 none)) 0 0) v902 s514 fun v515 s516 => V false 1 (.string ({ data := #[] })) (V false 1 (.string ({ data := #[65] })) (V false 1 (.string ({ data := #[116, 111, 111, 108, 111, 110, 103] })) (V false 1 (.string ({ data := #[120] })) (V false 1 (.string ({ data := #[121] })) (W w0 9 ([.string ({ data := #[] }), .string ({ data := #[65] }), .string ({ data := #[116, 111, 111, 108, 111, 110, 103] }), .string ({ data := #[120] }), .string ({ data := #[121] })]) s516 fun n517 s518 => AC P w0 n_p_spec_l1Rd_of [v900, .slice (some (Addr.mk n517 0 none)) 5 5] s518 fun v519 s520 => V false 1 v519 ((allOne [v519]) ∧ (A w0 9 1 16 v515 1 [v519] s520 fun v521 s522 => V false 1 v521 (V true 5 (.agg (⟨[v904, v521, .slice none 0 0, v903, .string ({ data := #[] })]⟩)) (R (.agg (⟨[v904, v521, .slice none 0 0, v903, .string ({ data := #[] })]⟩)) s522)))))))))) (B P 3 .eql v500 (.int .i64 3) fun v523 => Q v523 (cs_spec_l4Call_4 w0 s501 v900 v904 v902 R) (B P 3 .eql v500 (.int .i64 4) fun v530 => Q v530 (AC P w0 n_p_spec_l1Rd_pick [v900, .int .i64 2] s501 fun v531 s532 => B P 3 .add (.int .i64 24) v531 fun v533 => AC P w0 n_spec_l1Many ([.string ({ data := #[113] }), v533]) s532 fun v534 s535 => V false 1 v534 (V true 5 (.agg (⟨[v904, v902, .slice none 0 0, v903, v534]⟩)) (R (.agg (⟨[v904, v902, .slice none 0 0, v903, v534]⟩)) s535))) (V true 5 (.agg (⟨[v904, v902, .slice none 0 0, v903, .string ({ data := #[] })]⟩)) (R (.agg (⟨[v904, v902, .slice none 0 0, v903, .string ({ data := #[] })]⟩)) s501)))))))
def cs_spec_l4Call_3 (w0 : World) (v900 : Value) (s901 : Vw) (v902 : Value) (v903 : Value) (v904 : Value) (R : Value → Vw → Prop) : Prop :=
  AC P w0 n_p_spec_l1Rd_pick [v900, .int .i64 40] s901 (fun v500 s501 => B P 3 .eql v500 (.int .i64 0) fun v502 => Q v502 (V false 1 (.int .i64 0) (V false 1 (.int .i64 7) (V false 1 (.int .i64 (-1)) (W w0 3 [.int .i64 0, .int .i64 7, .int .i64 (-1)] s501 fun n503 s504 => AC P w0 n_p_spec_l1Rd_pick [v900, .int .i64 3] s504 fun v505 s506 => X 1 (.slice (some (Addr.mk n503 0 none)) 3 3) v505 fun v507 => L w0 1 v507 s506 fun g508 => V false 1 (g508 0) (V true 5 (.agg (⟨[g508 0, v902, v903, .int .i64 0, .string ({ data := #[] })]⟩)) (R (.agg (⟨[g508 0, v902, v903, .int .i64 0, .string ({ data := #[] })]⟩)) s506)))))) (B P 3 .eql v500 (.int .i64 1) fun v509 => Q v509 (W w0 9 [] s501 fun n510 s511 => V false 1 (.slice (some (Addr.mk n510 0 none)) 0 0) (V true 5 (.agg (⟨[v904, .slice (some (Addr.mk n510 0 none)) 0 0, v903, .int .i64 0, .string ({ data := #[] })]⟩)) (R (.agg (⟨[v904, .slice (some (Addr.mk n510 0 none)) 0 0, v903, .int .i64 0, .string ({ data := #[] })]⟩)) s511))) (B P 3 .eql v500 (.int .i64 2) fun v512 => Q v512 (W w0 9 [] s501 fun n513 s514 => pAppendS w0 9 1 16 (.slice (some (Addr.mk n513 0 none)) 0 0) v902 s514 fun v515 s516 => V false 1 (.string ({ data := #[] })) (V false 1 (.string ({ data := #[65] })) (V false 1 (.string ({ data := #[116, 111, 111, 108, 111, 110, 103] })) (V false 1 (.string ({ data := #[120] })) (V false 1 (.string ({ data := #[121] })) (W w0 9 ([.string ({ data := #[] }), .string ({ data := #[65] }), .string ({ data := #[116, 111, 111, 108, 111, 110, 103] }), .string ({ data := #[120] }), .string ({ data := #[121] })]) s516 fun n517 s518 => AC P w0 n_p_spec_l1Rd_of [v900, .slice (some (Addr.mk n517 0 none)) 5 5] s518 fun v519 s520 => V false 1 v519 ((allOne [v519]) ∧ (A w0 9 1 16 v515 1 [v519] s520 fun v521 s522 => V false 1 v521 (V true 5 (.agg (⟨[v904, v521, v903, .int .i64 0, .string ({ data := #[] })]⟩)) (R (.agg (⟨[v904, v521, v903, .int .i64 0, .string ({ data := #[] })]⟩)) s522)))))))))) (B P 3 .eql v500 (.int .i64 3) fun v523 => Q v523 (V false 1 (.int .i64 (-1)) (V false 1 (.int .i64 8) (V false 1 (.int .i64 24) (V false 1 (.int .i64 25) (W w0 3 [.int .i64 (-1), .int .i64 8, .int .i64 24, .int .i64 25] s501 fun n524 s525 => AC P w0 n_p_spec_l1Rd_pick [v900, .int .i64 4] s525 fun v526 s527 => X 1 (.slice (some (Addr.mk n524 0 none)) 4 4) v526 fun v528 => L w0 1 v528 s527 fun g529 => V false 1 (g529 0) (V true 5 (.agg (⟨[v904, v902, v903, g529 0, .string ({ data := #[] })]⟩)) (R (.agg (⟨[v904, v902, v903, g529 0, .string ({ data := #[] })]⟩)) s527))))))) (B P 3 .eql v500 (.int .i64 4) fun v530 => Q v530 (AC P w0 n_p_spec_l1Rd_pick [v900, .int .i64 2] s501 fun v531 s532 => B P 3 .add (.int .i64 24) v531 fun v533 => AC P w0 n_spec_l1Many ([.string ({ data := #[113] }), v533]) s532 fun v534 s535 => V false 1 v534 (V true 5 (.agg (⟨[v904, v902, v903, .int .i64 0, v534]⟩)) (R (.agg (⟨[v904, v902, v903, .int .i64 0, v534]⟩)) s535))) (V true 5 (.agg (⟨[v904, v902, v903, .int .i64 0, .string ({ data := #[] })]⟩)) (R (.agg (⟨[v904, v902, v903, .int .i64 0, .string ({ data := #[] })]⟩)) s501)))))))
def cs_spec_l4Call_1 (w0 : World) (v900 : Value) (v901 : Value) (s902 : Vw) (v903 : Value) (v904 : Value) (v905 : Value) (R : Value → Vw → Prop) : Prop :=
  Q v900 (AC P w0 n_p_spec_l1Rd_pick [v901, .int .i64 4] s902 fun v500 s501 => AC P w0 n_p_spec_l1Rd_pick [v901, .int .i64 4] s501 fun v502 s503 => B P 3 .mul v500 v502 fun v504 => V false 1 v504 (B P 3 .eql v903 (.int .i64 2) fun v505 => Q v505 (AC P w0 n_spec_l4Data [v901] s503 fun v506 s507 => V false 1 v506 (AC P w0 n_p_spec_l1Rd_pick [v901, .int .i64 40] s507 fun v508 s509 => B P 3 .eql v508 (.int .i64 0) fun v510 => Q v510 (V false 1 (.int .i64 0) (V false 1 (.int .i64 7) (V false 1 (.int .i64 (-1)) (W w0 3 [.int .i64 0, .int .i64 7, .int .i64 (-1)] s509 fun n511 s512 => AC P w0 n_p_spec_l1Rd_pick [v901, .int .i64 3] s512 fun v513 s514 => X 1 (.slice (some (Addr.mk n511 0 none)) 3 3) v513 fun v515 => L w0 1 v515 s514 fun g516 => V false 1 (g516 0) (V true 5 (.agg (⟨[g516 0, v904, .slice none 0 0, v504, v506]⟩)) (R (.agg (⟨[g516 0, v904, .slice none 0 0, v504, v506]⟩)) s514)))))) (B P 3 .eql v508 (.int .i64 1) fun v517 => Q v517 (W w0 9 [] s509 fun n518 s519 => V false 1 (.slice (some (Addr.mk n518 0 none)) 0 0) (V true 5 (.agg (⟨[v903, .slice (some (Addr.mk n518 0 none)) 0 0, .slice none 0 0, v504, v506]⟩)) (R (.agg (⟨[v903, .slice (some (Addr.mk n518 0 none)) 0 0, .slice none 0 0, v504, v506]⟩)) s519))) (B P 3 .eql v508 (.int .i64 2) fun v520 => Q v520 (W w0 9 [] s509 fun n521 s522 => pAppendS w0 9 1 16 (.slice (some (Addr.mk n521 0 none)) 0 0) v904 s522 fun v523 s524 => V false 1 (.string ({ data := #[] })) (V false 1 (.string ({ data := #[65] })) (V false 1 (.string ({ data := #[116, 111, 111, 108, 111, 110, 103] })) (V false 1 (.string ({ data := #[120] })) (V false 1 (.string ({ data := #[121] })) (W w0 9 ([.string ({ data := #[] }), .string ({ data := #[65] }), .string ({ data := #[116, 111, 111, 108, 111, 110, 103] }), .string ({ data := #[120] }), .string ({ data := #[121] })]) s524 fun n525 s526 => AC P w0 n_p_spec_l1Rd_of [v901, .slice (some (Addr.mk n525 0 none)) 5 5] s526 fun v527 s528 => V false 1 v527 ((allOne [v527]) ∧ (A w0 9 1 16 v523 1 [v527] s528 fun v529 s530 => V false 1 v529 (V true 5 (.agg (⟨[v903, v529, .slice none 0 0, v504, v506]⟩)) (R (.agg (⟨[v903, v529, .slice none 0 0, v504, v506]⟩)) s530)))))))))) (B P 3 .eql v508 (.int .i64 3) fun v531 => Q v531 (V false 1 (.int .i64 (-1)) (V false 1 (.int .i64 8) (V false 1 (.int .i64 24) (V false 1 (.int .i64 25) (W w0 3 [.int .i64 (-1), .int .i64 8, .int .i64 24, .int .i64 25] s509 fun n532 s533 => AC P w0 n_p_spec_l1Rd_pick [v901, .int .i64 4] s533 fun v534 s535 => X 1 (.slice (some (Addr.mk n532 0 none)) 4 4) v534 fun v536 => L w0 1 v536 s535 fun g537 => V false 1 (g537 0) (V true 5 (.agg (⟨[v903, v904, .slice none 0 0, g537 0, v506]⟩)) (R (.agg (⟨[v903, v904, .slice none 0 0, g537 0, v506]⟩)) s535))))))) (B P 3 .eql v508 (.int .i64 4) fun v538 => Q v538 (AC P w0 n_p_spec_l1Rd_pick [v901, .int .i64 2] s509 fun v539 s540 => B P 3 .add (.int .i64 24) v539 fun v541 => AC P w0 n_spec_l1Many ([.string ({ data := #[113] }), v541]) s540 fun v542 s543 => V false 1 v542 (V true 5 (.agg (⟨[v903, v904, .slice none 0 0, v504, v542]⟩)) (R (.agg (⟨[v903, v904, .slice none 0 0, v504, v542]⟩)) s543))) (V true 5 (.agg (⟨[v903, v904, .slice none 0 0, v504, v506]⟩)) (R (.agg (⟨[v903, v904, .slice none 0 0, v504, v506]⟩)) s509)))))))) (cs_spec_l4Call_2 w0 v901 s503 v904 v504 v903 R))) (B P 3 .eql v903 (.int .i64 5) fun v580 => Q v580 (AC P w0 n_spec_l4Path ([v901, .agg (⟨[C v905 0, C v905 1, C v905 2, C v905 3, C v905 4]⟩)]) s902 fun v581 s582 => V false 1 v581 (AC P w0 n_p_spec_l1Rd_pick [v901, .int .i64 2] s582 fun v583 s584 => B P 3 .eql v583 (.int .i64 0) fun v585 => Q v585 (W w0 9 [] s584 fun n586 s587 => N v581 fun v588 => B P 3 .sub v588 (.int .i64 1) fun v589 => pSlice 1 v581 none (some v589) fun v590 => pAppendS w0 9 1 16 (.slice (some (Addr.mk n586 0 none)) 0 0) v590 s587 fun v591 s592 => AC P w0 n_spec_l4Name [v901] s592 fun v593 s594 => V false 1 v593 ((allOne [v593]) ∧ (A w0 9 1 16 v591 1 [v593] s594 fun v595 s596 => V false 1 v595 (cs_spec_l4Call_3 w0 v901 s596 v904 v595 v903 R)))) (cs_spec_l4Call_3 w0 v901 s584 v904 v581 v903 R))) (AC P w0 n_p_spec_l1Rd_pick [v901, .int .i64 40] s902 fun v669 s670 => B P 3 .eql v669 (.int .i64 0) fun v671 => Q v671 (V false 1 (.int .i64 0) (V false 1 (.int .i64 7) (V false 1 (.int .i64 (-1)) (W w0 3 [.int .i64 0, .int .i64 7, .int .i64 (-1)] s670 fun n672 s673 => AC P w0 n_p_spec_l1Rd_pick [v901, .int .i64 3] s673 fun v674 s675 => X 1 (.slice (some (Addr.mk n672 0 none)) 3 3) v674 fun v676 => L w0 1 v676 s675 fun g677 => V false 1 (g677 0) (V true 5 (.agg (⟨[g677 0, v904, .slice none 0 0, .int .i64 0, .string ({ data := #[] })]⟩)) (R (.agg (⟨[g677 0, v904, .slice none 0 0, .int .i64 0, .string ({ data := #[] })]⟩)) s675)))))) (B P 3 .eql v669 (.int .i64 1) fun v678 => Q v678 (W w0 9 [] s670 fun n679 s680 => V false 1 (.slice (some (Addr.mk n679 0 none)) 0 0) (V true 5 (.agg (⟨[v903, .slice (some (Addr.mk n679 0 none)) 0 0, .slice none 0 0, .int .i64 0, .string ({ data := #[] })]⟩)) (R (.agg (⟨[v903, .slice (some (Addr.mk n679 0 none)) 0 0, .slice none 0 0, .int .i64 0, .string ({ data := #[] })]⟩)) s680))) (B P 3 .eql v669 (.int .i64 2) fun v681 => Q v681 (W w0 9 [] s670 fun n682 s683 => pAppendS w0 9 1 16 (.slice (some (Addr.mk n682 0 none)) 0 0) v904 s683 fun v684 s685 => V false 1 (.string ({ data := #[] })) (V false 1 (.string ({ data := #[65] })) (V false 1 (.string ({ data := #[116, 111, 111, 108, 111, 110, 103] })) (V false 1 (.string ({ data := #[120] })) (V false 1 (.string ({ data := #[121] })) (W w0 9 ([.string ({ data := #[] }), .string ({ data := #[65] }), .string ({ data := #[116, 111, 111, 108, 111, 110, 103] }), .string ({ data := #[120] }), .string ({ data := #[121] })]) s685 fun n686 s687 => AC P w0 n_p_spec_l1Rd_of [v901, .slice (some (Addr.mk n686 0 none)) 5 5] s687 fun v688 s689 => V false 1 v688 ((allOne [v688]) ∧ (A w0 9 1 16 v684 1 [v688] s689 fun v690 s691 => V false 1 v690 (V true 5 (.agg (⟨[v903, v690, .slice none 0 0, .int .i64 0, .string ({ data := #[] })]⟩)) (R (.agg (⟨[v903, v690, .slice none 0 0, .int .i64 0, .string ({ data := #[] })]⟩)) s691)))))))))) (B P 3 .eql v669 (.int .i64 3) fun v692 => Q v692 (cs_spec_l4Call_4 w0 s670 v901 v903 v904 R) (B P 3 .eql v669 (.int .i64 4) fun v699 => Q v699 (AC P w0 n_p_spec_l1Rd_pick [v901, .int .i64 2] s670 fun v700 s701 => B P 3 .add (.int .i64 24) v700 fun v702 => AC P w0 n_spec_l1Many ([.string ({ data := #[113] }), v702]) s701 fun v703 s704 => V false 1 v703 (V true 5 (.agg (⟨[v903, v904, .slice none 0 0, .int .i64 0, v703]⟩)) (R (.agg (⟨[v903, v904, .slice none 0 0, .int .i64 0, v703]⟩)) s704))) (V true 5 (.agg (⟨[v903, v904, .slice none 0 0, .int .i64 0, .string ({ data := #[] })]⟩)) (R (.agg (⟨[v903, v904, .slice none 0 0, .int .i64 0, .string ({ data := #[] })]⟩)) s670))))))))
def vc_spec_l4Call (w0 : World) (a0 a1 : Value) (σ : Vw) (R : Value → Vw → Prop) : Prop :=
  V true 5 a1 (AC P w0 n_p_spec_l1Rd_pick [a0, .int .i64 6] σ fun v0 s1 => B P 3 .add (.int .i64 1) v0 fun v2 => AC P w0 n_spec_l4Path ([a0, .agg (⟨[C a1 0, C a1 1, C a1 2, C a1 3, C a1 4]⟩)]) s1 fun v3 s4 => V false 1 v2 (V false 1 v3 (V true 5 (.agg (⟨[v2, v3, .slice none 0 0, .int .i64 0, .string ({ data := #[] })]⟩)) (B P 3 .eql v2 (.int .i64 1) fun v5 => Q v5 (Q v5 (AC P w0 n_p_spec_l1Rd_pick [a0, .int .i64 8] s4 fun v6 s7 => V false 1 v6 (cs_spec_l4Call_2 w0 a0 s7 v3 v6 v2 R)) (B P 3 .eql v2 (.int .i64 2) fun v44 => Q v44 (cs_spec_l4Call_1 w0 v44 a0 s4 v2 v3 a1 R) (B P 3 .eql v2 (.int .i64 3) fun v250 => cs_spec_l4Call_1 w0 v250 a0 s4 v2 v3 a1 R))) (B P 3 .eql v2 (.int .i64 6) fun v456 => Q v456 (AC P w0 n_p_spec_l1Rd_pick [a0, .int .i64 8] s4 fun v457 s458 => V false 1 v457 (cs_spec_l4Call_2 w0 a0 s458 v3 v457 v2 R)) (B P 3 .eql v2 (.int .i64 2) fun v495 => Q v495 (cs_spec_l4Call_1 w0 v495 a0 s4 v2 v3 a1 R) (B P 3 .eql v2 (.int .i64 3) fun v701 => cs_spec_l4Call_1 w0 v701 a0 s4 v2 v3 a1 R)))))))

theorem vc_spec_l4Call_eq (w0 : World) (a0 a1 : Value) (σ : Vw) (R : Value → Vw → Prop) : vc_spec_l4Call w0 a0 a1 σ R = den Tryz.prog w0 kp_spec_l4Call esc_spec_l4Call (Tryz.f123.body.getD .skip) (entry Tryz.f123.ntmps [a0, a1]) σ (retK Tryz.prog Tryz.f123.results.toList R) := by kernel_rfl
theorem ac_spec_l4Call {w0 : World} {a0 a1 : Value} {σ : Vw} {R : Value → Vw → Prop} (h : vc_spec_l4Call w0 a0 a1 σ R) : AC Tryz.prog w0 n_spec_l4Call [a0, a1] σ R := by
  refine ac_rule (fn := Tryz.f123) (c := Tryz.f123.body.getD .skip) kp_spec_l4Call esc_spec_l4Call Tryz.func123 (by kernel_rfl) (by kernel_rfl) ?_
  rw [← vc_spec_l4Call_eq]
  exact h

/-- (impl.Call).isCall -/
def kp_impl_Call_isCall : Nat → Keep
  | _ => ⟨[], [], [], .done, []⟩
/-- spec.l1In -/
def kp_spec_l1In : Nat → Keep
  | _ => ⟨[], [], [], .done, []⟩
def esc_spec_l1In : Nat → Bool
  | _ => false
def vc_spec_l1In (w0 : World) (a0 a1 a2 : Value) (σ : Vw) (R : Value → Vw → Prop) : Prop :=
  B P 3 .geq a0 a1 fun v0 => Q v0 (B P 3 .leq a0 a2 fun v1 => R v1 σ) (R (.bool false) σ)
theorem vc_spec_l1In_eq (w0 : World) (a0 a1 a2 : Value) (σ : Vw) (R : Value → Vw → Prop) : vc_spec_l1In w0 a0 a1 a2 σ R = den Tryz.prog w0 kp_spec_l1In esc_spec_l1In (Tryz.f125.body.getD .skip) (entry Tryz.f125.ntmps [a0, a1, a2]) σ (retK Tryz.prog Tryz.f125.results.toList R) := by kernel_rfl
theorem ac_spec_l1In {w0 : World} {a0 a1 a2 : Value} {σ : Vw} {R : Value → Vw → Prop} (h : vc_spec_l1In w0 a0 a1 a2 σ R) : AC Tryz.prog w0 n_spec_l1In [a0, a1, a2] σ R := by
  refine ac_rule (fn := Tryz.f125) (c := Tryz.f125.body.getD .skip) kp_spec_l1In esc_spec_l1In Tryz.func125 (by kernel_rfl) (by kernel_rfl) ?_
  rw [← vc_spec_l1In_eq]
  exact h

/-- spec.l1Find -/
def kp_spec_l1Find : Nat → Keep
  | 2 => ⟨[1, 4, 5], [(2, 5)], [2], .done, []⟩
  | _ => ⟨[], [], [], .done, []⟩
def esc_spec_l1Find : Nat → Bool
  | _ => false
def vc_spec_l1Find (w0 : World) (a0 a1 : Value) (σ : Vw) (R : Value → Vw → Prop) : Prop :=
  V true 5 a0 (pLoop (fun l0 K1 s2 => N (G l0 6) fun v3 => B P 3 .lss (G l0 2) v3 fun v4 => Q v4 (X 1 (G l0 6) (G l0 2) fun v5 => L w0 1 v5 s2 fun g6 => B P 9 .eql (g6 0) (G l0 0) fun v7 => Q v7 (K1 .ret [G l0 0, G l0 2, G l0 2, G l0 3, G l0 4, G l0 5, G l0 6, G l0 7] s2) (B P 3 .add (G l0 2) (.int .i64 1) fun v8 => K1 .normal [G l0 0, G l0 1, v8, G l0 3, G l0 4, G l0 5, G l0 6, G l0 7] s2)) (K1 (.exit 0) [G l0 0, G l0 1, G l0 2, G l0 3, G l0 4, G l0 5, G l0 6, G l0 7] s2)) [a1, .int .i64 0, .int .i64 0, C a0 0, C a0 1, C a0 2, C a0 3, C a0 4] σ fun x9 l10 s11 => match x9 with | .normal => R (.int .i64 (-1)) s11 | .ret => R (G l10 1) s11 | .exit i12 => (match Nat.beq i12 0 with | true => R (.int .i64 (-1)) s11 | false => False))
theorem vc_spec_l1Find_eq (w0 : World) (a0 a1 : Value) (σ : Vw) (R : Value → Vw → Prop) : vc_spec_l1Find w0 a0 a1 σ R = den Tryz.prog w0 kp_spec_l1Find esc_spec_l1Find (Tryz.f126.body.getD .skip) (entry Tryz.f126.ntmps [a0, a1]) σ (retK Tryz.prog Tryz.f126.results.toList R) := by kernel_rfl
theorem ac_spec_l1Find {w0 : World} {a0 a1 : Value} {σ : Vw} {R : Value → Vw → Prop} (h : vc_spec_l1Find w0 a0 a1 σ R) : AC Tryz.prog w0 n_spec_l1Find [a0, a1] σ R := by
  refine ac_rule (fn := Tryz.f126) (c := Tryz.f126.body.getD .skip) kp_spec_l1Find esc_spec_l1Find Tryz.func126 (by kernel_rfl) (by kernel_rfl) ?_
  rw [← vc_spec_l1Find_eq]
  exact h

/-- spec.l1Copy -/
def kp_spec_l1Copy : Nat → Keep
  | 1 => ⟨[], [], [], .step 0 (.step 1 (.step 2 (.step 3 (.step 4 (.step 5 (.step 7 (.step 8 (.step 11 (.step 6 (.step 9 (.step 10 (.step 12 (.done))))))))))))), [(1, [0]), (3, [2]), (5, [4]), (8, [7]), (9, [6, 7, 8]), (10, [0, 1, 2, 3, 4, 5, 6, 7, 8, 9]), (12, [0, 1, 2, 3, 4, 5, 6, 7, 8, 9, 10, 11])]⟩
  | 3 => ⟨[4], [(1, 5), (2, 5), (3, 5)], [1, 2, 3], .done, []⟩
  | 5 => ⟨[], [], [], .step 0 (.step 1 (.step 2 (.step 3 (.step 4 (.step 5 (.step 6 (.step 7 (.step 8 (.step 9 (.step 10 (.step 11 (.done)))))))))))), [(1, [0]), (3, [2]), (5, [2, 3, 4]), (6, [2, 3, 4, 5]), (7, [2, 3, 4, 5, 6]), (8, [2, 3, 4, 5, 6, 7]), (9, [0, 1, 2, 3, 4, 5, 6, 7, 8]), (10, [0, 1, 2, 3, 4, 5, 6, 7, 8, 9]), (11, [0, 1, 2, 3, 4, 5, 6, 7, 8, 9, 10])]⟩
  | _ => ⟨[], [], [], .done, []⟩
def esc_spec_l1Copy : Nat → Bool
  | 11 => true
  | _ => false
def vc_spec_l1Copy (w0 : World) (a0 : Value) (σ : Vw) (R : Value → Vw → Prop) : Prop :=
  V true 5 a0 (W w0 9 [] σ fun n0 s1 => pAppendS w0 9 1 16 (.slice (some (Addr.mk n0 0 none)) 0 0) (C a0 3) s1 fun v2 s3 => V false 1 (C a0 0) (V false 1 (C a0 1) (V false 1 (C a0 2) (V false 1 v2 (V true 5 (.agg (⟨[C a0 0, C a0 1, C a0 2, v2, .slice none 0 0]⟩)) (pLoop (fun l4 K5 s6 => N (G l4 5) fun v7 => B P 3 .lss (G l4 0) v7 fun v8 => Q v8 (X 5 (G l4 5) (G l4 0) fun v9 => L w0 5 v9 s6 fun g10 => AC P w0 n_spec_l1Copy ([.agg (⟨[g10 0, g10 1, g10 2, g10 3, g10 4]⟩)]) s6 fun v11 s12 => V true 5 v11 ((allOne [C v11 0, C v11 1, C v11 2, C v11 3, C v11 4]) ∧ (A w0 26 5 80 (G l4 15) 1 [C v11 0, C v11 1, C v11 2, C v11 3, C v11 4] s12 fun v13 s14 => V false 1 v13 (B P 3 .add (G l4 0) (.int .i64 1) fun v15 => K5 .normal [v15, G l4 1, G l4 2, G l4 3, G l4 4, G l4 5, G l4 6, G l4 7, G l4 8, G l4 9, G l4 10, G l4 11, G l4 12, G l4 13, G l4 14, v13] s14)))) (K5 (.exit 0) [G l4 0, G l4 1, G l4 2, G l4 3, G l4 4, G l4 5, G l4 6, G l4 7, G l4 8, G l4 9, G l4 10, G l4 11, G l4 12, G l4 13, G l4 14, G l4 15] s6)) ([.int .i64 0, C a0 0, C a0 1, C a0 2, C a0 3, C a0 4, .bool false, .int .i64 0, .string ({ data := #[] }), .slice none 0 0, .slice none 0 0, C a0 0, C a0 1, C a0 2, v2, .slice none 0 0]) s3 fun x16 l17 s18 => match x16 with | .normal => V true 5 (.agg (⟨[G l17 11, G l17 12, G l17 13, G l17 14, G l17 15]⟩)) (R (.agg (⟨[G l17 11, G l17 12, G l17 13, G l17 14, G l17 15]⟩)) s18) | .ret => R (.agg (⟨[G l17 6, G l17 7, G l17 8, G l17 9, G l17 10]⟩)) s18 | .exit i19 => (match Nat.beq i19 0 with | true => V true 5 (.agg (⟨[G l17 11, G l17 12, G l17 13, G l17 14, G l17 15]⟩)) (R (.agg (⟨[G l17 11, G l17 12, G l17 13, G l17 14, G l17 15]⟩)) s18) | false => False)))))))
theorem vc_spec_l1Copy_eq (w0 : World) (a0 : Value) (σ : Vw) (R : Value → Vw → Prop) : vc_spec_l1Copy w0 a0 σ R = den Tryz.prog w0 kp_spec_l1Copy esc_spec_l1Copy (Tryz.f127.body.getD .skip) (entry Tryz.f127.ntmps [a0]) σ (retK Tryz.prog Tryz.f127.results.toList R) := by kernel_rfl
theorem ac_spec_l1Copy {w0 : World} {a0 : Value} {σ : Vw} {R : Value → Vw → Prop} (h : vc_spec_l1Copy w0 a0 σ R) : AC Tryz.prog w0 n_spec_l1Copy [a0] σ R := by
  refine ac_rule (fn := Tryz.f127) (c := Tryz.f127.body.getD .skip) kp_spec_l1Copy esc_spec_l1Copy Tryz.func127 (by kernel_rfl) (by kernel_rfl) ?_
  rw [← vc_spec_l1Copy_eq]
  exact h

/-- spec.l1Many -/
def kp_spec_l1Many : Nat → Keep
  | 2 => ⟨[0, 1, 5], [], [], .done, []⟩
  | _ => ⟨[], [], [], .done, []⟩
def esc_spec_l1Many : Nat → Bool
  | _ => false
def vc_spec_l1Many (w0 : World) (a0 a1 : Value) (σ : Vw) (R : Value → Vw → Prop) : Prop :=
  pLoop (fun l0 K1 s2 => B P 3 .gtr (G l0 1) (.int .i64 0) fun v3 => Q v3 (B P 3 .rem (G l0 1) (.int .i64 2) fun v4 => B P 3 .eql v4 (.int .i64 1) fun v5 => Q v5 (B P 9 .add (G l0 2) (G l0 0) fun v6 => B P 9 .add (G l0 0) (G l0 0) fun v7 => B P 3 .quo (G l0 1) (.int .i64 2) fun v8 => K1 .normal [v7, v8, v6] s2) (B P 9 .add (G l0 0) (G l0 0) fun v9 => B P 3 .quo (G l0 1) (.int .i64 2) fun v10 => K1 .normal [v9, v10, G l0 2] s2)) (K1 (.exit 0) [G l0 0, G l0 1, G l0 2] s2)) ([a0, a1, .string ({ data := #[] })]) σ fun x11 l12 s13 => match x11 with | .normal => R (G l12 2) s13 | .ret => False | .exit i14 => (match Nat.beq i14 0 with | true => R (G l12 2) s13 | false => False)
theorem vc_spec_l1Many_eq (w0 : World) (a0 a1 : Value) (σ : Vw) (R : Value → Vw → Prop) : vc_spec_l1Many w0 a0 a1 σ R = den Tryz.prog w0 kp_spec_l1Many esc_spec_l1Many (Tryz.f128.body.getD .skip) (entry Tryz.f128.ntmps [a0, a1]) σ (retK Tryz.prog Tryz.f128.results.toList R) := by kernel_rfl
theorem ac_spec_l1Many {w0 : World} {a0 a1 : Value} {σ : Vw} {R : Value → Vw → Prop} (h : vc_spec_l1Many w0 a0 a1 σ R) : AC Tryz.prog w0 n_spec_l1Many [a0, a1] σ R := by
  refine ac_rule (fn := Tryz.f128) (c := Tryz.f128.body.getD .skip) kp_spec_l1Many esc_spec_l1Many Tryz.func128 (by kernel_rfl) (by kernel_rfl) ?_
  rw [← vc_spec_l1Many_eq]
  exact h

/-- spec.l1Dec -/
def kp_spec_l1Dec : Nat → Keep
  | 7 => ⟨[], [], [], .step 0 (.step 1 (.step 3 (.step 4 (.step 5 (.step 6 (.both (.step 2 (.step 7 (.step 8 (.step 9 (.step 10 (.done)))))) (.step 7 (.step 8 (.step 2 (.step 9 (.step 10 (.done)))))))))))), [(1, [0]), (2, [0, 1]), (4, [3]), (5, [3, 4]), (6, [3, 4, 5]), (7, [3, 4, 5, 6]), (8, [3, 4, 5, 6, 7]), (9, [0, 1, 2, 3, 4, 5, 6, 7, 8]), (10, [0, 1, 2, 3, 4, 5, 6, 7, 8, 9])]⟩
  | _ => ⟨[], [], [], .done, []⟩
def esc_spec_l1Dec : Nat → Bool
  | 16 => true
  | 25 => true
  | _ => false
def vc_spec_l1Dec (w0 : World) (a0 : Value) (σ : Vw) (R : Value → Vw → Prop) : Prop :=
  B P 3 .lss a0 (.int .i64 (-9223372036854775807)) fun v0 => Q v0 (R (.string ({ data := #[45, 57, 50, 50, 51, 51, 55, 50, 48, 51, 54, 56, 53, 52, 55, 55, 53, 56, 48, 56] })) σ) (B P 3 .lss a0 (.int .i64 0) fun v1 => Q v1 (pUn .neg a0 fun v2 => AC P w0 n_spec_l1Dec [v2] σ fun v3 s4 => B P 9 .add (.string ({ data := #[45] })) v3 fun v5 => R v5 s4) (B P 3 .lss a0 (.int .i64 10) fun v6 => Q v6 (B P 3 .add (.int .i64 48) a0 fun v7 => pConvInt .u8 v7 fun v8 => V false 1 v8 (W w0 5 [v8] σ fun n9 s10 => pStr w0 (.slice (some (Addr.mk n9 0 none)) 1 1) s10 fun v11 => R v11 s10)) (B P 3 .quo a0 (.int .i64 10) fun v12 => B P 3 .rem a0 (.int .i64 10) fun v13 => B P 3 .add (.int .i64 48) v13 fun v14 => pConvInt .u8 v14 fun v15 => (AC P w0 n_spec_l1Dec [v12] σ fun v16 s17 => V false 1 v15 (W w0 5 [v15] s17 fun n18 s19 => pStr w0 (.slice (some (Addr.mk n18 0 none)) 1 1) s19 fun v20 => B P 9 .add v16 v20 fun v21 => R v21 s19)) ∧ (V false 1 v15 (W w0 5 [v15] σ fun n22 s23 => pStr w0 (.slice (some (Addr.mk n22 0 none)) 1 1) s23 fun v24 => AC P w0 n_spec_l1Dec [v12] s23 fun v25 s26 => (Ext s23 s26) ∧ (B P 9 .add v25 v24 fun v27 => R v27 s26))))))
theorem vc_spec_l1Dec_eq (w0 : World) (a0 : Value) (σ : Vw) (R : Value → Vw → Prop) : vc_spec_l1Dec w0 a0 σ R = den Tryz.prog w0 kp_spec_l1Dec esc_spec_l1Dec (Tryz.f129.body.getD .skip) (entry Tryz.f129.ntmps [a0]) σ (retK Tryz.prog Tryz.f129.results.toList R) := by kernel_rfl
theorem ac_spec_l1Dec {w0 : World} {a0 : Value} {σ : Vw} {R : Value → Vw → Prop} (h : vc_spec_l1Dec w0 a0 σ R) : AC Tryz.prog w0 n_spec_l1Dec [a0] σ R := by
  refine ac_rule (fn := Tryz.f129) (c := Tryz.f129.body.getD .skip) kp_spec_l1Dec esc_spec_l1Dec Tryz.func129 (by kernel_rfl) (by kernel_rfl) ?_
  rw [← vc_spec_l1Dec_eq]
  exact h

/-- spec.TrailDo -/
def kp_spec_TrailDo : Nat → Keep
  | 7 => ⟨[], [], [], .step 0 (.step 1 (.step 3 (.step 2 (.step 4 (.step 5 (.step 6 (.done))))))), [(2, [1]), (4, [0, 1, 2]), (5, [0, 1, 2, 4]), (6, [0, 1, 2, 3, 4, 5])]⟩
  | 11 => ⟨[11, 12, 13], [(6, 5), (9, 5)], [6, 9], .done, []⟩
  | _ => ⟨[], [], [], .done, []⟩
def esc_spec_TrailDo : Nat → Bool
  | 18 => true
  | 28 => true
  | _ => false
def vc_spec_TrailDo (w0 : World) (a0 a1 a2 : Value) (σ : Vw) (R : Value → Vw → Prop) : Prop :=
  V true 5 a0 (V true 5 a2 (AC P w0 n_spec_TrailOk [a1] σ fun v0 s1 => pUn .not v0 fun v2 => Q v2 (W w0 31 [] s1 fun n3 s4 => V true 5 (.agg (⟨[.bool false, .int .i64 0, .string ({ data := #[] }), .slice none 0 0, .slice none 0 0]⟩)) (R (.tuple (⟨[.agg (⟨[.bool false, .int .i64 0, .string ({ data := #[] }), .slice none 0 0, .slice none 0 0]⟩), .slice (some (Addr.mk n3 0 none)) 0 0, .int .i64 1]⟩)) s4)) (AC P w0 n_spec_TreeDo ([.agg (⟨[C a0 0, C a0 1, C a0 2, C a0 3, C a0 4]⟩), .agg (⟨[C a2 0, C a2 1, C a2 2, C a2 3, C a2 4]⟩)]) s1 fun v5 s6 => E v5 0 fun v7 => E v5 1 fun v8 => V true 5 v7 (B P 3 .eql v8 (.int .i64 1) fun v9 => Q v9 (W w0 31 [] s6 fun n10 s11 => V true 5 (.agg (⟨[.bool false, .int .i64 0, .string ({ data := #[] }), .slice none 0 0, .slice none 0 0]⟩)) (R (.tuple (⟨[.agg (⟨[.bool false, .int .i64 0, .string ({ data := #[] }), .slice none 0 0, .slice none 0 0]⟩), .slice (some (Addr.mk n10 0 none)) 0 0, .int .i64 1]⟩)) s11)) (B P 3 .neq v8 (.int .i64 0) fun v12 => Q v12 (AC P w0 n_spec_l11Copy [a1] s6 fun v13 s14 => V true 5 (.agg (⟨[C v7 0, C v7 1, C v7 2, C v7 3, C v7 4]⟩)) (R (.tuple (⟨[.agg (⟨[C v7 0, C v7 1, C v7 2, C v7 3, C v7 4]⟩), v13, v8]⟩)) s14)) (AC P w0 n_spec_TrailOf ([.agg (⟨[C a0 0, C a0 1, C a0 2, C a0 3, C a0 4]⟩), .agg (⟨[C a2 0, C a2 1, C a2 2, C a2 3, C a2 4]⟩)]) s6 fun v15 s16 => AC P w0 n_spec_l11Copy [a1] s16 fun v17 s18 => pLoop (fun l19 K20 s21 => N (G l19 0) fun v22 => B P 3 .lss (G l19 2) v22 fun v23 => Q v23 (X 2 (G l19 0) (G l19 2) fun v24 => L w0 2 v24 s21 fun g25 => AC P w0 n_spec_TrailAdd ([G l19 1, .agg (⟨[g25 0, g25 1]⟩)]) s21 fun v26 s27 => B P 3 .add (G l19 2) (.int .i64 1) fun v28 => K20 .normal [G l19 0, v26, v28, G l19 3, G l19 4, G l19 5, G l19 6, G l19 7, G l19 8, G l19 9, G l19 10, G l19 11, G l19 12] s27) (K20 (.exit 0) [G l19 0, G l19 1, G l19 2, G l19 3, G l19 4, G l19 5, G l19 6, G l19 7, G l19 8, G l19 9, G l19 10, G l19 11, G l19 12] s21)) ([v15, v17, .int .i64 0, .bool false, .int .i64 0, .string ({ data := #[] }), .slice none 0 0, .slice none 0 0, C v7 0, C v7 1, C v7 2, C v7 3, C v7 4]) s18 fun x29 l30 s31 => match x29 with | .normal => V true 5 (.agg (⟨[G l30 8, G l30 9, G l30 10, G l30 11, G l30 12]⟩)) (R (.tuple (⟨[.agg (⟨[G l30 8, G l30 9, G l30 10, G l30 11, G l30 12]⟩), G l30 1, .int .i64 0]⟩)) s31) | .ret => False | .exit i32 => (match Nat.beq i32 0 with | true => V true 5 (.agg (⟨[G l30 8, G l30 9, G l30 10, G l30 11, G l30 12]⟩)) (R (.tuple (⟨[.agg (⟨[G l30 8, G l30 9, G l30 10, G l30 11, G l30 12]⟩), G l30 1, .int .i64 0]⟩)) s31) | false => False)))))))
theorem vc_spec_TrailDo_eq (w0 : World) (a0 a1 a2 : Value) (σ : Vw) (R : Value → Vw → Prop) : vc_spec_TrailDo w0 a0 a1 a2 σ R = den Tryz.prog w0 kp_spec_TrailDo esc_spec_TrailDo (Tryz.f130.body.getD .skip) (entry Tryz.f130.ntmps [a0, a1, a2]) σ (retK Tryz.prog Tryz.f130.results.toList R) := by kernel_rfl
theorem ac_spec_TrailDo {w0 : World} {a0 a1 a2 : Value} {σ : Vw} {R : Value → Vw → Prop} (h : vc_spec_TrailDo w0 a0 a1 a2 σ R) : AC Tryz.prog w0 n_spec_TrailDo [a0, a1, a2] σ R := by
  refine ac_rule (fn := Tryz.f130) (c := Tryz.f130.body.getD .skip) kp_spec_TrailDo esc_spec_TrailDo Tryz.func130 (by kernel_rfl) (by kernel_rfl) ?_
  rw [← vc_spec_TrailDo_eq]
  exact h

/-- spec.l4Name -/
def kp_spec_l4Name : Nat → Keep
  | _ => ⟨[], [], [], .done, []⟩
def esc_spec_l4Name : Nat → Bool
  | 4 => true
  | _ => false
def vc_spec_l4Name (w0 : World) (a0 : Value) (σ : Vw) (R : Value → Vw → Prop) : Prop :=
  V false 1 (.string ({ data := #[97] })) (V false 1 (.string ({ data := #[98] })) (V false 1 (.string ({ data := #[99] })) (V false 1 (.string ({ data := #[100, 49] })) (V false 1 (.string ({ data := #[101] })) (W w0 9 ([.string ({ data := #[97] }), .string ({ data := #[98] }), .string ({ data := #[99] }), .string ({ data := #[100, 49] }), .string ({ data := #[101] })]) σ fun n0 s1 => AC P w0 n_p_spec_l1Rd_of [a0, .slice (some (Addr.mk n0 0 none)) 5 5] s1 fun v2 s3 => R v2 s3)))))
theorem vc_spec_l4Name_eq (w0 : World) (a0 : Value) (σ : Vw) (R : Value → Vw → Prop) : vc_spec_l4Name w0 a0 σ R = den Tryz.prog w0 kp_spec_l4Name esc_spec_l4Name (Tryz.f131.body.getD .skip) (entry Tryz.f131.ntmps [a0]) σ (retK Tryz.prog Tryz.f131.results.toList R) := by kernel_rfl
theorem ac_spec_l4Name {w0 : World} {a0 : Value} {σ : Vw} {R : Value → Vw → Prop} (h : vc_spec_l4Name w0 a0 σ R) : AC Tryz.prog w0 n_spec_l4Name [a0] σ R := by
  refine ac_rule (fn := Tryz.f131) (c := Tryz.f131.body.getD .skip) kp_spec_l4Name esc_spec_l4Name Tryz.func131 (by kernel_rfl) (by kernel_rfl) ?_
  rw [← vc_spec_l4Name_eq]
  exact h

/-- spec.l2Do -/
def kp_spec_l2Do : Nat → Keep
  | 9 => ⟨[], [], [], .step 0 (.step 1 (.step 2 (.step 3 (.step 4 (.step 5 (.step 7 (.step 6 (.step 8 (.step 9 (.step 10 (.step 11 (.step 12 (.done))))))))))))), [(2, [1]), (4, [3]), (5, [3, 4]), (6, [0, 1, 2, 3, 4, 5]), (8, [0, 1, 2, 3, 4, 5, 6, 7]), (9, [0, 1, 2, 3, 4, 5, 6, 7, 8]), (10, [0, 1, 2, 3, 4, 5, 6, 7, 8]), (11, [0, 1, 2, 3, 4, 5, 6, 7, 8, 9, 10]), (12, [0, 1, 2, 3, 4, 5, 6, 7, 8, 9, 10, 11])]⟩
  | _ => ⟨[], [], [], .done, []⟩
def esc_spec_l2Do : Nat → Bool
  | _ => false
def cs_spec_l2Do_1 (w0 : World) (v900 : Value) (v901 : Value) (v902 : Value) (s903 : Vw) (v904 : Value) (v905 : Value) (R : Value → Vw → Prop) : Prop :=
  Q v900 (AC P w0 n_spec_l2File ([.agg (⟨[C v901 0, C v901 1, C v901 2, C v901 3, C v901 4]⟩), .agg (⟨[C v902 0, C v902 1, C v902 2, C v902 3, C v902 4]⟩)]) s903 fun v500 s501 => E v500 0 fun v502 => E v500 1 fun v503 => V true 5 v502 (R (.tuple (⟨[.agg (⟨[C v502 0, C v502 1, C v502 2, C v502 3, C v502 4]⟩), v503]⟩)) s501)) (B P 3 .eql (C v902 0) (.int .i64 5) fun v504 => Q v504 (AC P w0 n_spec_l2Rename ([.agg (⟨[C v901 0, C v901 1, C v901 2, C v901 3, C v901 4]⟩), .agg (⟨[C v902 0, C v902 1, C v902 2, C v902 3, C v902 4]⟩)]) s903 fun v505 s506 => E v505 0 fun v507 => E v505 1 fun v508 => V true 5 v507 (R (.tuple (⟨[.agg (⟨[C v507 0, C v507 1, C v507 2, C v507 3, C v507 4]⟩), v508]⟩)) s506)) (pUn .not v904 fun v509 => Q v509 (V true 5 (.agg (⟨[C v901 0, C v901 1, C v901 2, C v901 3, C v901 4]⟩)) (R (.tuple (⟨[.agg (⟨[C v901 0, C v901 1, C v901 2, C v901 3, C v901 4]⟩), .int .i64 3]⟩)) s903)) (B P 3 .eql (C v902 0) (.int .i64 4) fun v510 => Q v510 (N (C v905 3) fun v511 => B P 3 .gtr v511 (.int .i64 0) fun v512 => Q v512 (V true 5 (.agg (⟨[C v901 0, C v901 1, C v901 2, C v901 3, C v901 4]⟩)) (R (.tuple (⟨[.agg (⟨[C v901 0, C v901 1, C v901 2, C v901 3, C v901 4]⟩), .int .i64 5]⟩)) s903)) (AC P w0 n_spec_l2Set ([.agg (⟨[C v901 0, C v901 1, C v901 2, C v901 3, C v901 4]⟩), C v902 1, .agg (⟨[.bool false, .int .i64 0, .string ({ data := #[] }), .slice none 0 0, .slice none 0 0]⟩), .bool true]) s903 fun v513 s514 => V true 5 v513 (R (.tuple (⟨[.agg (⟨[C v513 0, C v513 1, C v513 2, C v513 3, C v513 4]⟩), .int .i64 0]⟩)) s514))) (V false 1 (C v902 3) (AC P w0 n_spec_l2Set ([.agg (⟨[C v901 0, C v901 1, C v901 2, C v901 3, C v901 4]⟩), C v902 1, .agg (⟨[C v905 0, C v902 3, C v905 2, C v905 3, C v905 4]⟩), .bool false]) s903 fun v515 s516 => V true 5 v515 (R (.tuple (⟨[.agg (⟨[C v515 0, C v515 1, C v515 2, C v515 3, C v515 4]⟩), .int .i64 0]⟩)) s516))))))
def vc_spec_l2Do (w0 : World) (a0 a1 : Value) (σ : Vw) (R : Value → Vw → Prop) : Prop :=
  V true 5 a0 (V true 5 a1 (AC P w0 n_spec_l2Parent ([.agg (⟨[C a0 0, C a0 1, C a0 2, C a0 3, C a0 4]⟩), C a1 1]) σ fun v0 s1 => B P 3 .neq v0 (.int .i64 0) fun v2 => Q v2 (V true 5 (.agg (⟨[C a0 0, C a0 1, C a0 2, C a0 3, C a0 4]⟩)) (R (.tuple (⟨[.agg (⟨[C a0 0, C a0 1, C a0 2, C a0 3, C a0 4]⟩), v0]⟩)) s1)) (AC P w0 n_spec_l1At ([.agg (⟨[C a0 0, C a0 1, C a0 2, C a0 3, C a0 4]⟩), C a1 1]) s1 fun v3 s4 => E v3 0 fun v5 => E v3 1 fun v6 => V true 5 v5 (B P 3 .eql (C a1 0) (.int .i64 1) fun v7 => Q v7 (Q v6 (V true 5 (.agg (⟨[C a0 0, C a0 1, C a0 2, C a0 3, C a0 4]⟩)) (R (.tuple (⟨[.agg (⟨[C a0 0, C a0 1, C a0 2, C a0 3, C a0 4]⟩), .int .i64 5]⟩)) s4)) (V false 1 (.bool true) (V false 1 (C a1 3) (AC P w0 n_spec_l2Set ([.agg (⟨[C a0 0, C a0 1, C a0 2, C a0 3, C a0 4]⟩), C a1 1, .agg (⟨[.bool true, C a1 3, .string ({ data := #[] }), .slice none 0 0, .slice none 0 0]⟩), .bool false]) s4 fun v8 s9 => AC P w0 n_spec_l2Fits ([v8, .agg (⟨[C a0 0, C a0 1, C a0 2, C a0 3, C a0 4]⟩)]) s9 fun v10 s11 => E v10 0 fun v12 => E v10 1 fun v13 => V true 5 v12 (R (.tuple (⟨[.agg (⟨[C v12 0, C v12 1, C v12 2, C v12 3, C v12 4]⟩), v13]⟩)) s11))))) (B P 3 .eql (C a1 0) (.int .i64 2) fun v14 => Q v14 (cs_spec_l2Do_1 w0 v14 a0 a1 s4 v6 v5 R) (B P 3 .eql (C a1 0) (.int .i64 3) fun v32 => cs_spec_l2Do_1 w0 v32 a0 a1 s4 v6 v5 R))))))

theorem vc_spec_l2Do_eq (w0 : World) (a0 a1 : Value) (σ : Vw) (R : Value → Vw → Prop) : vc_spec_l2Do w0 a0 a1 σ R = den Tryz.prog w0 kp_spec_l2Do esc_spec_l2Do (Tryz.f132.body.getD .skip) (entry Tryz.f132.ntmps [a0, a1]) σ (retK Tryz.prog Tryz.f132.results.toList R) := by kernel_rfl
theorem ac_spec_l2Do {w0 : World} {a0 a1 : Value} {σ : Vw} {R : Value → Vw → Prop} (h : vc_spec_l2Do w0 a0 a1 σ R) : AC Tryz.prog w0 n_spec_l2Do [a0, a1] σ R := by
  refine ac_rule (fn := Tryz.f132) (c := Tryz.f132.body.getD .skip) kp_spec_l2Do esc_spec_l2Do Tryz.func132 (by kernel_rfl) (by kernel_rfl) ?_
  rw [← vc_spec_l2Do_eq]
  exact h

/-- impl.modeOk -/
def kp_impl_modeOk : Nat → Keep
  | _ => ⟨[], [], [], .done, []⟩
def esc_impl_modeOk : Nat → Bool
  | _ => false
def vc_impl_modeOk (w0 : World) (a0 : Value) (σ : Vw) (R : Value → Vw → Prop) : Prop :=
  AC P w0 n_impl_within [a0, .int .i64 0, .int .i64 7] σ fun v0 s1 => R v0 s1
theorem vc_impl_modeOk_eq (w0 : World) (a0 : Value) (σ : Vw) (R : Value → Vw → Prop) : vc_impl_modeOk w0 a0 σ R = den Tryz.prog w0 kp_impl_modeOk esc_impl_modeOk (Tryz.f133.body.getD .skip) (entry Tryz.f133.ntmps [a0]) σ (retK Tryz.prog Tryz.f133.results.toList R) := by kernel_rfl
theorem ac_impl_modeOk {w0 : World} {a0 : Value} {σ : Vw} {R : Value → Vw → Prop} (h : vc_impl_modeOk w0 a0 σ R) : AC Tryz.prog w0 n_impl_modeOk [a0] σ R := by
  refine ac_rule (fn := Tryz.f133) (c := Tryz.f133.body.getD .skip) kp_impl_modeOk esc_impl_modeOk Tryz.func133 (by kernel_rfl) (by kernel_rfl) ?_
  rw [← vc_impl_modeOk_eq]
  exact h

/-- impl.nameOk -/
def kp_impl_nameOk : Nat → Keep
  | 2 => ⟨[0, 2, 5, 6], [], [], .done, []⟩
  | _ => ⟨[], [], [], .done, []⟩
def esc_impl_nameOk : Nat → Bool
  | _ => false
def vc_impl_nameOk (w0 : World) (a0 : Value) (σ : Vw) (R : Value → Vw → Prop) : Prop :=
  pLenS a0 fun v0 => pLoop (fun l1 K2 s3 => B P 3 .lss (G l1 3) (G l1 2) fun v4 => Q v4 (pIndexStr (G l1 0) (G l1 3) fun v5 => B P 5 .lss v5 (.int .u8 97) fun v6 => Q v6 (pIndexStr (G l1 0) (G l1 3) fun v7 => B P 5 .lss v7 (.int .u8 48) fun v8 => Q v8 (K2 .ret [G l1 0, .bool false, G l1 2, G l1 3] s3) (pIndexStr (G l1 0) (G l1 3) fun v9 => B P 5 .gtr v9 (.int .u8 57) fun v10 => Q v10 (K2 .ret [G l1 0, .bool false, G l1 2, G l1 3] s3) (B P 3 .add (G l1 3) (.int .i64 1) fun v11 => K2 .normal [G l1 0, G l1 1, G l1 2, v11] s3))) (pIndexStr (G l1 0) (G l1 3) fun v12 => B P 5 .gtr v12 (.int .u8 122) fun v13 => Q v13 (pIndexStr (G l1 0) (G l1 3) fun v14 => B P 5 .lss v14 (.int .u8 48) fun v15 => Q v15 (K2 .ret [G l1 0, .bool false, G l1 2, G l1 3] s3) (pIndexStr (G l1 0) (G l1 3) fun v16 => B P 5 .gtr v16 (.int .u8 57) fun v17 => Q v17 (K2 .ret [G l1 0, .bool false, G l1 2, G l1 3] s3) (B P 3 .add (G l1 3) (.int .i64 1) fun v18 => K2 .normal [G l1 0, G l1 1, G l1 2, v18] s3))) (B P 3 .add (G l1 3) (.int .i64 1) fun v19 => K2 .normal [G l1 0, G l1 1, G l1 2, v19] s3))) (K2 (.exit 0) [G l1 0, G l1 1, G l1 2, G l1 3] s3)) [a0, .bool false, v0, .int .i64 0] σ fun x20 l21 s22 => match x20 with | .normal => pLenS (G l21 0) (fun v23 => AC P w0 n_impl_within [v23, .int .i64 1, .int .i64 5] s22 fun v24 s25 => R v24 s25) | .ret => R (G l21 1) s22 | .exit i26 => (match Nat.beq i26 0 with | true => pLenS (G l21 0) (fun v27 => AC P w0 n_impl_within [v27, .int .i64 1, .int .i64 5] s22 fun v28 s29 => R v28 s29) | false => False)
theorem vc_impl_nameOk_eq (w0 : World) (a0 : Value) (σ : Vw) (R : Value → Vw → Prop) : vc_impl_nameOk w0 a0 σ R = den Tryz.prog w0 kp_impl_nameOk esc_impl_nameOk (Tryz.f134.body.getD .skip) (entry Tryz.f134.ntmps [a0]) σ (retK Tryz.prog Tryz.f134.results.toList R) := by kernel_rfl
theorem ac_impl_nameOk {w0 : World} {a0 : Value} {σ : Vw} {R : Value → Vw → Prop} (h : vc_impl_nameOk w0 a0 σ R) : AC Tryz.prog w0 n_impl_nameOk [a0] σ R := by
  refine ac_rule (fn := Tryz.f134) (c := Tryz.f134.body.getD .skip) kp_impl_nameOk esc_impl_nameOk Tryz.func134 (by kernel_rfl) (by kernel_rfl) ?_
  rw [← vc_impl_nameOk_eq]
  exact h

/-- (impl.Tree).each -/
def kp_impl_Tree_each : Nat → Keep
  | 3 => ⟨[1, 2, 13, 14, 15], [(3, 5)], [3], .done, []⟩
  | 5 => ⟨[], [], [], .step 0 (.step 1 (.step 2 (.step 3 (.step 4 (.step 5 (.step 6 (.step 8 (.step 7 (.step 9 (.done)))))))))), [(1, [0]), (3, [0, 1, 2]), (4, [0, 1, 2, 3]), (7, [5, 6]), (9, [0, 1, 2, 3, 4, 5, 6, 7, 8])]⟩
  | _ => ⟨[], [], [], .done, []⟩
def esc_impl_Tree_each : Nat → Bool
  | _ => false
def vc_impl_Tree_each (w0 : World) (a0 a1 a2 : Value) (σ : Vw) (R : Value → Vw → Prop) : Prop :=
  V true 5 a0 (pCallV (fun n0 l1 s2 K3 => AC P w0 n0 l1 s2 K3) a2 ([a1, .agg (⟨[C a0 0, C a0 1, C a0 2, C a0 3, C a0 4]⟩)]) σ fun v4 s5 => N (C a0 3) fun v6 => pLoop (fun l7 K8 s9 => B P 3 .lss (G l7 4) (G l7 3) fun v10 => Q v10 (X 1 (G l7 2) (G l7 4) fun v11 => L w0 1 v11 s9 fun g12 => X 5 (G l7 9) (G l7 4) fun v13 => L w0 5 v13 s9 fun g14 => AC P w0 n_impl_below [G l7 0, g12 0] s9 fun v15 s16 => (Stay w0 s9 s16 v13 5) ∧ (AC P w0 n_impl_Tree_each ([.agg (⟨[g14 0, g14 1, g14 2, g14 3, g14 4]⟩), v15, G l7 1]) s16 fun v17 s18 => B P 3 .add (G l7 4) (.int .i64 1) fun v19 => K8 .normal [G l7 0, G l7 1, G l7 2, G l7 3, v19, G l7 5, G l7 6, G l7 7, G l7 8, G l7 9] s18)) (K8 (.exit 0) [G l7 0, G l7 1, G l7 2, G l7 3, G l7 4, G l7 5, G l7 6, G l7 7, G l7 8, G l7 9] s9)) [a1, a2, C a0 3, v6, .int .i64 0, C a0 0, C a0 1, C a0 2, C a0 3, C a0 4] s5 fun x20 l21 s22 => match x20 with | .normal => R (.tuple ⟨[]⟩) s22 | .ret => R (.tuple ⟨[]⟩) s22 | .exit i23 => (match Nat.beq i23 0 with | true => R (.tuple ⟨[]⟩) s22 | false => False))
theorem vc_impl_Tree_each_eq (w0 : World) (a0 a1 a2 : Value) (σ : Vw) (R : Value → Vw → Prop) : vc_impl_Tree_each w0 a0 a1 a2 σ R = den Tryz.prog w0 kp_impl_Tree_each esc_impl_Tree_each (Tryz.f135.body.getD .skip) (entry Tryz.f135.ntmps [a0, a1, a2]) σ (retK Tryz.prog Tryz.f135.results.toList R) := by kernel_rfl
theorem ac_impl_Tree_each {w0 : World} {a0 a1 a2 : Value} {σ : Vw} {R : Value → Vw → Prop} (h : vc_impl_Tree_each w0 a0 a1 a2 σ R) : AC Tryz.prog w0 n_impl_Tree_each [a0, a1, a2] σ R := by
  refine ac_rule (fn := Tryz.f135) (c := Tryz.f135.body.getD .skip) kp_impl_Tree_each esc_impl_Tree_each Tryz.func135 (by kernel_rfl) (by kernel_rfl) ?_
  rw [← vc_impl_Tree_each_eq]
  exact h

/-- impl.fresh$1 -/
def kp_impl_fresh_c1 : Nat → Keep
  | 1 => ⟨[], [], [], .step 0 (.step 2 (.step 4 (.step 5 (.step 6 (.step 7 (.step 8 (.step 9 (.step 1 (.step 3 (.step 10 (.step 11 (.step 12 (.step 13 (.done)))))))))))))), [(3, [1, 2]), (5, [4]), (7, [6]), (9, [8]), (10, [1, 2, 3, 4, 5, 6, 7, 8, 9]), (11, [1, 2, 3, 4, 5, 6, 7, 8, 9, 10]), (12, [0, 1, 2, 3, 4, 5, 6, 7, 8, 9, 10, 11]), (13, [0, 1, 2, 3, 4, 5, 6, 7, 8, 9, 10, 11, 12])]⟩
  | _ => ⟨[], [], [], .done, []⟩
def esc_impl_fresh_c1 : Nat → Bool
  | 6 => true
  | _ => false
def vc_impl_fresh_c1 (w0 : World) (a0 a1 a2 : Value) (σ : Vw) (R : Value → Vw → Prop) : Prop :=
  V true 5 a1 (L w0 1 a2 σ fun g0 => W w0 9 [] σ fun n1 s2 => (Stay w0 σ s2 a2 1) ∧ (pAppendS w0 9 1 16 (.slice (some (Addr.mk n1 0 none)) 0 0) a0 s2 fun v3 s4 => (Stay w0 s2 s4 a2 1) ∧ (V false 1 v3 (V false 1 (.int .i64 2) (V false 1 (C a1 0) (V false 1 (C a1 1) (V false 1 (C a1 2) (V true 5 (.agg (⟨[v3, .int .i64 2, C a1 0, C a1 1, C a1 2]⟩)) ((allOne [v3, .int .i64 2, C a1 0, C a1 1, C a1 2]) ∧ (A w0 80 5 64 (g0 0) 1 [v3, .int .i64 2, C a1 0, C a1 1, C a1 2] s4 fun v5 s6 => V false 1 v5 (pStore a2 [v5] s6 fun s7 => R (.tuple ⟨[]⟩) s7)))))))))))
theorem vc_impl_fresh_c1_eq (w0 : World) (a0 a1 a2 : Value) (σ : Vw) (R : Value → Vw → Prop) : vc_impl_fresh_c1 w0 a0 a1 a2 σ R = den Tryz.prog w0 kp_impl_fresh_c1 esc_impl_fresh_c1 (Tryz.f136.body.getD .skip) (entry Tryz.f136.ntmps [a0, a1, a2]) σ (retK Tryz.prog Tryz.f136.results.toList R) := by kernel_rfl
theorem ac_impl_fresh_c1 {w0 : World} {a0 a1 a2 : Value} {σ : Vw} {R : Value → Vw → Prop} (h : vc_impl_fresh_c1 w0 a0 a1 a2 σ R) : AC Tryz.prog w0 n_impl_fresh_c1 [a0, a1, a2] σ R := by
  refine ac_rule (fn := Tryz.f136) (c := Tryz.f136.body.getD .skip) kp_impl_fresh_c1 esc_impl_fresh_c1 Tryz.func136 (by kernel_rfl) (by kernel_rfl) ?_
  rw [← vc_impl_fresh_c1_eq]
  exact h

/-- slices.ContainsFunc[[]impl.Mark,impl.Mark] -/
def kp_slices_ContainsFunc_impl_Mark_impl_Mark : Nat → Keep
  | _ => ⟨[], [], [], .done, []⟩
def esc_slices_ContainsFunc_impl_Mark_impl_Mark : Nat → Bool
  | _ => false
def vc_slices_ContainsFunc_impl_Mark_impl_Mark (w0 : World) (a0 a1 : Value) (σ : Vw) (R : Value → Vw → Prop) : Prop :=
  AC P w0 n_slices_IndexFunc_impl_Mark_impl_Mark [a0, a1] σ fun v0 s1 => B P 3 .geq v0 (.int .i64 0) fun v2 => R v2 s1
theorem vc_slices_ContainsFunc_impl_Mark_impl_Mark_eq (w0 : World) (a0 a1 : Value) (σ : Vw) (R : Value → Vw → Prop) : vc_slices_ContainsFunc_impl_Mark_impl_Mark w0 a0 a1 σ R = den Tryz.prog w0 kp_slices_ContainsFunc_impl_Mark_impl_Mark esc_slices_ContainsFunc_impl_Mark_impl_Mark (Tryz.f137.body.getD .skip) (entry Tryz.f137.ntmps [a0, a1]) σ (retK Tryz.prog Tryz.f137.results.toList R) := by kernel_rfl
theorem ac_slices_ContainsFunc_impl_Mark_impl_Mark {w0 : World} {a0 a1 : Value} {σ : Vw} {R : Value → Vw → Prop} (h : vc_slices_ContainsFunc_impl_Mark_impl_Mark w0 a0 a1 σ R) : AC Tryz.prog w0 n_slices_ContainsFunc_impl_Mark_impl_Mark [a0, a1] σ R := by
  refine ac_rule (fn := Tryz.f137) (c := Tryz.f137.body.getD .skip) kp_slices_ContainsFunc_impl_Mark_impl_Mark esc_slices_ContainsFunc_impl_Mark_impl_Mark Tryz.func137 (by kernel_rfl) (by kernel_rfl) ?_
  rw [← vc_slices_ContainsFunc_impl_Mark_impl_Mark_eq]
  exact h

/-- impl.marked$1 -/
def kp_impl_marked_c1 : Nat → Keep
  | _ => ⟨[], [], [], .done, []⟩
def esc_impl_marked_c1 : Nat → Bool
  | _ => false
def vc_impl_marked_c1 (w0 : World) (a0 a1 : Value) (σ : Vw) (R : Value → Vw → Prop) : Prop :=
  V true 2 a0 (L w0 1 a1 σ fun g0 => AC P w0 n_slices_Equal_string_string [C a0 0, g0 0] σ fun v1 s2 => R v1 s2)
theorem vc_impl_marked_c1_eq (w0 : World) (a0 a1 : Value) (σ : Vw) (R : Value → Vw → Prop) : vc_impl_marked_c1 w0 a0 a1 σ R = den Tryz.prog w0 kp_impl_marked_c1 esc_impl_marked_c1 (Tryz.f138.body.getD .skip) (entry Tryz.f138.ntmps [a0, a1]) σ (retK Tryz.prog Tryz.f138.results.toList R) := by kernel_rfl
theorem ac_impl_marked_c1 {w0 : World} {a0 a1 : Value} {σ : Vw} {R : Value → Vw → Prop} (h : vc_impl_marked_c1 w0 a0 a1 σ R) : AC Tryz.prog w0 n_impl_marked_c1 [a0, a1] σ R := by
  refine ac_rule (fn := Tryz.f138) (c := Tryz.f138.body.getD .skip) kp_impl_marked_c1 esc_impl_marked_c1 Tryz.func138 (by kernel_rfl) (by kernel_rfl) ?_
  rw [← vc_impl_marked_c1_eq]
  exact h

/-- slices.Equal[[]string,string] -/
def kp_slices_Equal_string_string : Nat → Keep
  | 4 => ⟨[0, 1, 4, 12, 13], [], [], .done, []⟩
  | 6 => ⟨[], [], [], .step 0 (.step 1 (.step 2 (.step 3 (.step 4 (.step 5 (.step 6 (.step 7 (.step 8 (.done))))))))), [(2, [0, 1]), (3, [0, 1, 2]), (6, [4, 5]), (7, [4, 5, 6]), (8, [0, 1, 2, 3, 4, 5, 6, 7])]⟩
  | _ => ⟨[], [], [], .done, []⟩
def esc_slices_Equal_string_string : Nat → Bool
  | _ => false
def vc_slices_Equal_string_string (w0 : World) (a0 a1 : Value) (σ : Vw) (R : Value → Vw → Prop) : Prop :=
  N a0 fun v0 => N a1 fun v1 => B P 3 .neq v0 v1 fun v2 => Q v2 (R (.bool false) σ) (N a0 fun v3 => pLoop (fun l4 K5 s6 => B P 3 .lss (G l4 4) (G l4 3) fun v7 => Q v7 (X 1 (G l4 0) (G l4 4) fun v8 => L w0 1 v8 s6 fun g9 => X 1 (G l4 1) (G l4 4) fun v10 => L w0 1 v10 s6 fun g11 => B P 9 .neq (g9 0) (g11 0) fun v12 => Q v12 (K5 .ret [G l4 0, G l4 1, .bool false, G l4 3, G l4 4] s6) (B P 3 .add (G l4 4) (.int .i64 1) fun v13 => K5 .normal [G l4 0, G l4 1, G l4 2, G l4 3, v13] s6)) (K5 (.exit 0) [G l4 0, G l4 1, G l4 2, G l4 3, G l4 4] s6)) [a0, a1, .bool false, v3, .int .i64 0] σ fun x14 l15 s16 => match x14 with | .normal => R (.bool true) s16 | .ret => R (G l15 2) s16 | .exit i17 => (match Nat.beq i17 0 with | true => R (.bool true) s16 | false => False))
theorem vc_slices_Equal_string_string_eq (w0 : World) (a0 a1 : Value) (σ : Vw) (R : Value → Vw → Prop) : vc_slices_Equal_string_string w0 a0 a1 σ R = den Tryz.prog w0 kp_slices_Equal_string_string esc_slices_Equal_string_string (Tryz.f139.body.getD .skip) (entry Tryz.f139.ntmps [a0, a1]) σ (retK Tryz.prog Tryz.f139.results.toList R) := by kernel_rfl
theorem ac_slices_Equal_string_string {w0 : World} {a0 a1 : Value} {σ : Vw} {R : Value → Vw → Prop} (h : vc_slices_Equal_string_string w0 a0 a1 σ R) : AC Tryz.prog w0 n_slices_Equal_string_string [a0, a1] σ R := by
  refine ac_rule (fn := Tryz.f139) (c := Tryz.f139.body.getD .skip) kp_slices_Equal_string_string esc_slices_Equal_string_string Tryz.func139 (by kernel_rfl) (by kernel_rfl) ?_
  rw [← vc_slices_Equal_string_string_eq]
  exact h

/-- slices.Index[[]string,string] -/
def kp_slices_Index_string_string : Nat → Keep
  | 2 => ⟨[0, 1, 4, 7, 8], [], [], .done, []⟩
  | _ => ⟨[], [], [], .done, []⟩
def esc_slices_Index_string_string : Nat → Bool
  | _ => false
def vc_slices_Index_string_string (w0 : World) (a0 a1 : Value) (σ : Vw) (R : Value → Vw → Prop) : Prop :=
  N a0 fun v0 => pLoop (fun l1 K2 s3 => B P 3 .lss (G l1 4) (G l1 3) fun v4 => Q v4 (X 1 (G l1 0) (G l1 4) fun v5 => L w0 1 v5 s3 fun g6 => B P 9 .eql (G l1 1) (g6 0) fun v7 => Q v7 (K2 .ret [G l1 0, G l1 1, G l1 4, G l1 3, G l1 4] s3) (B P 3 .add (G l1 4) (.int .i64 1) fun v8 => K2 .normal [G l1 0, G l1 1, G l1 2, G l1 3, v8] s3)) (K2 (.exit 0) [G l1 0, G l1 1, G l1 2, G l1 3, G l1 4] s3)) [a0, a1, .int .i64 0, v0, .int .i64 0] σ fun x9 l10 s11 => match x9 with | .normal => R (.int .i64 (-1)) s11 | .ret => R (G l10 2) s11 | .exit i12 => (match Nat.beq i12 0 with | true => R (.int .i64 (-1)) s11 | false => False)
theorem vc_slices_Index_string_string_eq (w0 : World) (a0 a1 : Value) (σ : Vw) (R : Value → Vw → Prop) : vc_slices_Index_string_string w0 a0 a1 σ R = den Tryz.prog w0 kp_slices_Index_string_string esc_slices_Index_string_string (Tryz.f142.body.getD .skip) (entry Tryz.f142.ntmps [a0, a1]) σ (retK Tryz.prog Tryz.f142.results.toList R) := by kernel_rfl
theorem ac_slices_Index_string_string {w0 : World} {a0 a1 : Value} {σ : Vw} {R : Value → Vw → Prop} (h : vc_slices_Index_string_string w0 a0 a1 σ R) : AC Tryz.prog w0 n_slices_Index_string_string [a0, a1] σ R := by
  refine ac_rule (fn := Tryz.f142) (c := Tryz.f142.body.getD .skip) kp_slices_Index_string_string esc_slices_Index_string_string Tryz.func142 (by kernel_rfl) (by kernel_rfl) ?_
  rw [← vc_slices_Index_string_string_eq]
  exact h

/-- spec.l1Plain -/
def kp_spec_l1Plain : Nat → Keep
  | 6 => ⟨[2, 3], [(1, 5)], [1], .done, []⟩
  | 8 => ⟨[], [], [], .step 0 (.step 1 (.step 2 (.step 3 (.step 4 (.step 5 (.step 6 (.step 7 (.step 8 (.step 9 (.step 10 (.step 11 (.step 12 (.step 13 (.step 14 (.step 15 (.step 16 (.step 17 (.step 18 (.step 19 (.step 20 (.step 21 (.step 22 (.step 23 (.step 24 (.done))))))))))))))))))))))))), [(1, [0]), (3, [0, 1, 2]), (4, [0, 1, 2, 3]), (5, [0, 1, 2, 3, 4]), (6, [0, 1, 2, 3, 4, 5]), (7, [0, 1, 2, 3, 4, 5, 6]), (8, [0, 1, 2, 3, 4, 5, 6, 7]), (9, [0, 1, 2, 3, 4, 5, 6, 7, 8]), (10, [0, 1, 2, 3, 4, 5, 6, 7, 8, 9]), (11, [0, 1, 2, 3, 4, 5, 6, 7, 8, 9, 10]), (12, [0, 1, 2, 3, 4, 5, 6, 7, 8, 9, 10, 11]), (13, [0, 1, 2, 3, 4, 5, 6, 7, 8, 9, 10]), (14, [0, 1, 2, 3, 4, 5, 6, 7, 8, 9, 10, 13]), (15, [0, 1, 2, 3, 4, 5, 6, 7, 8, 9, 10, 11, 12, 13, 14]), (16, [0, 1, 2, 3, 4, 5, 6, 7, 8, 9, 10, 11, 12, 13, 14, 15]), (17, [0, 1, 2, 3, 4, 5, 6, 7, 8, 9, 10]), (18, [0, 1, 2, 3, 4, 5, 6, 7, 8, 9, 10, 17]), (19, [0, 1, 2, 3, 4, 5, 6, 7, 8, 9, 10]), (20, [0, 1, 2, 3, 4, 5, 6, 7, 8, 9, 10, 17, 18, 19]), (21, [0, 1, 2, 3, 4, 5, 6, 7, 8, 9, 10, 17, 18, 19, 20]), (22, [0, 1, 2, 3, 4, 5, 6, 7, 8, 9, 10, 11, 12, 13, 14, 15, 16, 17, 18, 19, 20, 21]), (23, [0, 1, 2, 3, 4, 5, 6, 7, 8, 9, 10, 11, 12, 13, 14, 15, 16, 17, 18, 19, 20, 21, 22]), (24, [0, 1, 2, 3, 4, 5, 6, 7, 8, 9, 10, 11, 12, 13, 14, 15, 16, 17, 18, 19, 20, 21, 22, 23])]⟩
  | _ => ⟨[], [], [], .done, []⟩
def esc_spec_l1Plain : Nat → Bool
  | _ => false
def vc_spec_l1Plain (w0 : World) (a0 : Value) (σ : Vw) (R : Value → Vw → Prop) : Prop :=
  V true 5 a0 (AC P w0 n_spec_l1In [C a0 1, .int .i64 0, .int .i64 7] σ fun v0 s1 => pUn .not v0 fun v2 => Q v2 (R (.bool false) s1) (N (C a0 3) fun v3 => N (C a0 4) fun v4 => B P 3 .neq v3 v4 fun v5 => Q v5 (R (.bool false) s1) (pUn .not (C a0 0) fun v6 => Q v6 (pLenS (C a0 2) fun v7 => B P 3 .leq v7 (.int .i64 24) fun v8 => Q v8 (N (C a0 3) fun v9 => B P 3 .eql v9 (.int .i64 0) fun v10 => R v10 s1) (R (.bool false) s1)) (pLoop (fun l11 K12 s13 => N (G l11 5) fun v14 => B P 3 .lss (G l11 1) v14 fun v15 => Q v15 (X 1 (G l11 5) (G l11 1) fun v16 => L w0 1 v16 s13 fun g17 => AC P w0 n_spec_l1NameOk [g17 0] s13 fun v18 s19 => pUn .not v18 fun v20 => Q v20 (K12 .ret [.bool false, G l11 1, G l11 2, G l11 3, G l11 4, G l11 5, G l11 6] s19) (B P 3 .gtr (G l11 1) (.int .i64 0) fun v21 => Q v21 (B P 3 .sub (G l11 1) (.int .i64 1) fun v22 => X 1 (G l11 5) v22 fun v23 => L w0 1 v23 s19 fun g24 => X 1 (G l11 5) (G l11 1) fun v25 => L w0 1 v25 s19 fun g26 => B P 9 .geq (g24 0) (g26 0) fun v27 => Q v27 (K12 .ret [.bool false, G l11 1, G l11 2, G l11 3, G l11 4, G l11 5, G l11 6] s19) (B P 3 .add (G l11 1) (.int .i64 1) fun v28 => K12 .normal [G l11 0, v28, G l11 2, G l11 3, G l11 4, G l11 5, G l11 6] s19)) (B P 3 .add (G l11 1) (.int .i64 1) fun v29 => K12 .normal [G l11 0, v29, G l11 2, G l11 3, G l11 4, G l11 5, G l11 6] s19))) (K12 (.exit 0) [G l11 0, G l11 1, G l11 2, G l11 3, G l11 4, G l11 5, G l11 6] s13)) [.bool false, .int .i64 0, C a0 0, C a0 1, C a0 2, C a0 3, C a0 4] s1 fun x30 l31 s32 => match x30 with | .normal => B P 9 .eql (G l31 4) (.string ({ data := #[] })) (fun v33 => R v33 s32) | .ret => R (G l31 0) s32 | .exit i34 => (match Nat.beq i34 0 with | true => B P 9 .eql (G l31 4) (.string ({ data := #[] })) (fun v35 => R v35 s32) | false => False)))))
theorem vc_spec_l1Plain_eq (w0 : World) (a0 : Value) (σ : Vw) (R : Value → Vw → Prop) : vc_spec_l1Plain w0 a0 σ R = den Tryz.prog w0 kp_spec_l1Plain esc_spec_l1Plain (Tryz.f143.body.getD .skip) (entry Tryz.f143.ntmps [a0]) σ (retK Tryz.prog Tryz.f143.results.toList R) := by kernel_rfl
theorem ac_spec_l1Plain {w0 : World} {a0 : Value} {σ : Vw} {R : Value → Vw → Prop} (h : vc_spec_l1Plain w0 a0 σ R) : AC Tryz.prog w0 n_spec_l1Plain [a0] σ R := by
  refine ac_rule (fn := Tryz.f143) (c := Tryz.f143.body.getD .skip) kp_spec_l1Plain esc_spec_l1Plain Tryz.func143 (by kernel_rfl) (by kernel_rfl) ?_
  rw [← vc_spec_l1Plain_eq]
  exact h

/-- spec.l11Same -/
def kp_spec_l11Same : Nat → Keep
  | _ => ⟨[], [], [], .done, []⟩
def esc_spec_l11Same : Nat → Bool
  | _ => false
def vc_spec_l11Same (w0 : World) (a0 a1 : Value) (σ : Vw) (R : Value → Vw → Prop) : Prop :=
  N a0 fun v0 => N a1 fun v1 => B P 3 .eql v0 v1 fun v2 => Q v2 (AC P w0 n_spec_l2Within [a0, a1] σ fun v3 s4 => R v3 s4) (R (.bool false) σ)
theorem vc_spec_l11Same_eq (w0 : World) (a0 a1 : Value) (σ : Vw) (R : Value → Vw → Prop) : vc_spec_l11Same w0 a0 a1 σ R = den Tryz.prog w0 kp_spec_l11Same esc_spec_l11Same (Tryz.f144.body.getD .skip) (entry Tryz.f144.ntmps [a0, a1]) σ (retK Tryz.prog Tryz.f144.results.toList R) := by kernel_rfl
theorem ac_spec_l11Same {w0 : World} {a0 a1 : Value} {σ : Vw} {R : Value → Vw → Prop} (h : vc_spec_l11Same w0 a0 a1 σ R) : AC Tryz.prog w0 n_spec_l11Same [a0, a1] σ R := by
  refine ac_rule (fn := Tryz.f144) (c := Tryz.f144.body.getD .skip) kp_spec_l11Same esc_spec_l11Same Tryz.func144 (by kernel_rfl) (by kernel_rfl) ?_
  rw [← vc_spec_l11Same_eq]
  exact h

/-- impl.within -/
def kp_impl_within : Nat → Keep
  | _ => ⟨[], [], [], .done, []⟩
def esc_impl_within : Nat → Bool
  | _ => false
def vc_impl_within (w0 : World) (a0 a1 a2 : Value) (σ : Vw) (R : Value → Vw → Prop) : Prop :=
  B P 3 .geq a0 a1 fun v0 => Q v0 (B P 3 .leq a0 a2 fun v1 => R v1 σ) (R (.bool false) σ)
theorem vc_impl_within_eq (w0 : World) (a0 a1 a2 : Value) (σ : Vw) (R : Value → Vw → Prop) : vc_impl_within w0 a0 a1 a2 σ R = den Tryz.prog w0 kp_impl_within esc_impl_within (Tryz.f145.body.getD .skip) (entry Tryz.f145.ntmps [a0, a1, a2]) σ (retK Tryz.prog Tryz.f145.results.toList R) := by kernel_rfl
theorem ac_impl_within {w0 : World} {a0 a1 a2 : Value} {σ : Vw} {R : Value → Vw → Prop} (h : vc_impl_within w0 a0 a1 a2 σ R) : AC Tryz.prog w0 n_impl_within [a0, a1, a2] σ R := by
  refine ac_rule (fn := Tryz.f145) (c := Tryz.f145.body.getD .skip) kp_impl_within esc_impl_within Tryz.func145 (by kernel_rfl) (by kernel_rfl) ?_
  rw [← vc_impl_within_eq]
  exact h

end Go.Proofs.YtkbhjejalkbogaaGreat

/- What each function owes, reckoned out, part 5. MADE BY PROGRAM (emit.py). -/
set_option linter.unusedVariables false
namespace Go.Proofs.YtkbhjejalkbogaaGreat
open Go.Av renaming vget → G, cellOf → C, pVal → V, pBin → B, pIndexAddr → X, pLoad → L, pField → F, pIf → Q, pExtract → E, pAppend → A, pLen → N, pNew → W
open Go.Proofs.Tryz renaming prog → P
open Go Go.Av

def esc_slices_pdqsortCmpFunc_impl_Mark : Nat → Bool
  | _ => false
def cs_slices_pdqsortCmpFunc_impl_Mark_3 (w0 : World) (l900 : List Value) (v901 : Value) (s902 : Vw) (v903 : Value) (K904 : AX → List Value → Vw → Prop) (R : Value → Vw → Prop) : Prop :=
  AC P w0 n_slices_partitionCmpFunc_impl_Mark [G l900 0, G l900 1, G l900 2, v901, G l900 4] s902 (fun v500 s501 => E v500 0 fun v502 => E v500 1 fun v503 => B P 3 .sub v502 (G l900 1) fun v504 => B P 3 .sub (G l900 2) v502 fun v505 => B P 3 .quo v903 (.int .i64 8) fun v506 => B P 3 .lss v504 v505 fun v507 => Q v507 (B P 3 .geq v504 v506 fun v508 => AC P w0 n_slices_pdqsortCmpFunc_impl_Mark [G l900 0, G l900 1, v502, G l900 3, G l900 4] s501 fun v509 s510 => B P 3 .add v502 (.int .i64 1) fun v511 => K904 .normal [G l900 0, v511, G l900 2, G l900 3, G l900 4, v508, v503] s510) (B P 3 .geq v505 v506 fun v512 => B P 3 .add v502 (.int .i64 1) fun v513 => AC P w0 n_slices_pdqsortCmpFunc_impl_Mark [G l900 0, v513, G l900 2, G l900 3, G l900 4] s501 fun v514 s515 => K904 .normal [G l900 0, G l900 1, v502, G l900 3, G l900 4, v512, v503] s515))
def cs_slices_pdqsortCmpFunc_impl_Mark_1 (w0 : World) (l900 : List Value) (s901 : Vw) (v902 : Value) (K903 : AX → List Value → Vw → Prop) (v904 : Value) (R : Value → Vw → Prop) : Prop :=
  B P 3 .gtr (G l900 1) (.int .i64 0) (fun v500 => Q v500 (B P 3 .sub (G l900 1) (.int .i64 1) fun v501 => X 2 (G l900 0) v501 fun v502 => L w0 2 v502 s901 fun g503 => X 2 (G l900 0) v902 fun v504 => L w0 2 v504 s901 fun g505 => pCallV (fun n506 l507 s508 K509 => AC P w0 n506 l507 s508 K509) (G l900 4) ([.agg (⟨[g503 0, g503 1]⟩), .agg (⟨[g505 0, g505 1]⟩)]) s901 fun v510 s511 => B P 3 .lss v510 (.int .i64 0) fun v512 => pUn .not v512 fun v513 => Q v513 (AC P w0 n_slices_partitionEqualCmpFunc_impl_Mark [G l900 0, G l900 1, G l900 2, v902, G l900 4] s511 fun v514 s515 => K903 .normal [G l900 0, v514, G l900 2, G l900 3, G l900 4, G l900 5, G l900 6] s515) (cs_slices_pdqsortCmpFunc_impl_Mark_3 w0 l900 v902 s511 v904 K903 R)) (cs_slices_pdqsortCmpFunc_impl_Mark_3 w0 l900 v902 s901 v904 K903 R))
def cs_slices_pdqsortCmpFunc_impl_Mark_4 (w0 : World) (l900 : List Value) (v901 : Value) (s902 : Vw) (v903 : Value) (v904 : Value) (K905 : AX → List Value → Vw → Prop) (R : Value → Vw → Prop) : Prop :=
  AC P w0 n_slices_partitionCmpFunc_impl_Mark [G l900 0, G l900 1, G l900 2, v901, G l900 4] s902 (fun v500 s501 => E v500 0 fun v502 => E v500 1 fun v503 => B P 3 .sub v502 (G l900 1) fun v504 => B P 3 .sub (G l900 2) v502 fun v505 => B P 3 .quo v903 (.int .i64 8) fun v506 => B P 3 .lss v504 v505 fun v507 => Q v507 (B P 3 .geq v504 v506 fun v508 => AC P w0 n_slices_pdqsortCmpFunc_impl_Mark [G l900 0, G l900 1, v502, v904, G l900 4] s501 fun v509 s510 => B P 3 .add v502 (.int .i64 1) fun v511 => K905 .normal [G l900 0, v511, G l900 2, v904, G l900 4, v508, v503] s510) (B P 3 .geq v505 v506 fun v512 => B P 3 .add v502 (.int .i64 1) fun v513 => AC P w0 n_slices_pdqsortCmpFunc_impl_Mark [G l900 0, v513, G l900 2, v904, G l900 4] s501 fun v514 s515 => K905 .normal [G l900 0, G l900 1, v502, v904, G l900 4, v512, v503] s515))
def cs_slices_pdqsortCmpFunc_impl_Mark_2 (w0 : World) (l900 : List Value) (s901 : Vw) (v902 : Value) (K903 : AX → List Value → Vw → Prop) (v904 : Value) (v905 : Value) (R : Value → Vw → Prop) : Prop :=
  B P 3 .gtr (G l900 1) (.int .i64 0) (fun v500 => Q v500 (B P 3 .sub (G l900 1) (.int .i64 1) fun v501 => X 2 (G l900 0) v501 fun v502 => L w0 2 v502 s901 fun g503 => X 2 (G l900 0) v902 fun v504 => L w0 2 v504 s901 fun g505 => pCallV (fun n506 l507 s508 K509 => AC P w0 n506 l507 s508 K509) (G l900 4) ([.agg (⟨[g503 0, g503 1]⟩), .agg (⟨[g505 0, g505 1]⟩)]) s901 fun v510 s511 => B P 3 .lss v510 (.int .i64 0) fun v512 => pUn .not v512 fun v513 => Q v513 (AC P w0 n_slices_partitionEqualCmpFunc_impl_Mark [G l900 0, G l900 1, G l900 2, v902, G l900 4] s511 fun v514 s515 => K903 .normal [G l900 0, v514, G l900 2, v904, G l900 4, G l900 5, G l900 6] s515) (cs_slices_pdqsortCmpFunc_impl_Mark_4 w0 l900 v902 s511 v905 v904 K903 R)) (cs_slices_pdqsortCmpFunc_impl_Mark_4 w0 l900 v902 s901 v905 v904 K903 R))
def vc_slices_pdqsortCmpFunc_impl_Mark (w0 : World) (a0 a1 a2 a3 a4 : Value) (σ : Vw) (R : Value → Vw → Prop) : Prop :=
  pLoop (fun l0 K1 s2 => B P 3 .sub (G l0 2) (G l0 1) fun v3 => B P 3 .leq v3 (.int .i64 12) fun v4 => Q v4 (AC P w0 n_slices_insertionSortCmpFunc_impl_Mark [G l0 0, G l0 1, G l0 2, G l0 4] s2 fun v5 s6 => K1 .ret [G l0 0, G l0 1, G l0 2, G l0 3, G l0 4, G l0 5, G l0 6] s6) (B P 3 .eql (G l0 3) (.int .i64 0) fun v7 => Q v7 (AC P w0 n_slices_heapSortCmpFunc_impl_Mark [G l0 0, G l0 1, G l0 2, G l0 4] s2 fun v8 s9 => K1 .ret [G l0 0, G l0 1, G l0 2, G l0 3, G l0 4, G l0 5, G l0 6] s9) (pUn .not (G l0 5) fun v10 => Q v10 (AC P w0 n_slices_breakPatternsCmpFunc_impl_Mark [G l0 0, G l0 1, G l0 2, G l0 4] s2 fun v11 s12 => B P 3 .sub (G l0 3) (.int .i64 1) fun v13 => AC P w0 n_slices_choosePivotCmpFunc_impl_Mark [G l0 0, G l0 1, G l0 2, G l0 4] s12 fun v14 s15 => E v14 0 fun v16 => E v14 1 fun v17 => B P 162 .eql v17 (.int .i64 2) fun v18 => Q v18 (AC P w0 n_slices_reverseRangeCmpFunc_impl_Mark [G l0 0, G l0 1, G l0 2, G l0 4] s15 fun v19 s20 => B P 3 .sub (G l0 2) (.int .i64 1) fun v21 => B P 3 .sub v16 (G l0 1) fun v22 => B P 3 .sub v21 v22 fun v23 => Q (G l0 5) (Q (G l0 6) (B P 162 .eql (.int .i64 1) (.int .i64 1) fun v24 => Q v24 (AC P w0 n_slices_partialInsertionSortCmpFunc_impl_Mark [G l0 0, G l0 1, G l0 2, G l0 4] s20 fun v25 s26 => Q v25 (K1 .ret [G l0 0, G l0 1, G l0 2, v13, G l0 4, G l0 5, G l0 6] s26) (cs_slices_pdqsortCmpFunc_impl_Mark_2 w0 l0 s26 v23 K1 v13 v3 R)) (cs_slices_pdqsortCmpFunc_impl_Mark_2 w0 l0 s20 v23 K1 v13 v3 R)) (cs_slices_pdqsortCmpFunc_impl_Mark_2 w0 l0 s20 v23 K1 v13 v3 R)) (cs_slices_pdqsortCmpFunc_impl_Mark_2 w0 l0 s20 v23 K1 v13 v3 R)) (Q (G l0 5) (Q (G l0 6) (B P 162 .eql v17 (.int .i64 1) fun v219 => Q v219 (AC P w0 n_slices_partialInsertionSortCmpFunc_impl_Mark [G l0 0, G l0 1, G l0 2, G l0 4] s15 fun v220 s221 => Q v220 (K1 .ret [G l0 0, G l0 1, G l0 2, v13, G l0 4, G l0 5, G l0 6] s221) (cs_slices_pdqsortCmpFunc_impl_Mark_2 w0 l0 s221 v16 K1 v13 v3 R)) (cs_slices_pdqsortCmpFunc_impl_Mark_2 w0 l0 s15 v16 K1 v13 v3 R)) (cs_slices_pdqsortCmpFunc_impl_Mark_2 w0 l0 s15 v16 K1 v13 v3 R)) (cs_slices_pdqsortCmpFunc_impl_Mark_2 w0 l0 s15 v16 K1 v13 v3 R))) (AC P w0 n_slices_choosePivotCmpFunc_impl_Mark [G l0 0, G l0 1, G l0 2, G l0 4] s2 fun v414 s415 => E v414 0 fun v416 => E v414 1 fun v417 => B P 162 .eql v417 (.int .i64 2) fun v418 => Q v418 (AC P w0 n_slices_reverseRangeCmpFunc_impl_Mark [G l0 0, G l0 1, G l0 2, G l0 4] s415 fun v419 s420 => B P 3 .sub (G l0 2) (.int .i64 1) fun v421 => B P 3 .sub v416 (G l0 1) fun v422 => B P 3 .sub v421 v422 fun v423 => Q (G l0 5) (Q (G l0 6) (B P 162 .eql (.int .i64 1) (.int .i64 1) fun v424 => Q v424 (AC P w0 n_slices_partialInsertionSortCmpFunc_impl_Mark [G l0 0, G l0 1, G l0 2, G l0 4] s420 fun v425 s426 => Q v425 (K1 .ret [G l0 0, G l0 1, G l0 2, G l0 3, G l0 4, G l0 5, G l0 6] s426) (cs_slices_pdqsortCmpFunc_impl_Mark_1 w0 l0 s426 v423 K1 v3 R)) (cs_slices_pdqsortCmpFunc_impl_Mark_1 w0 l0 s420 v423 K1 v3 R)) (cs_slices_pdqsortCmpFunc_impl_Mark_1 w0 l0 s420 v423 K1 v3 R)) (cs_slices_pdqsortCmpFunc_impl_Mark_1 w0 l0 s420 v423 K1 v3 R)) (Q (G l0 5) (Q (G l0 6) (B P 162 .eql v417 (.int .i64 1) fun v619 => Q v619 (AC P w0 n_slices_partialInsertionSortCmpFunc_impl_Mark [G l0 0, G l0 1, G l0 2, G l0 4] s415 fun v620 s621 => Q v620 (K1 .ret [G l0 0, G l0 1, G l0 2, G l0 3, G l0 4, G l0 5, G l0 6] s621) (cs_slices_pdqsortCmpFunc_impl_Mark_1 w0 l0 s621 v416 K1 v3 R)) (cs_slices_pdqsortCmpFunc_impl_Mark_1 w0 l0 s415 v416 K1 v3 R)) (cs_slices_pdqsortCmpFunc_impl_Mark_1 w0 l0 s415 v416 K1 v3 R)) (cs_slices_pdqsortCmpFunc_impl_Mark_1 w0 l0 s415 v416 K1 v3 R)))))) [a0, a1, a2, a3, a4, .bool true, .bool true] σ fun x814 l815 s816 => match x814 with | .normal => R (.tuple ⟨[]⟩) s816 | .ret => R (.tuple ⟨[]⟩) s816 | .exit i817 => (match Nat.beq i817 0 with | true => R (.tuple ⟨[]⟩) s816 | false => False)

/-- spec.l1NameOk -/
def kp_spec_l1NameOk : Nat → Keep
  | 2 => ⟨[0, 2, 3], [], [], .done, []⟩
  | _ => ⟨[], [], [], .done, []⟩
def esc_spec_l1NameOk : Nat → Bool
  | _ => false
def cs_spec_l1NameOk_1 (w0 : World) (l900 : List Value) (K901 : AX → List Value → Vw → Prop) (s902 : Vw) (R : Value → Vw → Prop) : Prop :=
  pIndexStr (G l900 0) (G l900 2) (fun v500 => B P 5 .geq v500 (.int .u8 48) fun v501 => Q v501 (pIndexStr (G l900 0) (G l900 2) fun v502 => B P 5 .leq v502 (.int .u8 57) fun v503 => pUn .not v503 fun v504 => Q v504 (K901 .ret [G l900 0, .bool false, G l900 2] s902) (B P 3 .add (G l900 2) (.int .i64 1) fun v505 => K901 .normal [G l900 0, G l900 1, v505] s902)) (pUn .not (.bool false) fun v506 => Q v506 (K901 .ret [G l900 0, .bool false, G l900 2] s902) (B P 3 .add (G l900 2) (.int .i64 1) fun v507 => K901 .normal [G l900 0, G l900 1, v507] s902)))
def vc_spec_l1NameOk (w0 : World) (a0 : Value) (σ : Vw) (R : Value → Vw → Prop) : Prop :=
  pLoop (fun l0 K1 s2 => pLenS (G l0 0) fun v3 => B P 3 .lss (G l0 2) v3 fun v4 => Q v4 (pIndexStr (G l0 0) (G l0 2) fun v5 => B P 5 .geq v5 (.int .u8 97) fun v6 => Q v6 (pIndexStr (G l0 0) (G l0 2) fun v7 => B P 5 .leq v7 (.int .u8 122) fun v8 => Q v8 (pUn .not (.bool true) fun v9 => Q v9 (K1 .ret [G l0 0, .bool false, G l0 2] s2) (B P 3 .add (G l0 2) (.int .i64 1) fun v10 => K1 .normal [G l0 0, G l0 1, v10] s2)) (cs_spec_l1NameOk_1 w0 l0 K1 s2 R)) (cs_spec_l1NameOk_1 w0 l0 K1 s2 R)) (K1 (.exit 0) [G l0 0, G l0 1, G l0 2] s2)) [a0, .bool false, .int .i64 0] σ fun x27 l28 s29 => match x27 with | .normal => pLenS (G l28 0) (fun v30 => AC P w0 n_spec_l1In [v30, .int .i64 1, .int .i64 5] s29 fun v31 s32 => R v31 s32) | .ret => R (G l28 1) s29 | .exit i33 => (match Nat.beq i33 0 with | true => pLenS (G l28 0) (fun v34 => AC P w0 n_spec_l1In [v34, .int .i64 1, .int .i64 5] s29 fun v35 s36 => R v35 s36) | false => False)

theorem vc_spec_l1NameOk_eq (w0 : World) (a0 : Value) (σ : Vw) (R : Value → Vw → Prop) : vc_spec_l1NameOk w0 a0 σ R = den Tryz.prog w0 kp_spec_l1NameOk esc_spec_l1NameOk (Tryz.f148.body.getD .skip) (entry Tryz.f148.ntmps [a0]) σ (retK Tryz.prog Tryz.f148.results.toList R) := by kernel_rfl
theorem ac_spec_l1NameOk {w0 : World} {a0 : Value} {σ : Vw} {R : Value → Vw → Prop} (h : vc_spec_l1NameOk w0 a0 σ R) : AC Tryz.prog w0 n_spec_l1NameOk [a0] σ R := by
  refine ac_rule (fn := Tryz.f148) (c := Tryz.f148.body.getD .skip) kp_spec_l1NameOk esc_spec_l1NameOk Tryz.func148 (by kernel_rfl) (by kernel_rfl) ?_
  rw [← vc_spec_l1NameOk_eq]
  exact h

/-- cmp.isNaN[string] -/
def kp_cmp_isNaN_string : Nat → Keep
  | _ => ⟨[], [], [], .done, []⟩
def esc_cmp_isNaN_string : Nat → Bool
  | _ => false
def vc_cmp_isNaN_string (w0 : World) (a0 : Value) (σ : Vw) (R : Value → Vw → Prop) : Prop :=
  B P 9 .neq a0 a0 fun v0 => R v0 σ
theorem vc_cmp_isNaN_string_eq (w0 : World) (a0 : Value) (σ : Vw) (R : Value → Vw → Prop) : vc_cmp_isNaN_string w0 a0 σ R = den Tryz.prog w0 kp_cmp_isNaN_string esc_cmp_isNaN_string (Tryz.f149.body.getD .skip) (entry Tryz.f149.ntmps [a0]) σ (retK Tryz.prog Tryz.f149.results.toList R) := by kernel_rfl
theorem ac_cmp_isNaN_string {w0 : World} {a0 : Value} {σ : Vw} {R : Value → Vw → Prop} (h : vc_cmp_isNaN_string w0 a0 σ R) : AC Tryz.prog w0 n_cmp_isNaN_string [a0] σ R := by
  refine ac_rule (fn := Tryz.f149) (c := Tryz.f149.body.getD .skip) kp_cmp_isNaN_string esc_cmp_isNaN_string Tryz.func149 (by kernel_rfl) (by kernel_rfl) ?_
  rw [← vc_cmp_isNaN_string_eq]
  exact h

/-- spec.l2Parent -/
def kp_spec_l2Parent : Nat → Keep
  | 1 => ⟨[], [], [], .step 0 (.step 1 (.step 2 (.step 3 (.step 4 (.step 5 (.step 10 (.step 6 (.step 7 (.step 8 (.step 9 (.step 11 (.step 12 (.done))))))))))))), [(3, [2]), (4, [2, 3]), (5, [1, 2, 3, 4]), (6, [0, 1, 2, 3, 4, 5]), (7, [0, 1, 2, 3, 4, 5, 6]), (8, [0, 1, 2, 3, 4, 5, 6, 7]), (9, [0, 1, 2, 3, 4, 5, 6, 7]), (11, [0, 1, 2, 3, 4, 5, 6, 7, 8, 10]), (12, [0, 1, 2, 3, 4, 5, 6, 7, 8, 9, 10, 11])]⟩
  | _ => ⟨[], [], [], .done, []⟩
def esc_spec_l2Parent : Nat → Bool
  | _ => false
def vc_spec_l2Parent (w0 : World) (a0 a1 : Value) (σ : Vw) (R : Value → Vw → Prop) : Prop :=
  V true 5 a0 (N a1 fun v0 => B P 3 .sub v0 (.int .i64 1) fun v1 => pSlice 1 a1 none (some v1) fun v2 => AC P w0 n_spec_l1At ([.agg (⟨[C a0 0, C a0 1, C a0 2, C a0 3, C a0 4]⟩), v2]) σ fun v3 s4 => E v3 0 fun v5 => E v3 1 fun v6 => V true 5 v5 (pUn .not v6 fun v7 => Q v7 (R (.int .i64 3) s4) (pUn .not (C v5 0) fun v8 => Q v8 (R (.int .i64 4) s4) (R (.int .i64 0) s4))))
theorem vc_spec_l2Parent_eq (w0 : World) (a0 a1 : Value) (σ : Vw) (R : Value → Vw → Prop) : vc_spec_l2Parent w0 a0 a1 σ R = den Tryz.prog w0 kp_spec_l2Parent esc_spec_l2Parent (Tryz.f151.body.getD .skip) (entry Tryz.f151.ntmps [a0, a1]) σ (retK Tryz.prog Tryz.f151.results.toList R) := by kernel_rfl
theorem ac_spec_l2Parent {w0 : World} {a0 a1 : Value} {σ : Vw} {R : Value → Vw → Prop} (h : vc_spec_l2Parent w0 a0 a1 σ R) : AC Tryz.prog w0 n_spec_l2Parent [a0, a1] σ R := by
  refine ac_rule (fn := Tryz.f151) (c := Tryz.f151.body.getD .skip) kp_spec_l2Parent esc_spec_l2Parent Tryz.func151 (by kernel_rfl) (by kernel_rfl) ?_
  rw [← vc_spec_l2Parent_eq]
  exact h

/-- spec.l2Fits -/
def kp_spec_l2Fits : Nat → Keep
  | _ => ⟨[], [], [], .done, []⟩
def esc_spec_l2Fits : Nat → Bool
  | _ => false
def vc_spec_l2Fits (w0 : World) (a0 a1 : Value) (σ : Vw) (R : Value → Vw → Prop) : Prop :=
  V true 5 a0 (V true 5 a1 (AC P w0 n_spec_TreeOk ([.agg (⟨[C a0 0, C a0 1, C a0 2, C a0 3, C a0 4]⟩)]) σ fun v0 s1 => pUn .not v0 fun v2 => Q v2 (V true 5 (.agg (⟨[C a1 0, C a1 1, C a1 2, C a1 3, C a1 4]⟩)) (R (.tuple (⟨[.agg (⟨[C a1 0, C a1 1, C a1 2, C a1 3, C a1 4]⟩), .int .i64 6]⟩)) s1)) (V true 5 (.agg (⟨[C a0 0, C a0 1, C a0 2, C a0 3, C a0 4]⟩)) (R (.tuple (⟨[.agg (⟨[C a0 0, C a0 1, C a0 2, C a0 3, C a0 4]⟩), .int .i64 0]⟩)) s1))))
theorem vc_spec_l2Fits_eq (w0 : World) (a0 a1 : Value) (σ : Vw) (R : Value → Vw → Prop) : vc_spec_l2Fits w0 a0 a1 σ R = den Tryz.prog w0 kp_spec_l2Fits esc_spec_l2Fits (Tryz.f152.body.getD .skip) (entry Tryz.f152.ntmps [a0, a1]) σ (retK Tryz.prog Tryz.f152.results.toList R) := by kernel_rfl
theorem ac_spec_l2Fits {w0 : World} {a0 a1 : Value} {σ : Vw} {R : Value → Vw → Prop} (h : vc_spec_l2Fits w0 a0 a1 σ R) : AC Tryz.prog w0 n_spec_l2Fits [a0, a1] σ R := by
  refine ac_rule (fn := Tryz.f152) (c := Tryz.f152.body.getD .skip) kp_spec_l2Fits esc_spec_l2Fits Tryz.func152 (by kernel_rfl) (by kernel_rfl) ?_
  rw [← vc_spec_l2Fits_eq]
  exact h

/-- spec.l2Set -/
def kp_spec_l2Set : Nat → Keep
  | 4 => ⟨[1, 3, 10, 11], [(4, 5), (6, 5), (8, 5), (9, 5)], [4, 6, 8, 9], .done, []⟩
  | 8 => ⟨[], [], [], .step 0 (.step 1 (.step 2 (.step 3 (.step 4 (.step 5 (.step 6 (.step 7 (.step 8 (.done))))))))), [(1, [0]), (3, [2]), (4, [2, 3]), (5, [2, 3, 4]), (6, [0, 1, 2, 3, 4, 5]), (7, [0, 1, 2, 3, 4, 5, 6]), (8, [0, 1, 2, 3, 4, 5, 6, 7])]⟩
  | 14 => ⟨[], [], [], .step 0 (.step 1 (.step 2 (.step 3 (.step 4 (.step 5 (.step 6 (.done))))))), [(2, [1]), (5, [0, 1, 2, 3, 4]), (6, [0, 1, 2, 3, 4, 5])]⟩
  | 18 => ⟨[], [], [], .step 0 (.step 1 (.step 2 (.step 3 (.step 4 (.step 5 (.step 6 (.step 7 (.step 8 (.done))))))))), [(1, [0]), (3, [2]), (4, [2, 3]), (5, [2, 3, 4]), (6, [0, 1, 2, 3, 4, 5]), (7, [0, 1, 2, 3, 4, 5, 6]), (8, [0, 1, 2, 3, 4, 5, 6, 7])]⟩
  | _ => ⟨[], [], [], .done, []⟩
def esc_spec_l2Set : Nat → Bool
  | _ => false
def cs_spec_l2Set_1 (w0 : World) (l900 : List Value) (s901 : Vw) (g902 : Nat → Value) (K903 : AX → List Value → Vw → Prop) (R : Value → Vw → Prop) : Prop :=
  X 5 (G l900 8) (G l900 3) (fun v500 => L w0 5 v500 s901 fun g501 => V true 5 (.agg (⟨[g501 0, g501 1, g501 2, g501 3, g501 4]⟩)) (X 1 (G l900 0) (.int .i64 0) fun v502 => L w0 1 v502 s901 fun g503 => B P 9 .eql (g902 0) (g503 0) fun v504 => Q v504 (pSlice 1 (G l900 0) (some (.int .i64 1)) none fun v505 => AC P w0 n_spec_l2Set ([.agg (⟨[g501 0, g501 1, g501 2, g501 3, g501 4]⟩), v505, .agg (⟨[G l900 9, G l900 10, G l900 11, G l900 12, G l900 13]⟩), G l900 1]) s901 fun v506 s507 => V true 5 v506 (V false 1 (g902 0) ((allOne [g902 0]) ∧ (A w0 9 1 16 (G l900 22) 1 [g902 0] s507 fun v508 s509 => V false 1 v508 (V true 5 (.agg (⟨[C v506 0, C v506 1, C v506 2, C v506 3, C v506 4]⟩)) ((allOne [C v506 0, C v506 1, C v506 2, C v506 3, C v506 4]) ∧ (A w0 26 5 80 (G l900 23) 1 [C v506 0, C v506 1, C v506 2, C v506 3, C v506 4] s509 fun v510 s511 => V false 1 v510 (B P 3 .add (G l900 3) (.int .i64 1) fun v512 => K903 .normal [G l900 0, G l900 1, G l900 2, v512, G l900 4, G l900 5, G l900 6, G l900 7, G l900 8, G l900 9, G l900 10, G l900 11, G l900 12, G l900 13, G l900 14, G l900 15, G l900 16, G l900 17, G l900 18, G l900 19, G l900 20, G l900 21, v508, v510] s511)))))))) (V false 1 (g902 0) ((allOne [g902 0]) ∧ (A w0 9 1 16 (G l900 22) 1 [g902 0] s901 fun v513 s514 => V false 1 v513 (V true 5 (.agg (⟨[g501 0, g501 1, g501 2, g501 3, g501 4]⟩)) ((allOne [g501 0, g501 1, g501 2, g501 3, g501 4]) ∧ (A w0 26 5 80 (G l900 23) 1 [g501 0, g501 1, g501 2, g501 3, g501 4] s514 fun v515 s516 => V false 1 v515 (B P 3 .add (G l900 3) (.int .i64 1) fun v517 => K903 .normal [G l900 0, G l900 1, G l900 2, v517, G l900 4, G l900 5, G l900 6, G l900 7, G l900 8, G l900 9, G l900 10, G l900 11, G l900 12, G l900 13, G l900 14, G l900 15, G l900 16, G l900 17, G l900 18, G l900 19, G l900 20, G l900 21, v513, v515] s516)))))))))
def cs_spec_l2Set_2 (w0 : World) (l900 : List Value) (s901 : Vw) (g902 : Nat → Value) (K903 : AX → List Value → Vw → Prop) (R : Value → Vw → Prop) : Prop :=
  X 1 (G l900 0) (.int .i64 0) (fun v500 => L w0 1 v500 s901 fun g501 => B P 9 .eql (g902 0) (g501 0) fun v502 => Q v502 (N (G l900 0) fun v503 => B P 3 .eql v503 (.int .i64 1) fun v504 => Q v504 (B P 3 .add (G l900 3) (.int .i64 1) fun v505 => K903 .normal [G l900 0, G l900 1, G l900 2, v505, G l900 4, G l900 5, G l900 6, G l900 7, G l900 8, G l900 9, G l900 10, G l900 11, G l900 12, G l900 13, G l900 14, G l900 15, G l900 16, G l900 17, G l900 18, G l900 19, G l900 20, G l900 21, G l900 22, G l900 23] s901) (cs_spec_l2Set_1 w0 l900 s901 g902 K903 R)) (cs_spec_l2Set_1 w0 l900 s901 g902 K903 R))
def cs_spec_l2Set_5 (w0 : World) (l900 : List Value) (K901 : AX → List Value → Vw → Prop) (v902 : Value) (v903 : Value) (s904 : Vw) (R : Value → Vw → Prop) : Prop :=
  B P 3 .add (G l900 3) (.int .i64 1) (fun v500 => K901 .normal [G l900 0, G l900 1, .bool true, v500, G l900 4, G l900 5, G l900 6, G l900 7, G l900 8, G l900 9, G l900 10, G l900 11, G l900 12, G l900 13, G l900 14, G l900 15, G l900 16, G l900 17, G l900 18, G l900 19, G l900 20, G l900 21, v902, v903] s904)
def cs_spec_l2Set_3 (w0 : World) (l900 : List Value) (s901 : Vw) (g902 : Nat → Value) (v903 : Value) (v904 : Value) (K905 : AX → List Value → Vw → Prop) (R : Value → Vw → Prop) : Prop :=
  X 5 (G l900 8) (G l900 3) (fun v500 => L w0 5 v500 s901 fun g501 => V true 5 (.agg (⟨[g501 0, g501 1, g501 2, g501 3, g501 4]⟩)) (X 1 (G l900 0) (.int .i64 0) fun v502 => L w0 1 v502 s901 fun g503 => B P 9 .eql (g902 0) (g503 0) fun v504 => Q v504 (pSlice 1 (G l900 0) (some (.int .i64 1)) none fun v505 => AC P w0 n_spec_l2Set ([.agg (⟨[g501 0, g501 1, g501 2, g501 3, g501 4]⟩), v505, .agg (⟨[G l900 9, G l900 10, G l900 11, G l900 12, G l900 13]⟩), G l900 1]) s901 fun v506 s507 => V true 5 v506 (V false 1 (g902 0) ((allOne [g902 0]) ∧ (A w0 9 1 16 v903 1 [g902 0] s507 fun v508 s509 => V false 1 v508 (V true 5 (.agg (⟨[C v506 0, C v506 1, C v506 2, C v506 3, C v506 4]⟩)) ((allOne [C v506 0, C v506 1, C v506 2, C v506 3, C v506 4]) ∧ (A w0 26 5 80 v904 1 [C v506 0, C v506 1, C v506 2, C v506 3, C v506 4] s509 fun v510 s511 => V false 1 v510 (cs_spec_l2Set_5 w0 l900 K905 v508 v510 s511 R)))))))) (V false 1 (g902 0) ((allOne [g902 0]) ∧ (A w0 9 1 16 v903 1 [g902 0] s901 fun v513 s514 => V false 1 v513 (V true 5 (.agg (⟨[g501 0, g501 1, g501 2, g501 3, g501 4]⟩)) ((allOne [g501 0, g501 1, g501 2, g501 3, g501 4]) ∧ (A w0 26 5 80 v904 1 [g501 0, g501 1, g501 2, g501 3, g501 4] s514 fun v515 s516 => V false 1 v515 (cs_spec_l2Set_5 w0 l900 K905 v513 v515 s516 R)))))))))
def cs_spec_l2Set_4 (w0 : World) (v900 : Value) (l901 : List Value) (s902 : Vw) (R : Value → Vw → Prop) : Prop :=
  B P 3 .eql v900 (.int .i64 1) (fun v500 => Q v500 (pUn .not (G l901 2) fun v501 => Q v501 (pUn .not (G l901 1) fun v502 => Q v502 (X 1 (G l901 0) (.int .i64 0) fun v503 => L w0 1 v503 s902 fun g504 => V false 1 (g504 0) ((allOne [g504 0]) ∧ (A w0 9 1 16 (G l901 22) 1 [g504 0] s902 fun v505 s506 => V false 1 v505 (V true 5 (.agg (⟨[G l901 9, G l901 10, G l901 11, G l901 12, G l901 13]⟩)) ((allOne [G l901 9, G l901 10, G l901 11, G l901 12, G l901 13]) ∧ (A w0 26 5 80 (G l901 23) 1 [G l901 9, G l901 10, G l901 11, G l901 12, G l901 13] s506 fun v507 s508 => V false 1 v507 (V true 5 (.agg (⟨[G l901 19, G l901 20, G l901 21, v505, v507]⟩)) (R (.agg (⟨[G l901 19, G l901 20, G l901 21, v505, v507]⟩)) s508)))))))) (V true 5 (.agg (⟨[G l901 19, G l901 20, G l901 21, G l901 22, G l901 23]⟩)) (R (.agg (⟨[G l901 19, G l901 20, G l901 21, G l901 22, G l901 23]⟩)) s902))) (V true 5 (.agg (⟨[G l901 19, G l901 20, G l901 21, G l901 22, G l901 23]⟩)) (R (.agg (⟨[G l901 19, G l901 20, G l901 21, G l901 22, G l901 23]⟩)) s902))) (V true 5 (.agg (⟨[G l901 19, G l901 20, G l901 21, G l901 22, G l901 23]⟩)) (R (.agg (⟨[G l901 19, G l901 20, G l901 21, G l901 22, G l901 23]⟩)) s902)))
def vc_spec_l2Set (w0 : World) (a0 a1 a2 a3 : Value) (σ : Vw) (R : Value → Vw → Prop) : Prop :=
  V true 5 a0 (V true 5 a2 (V false 1 (C a0 0) (V false 1 (C a0 1) (V false 1 (C a0 2) (V true 5 (.agg (⟨[C a0 0, C a0 1, C a0 2, .slice none 0 0, .slice none 0 0]⟩)) (pLoop (fun l0 K1 s2 => N (G l0 7) fun v3 => B P 3 .lss (G l0 3) v3 fun v4 => Q v4 (X 1 (G l0 7) (G l0 3) fun v5 => L w0 1 v5 s2 fun g6 => N (G l0 0) fun v7 => B P 3 .eql v7 (.int .i64 1) fun v8 => Q v8 (pUn .not (G l0 2) fun v9 => Q v9 (pUn .not (G l0 1) fun v10 => Q v10 (X 1 (G l0 0) (.int .i64 0) fun v11 => L w0 1 v11 s2 fun g12 => B P 9 .geq (g6 0) (g12 0) fun v13 => Q v13 (X 1 (G l0 0) (.int .i64 0) fun v14 => L w0 1 v14 s2 fun g15 => V false 1 (g15 0) ((allOne [g15 0]) ∧ (A w0 9 1 16 (G l0 22) 1 [g15 0] s2 fun v16 s17 => V false 1 v16 (V true 5 (.agg (⟨[G l0 9, G l0 10, G l0 11, G l0 12, G l0 13]⟩)) ((allOne [G l0 9, G l0 10, G l0 11, G l0 12, G l0 13]) ∧ (A w0 26 5 80 (G l0 23) 1 [G l0 9, G l0 10, G l0 11, G l0 12, G l0 13] s17 fun v18 s19 => V false 1 v18 (X 1 (G l0 0) (.int .i64 0) fun v20 => L w0 1 v20 s19 fun g21 => B P 9 .eql (g6 0) (g21 0) fun v22 => Q v22 (N (G l0 0) fun v23 => B P 3 .eql v23 (.int .i64 1) fun v24 => Q v24 (cs_spec_l2Set_5 w0 l0 K1 v16 v18 s19 R) (cs_spec_l2Set_3 w0 l0 s19 g6 v16 v18 K1 R)) (cs_spec_l2Set_3 w0 l0 s19 g6 v16 v18 K1 R)))))))) (cs_spec_l2Set_2 w0 l0 s2 g6 K1 R)) (cs_spec_l2Set_2 w0 l0 s2 g6 K1 R)) (cs_spec_l2Set_2 w0 l0 s2 g6 K1 R)) (cs_spec_l2Set_2 w0 l0 s2 g6 K1 R)) (K1 (.exit 0) [G l0 0, G l0 1, G l0 2, G l0 3, G l0 4, G l0 5, G l0 6, G l0 7, G l0 8, G l0 9, G l0 10, G l0 11, G l0 12, G l0 13, G l0 14, G l0 15, G l0 16, G l0 17, G l0 18, G l0 19, G l0 20, G l0 21, G l0 22, G l0 23] s2)) ([a1, a3, .bool false, .int .i64 0, C a0 0, C a0 1, C a0 2, C a0 3, C a0 4, C a2 0, C a2 1, C a2 2, C a2 3, C a2 4, .bool false, .int .i64 0, .string ({ data := #[] }), .slice none 0 0, .slice none 0 0, C a0 0, C a0 1, C a0 2, .slice none 0 0, .slice none 0 0]) σ fun x230 l231 s232 => match x230 with | .normal => N (G l231 0) (fun v233 => cs_spec_l2Set_4 w0 v233 l231 s232 R) | .ret => R (.agg (⟨[G l231 14, G l231 15, G l231 16, G l231 17, G l231 18]⟩)) s232 | .exit i243 => (match Nat.beq i243 0 with | true => N (G l231 0) (fun v244 => cs_spec_l2Set_4 w0 v244 l231 s232 R) | false => False)))))))

theorem vc_spec_l2Set_eq (w0 : World) (a0 a1 a2 a3 : Value) (σ : Vw) (R : Value → Vw → Prop) : vc_spec_l2Set w0 a0 a1 a2 a3 σ R = den Tryz.prog w0 kp_spec_l2Set esc_spec_l2Set (Tryz.f153.body.getD .skip) (entry Tryz.f153.ntmps [a0, a1, a2, a3]) σ (retK Tryz.prog Tryz.f153.results.toList R) := by kernel_rfl
theorem ac_spec_l2Set {w0 : World} {a0 a1 a2 a3 : Value} {σ : Vw} {R : Value → Vw → Prop} (h : vc_spec_l2Set w0 a0 a1 a2 a3 σ R) : AC Tryz.prog w0 n_spec_l2Set [a0, a1, a2, a3] σ R := by
  refine ac_rule (fn := Tryz.f153) (c := Tryz.f153.body.getD .skip) kp_spec_l2Set esc_spec_l2Set Tryz.func153 (by kernel_rfl) (by kernel_rfl) ?_
  rw [← vc_spec_l2Set_eq]
  exact h

/-- spec.l2File -/
def kp_spec_l2File : Nat → Keep
  | 14 => ⟨[], [], [], .step 0 (.step 1 (.step 2 (.step 3 (.step 5 (.step 4 (.step 6 (.step 7 (.step 8 (.step 9 (.step 10 (.done))))))))))), [(2, [1]), (4, [0, 1, 2, 3]), (6, [0, 1, 2, 3, 4, 5]), (7, [0, 1, 2, 3, 4, 5, 6]), (8, [0, 1, 2, 3, 4, 5, 6]), (9, [0, 1, 2, 3, 4, 5, 6, 7, 8]), (10, [0, 1, 2, 3, 4, 5, 6, 7, 8, 9])]⟩
  | _ => ⟨[], [], [], .done, []⟩
def esc_spec_l2File : Nat → Bool
  | _ => false
def cs_spec_l2File_2 (w0 : World) (v900 : Value) (v901 : Value) (v902 : Value) (v903 : Value) (s904 : Vw) (R : Value → Vw → Prop) : Prop :=
  V false 1 v900 (AC P w0 n_spec_l2Set ([.agg (⟨[C v901 0, C v901 1, C v901 2, C v901 3, C v901 4]⟩), C v902 1, .agg (⟨[C v903 0, C v903 1, v900, C v903 3, C v903 4]⟩), .bool false]) s904 fun v500 s501 => AC P w0 n_spec_l2Fits ([v500, .agg (⟨[C v901 0, C v901 1, C v901 2, C v901 3, C v901 4]⟩)]) s501 fun v502 s503 => E v502 0 fun v504 => E v502 1 fun v505 => V true 5 v504 (R (.tuple (⟨[.agg (⟨[C v504 0, C v504 1, C v504 2, C v504 3, C v504 4]⟩), v505]⟩)) s503))
def cs_spec_l2File_1 (w0 : World) (v900 : Value) (v901 : Value) (s902 : Vw) (v903 : Value) (R : Value → Vw → Prop) : Prop :=
  B P 3 .eql (C v900 0) (.int .i64 3) (fun v500 => Q v500 (pLenS (C v901 2) fun v501 => B P 3 .gtr v501 (C v900 3) fun v502 => Q v502 (pSliceStr (C v901 2) none (some (C v900 3)) fun v503 => AC P w0 n_spec_l2Write ([v503, C v900 3, .string ({ data := #[] })]) s902 fun v504 s505 => cs_spec_l2File_2 w0 v504 v903 v900 v901 s505 R) (AC P w0 n_spec_l2Write ([C v901 2, C v900 3, .string ({ data := #[] })]) s902 fun v512 s513 => cs_spec_l2File_2 w0 v512 v903 v900 v901 s513 R)) (pLenS (C v900 4) fun v520 => B P 3 .add v520 (C v900 3) fun v521 => B P 3 .gtr v521 (.int .i64 24) fun v522 => Q v522 (V true 5 (.agg (⟨[C v903 0, C v903 1, C v903 2, C v903 3, C v903 4]⟩)) (R (.tuple (⟨[.agg (⟨[C v903 0, C v903 1, C v903 2, C v903 3, C v903 4]⟩), .int .i64 6]⟩)) s902)) (AC P w0 n_spec_l2Write [C v901 2, C v900 3, C v900 4] s902 fun v523 s524 => cs_spec_l2File_2 w0 v523 v903 v900 v901 s524 R)))
def vc_spec_l2File (w0 : World) (a0 a1 : Value) (σ : Vw) (R : Value → Vw → Prop) : Prop :=
  V true 5 a0 (V true 5 a1 (AC P w0 n_spec_l1At ([.agg (⟨[C a0 0, C a0 1, C a0 2, C a0 3, C a0 4]⟩), C a1 1]) σ fun v0 s1 => E v0 0 fun v2 => E v0 1 fun v3 => V true 5 v2 (Q v3 (Q (C v2 0) (V true 5 (.agg (⟨[C a0 0, C a0 1, C a0 2, C a0 3, C a0 4]⟩)) (R (.tuple (⟨[.agg (⟨[C a0 0, C a0 1, C a0 2, C a0 3, C a0 4]⟩), .int .i64 4]⟩)) s1)) (pUn .not v3 fun v4 => Q v4 (B P 3 .eql (C a1 0) (.int .i64 3) fun v5 => Q v5 (V true 5 (.agg (⟨[C a0 0, C a0 1, C a0 2, C a0 3, C a0 4]⟩)) (R (.tuple (⟨[.agg (⟨[C a0 0, C a0 1, C a0 2, C a0 3, C a0 4]⟩), .int .i64 3]⟩)) s1)) (cs_spec_l2File_1 w0 a1 v2 s1 a0 R)) (cs_spec_l2File_1 w0 a1 v2 s1 a0 R))) (pUn .not v3 fun v68 => Q v68 (B P 3 .eql (C a1 0) (.int .i64 3) fun v69 => Q v69 (V true 5 (.agg (⟨[C a0 0, C a0 1, C a0 2, C a0 3, C a0 4]⟩)) (R (.tuple (⟨[.agg (⟨[C a0 0, C a0 1, C a0 2, C a0 3, C a0 4]⟩), .int .i64 3]⟩)) s1)) (cs_spec_l2File_1 w0 a1 v2 s1 a0 R)) (cs_spec_l2File_1 w0 a1 v2 s1 a0 R)))))

theorem vc_spec_l2File_eq (w0 : World) (a0 a1 : Value) (σ : Vw) (R : Value → Vw → Prop) : vc_spec_l2File w0 a0 a1 σ R = den Tryz.prog w0 kp_spec_l2File esc_spec_l2File (Tryz.f154.body.getD .skip) (entry Tryz.f154.ntmps [a0, a1]) σ (retK Tryz.prog Tryz.f154.results.toList R) := by kernel_rfl
theorem ac_spec_l2File {w0 : World} {a0 a1 : Value} {σ : Vw} {R : Value → Vw → Prop} (h : vc_spec_l2File w0 a0 a1 σ R) : AC Tryz.prog w0 n_spec_l2File [a0, a1] σ R := by
  refine ac_rule (fn := Tryz.f154) (c := Tryz.f154.body.getD .skip) kp_spec_l2File esc_spec_l2File Tryz.func154 (by kernel_rfl) (by kernel_rfl) ?_
  rw [← vc_spec_l2File_eq]
  exact h

/-- spec.l2Rename -/
def kp_spec_l2Rename : Nat → Keep
  | 12 => ⟨[], [], [], .step 0 (.step 1 (.step 2 (.step 3 (.step 5 (.step 6 (.step 7 (.step 9 (.step 4 (.step 8 (.step 10 (.step 11 (.step 12 (.step 13 (.step 14 (.done))))))))))))))), [(2, [1]), (4, [0, 1, 2, 3]), (6, [5]), (8, [0, 1, 2, 3, 4, 5, 6, 7]), (10, [0, 1, 2, 3, 4, 5, 6, 7, 8, 9]), (11, [0, 1, 2, 3, 4, 5, 6, 7, 8, 9, 10]), (12, [0, 1, 2, 3, 4, 5, 6, 7, 8, 9, 10]), (13, [0, 1, 2, 3, 4, 5, 6, 7, 8, 9, 10, 11, 12]), (14, [0, 1, 2, 3, 4, 5, 6, 7, 8, 9, 10, 11, 12, 13])]⟩
  | _ => ⟨[], [], [], .done, []⟩
def esc_spec_l2Rename : Nat → Bool
  | _ => false
def vc_spec_l2Rename (w0 : World) (a0 a1 : Value) (σ : Vw) (R : Value → Vw → Prop) : Prop :=
  V true 5 a0 (V true 5 a1 (AC P w0 n_spec_l1At ([.agg (⟨[C a0 0, C a0 1, C a0 2, C a0 3, C a0 4]⟩), C a1 1]) σ fun v0 s1 => E v0 0 fun v2 => E v0 1 fun v3 => V true 5 v2 (pUn .not v3 fun v4 => Q v4 (V true 5 (.agg (⟨[C a0 0, C a0 1, C a0 2, C a0 3, C a0 4]⟩)) (R (.tuple (⟨[.agg (⟨[C a0 0, C a0 1, C a0 2, C a0 3, C a0 4]⟩), .int .i64 3]⟩)) s1)) (AC P w0 n_spec_l2Within [C a1 2, C a1 1] s1 fun v5 s6 => Q v5 (V true 5 (.agg (⟨[C a0 0, C a0 1, C a0 2, C a0 3, C a0 4]⟩)) (R (.tuple (⟨[.agg (⟨[C a0 0, C a0 1, C a0 2, C a0 3, C a0 4]⟩), .int .i64 7]⟩)) s6)) (AC P w0 n_spec_l2Parent ([.agg (⟨[C a0 0, C a0 1, C a0 2, C a0 3, C a0 4]⟩), C a1 2]) s6 fun v7 s8 => B P 3 .neq v7 (.int .i64 0) fun v9 => Q v9 (V true 5 (.agg (⟨[C a0 0, C a0 1, C a0 2, C a0 3, C a0 4]⟩)) (R (.tuple (⟨[.agg (⟨[C a0 0, C a0 1, C a0 2, C a0 3, C a0 4]⟩), v7]⟩)) s8)) (AC P w0 n_spec_l1At ([.agg (⟨[C a0 0, C a0 1, C a0 2, C a0 3, C a0 4]⟩), C a1 2]) s8 fun v10 s11 => E v10 0 fun v12 => E v10 1 fun v13 => V true 5 v12 (Q v13 (V true 5 (.agg (⟨[C a0 0, C a0 1, C a0 2, C a0 3, C a0 4]⟩)) (R (.tuple (⟨[.agg (⟨[C a0 0, C a0 1, C a0 2, C a0 3, C a0 4]⟩), .int .i64 5]⟩)) s11)) (AC P w0 n_spec_l2Set ([.agg (⟨[C a0 0, C a0 1, C a0 2, C a0 3, C a0 4]⟩), C a1 1, .agg (⟨[.bool false, .int .i64 0, .string ({ data := #[] }), .slice none 0 0, .slice none 0 0]⟩), .bool true]) s11 fun v14 s15 => AC P w0 n_spec_l2Set ([v14, C a1 2, .agg (⟨[C v2 0, C v2 1, C v2 2, C v2 3, C v2 4]⟩), .bool false]) s15 fun v16 s17 => AC P w0 n_spec_l2Fits ([v16, .agg (⟨[C a0 0, C a0 1, C a0 2, C a0 3, C a0 4]⟩)]) s17 fun v18 s19 => E v18 0 fun v20 => E v18 1 fun v21 => V true 5 v20 (R (.tuple (⟨[.agg (⟨[C v20 0, C v20 1, C v20 2, C v20 3, C v20 4]⟩), v21]⟩)) s19)))))))))
theorem vc_spec_l2Rename_eq (w0 : World) (a0 a1 : Value) (σ : Vw) (R : Value → Vw → Prop) : vc_spec_l2Rename w0 a0 a1 σ R = den Tryz.prog w0 kp_spec_l2Rename esc_spec_l2Rename (Tryz.f155.body.getD .skip) (entry Tryz.f155.ntmps [a0, a1]) σ (retK Tryz.prog Tryz.f155.results.toList R) := by kernel_rfl
theorem ac_spec_l2Rename {w0 : World} {a0 a1 : Value} {σ : Vw} {R : Value → Vw → Prop} (h : vc_spec_l2Rename w0 a0 a1 σ R) : AC Tryz.prog w0 n_spec_l2Rename [a0, a1] σ R := by
  refine ac_rule (fn := Tryz.f155) (c := Tryz.f155.body.getD .skip) kp_spec_l2Rename esc_spec_l2Rename Tryz.func155 (by kernel_rfl) (by kernel_rfl) ?_
  rw [← vc_spec_l2Rename_eq]
  exact h

/-- slices.IndexFunc[[]impl.Mark,impl.Mark] -/
def kp_slices_IndexFunc_impl_Mark_impl_Mark : Nat → Keep
  | 2 => ⟨[0, 1, 4, 7, 8], [], [], .done, []⟩
  | _ => ⟨[], [], [], .done, []⟩
def esc_slices_IndexFunc_impl_Mark_impl_Mark : Nat → Bool
  | _ => false
def vc_slices_IndexFunc_impl_Mark_impl_Mark (w0 : World) (a0 a1 : Value) (σ : Vw) (R : Value → Vw → Prop) : Prop :=
  N a0 fun v0 => pLoop (fun l1 K2 s3 => B P 3 .lss (G l1 4) (G l1 3) fun v4 => Q v4 (X 2 (G l1 0) (G l1 4) fun v5 => L w0 2 v5 s3 fun g6 => pCallV (fun n7 l8 s9 K10 => AC P w0 n7 l8 s9 K10) (G l1 1) ([.agg (⟨[g6 0, g6 1]⟩)]) s3 fun v11 s12 => Q v11 (K2 .ret [G l1 0, G l1 1, G l1 4, G l1 3, G l1 4] s12) (B P 3 .add (G l1 4) (.int .i64 1) fun v13 => K2 .normal [G l1 0, G l1 1, G l1 2, G l1 3, v13] s12)) (K2 (.exit 0) [G l1 0, G l1 1, G l1 2, G l1 3, G l1 4] s3)) [a0, a1, .int .i64 0, v0, .int .i64 0] σ fun x14 l15 s16 => match x14 with | .normal => R (.int .i64 (-1)) s16 | .ret => R (G l15 2) s16 | .exit i17 => (match Nat.beq i17 0 with | true => R (.int .i64 (-1)) s16 | false => False)
theorem vc_slices_IndexFunc_impl_Mark_impl_Mark_eq (w0 : World) (a0 a1 : Value) (σ : Vw) (R : Value → Vw → Prop) : vc_slices_IndexFunc_impl_Mark_impl_Mark w0 a0 a1 σ R = den Tryz.prog w0 kp_slices_IndexFunc_impl_Mark_impl_Mark esc_slices_IndexFunc_impl_Mark_impl_Mark (Tryz.f156.body.getD .skip) (entry Tryz.f156.ntmps [a0, a1]) σ (retK Tryz.prog Tryz.f156.results.toList R) := by kernel_rfl
theorem ac_slices_IndexFunc_impl_Mark_impl_Mark {w0 : World} {a0 a1 : Value} {σ : Vw} {R : Value → Vw → Prop} (h : vc_slices_IndexFunc_impl_Mark_impl_Mark w0 a0 a1 σ R) : AC Tryz.prog w0 n_slices_IndexFunc_impl_Mark_impl_Mark [a0, a1] σ R := by
  refine ac_rule (fn := Tryz.f156) (c := Tryz.f156.body.getD .skip) kp_slices_IndexFunc_impl_Mark_impl_Mark esc_slices_IndexFunc_impl_Mark_impl_Mark Tryz.func156 (by kernel_rfl) (by kernel_rfl) ?_
  rw [← vc_slices_IndexFunc_impl_Mark_impl_Mark_eq]
  exact h

end Go.Proofs.YtkbhjejalkbogaaGreat

/- What each function owes, reckoned out, part 6. MADE BY PROGRAM (emit.py). -/
set_option linter.unusedVariables false
namespace Go.Proofs.YtkbhjejalkbogaaGreat
open Go.Av renaming vget → G, cellOf → C, pVal → V, pBin → B, pIndexAddr → X, pLoad → L, pField → F, pIf → Q, pExtract → E, pAppend → A, pLen → N, pNew → W
open Go.Proofs.Tryz renaming prog → P
open Go Go.Av

def cs_slices_breakPatternsCmpFunc_impl_Mark_1 (w0 : World) (l900 : List Value) (v901 : Value) (s902 : Vw) (K903 : AX → List Value → Vw → Prop) (R : Value → Vw → Prop) : Prop :=
  B P 3 .add (G l900 1) v901 (fun v500 => B P 3 .add (G l900 1) v901 fun v501 => X 2 (G l900 0) v501 fun v502 => L w0 2 v502 s902 fun g503 => X 2 (G l900 0) (G l900 5) fun v504 => L w0 2 v504 s902 fun g505 => X 2 (G l900 0) (G l900 5) fun v506 => V true 2 (.agg (⟨[g503 0, g503 1]⟩)) (pStore v506 [g503 0, g503 1] s902 fun s507 => X 2 (G l900 0) v500 fun v508 => V true 2 (.agg (⟨[g505 0, g505 1]⟩)) (pStore v508 [g505 0, g505 1] s507 fun s509 => B P 3 .add (G l900 5) (.int .i64 1) fun v510 => K903 .normal [G l900 0, G l900 1, G l900 2, G l900 3, G l900 4, v510] s509)))
def vc_slices_breakPatternsCmpFunc_impl_Mark (w0 : World) (a0 a1 a2 a3 : Value) (σ : Vw) (R : Value → Vw → Prop) : Prop :=
  B P 3 .sub a2 a1 fun v0 => B P 3 .geq v0 (.int .i64 8) fun v1 => Q v1 (pConvInt .u64 v0 fun v2 => W w0 180 [.int .u64 0] σ fun n3 s4 => V false 1 v2 (pStore (.pointer (some (Addr.mk n3 0 none))) [v2] s4 fun s5 => AC P w0 n_slices_nextPowerOfTwo [v0] s5 fun v6 s7 => B P 3 .quo v0 (.int .i64 4) fun v8 => B P 3 .mul v8 (.int .i64 2) fun v9 => B P 3 .add a1 v9 fun v10 => B P 3 .sub v10 (.int .i64 1) fun v11 => pLoop (fun l12 K13 s14 => B P 3 .quo (G l12 2) (.int .i64 4) fun v15 => B P 3 .mul v15 (.int .i64 2) fun v16 => B P 3 .add (G l12 1) v16 fun v17 => B P 3 .add v17 (.int .i64 1) fun v18 => B P 3 .leq (G l12 5) v18 fun v19 => Q v19 (AC P w0 n_p_slices_xorshift_Next [G l12 3] s14 fun v20 s21 => B P 155 .sub (G l12 4) (.int .u64 1) fun v22 => B P 155 .and v20 v22 fun v23 => pConvInt .i64 v23 fun v24 => B P 3 .geq v24 (G l12 2) fun v25 => Q v25 (B P 3 .sub v24 (G l12 2) fun v26 => cs_slices_breakPatternsCmpFunc_impl_Mark_1 w0 l12 v26 s21 K13 R) (cs_slices_breakPatternsCmpFunc_impl_Mark_1 w0 l12 v24 s21 K13 R)) (K13 (.exit 0) [G l12 0, G l12 1, G l12 2, G l12 3, G l12 4, G l12 5] s14)) [a0, a1, v0, .pointer (some (Addr.mk n3 0 none)), v6, v11] s7 fun x49 l50 s51 => match x49 with | .normal => R (.tuple ⟨[]⟩) s51 | .ret => R (.tuple ⟨[]⟩) s51 | .exit i52 => (match Nat.beq i52 0 with | true => R (.tuple ⟨[]⟩) s51 | false => False))) (R (.tuple ⟨[]⟩) σ)

/-- slices.choosePivotCmpFunc[impl.Mark] -/
def kp_slices_choosePivotCmpFunc_impl_Mark : Nat → Keep
  | _ => ⟨[], [], [], .done, []⟩
/-- spec.l2Write -/
def kp_spec_l2Write : Nat → Keep
  | 2 => ⟨[1, 2, 7], [], [], .done, []⟩
  | 5 => ⟨[1, 2, 7, 8], [], [], .done, []⟩
  | _ => ⟨[], [], [], .done, []⟩
def esc_spec_l2Write : Nat → Bool
  | _ => false
def vc_spec_l2Write (w0 : World) (a0 a1 a2 : Value) (σ : Vw) (R : Value → Vw → Prop) : Prop :=
  pBytes w0 5 a0 σ fun v0 s1 => pLoop (fun l2 K3 s4 => N (G l2 2) fun v5 => pLenS (G l2 1) fun v6 => B P 3 .add (G l2 0) v6 fun v7 => B P 3 .lss v5 v7 fun v8 => Q v8 (V false 1 (.int .u8 0) ((allOne [.int .u8 0]) ∧ (A w0 5 1 1 (G l2 2) 1 [.int .u8 0] s4 fun v9 s10 => K3 .normal [G l2 0, G l2 1, v9] s10))) (K3 (.exit 0) [G l2 0, G l2 1, G l2 2] s4)) [a1, a2, v0] s1 fun x11 l12 s13 => match x11 with | .normal => pLoop (fun l14 K15 s16 => pLenS (G l14 1) fun v17 => B P 3 .lss (G l14 3) v17 fun v18 => Q v18 (B P 3 .add (G l14 0) (G l14 3) fun v19 => pIndexStr (G l14 1) (G l14 3) fun v20 => X 1 (G l14 2) v19 fun v21 => V false 1 v20 (pStore v21 [v20] s16 fun s22 => B P 3 .add (G l14 3) (.int .i64 1) fun v23 => K15 .normal [G l14 0, G l14 1, G l14 2, v23] s22)) (K15 (.exit 2) [G l14 0, G l14 1, G l14 2, G l14 3] s16)) [G l12 0, G l12 1, G l12 2, .int .i64 0] s13 (fun x24 l25 s26 => match x24 with | .normal => pStr w0 (G l25 2) s26 (fun v27 => R v27 s26) | .ret => False | .exit i28 => (match Nat.beq i28 2 with | true => pStr w0 (G l25 2) s26 (fun v29 => R v29 s26) | false => False)) | .ret => False | .exit i30 => (match Nat.beq i30 0 with | true => pLoop (fun l31 K32 s33 => pLenS (G l31 1) fun v34 => B P 3 .lss (G l31 3) v34 fun v35 => Q v35 (B P 3 .add (G l31 0) (G l31 3) fun v36 => pIndexStr (G l31 1) (G l31 3) fun v37 => X 1 (G l31 2) v36 fun v38 => V false 1 v37 (pStore v38 [v37] s33 fun s39 => B P 3 .add (G l31 3) (.int .i64 1) fun v40 => K32 .normal [G l31 0, G l31 1, G l31 2, v40] s39)) (K32 (.exit 2) [G l31 0, G l31 1, G l31 2, G l31 3] s33)) [G l12 0, G l12 1, G l12 2, .int .i64 0] s13 (fun x41 l42 s43 => match x41 with | .normal => pStr w0 (G l42 2) s43 (fun v44 => R v44 s43) | .ret => False | .exit i45 => (match Nat.beq i45 2 with | true => pStr w0 (G l42 2) s43 (fun v46 => R v46 s43) | false => False)) | false => False)
theorem vc_spec_l2Write_eq (w0 : World) (a0 a1 a2 : Value) (σ : Vw) (R : Value → Vw → Prop) : vc_spec_l2Write w0 a0 a1 a2 σ R = den Tryz.prog w0 kp_spec_l2Write esc_spec_l2Write (Tryz.f168.body.getD .skip) (entry Tryz.f168.ntmps [a0, a1, a2]) σ (retK Tryz.prog Tryz.f168.results.toList R) := by kernel_rfl
theorem ac_spec_l2Write {w0 : World} {a0 a1 a2 : Value} {σ : Vw} {R : Value → Vw → Prop} (h : vc_spec_l2Write w0 a0 a1 a2 σ R) : AC Tryz.prog w0 n_spec_l2Write [a0, a1, a2] σ R := by
  refine ac_rule (fn := Tryz.f168) (c := Tryz.f168.body.getD .skip) kp_spec_l2Write esc_spec_l2Write Tryz.func168 (by kernel_rfl) (by kernel_rfl) ?_
  rw [← vc_spec_l2Write_eq]
  exact h

end Go.Proofs.YtkbhjejalkbogaaGreat

/- What each function owes: all parts. MADE BY PROGRAM (emit.py). -/


/- The lists of texts: their size, their copy, their comparison. -/
set_option linter.unusedVariables false
set_option linter.unusedSimpArgs false
namespace Go.Proofs.YtkbhjejalkbogaaGreat
open Go Go.Av

section
variable {w0 : World} {σ : Vw}

def sumS : List ByteArray → Nat
  | [] => 0
  | s :: r => s.size + sumS r
/-- What is left of n. -/
def left (n : Int) (t : Nat) : Int := if n - t < 0 then -1 else n - t

end
end Go.Proofs.YtkbhjejalkbogaaGreat

/- The lists of texts: their copy, their comparison. -/
set_option linter.unusedVariables false
set_option linter.unusedSimpArgs false
namespace Go.Proofs.YtkbhjejalkbogaaGreat
open Go Go.Av

section
variable {w0 : World} {σ : Vw}


end
end Go.Proofs.YtkbhjejalkbogaaGreat

/- The lists of texts in rows of their own; marks (a path and a bool) and their lists: size, copy, comparison. -/
set_option linter.unusedVariables false
set_option linter.unusedSimpArgs false
namespace Go.Proofs.YtkbhjejalkbogaaGreat
open Go Go.Av

/-- A text needs no row. -/
def OStr (σ : Vw) (F : List Nat) (es : List Value) (s : ByteArray) : Prop := F = [] ∧ es = [.string s] ∧ s.size ≤ 9223372036854775807

section
variable {w0 : World} {σ : Vw}

theorem ok_str (w0 : World) : OOk w0 1 RS OStr := by
  refine ⟨?_, ?_, ?_, ?_, ?_, ?_⟩
  · rintro σ F es x ⟨_, h1, h2⟩; exact ⟨h1, h2⟩
  · rintro σ σ' F es x h _; exact h
  · rintro σ F es x ⟨rfl, _, _⟩ b hb; cases hb
  · rintro σ F es x ⟨rfl, _, _⟩; exact List.nodup_nil
  · rintro σ F es x ⟨_, rfl, _⟩; rfl
  · rintro σ F es x ⟨_, rfl, _⟩ c hc; rw [List.mem_singleton.1 hc]; rfl

abbrev OStrs (w0 : World) := OSl w0 1 OStr
theorem flat_strs (xs : List ByteArray) : xs.map Value.string = (xs.map fun s => [Value.string s]).flatten := by
  induction xs with
  | nil => rfl
  | cons a r ih => simp [ih]

/-- A mark: a path, and a bool. -/
abbrev Mk := List ByteArray × Bool
def RMk (rd : Addr → Option Value) (es : List Value) (m : Mk) : Prop := ∃ v, es = [v, .bool m.2] ∧ RSl 1 RS rd v m.1
def OMk (w0 : World) (σ : Vw) (F : List Nat) (es : List Value) (m : Mk) : Prop := ∃ v, es = [v, .bool m.2] ∧ OStrs w0 σ F v m.1
theorem OSl.one' {α : Type} {n : Nat} {O : Vw → List Nat → List Value → α → Prop} {F : List Nat} {v : Value} {xs : List α} (h : OSl w0 n O σ F v xs) : v.oneCell' = true := by
  obtain ⟨_, _, ⟨rfl, _⟩ | ⟨_, _, _, _, _, _, _, _, rfl, _⟩⟩ := h <;> rfl

theorem ok_mk (w0 : World) : OOk w0 2 RMk (OMk w0) := by
  refine ⟨?_, ?_, ?_, ?_, ?_, ?_⟩
  · rintro σ F es x ⟨v, h1, h2⟩; exact ⟨v, h1, h2.rel (ok_str w0)⟩
  · rintro σ σ' F es x ⟨v, h1, h2⟩ hF; exact ⟨v, h1, h2.frame (ok_str w0) hF⟩
  · rintro σ F es x ⟨v, h1, h2⟩; exact h2.dom (ok_str w0)
  · rintro σ F es x ⟨v, h1, h2⟩; exact h2.2.1
  · rintro σ F es x ⟨v, rfl, h2⟩; rfl
  · rintro σ F es x ⟨v, rfl, h2⟩ c hc
    simp at hc
    rcases hc with rfl | rfl
    · exact OSl.one' h2
    · rfl
theorem mono_mk {rd rd' : Addr → Option Value} {es : List Value} {x : Mk} (hl : Le rd rd') (h : RMk rd es x) : RMk rd' es x := by
  obtain ⟨v, h1, h2⟩ := h; exact ⟨v, h1, h2.mono hl fun _ _ h => h⟩

theorem sumS_eq (xs : List ByteArray) : sumS xs = sumBy ByteArray.size xs := by
  induction xs with
  | nil => rfl
  | cons a r ih => simp [sumS, sumBy, ih]

end
end Go.Proofs.YtkbhjejalkbogaaGreat

/- Names: their letters and their length. -/
set_option linter.unusedVariables false
set_option linter.unusedSimpArgs false
namespace Go.Proofs.YtkbhjejalkbogaaGreat
open Go Go.Av

theorem pIndexStr_s {s : ByteArray} {j : Nat} {K : Value → Prop} (h : j < s.size) (hK : K (.int .u8 ((s[j]'h).toNat : Int))) : pIndexStr (.string s) (.int .i64 j) K :=
  ⟨s, .i64, j, rfl, rfl, by omega, h, hK⟩

def okB (n : Nat) : Prop := (97 ≤ n ∧ n ≤ 122) ∨ (48 ≤ n ∧ n ≤ 57)
/-- Within two bounds. -/
def inB (n lo hi : Int) : Bool := decide (lo ≤ n ∧ n ≤ hi)
def lettersOk (s : ByteArray) : Prop := ∀ (i : Nat) (h : i < s.size), okB (s[i]'h).toNat
open Classical in
noncomputable def nameOk (s : ByteArray) : Bool := decide (lettersOk s) && inB s.size 1 5

section
variable {w0 : World} {σ : Vw}

theorem spec_In {n lo hi : Int} {R : Value → Vw → Prop} (hR : R (.bool (inB n lo hi)) σ) : AC Tryz.prog w0 n_spec_l1In [.int .i64 n, .int .i64 lo, .int .i64 hi] σ R := by
  refine ac_spec_l1In ?_
  unfold vc_spec_l1In
  rw [pBin_ge, pIf_d]
  refine ⟨fun h => ?_, fun h => ?_⟩
  · rw [pBin_le]
    have : inB n lo hi = decide (n ≤ hi) := by simp [inB, h]
    rw [this] at hR; exact hR
  · have : inB n lo hi = false := by simp [inB, h]
    rw [this] at hR; exact hR
theorem impl_within {n lo hi : Int} {R : Value → Vw → Prop} (hR : R (.bool (inB n lo hi)) σ) : AC Tryz.prog w0 n_impl_within [.int .i64 n, .int .i64 lo, .int .i64 hi] σ R := by
  refine ac_impl_within ?_
  unfold vc_impl_within
  rw [pBin_ge, pIf_d]
  refine ⟨fun h => ?_, fun h => ?_⟩
  · rw [pBin_le]
    have : inB n lo hi = decide (n ≤ hi) := by simp [inB, h]
    rw [this] at hR; exact hR
  · have : inB n lo hi = false := by simp [inB, h]
    rw [this] at hR; exact hR

theorem nameOk_bad {s : ByteArray} {j : Nat} (h : j < s.size) (hb : ¬ okB (s[j]'h).toNat) : nameOk s = false := by
  have : ¬ lettersOk s := fun h' => hb (h' j h)
  simp [nameOk, this]
theorem nameOk_good {s : ByteArray} (h : lettersOk s) : nameOk s = inB s.size 1 5 := by simp [nameOk, h]

theorem spec_nameOk {s : ByteArray} (hs : s.size ≤ 9223372036854775807) {R : Value → Vw → Prop} (hR : R (.bool (nameOk s)) σ) : AC Tryz.prog w0 n_spec_l1NameOk [.string s] σ R := by
  refine ac_spec_l1NameOk ?_
  unfold vc_spec_l1NameOk cs_spec_l1NameOk_1
  refine loop_rule (m := s.size) (fun m l t => ∃ j, t = σ ∧ m + j = s.size ∧ (∀ (i : Nat) (h : i < s.size), i < j → okB (s[i]'h).toNat) ∧ l = [.string s, .bool false, .int .i64 (j : Nat)]) ?_ ⟨0, rfl, by omega, fun i h h' => by omega, rfl⟩
  rintro m l t L ⟨j, rfl, hm, ht, rfl⟩ hL
  simp only [vget, List.getD_cons_zero, List.getD_cons_succ]
  rw [pLenS_s, pBin_lt, pIf_d]
  refine ⟨fun hj => ?_, fun hj => ?_⟩
  · have hj' : j < s.size := by omega
    have bad : ¬ okB (s[j]'hj').toNat → R (.bool false) t := fun h => by rw [nameOk_bad hj' h] at hR; exact hR
    have good : okB (s[j]'hj').toNat → L [.string s, .bool false, .int .i64 ((j + 1 : Nat) : Int)] t := fun h => hL _ _ (m - 1) (by omega) ⟨j + 1, rfl, by omega, fun i hi hij => by
      by_cases e : i = j
      · subst e; exact h
      · exact ht i hi (by omega), rfl⟩
    have add : ∀ K : Value → Prop, pBin Tryz.prog 3 .add (.int .i64 j) (.int .i64 1) K ↔ K (.int .i64 ((j + 1 : Nat) : Int)) := fun K => pBin_add (by omega)
    have idx : ∀ K : Value → Prop, K (.int .u8 ((s[j]'hj').toNat : Int)) → pIndexStr (.string s) (.int .i64 j) K := fun K hK => pIndexStr_s hj' hK
    simp only [add, pUn_not, pIf_b, Bool.not_true, Bool.not_false, forall_const, Bool.false_eq_true, false_imp_iff, true_imp_iff, true_and, and_true, reduceCtorEq]
    refine idx _ ?_
    rw [pBin_ge, pIf_d]
    refine ⟨fun h1 => idx _ ?_, fun h1 => idx _ ?_⟩
    · rw [pBin_le, pIf_d]
      refine ⟨fun h2 => good (.inl ⟨by omega, by omega⟩), fun h2 => idx _ ?_⟩
      rw [pBin_ge, pIf_d]
      refine ⟨fun h3 => idx _ ?_, fun h3 => bad fun h => by unfold okB at h; omega⟩
      rw [pBin_le, pUn_not, pIf_b]
      refine ⟨fun h4 => bad fun h => ?_, fun h4 => good ?_⟩
      · unfold okB at h; simp at h4; omega
      · simp at h4; exact .inr ⟨by omega, by omega⟩
    · rw [pBin_ge, pIf_d]
      refine ⟨fun h3 => idx _ ?_, fun h3 => bad fun h => by unfold okB at h; omega⟩
      rw [pBin_le, pUn_not, pIf_b]
      refine ⟨fun h4 => bad fun h => ?_, fun h4 => good ?_⟩
      · unfold okB at h; simp at h4; omega
      · simp at h4; exact .inr ⟨by omega, by omega⟩
  · have hj' : j = s.size := by omega
    subst hj'
    show pLenS (.string s) _
    rw [pLenS_s]
    refine spec_In ?_
    rw [nameOk_good fun i h => ht i h h] at hR
    exact hR

theorem impl_nameOk {s : ByteArray} (hs : s.size ≤ 9223372036854775807) {R : Value → Vw → Prop} (hR : R (.bool (nameOk s)) σ) : AC Tryz.prog w0 n_impl_nameOk [.string s] σ R := by
  refine ac_impl_nameOk ?_
  unfold vc_impl_nameOk
  rw [pLenS_s]
  refine loop_rule (m := s.size) (fun m l t => ∃ j, t = σ ∧ m + j = s.size ∧ (∀ (i : Nat) (h : i < s.size), i < j → okB (s[i]'h).toNat) ∧ l = [.string s, .bool false, .int .i64 s.size, .int .i64 (j : Nat)]) ?_ ⟨0, rfl, by omega, fun i h h' => by omega, rfl⟩
  rintro m l t L ⟨j, rfl, hm, ht, rfl⟩ hL
  simp only [vget, List.getD_cons_zero, List.getD_cons_succ]
  rw [pBin_lt, pIf_d]
  refine ⟨fun hj => ?_, fun hj => ?_⟩
  · have hj' : j < s.size := by omega
    have bad : ¬ okB (s[j]'hj').toNat → R (.bool false) t := fun h => by rw [nameOk_bad hj' h] at hR; exact hR
    have good : okB (s[j]'hj').toNat → L [.string s, .bool false, .int .i64 s.size, .int .i64 ((j + 1 : Nat) : Int)] t := fun h => hL _ _ (m - 1) (by omega) ⟨j + 1, rfl, by omega, fun i hi hij => by
      by_cases e : i = j
      · subst e; exact h
      · exact ht i hi (by omega), rfl⟩
    have add : ∀ K : Value → Prop, pBin Tryz.prog 3 .add (.int .i64 j) (.int .i64 1) K ↔ K (.int .i64 ((j + 1 : Nat) : Int)) := fun K => pBin_add (by omega)
    have idx : ∀ K : Value → Prop, K (.int .u8 ((s[j]'hj').toNat : Int)) → pIndexStr (.string s) (.int .i64 j) K := fun K hK => pIndexStr_s hj' hK
    simp only [add]
    refine idx _ ?_
    rw [pBin_lt, pIf_d]
    refine ⟨fun h1 => idx _ ?_, fun h1 => idx _ ?_⟩
    · rw [pBin_lt, pIf_d]
      refine ⟨fun h2 => bad fun h => by unfold okB at h; omega, fun h2 => idx _ ?_⟩
      rw [pBin_gt, pIf_d]
      exact ⟨fun h3 => bad fun h => by unfold okB at h; omega, fun h3 => good (.inr ⟨by omega, by omega⟩)⟩
    · rw [pBin_gt, pIf_d]
      refine ⟨fun h2 => idx _ ?_, fun h2 => good (.inl ⟨by omega, by omega⟩)⟩
      rw [pBin_lt, pIf_d]
      refine ⟨fun h2 => bad fun h => by unfold okB at h; omega, fun h2 => idx _ ?_⟩
      rw [pBin_gt, pIf_d]
      exact ⟨fun h3 => bad fun h => by unfold okB at h; omega, fun h3 => good (.inr ⟨by omega, by omega⟩)⟩
  · have hj' : j = s.size := by omega
    subst hj'
    show pLenS (.string s) _
    rw [pLenS_s]
    refine impl_within ?_
    rw [nameOk_good fun i h => ht i h h] at hR
    exact hR
end
end Go.Proofs.YtkbhjejalkbogaaGreat

/- Paths: their names, their order, what lies within what. -/
set_option linter.unusedVariables false
set_option linter.unusedSimpArgs false
namespace Go.Proofs.YtkbhjejalkbogaaGreat
open Go Go.Av

def strLt (a b : ByteArray) : Bool := Op.bytesLess a.toList b.toList
theorem bl_irrefl : ∀ (a : List UInt8), Op.bytesLess a a = false
  | [] => rfl
  | x :: r => by simp [Op.bytesLess, bl_irrefl r]
theorem bl_total : ∀ (a b : List UInt8), Op.bytesLess a b = false → Op.bytesLess b a = false → a = b
  | [], [], _, _ => rfl
  | [], _ :: _, h, _ => by simp [Op.bytesLess] at h
  | _ :: _, [], _, h => by simp [Op.bytesLess] at h
  | x :: r, y :: q, h, h' => by
    simp only [Op.bytesLess] at h h'
    by_cases e : x = y
    · subst e
      simp at h h'
      rw [bl_total r q h h']
    · exfalso
      rcases UInt8.lt_or_lt_of_ne e with h1 | h1
      · simp [h1] at h
      · simp [h1] at h'
theorem strLt_irrefl (a : ByteArray) : strLt a a = false := bl_irrefl _
theorem strLt_total {a b : ByteArray} (h : strLt a b = false) (h' : strLt b a = false) : a = b := bytes_inj (bl_total _ _ h h')

noncomputable def allNames : List ByteArray → Bool
  | [] => true
  | s :: r => nameOk s && allNames r
theorem allNames_iff {xs : List ByteArray} : allNames xs = true ↔ ∀ (j : Nat) (x : ByteArray), xs[j]? = some x → nameOk x = true := by
  induction xs with
  | nil => simp [allNames]
  | cons a r ih =>
    simp only [allNames, Bool.and_eq_true, ih]
    constructor
    · rintro ⟨h1, h2⟩ j x hj
      cases j with
      | zero => simp at hj; subst hj; exact h1
      | succ j => exact h2 j x (by simpa using hj)
    · intro h
      exact ⟨h 0 a rfl, fun j x hj => h (j + 1) x (by simpa using hj)⟩
theorem allNames_bad {xs : List ByteArray} {j : Nat} {x : ByteArray} (hj : xs[j]? = some x) (h : nameOk x = false) : allNames xs = false := by
  cases hc : allNames xs with
  | false => rfl
  | true => have := allNames_iff.1 hc j x hj; rw [h] at this; cases this

def lexLt : List ByteArray → List ByteArray → Bool
  | _, [] => false
  | [], _ :: _ => true
  | a :: r, b :: q => if a = b then lexLt r q else strLt a b

theorem lexLt_at : ∀ {j : Nat} {xs ys : List ByteArray} {a b : ByteArray}, xs.take j = ys.take j → xs[j]? = some a → ys[j]? = some b → a ≠ b → lexLt xs ys = strLt a b
  | 0, x :: xs, y :: ys, a, b, _, h1, h2, h3 => by simp at h1 h2; subst h1 h2; simp [lexLt, h3]
  | j + 1, x :: xs, y :: ys, a, b, h, h1, h2, h3 => by
    simp only [List.take_succ_cons, List.cons.injEq] at h
    obtain ⟨rfl, h⟩ := h
    simp only [lexLt, if_true]
    exact lexLt_at h (by simpa using h1) (by simpa using h2) h3
  | _, [], _, a, b, _, h1, _, _ => by simp at h1
  | _, _ :: _, [], a, b, _, _, h2, _ => by simp at h2
theorem lexLt_end : ∀ {j : Nat} {xs ys : List ByteArray}, xs.take j = ys.take j → (j = xs.length ∧ j ≤ ys.length ∨ j = ys.length ∧ j ≤ xs.length) → lexLt xs ys = decide (xs.length < ys.length)
  | 0, xs, ys, _, h => by
    rcases h with ⟨h, _⟩ | ⟨h, _⟩
    · have : xs = [] := List.length_eq_zero_iff.1 h.symm
      subst this
      cases ys <;> simp [lexLt]
    · have : ys = [] := List.length_eq_zero_iff.1 h.symm
      subst this
      simp [lexLt]
  | j + 1, x :: xs, y :: ys, h, hl => by
    simp only [List.take_succ_cons, List.cons.injEq] at h
    obtain ⟨rfl, h⟩ := h
    simp only [lexLt, if_true, List.length_cons]
    rw [lexLt_end h (by simp at hl; omega)]
    simp
  | j + 1, [], ys, _, hl => by simp at hl
  | j + 1, _ :: _, [], _, hl => by simp at hl

/-- The path b lies at or under a. -/
def within (b a : List ByteArray) : Bool := decide (a.length ≤ b.length ∧ b.take a.length = a)


section
variable {w0 : World} {σ : Vw}

theorem pBin_slt {P : Program} {T : Nat} {a b : ByteArray} {K : Value → Prop} : pBin P T .lss (.string a) (.string b) K ↔ K (.bool (strLt a b)) := pBin_s rfl
theorem pBin_sgt {P : Program} {T : Nat} {a b : ByteArray} {K : Value → Prop} : pBin P T .gtr (.string a) (.string b) K ↔ K (.bool (!(strLt a b || decide (a = b)))) := pBin_s (by simp only [astr, toList_eq]; rfl)

theorem RSl.at1 {v : Value} {xs : List ByteArray} (h : RSl 1 RS (Av.get w0 σ) v xs) {j : Nat} {x : ByteArray} (hj : xs[j]? = some x) {K : (Nat → Value) → Prop} (hK : ∀ g : Nat → Value, g 0 = .string x → x.size ≤ 9223372036854775807 → K g) :
    pIndexAddr 1 v (.int .i64 j) fun p => pLoad w0 1 p σ K := by
  refine h.at hj fun g hg => ?_
  obtain ⟨hg, hs⟩ := hg
  simp only [expl, List.cons.injEq, and_true] at hg
  exact hK g hg hs

theorem spec_PathOk {v : Value} {xs : List ByteArray} (h : RSl 1 RS (Av.get w0 σ) v xs) {R : Value → Vw → Prop} (hR : R (.bool (allNames xs && inB xs.length 1 4)) σ) : AC Tryz.prog w0 n_spec_l2PathOk [v] σ R := by
  refine ac_spec_l2PathOk ?_
  unfold vc_spec_l2PathOk
  have hl := h.le
  refine loop_rule (m := xs.length) (fun m l t => ∃ j, t = σ ∧ m + j = xs.length ∧ (∀ (i : Nat) (x : ByteArray), i < j → xs[i]? = some x → nameOk x = true) ∧ l = [v, .bool false, .int .i64 (j : Nat)]) ?_ ⟨0, rfl, by omega, fun i x h => by omega, rfl⟩
  rintro m l t L ⟨j, rfl, hm, ht, rfl⟩ hL
  simp only [vget, List.getD_cons_zero, List.getD_cons_succ]
  rw [h.len, pBin_lt, pIf_d]
  refine ⟨fun hj => ?_, fun hj => ?_⟩
  · have hj' : j < xs.length := by omega
    have hx := List.getElem?_eq_getElem hj'
    refine RSl.at1 h hx fun g hg hs => ?_
    rw [hg]
    refine spec_nameOk hs ?_
    rw [pUn_not, pIf_b]
    refine ⟨fun hb => ?_, fun hb => ?_⟩
    · rw [allNames_bad hx (by simpa using hb)] at hR; exact hR
    · rw [pBin_add (by omega)]
      refine hL _ _ (m - 1) (by omega) ⟨j + 1, rfl, by omega, fun i x hi he => ?_, rfl⟩
      by_cases e : i = j
      · subst e; rw [hx] at he; cases he; simpa using hb
      · exact ht i x (by omega) he
  · have hj' : j = xs.length := by omega
    subst hj'
    show pLen v _
    rw [h.len]
    refine spec_In ?_
    rw [allNames_iff.2 fun i x he => ht i x (List.getElem?_eq_some_iff.1 he).1 he] at hR
    exact hR

theorem impl_namesOk {v : Value} {xs : List ByteArray} {lo : Int} (h : RSl 1 RS (Av.get w0 σ) v xs) {R : Value → Vw → Prop} (hR : R (.bool (allNames xs && inB xs.length lo 4)) σ) : AC Tryz.prog w0 n_impl_namesOk [v, .int .i64 lo] σ R := by
  refine ac_impl_namesOk ?_
  unfold vc_impl_namesOk
  have hl := h.le
  rw [h.len]
  refine loop_rule (m := xs.length) (fun m l t => ∃ j, t = σ ∧ m + j = xs.length ∧ (∀ (i : Nat) (x : ByteArray), i < j → xs[i]? = some x → nameOk x = true) ∧ l = [v, .int .i64 lo, .bool false, v, .int .i64 xs.length, .int .i64 (j : Nat)]) ?_ ⟨0, rfl, by omega, fun i x h => by omega, rfl⟩
  rintro m l t L ⟨j, rfl, hm, ht, rfl⟩ hL
  simp only [vget, List.getD_cons_zero, List.getD_cons_succ]
  rw [pBin_lt, pIf_d]
  refine ⟨fun hj => ?_, fun hj => ?_⟩
  · have hj' : j < xs.length := by omega
    have hx := List.getElem?_eq_getElem hj'
    refine RSl.at1 h hx fun g hg hs => ?_
    rw [hg]
    refine impl_nameOk hs ?_
    rw [pUn_not, pIf_b]
    refine ⟨fun hb => ?_, fun hb => ?_⟩
    · rw [allNames_bad hx (by simpa using hb)] at hR; exact hR
    · rw [pBin_add (by omega)]
      refine hL _ _ (m - 1) (by omega) ⟨j + 1, rfl, by omega, fun i x hi he => ?_, rfl⟩
      by_cases e : i = j
      · subst e; rw [hx] at he; cases he; simpa using hb
      · exact ht i x (by omega) he
  · have hj' : j = xs.length := by omega
    subst hj'
    show pLen v _
    rw [h.len]
    refine impl_within ?_
    rw [allNames_iff.2 fun i x he => ht i x (List.getElem?_eq_some_iff.1 he).1 he] at hR
    exact hR
end
end Go.Proofs.YtkbhjejalkbogaaGreat

/- Paths: their order, what lies within what; marks. -/
set_option linter.unusedVariables false
set_option linter.unusedSimpArgs false
namespace Go.Proofs.YtkbhjejalkbogaaGreat
open Go Go.Av

section
variable {w0 : World} {σ : Vw}

theorem spec_Less {v v' : Value} {xs ys : List ByteArray} (h : RSl 1 RS (Av.get w0 σ) v xs) (h' : RSl 1 RS (Av.get w0 σ) v' ys) {R : Value → Vw → Prop} (hR : R (.bool (lexLt xs ys)) σ) : AC Tryz.prog w0 n_spec_l11Less [v, v'] σ R := by
  refine ac_spec_l11Less ?_
  unfold vc_spec_l11Less
  have hl := h.le
  refine loop_rule (m := xs.length) (fun m l t => ∃ j, t = σ ∧ m + j = xs.length ∧ j ≤ ys.length ∧ xs.take j = ys.take j ∧ l = [v, v', .bool false, .int .i64 (j : Nat)]) ?_ ⟨0, rfl, by omega, by omega, by simp, rfl⟩
  rintro m l t L ⟨j, rfl, hm, hy, ht, rfl⟩ hL
  simp only [vget, List.getD_cons_zero, List.getD_cons_succ]
  have fin : j = xs.length ∨ j = ys.length → pLen v (fun v21 => pLen v' (fun v22 => pBin Tryz.prog 3 .lss v21 v22 (fun v23 => R v23 t))) := by
    intro hj
    rw [h.len, h'.len, pBin_lt]
    rw [lexLt_end ht (by omega)] at hR
    have : (decide (xs.length < ys.length)) = decide ((xs.length : Int) < ys.length) := by congr 1; apply propext; omega
    rw [this] at hR; exact hR
  rw [h.len, pBin_lt, pIf_d]
  refine ⟨fun hj => ?_, fun hj => fin (.inl (by omega))⟩
  rw [h'.len, pBin_lt, pIf_d]
  refine ⟨fun hj2 => ?_, fun hj2 => fin (.inr (by omega))⟩
  have hx := List.getElem?_eq_getElem (show j < xs.length by omega)
  have hy' := List.getElem?_eq_getElem (show j < ys.length by omega)
  refine RSl.at1 h hx fun g hg hs => ?_
  refine RSl.at1 h' hy' fun g' hg' hs' => ?_
  rw [hg, hg', pBin_sne, pIf_d]
  refine ⟨fun hne => ?_, fun heq => ?_⟩
  · refine RSl.at1 h hx fun g hg hs => ?_
    refine RSl.at1 h' hy' fun g' hg' hs' => ?_
    rw [hg, hg', pBin_slt]
    rw [lexLt_at ht hx hy' hne] at hR; exact hR
  · have heq' := Decidable.not_not.1 heq
    rw [pBin_add (by omega)]
    exact hL _ _ (m - 1) (by omega) ⟨j + 1, rfl, by omega, by omega, by rw [List.take_add_one, List.take_add_one, hx, hy', ht, heq'], rfl⟩

/-- What Go's comparison of texts gives. -/
def cmpS (a b : ByteArray) : Int := if strLt a b then -1 else if a = b then 0 else 1
theorem cmp_Compare {a b : ByteArray} {R : Value → Vw → Prop} (hR : R (.int .i64 (cmpS a b)) σ) : AC Tryz.prog w0 n_cmp_Compare_string [.string a, .string b] σ R := by
  refine ac_cmp_Compare_string ?_
  unfold vc_cmp_Compare_string
  have nan : ∀ (a : ByteArray) (s : Vw) (K : Value → Vw → Prop), K (.bool false) s → AC Tryz.prog w0 n_cmp_isNaN_string [.string a] s K := fun a s K hK => by
    refine ac_cmp_isNaN_string ?_
    unfold vc_cmp_isNaN_string
    rw [pBin_sne]; simpa using hK
  refine nan _ _ _ (nan _ _ _ ?_)
  rw [pIf_b, pIf_b, pIf_b]
  refine ⟨nofun, fun _ => ⟨nofun, fun _ => ?_⟩⟩
  rw [pBin_slt, pIf_b]
  refine ⟨fun h => by simpa [cmpS, h] using hR, fun h => ?_⟩
  rw [pBin_sgt, pIf_b]
  by_cases e : a = b
  · subst e; simpa [cmpS, h] using hR
  · simpa [cmpS, h, e] using hR

theorem Compare {v v' : Value} {xs ys : List ByteArray} (h : RSl 1 RS (Av.get w0 σ) v xs) (h' : RSl 1 RS (Av.get w0 σ) v' ys) {R : Value → Vw → Prop} (hR : ∀ c : Int, (c < 0 ↔ lexLt xs ys = true) → R (.int .i64 c) σ) : AC Tryz.prog w0 n_slices_Compare_string_string [v, v'] σ R := by
  refine ac_slices_Compare_string_string ?_
  unfold vc_slices_Compare_string_string
  have hl := h.le
  rw [h.len]
  refine loop_rule (m := xs.length) (fun m l t => ∃ j, t = σ ∧ m + j = xs.length ∧ j ≤ ys.length ∧ xs.take j = ys.take j ∧ l = [v, v', .int .i64 0, v, .int .i64 xs.length, .int .i64 (j : Nat)]) ?_ ⟨0, rfl, by omega, by omega, by simp, rfl⟩
  rintro m l t L ⟨j, rfl, hm, hy, ht, rfl⟩ hL
  simp only [vget, List.getD_cons_zero, List.getD_cons_succ]
  rw [pBin_lt, pIf_d]
  refine ⟨fun hj => ?_, fun hj => ?_⟩
  · have hx := List.getElem?_eq_getElem (show j < xs.length by omega)
    refine RSl.at1 h hx fun g hg hs => ?_
    rw [h'.len, pBin_ge, pIf_d]
    refine ⟨fun hj2 => ?_, fun hj2 => ?_⟩
    · refine hR 1 ?_
      rw [lexLt_end ht (by omega)]
      simp; omega
    · have hy' := List.getElem?_eq_getElem (show j < ys.length by omega)
      refine RSl.at1 h' hy' fun g' hg' hs' => ?_
      rw [hg, hg']
      refine cmp_Compare ?_
      rw [pBin_ne, pIf_d]
      refine ⟨fun hne => ?_, fun heq => ?_⟩
      · refine hR _ ?_
        have hab : xs[j] ≠ ys[j] := fun e => by
          apply hne
          rw [e, cmpS, strLt_irrefl]; simp
        rw [lexLt_at ht hx hy' hab]
        unfold cmpS
        cases hlt : strLt xs[j] ys[j] <;> simp [hab]
      · have heq' : xs[j] = ys[j] := by
          unfold cmpS at heq
          split at heq
          · simp at heq
          · split at heq
            · assumption
            · simp at heq
        rw [pBin_add (by omega)]
        exact hL _ _ (m - 1) (by omega) ⟨j + 1, rfl, by omega, by omega, by rw [List.take_add_one, List.take_add_one, hx, hy', ht, heq'], rfl⟩
  · have hj' : j = xs.length := by omega
    show pLen v _
    rw [h.len, h'.len, pBin_lt, pIf_d]
    have e := lexLt_end ht (by omega)
    refine ⟨fun hlt => hR (-1) ?_, fun hlt => hR 0 ?_⟩
    · rw [e]; simp; omega
    · rw [e]; simp; omega

theorem within_false {xs ys : List ByteArray} {j : Nat} {a b : ByteArray} (hx : xs[j]? = some a) (hy : ys[j]? = some b) (h : a ≠ b) : within xs ys = false := by
  unfold within
  simp only [decide_eq_false_iff_not]
  rintro ⟨h1, h2⟩
  have hlt := (List.getElem?_eq_some_iff.1 hy).1
  rw [← h2, List.getElem?_take_of_lt hlt, hx] at hy
  cases hy; exact h rfl

theorem spec_Within {v v' : Value} {xs ys : List ByteArray} (h : RSl 1 RS (Av.get w0 σ) v xs) (h' : RSl 1 RS (Av.get w0 σ) v' ys) {R : Value → Vw → Prop} (hR : R (.bool (within xs ys)) σ) : AC Tryz.prog w0 n_spec_l2Within [v, v'] σ R := by
  refine ac_spec_l2Within ?_
  unfold vc_spec_l2Within
  have hl := h'.le
  rw [h.len, h'.len, pBin_lt, pIf_d]
  refine ⟨fun hlt => ?_, fun hge => ?_⟩
  · have : within xs ys = false := by unfold within; simp; omega
    rw [this] at hR; exact hR
  refine loop_rule (m := ys.length) (fun m l t => ∃ j, t = σ ∧ m + j = ys.length ∧ xs.take j = ys.take j ∧ l = [v, v', .bool false, .int .i64 (j : Nat)]) ?_ ⟨0, rfl, by omega, by simp, rfl⟩
  rintro m l t L ⟨j, rfl, hm, ht, rfl⟩ hL
  simp only [vget, List.getD_cons_zero, List.getD_cons_succ]
  rw [h'.len, pBin_lt, pIf_d]
  refine ⟨fun hj => ?_, fun hj => ?_⟩
  · have hx := List.getElem?_eq_getElem (show j < xs.length by omega)
    have hy' := List.getElem?_eq_getElem (show j < ys.length by omega)
    refine RSl.at1 h hx fun g hg hs => ?_
    refine RSl.at1 h' hy' fun g' hg' hs' => ?_
    rw [hg, hg', pBin_sne, pIf_d]
    refine ⟨fun hne => ?_, fun heq => ?_⟩
    · rw [within_false hx hy' hne] at hR; exact hR
    · have heq' := Decidable.not_not.1 heq
      rw [pBin_add (by omega)]
      exact hL _ _ (m - 1) (by omega) ⟨j + 1, rfl, by omega, by rw [List.take_add_one, List.take_add_one, hx, hy', ht, heq'], rfl⟩
  · have hj' : j = ys.length := by omega
    subst hj'
    rw [List.take_length] at ht
    have : within xs ys = true := by unfold within; simp [ht]; omega
    rw [this] at hR; exact hR

theorem impl_begins {v v' : Value} {xs ys : List ByteArray} (h : RSl 1 RS (Av.get w0 σ) v xs) (h' : RSl 1 RS (Av.get w0 σ) v' ys) {R : Value → Vw → Prop} (hR : R (.bool (within xs ys)) σ) : AC Tryz.prog w0 n_impl_begins [v, v'] σ R := by
  refine ac_impl_begins ?_
  unfold vc_impl_begins
  have hl := h'.le
  rw [h.len, h'.len, pBin_lt, pIf_d]
  refine ⟨fun hlt => ?_, fun hge => ?_⟩
  · have : within xs ys = false := by unfold within; simp; omega
    rw [this] at hR; exact hR
  rw [h'.len]
  refine loop_rule (m := ys.length) (fun m l t => ∃ j, t = σ ∧ m + j = ys.length ∧ xs.take j = ys.take j ∧ l = [v, v', .bool false, .int .i64 ys.length, .int .i64 (j : Nat)]) ?_ ⟨0, rfl, by omega, by simp, rfl⟩
  rintro m l t L ⟨j, rfl, hm, ht, rfl⟩ hL
  simp only [vget, List.getD_cons_zero, List.getD_cons_succ]
  rw [pBin_lt, pIf_d]
  refine ⟨fun hj => ?_, fun hj => ?_⟩
  · have hx := List.getElem?_eq_getElem (show j < xs.length by omega)
    have hy' := List.getElem?_eq_getElem (show j < ys.length by omega)
    refine RSl.at1 h hx fun g hg hs => ?_
    refine RSl.at1 h' hy' fun g' hg' hs' => ?_
    rw [hg, hg', pBin_sne, pIf_d]
    refine ⟨fun hne => ?_, fun heq => ?_⟩
    · rw [within_false hx hy' hne] at hR; exact hR
    · have heq' := Decidable.not_not.1 heq
      rw [pBin_add (by omega)]
      exact hL _ _ (m - 1) (by omega) ⟨j + 1, rfl, by omega, by rw [List.take_add_one, List.take_add_one, hx, hy', ht, heq'], rfl⟩
  · have hj' : j = ys.length := by omega
    subst hj'
    rw [List.take_length] at ht
    have : within xs ys = true := by unfold within; simp [ht]; omega
    rw [this] at hR; exact hR

noncomputable def markOkB (x : Mk) : Bool := if x.1 = [] then x.2 else allNames x.1 && inB x.1.length 1 4

theorem spec_MarkOk {es : List Value} {x : Mk} {R : Value → Vw → Prop} (h : RMk (Av.get w0 σ) es x) (hR : R (.bool (markOkB x)) σ) : AC Tryz.prog w0 n_spec_l11MarkOk [.agg ⟨es⟩] σ R := by
  obtain ⟨v, rfl, h2⟩ := h
  refine ac_spec_l11MarkOk ?_
  unfold vc_spec_l11MarkOk
  rw [pVal_2 h2.one rfl]
  show pLen v _
  rw [h2.len, pBin_eq, pIf_d]
  refine ⟨fun h0 => ?_, fun h0 => ?_⟩
  · have : x.1 = [] := List.length_eq_zero_iff.1 (by omega)
    rw [markOkB, if_pos this] at hR; exact hR
  · have : x.1 ≠ [] := fun e => h0 (by rw [e]; rfl)
    rw [markOkB, if_neg this] at hR
    exact spec_PathOk h2 hR

theorem impl_markOk {es : List Value} {x : Mk} {R : Value → Vw → Prop} (h : RMk (Av.get w0 σ) es x) (hR : R (.bool (markOkB x)) σ) : AC Tryz.prog w0 n_impl_markOk [.agg ⟨es⟩] σ R := by
  obtain ⟨v, rfl, h2⟩ := h
  refine ac_impl_markOk ?_
  unfold vc_impl_markOk
  rw [pVal_2 h2.one rfl]
  refine impl_namesOk h2 ?_
  rw [pIf_b]
  by_cases e : x.1 = []
  · rw [markOkB, if_pos e] at hR
    refine ⟨fun _ => ?_, fun h0 => ?_⟩
    · show pLen v _
      rw [h2.len, pBin_gt, pIf_d]
      refine ⟨fun h => by rw [e] at h; simp at h, fun _ => hR⟩
    · rw [e] at h0; simp [allNames, inB] at h0
  · rw [markOkB, if_neg e] at hR
    have hpos : 1 ≤ x.1.length := by
      rcases Nat.eq_zero_or_pos x.1.length with h0 | h0
      · exact absurd (List.length_eq_zero_iff.1 h0) e
      · exact h0
    have hin : inB x.1.length 0 4 = inB x.1.length 1 4 := by unfold inB; congr 1; apply propext; omega
    rw [hin]
    refine ⟨fun h0 => ?_, fun h0 => ?_⟩
    · show pLen v _
      rw [h2.len, pBin_gt, pIf_d]
      refine ⟨fun _ => ?_, fun h => by omega⟩
      rw [h0] at hR; exact hR
    · rw [h0] at hR; exact hR
end
end Go.Proofs.YtkbhjejalkbogaaGreat

/- Trails: when one is sound; the law 'TrailOk', of the functions alone. -/
set_option linter.unusedVariables false
set_option linter.unusedSimpArgs false
namespace Go.Proofs.YtkbhjejalkbogaaGreat
open Go Go.Av

def underB (ms : List Mk) (p : List ByteArray) : Bool := ms.any fun m => m.2 && within p m.1
def afterB (ms : List Mk) (j : Nat) (x : Mk) : Bool :=
  match j with
  | 0 => true
  | i + 1 => match ms[i]? with
    | some y => lexLt y.1 x.1
    | none => true
noncomputable def goodAt (ms : List Mk) (j : Nat) (x : Mk) : Bool := markOkB x && (afterB ms j x && !underB (ms.take j) x.1)
def allGood (ms : List Mk) : Prop := ∀ (j : Nat) (x : Mk), ms[j]? = some x → goodAt ms j x = true
open Classical in
noncomputable def trailOk (ms : List Mk) : Bool := decide (allGood ms) && decide ((ms.length : Int) ≤ 6)
theorem trail_bad {ms : List Mk} {j : Nat} {x : Mk} (h : ms[j]? = some x) (hb : goodAt ms j x = false) : trailOk ms = false := by
  have : ¬ allGood ms := fun h' => by rw [h' j x h] at hb; cases hb
  simp [trailOk, this]
theorem trail_good {ms : List Mk} (h : allGood ms) : trailOk ms = decide ((ms.length : Int) ≤ 6) := by simp [trailOk, h]

section
variable {w0 : World} {σ : Vw}

theorem RSl.fld {α : Type} {n : Nat} {Rl : (Addr → Option Value) → List Value → α → Prop} {v : Value} {xs : List α} (h : RSl n Rl (Av.get w0 σ) v xs) {j : Nat} {x : α} (hj : xs[j]? = some x) {off : Nat} (ho : off < n) {K : (Nat → Value) → Prop} (hK : ∀ (g : Nat → Value) (es : List Value), Rl (Av.get w0 σ) es x → es[off]? = some (g 0) → K g) :
    pIndexAddr n v (.int .i64 j) fun p => pField off p fun q => pLoad w0 1 q σ K := by
  obtain ⟨A, cap, rfl, _, h3⟩ := h
  obtain ⟨a, es, rfl, h5, h6, h7⟩ := h3 j x hj
  have hlt : j < xs.length := (List.getElem?_eq_some_iff.1 hj).1
  have he : es[off]? = some (es.getD off undef) := by
    rw [List.getD_eq_getElem?_getD, List.getElem?_eq_getElem (by omega)]; rfl
  refine ⟨a, xs.length, cap, .i64, j, rfl, rfl, by omega, by omega, _, rfl, (a.add (j * n)).add off, fun _ => es.getD off undef, rfl, fun i hi => ?_, hK _ es h7 he⟩
  have : i = 0 := by omega
  subst this
  rw [add_add, add_add, Nat.add_zero]
  rw [h6 off ho]; exact he

theorem RSl.take {α : Type} {n : Nat} {Rl : (Addr → Option Value) → List Value → α → Prop} {v : Value} {xs : List α} (h : RSl n Rl (Av.get w0 σ) v xs) {j : Nat} (hj : j ≤ xs.length) {K : Value → Prop} (hK : ∀ v', RSl n Rl (Av.get w0 σ) v' (xs.take j) → K v') : pSlice n v none (some (.int .i64 j)) K := by
  obtain ⟨A, cap, rfl, hc, h3⟩ := h
  refine ⟨A, xs.length, cap, 0, j, rfl, rfl, rfl, by omega, by omega, by omega, hK _ ?_⟩
  have hl : (xs.take j).length = j := by simp; omega
  refine ⟨if cap = (0 : Int).toNat then A else A.map (·.add ((0 : Int).toNat * n)), cap - (0 : Int).toNat, by rw [hl]; simp, ⟨by rw [hl]; simp; omega, by simp; omega⟩, fun i x hi => ?_⟩
  have hij : i < j := by have := (List.getElem?_eq_some_iff.1 hi).1; rw [hl] at this; exact this
  rw [List.getElem?_take_of_lt hij] at hi
  obtain ⟨a, es, rfl, h5, h6, h7⟩ := h3 i x hi
  refine ⟨a, es, ?_, h5, h6, h7⟩
  split
  · rfl
  · simp [Addr.add]

theorem underB_take {ms : List Mk} {p : List ByteArray} {j : Nat} {x : Mk} (h : ms[j]? = some x) : underB (ms.take (j + 1)) p = (underB (ms.take j) p || (x.2 && within p x.1)) := by
  rw [List.take_add_one, h]
  simp [underB, List.any_append]
theorem under_hit {ms : List Mk} {p : List ByteArray} {j : Nat} {x : Mk} (h : ms[j]? = some x) (h1 : x.2 = true) (h2 : within p x.1 = true) : underB ms p = true := by
  simp only [underB, List.any_eq_true]
  exact ⟨x, List.mem_of_getElem? h, by simp [h1, h2]⟩

theorem impl_under {v v' : Value} {ms : List Mk} {p : List ByteArray} (h : RSl 2 RMk (Av.get w0 σ) v ms) (h' : RSl 1 RS (Av.get w0 σ) v' p) {R : Value → Vw → Prop} (hR : R (.bool (underB ms p)) σ) : AC Tryz.prog w0 n_impl_under [v, v'] σ R := by
  refine ac_impl_under ?_
  unfold vc_impl_under
  have hl := h.le
  rw [h.len]
  refine loop_rule (m := ms.length) (fun m l t => ∃ j, t = σ ∧ m + j = ms.length ∧ underB (ms.take j) p = false ∧ l = [v', .bool false, v, .int .i64 ms.length, .int .i64 (j : Nat)]) ?_ ⟨0, rfl, by omega, rfl, rfl⟩
  rintro m l t L ⟨j, rfl, hm, ht, rfl⟩ hL
  simp only [vget, List.getD_cons_zero, List.getD_cons_succ]
  rw [pBin_lt, pIf_d]
  refine ⟨fun hj => ?_, fun hj => ?_⟩
  · have hx := List.getElem?_eq_getElem (show j < ms.length by omega)
    refine h.at hx fun g hg => ?_
    obtain ⟨u, hu, hur⟩ := hg
    simp only [expl, List.cons.injEq, and_true] at hu
    obtain ⟨hu0, hu1⟩ := hu
    rw [hu0, hu1, pVal_2 hur.one rfl, pIf_b]
    have next : underB (ms.take (j + 1)) p = false → L [v', .bool false, v, .int .i64 ms.length, .int .i64 ((j : Int) + 1)] t := fun hf => hL _ _ (m - 1) (by omega) ⟨j + 1, rfl, by omega, hf, rfl⟩
    have hstep := underB_take (p := p) hx
    refine ⟨fun hheld => ?_, fun hheld => ?_⟩
    · refine impl_begins h' hur ?_
      rw [pIf_b]
      refine ⟨fun hw => ?_, fun hw => ?_⟩
      · rw [under_hit hx hheld hw] at hR; exact hR
      · rw [pBin_add (by omega)]
        exact next (by rw [hstep, ht, hw]; simp)
    · rw [pBin_add (by omega)]
      exact next (by rw [hstep, ht, hheld]; simp)
  · have hj' : j = ms.length := by omega
    subst hj'
    rw [List.take_length] at ht
    rw [ht] at hR; exact hR

theorem impl_TrailOk {v : Value} {ms : List Mk} (h : RSl 2 RMk (Av.get w0 σ) v ms) {R : Value → Vw → Prop} (hR : R (.bool (trailOk ms)) σ) : AC Tryz.prog w0 n_impl_TrailOk [v] σ R := by
  refine ac_impl_TrailOk ?_
  unfold vc_impl_TrailOk
  have hl := h.le
  rw [h.len]
  refine loop_rule (m := ms.length) (fun m l t => ∃ j, t = σ ∧ m + j = ms.length ∧ (∀ (i : Nat) (x : Mk), i < j → ms[i]? = some x → goodAt ms i x = true) ∧ l = [v, .bool false, v, .int .i64 ms.length, .int .i64 (j : Nat)]) ?_ ⟨0, rfl, by omega, fun i x h => by omega, rfl⟩
  rintro m l t L ⟨j, rfl, hm, ht, rfl⟩ hL
  simp only [vget, List.getD_cons_zero, List.getD_cons_succ]
  rw [pBin_lt, pIf_d]
  refine ⟨fun hj => ?_, fun hj => ?_⟩
  · have hx := List.getElem?_eq_getElem (show j < ms.length by omega)
    generalize hxj : ms[j] = x at hx
    refine h.at hx fun g hg => ?_
    have hg0 := hg
    obtain ⟨u, hu, hur⟩ := hg
    simp only [expl, List.cons.injEq, and_true] at hu
    obtain ⟨hu0, hu1⟩ := hu
    rw [hu0, hu1, pVal_2 hur.one rfl]
    have bad : goodAt ms j x = false → R (.bool false) t := fun hb => by rw [trail_bad hx hb] at hR; exact hR
    refine impl_markOk (x := x) ⟨u, rfl, hur⟩ ?_
    rw [pUn_not, pIf_b]
    refine ⟨fun hmk => bad (by simp at hmk; simp [goodAt, hmk]), fun hmk => ?_⟩
    have hmk' : markOkB x = true := by simpa using hmk
    have last : afterB ms j x = true → pSlice 2 v none (some (.int .i64 j)) (fun v18 => AC Tryz.prog w0 n_impl_under [v18, u] t (fun v19 s20 => pIf v19 (R (.bool false) s20) (pBin Tryz.prog 3 .add (.int .i64 j) (.int .i64 1) (fun v21 => L [v, .bool false, v, .int .i64 ms.length, v21] s20)))) := by
      intro haf
      refine RSl.take h (by omega) fun v' hv' => ?_
      refine impl_under hv' hur ?_
      rw [pIf_b]
      refine ⟨fun hb => bad (by simp [goodAt, hb]), fun hb => ?_⟩
      rw [pBin_add (by omega)]
      refine hL _ _ (m - 1) (by omega) ⟨j + 1, rfl, by omega, fun i y hi he => ?_, rfl⟩
      by_cases e : i = j
      · subst e; rw [hx] at he; cases he; simp [goodAt, hmk', haf, hb]
      · exact ht i y (by omega) he
    rw [pBin_gt, pIf_d]
    refine ⟨fun hpos => ?_, fun h0 => ?_⟩
    · obtain ⟨i, rfl⟩ : ∃ i, j = i + 1 := ⟨j - 1, by omega⟩
      rw [pBin_sub (by omega)]
      have hy := List.getElem?_eq_getElem (show i < ms.length by omega)
      generalize hyi : ms[i] = y at hy
      rw [show ((i + 1 : Nat) : Int) - 1 = (i : Nat) by omega]
      refine RSl.fld h hy (by omega) fun g2 es hes he => ?_
      obtain ⟨u2, rfl, hu2⟩ := hes
      simp at he
      rw [← he]
      refine Compare hu2 hur fun c hc => ?_
      have haf : afterB ms (i + 1) x = lexLt y.1 x.1 := by simp [afterB, hy]
      rw [pBin_ge, pIf_d]
      refine ⟨fun hge => bad ?_, fun hlt => last ?_⟩
      · have : lexLt y.1 x.1 = false := by
          cases hc2 : lexLt y.1 x.1 with
          | false => rfl
          | true => have := hc.2 hc2; omega
        simp [goodAt, haf, this]
      · rw [haf]; exact hc.1 (by omega)
    · have : j = 0 := by omega
      subst this
      exact last rfl
  · have hj' : j = ms.length := by omega
    subst hj'
    show pLen v _
    rw [h.len, pBin_le]
    rw [trail_good fun i x he => ht i x (List.getElem?_eq_some_iff.1 he).1 he] at hR
    exact hR

theorem spec_TrailOk {v : Value} {ms : List Mk} (h : RSl 2 RMk (Av.get w0 σ) v ms) {R : Value → Vw → Prop} (hR : R (.bool (trailOk ms)) σ) : AC Tryz.prog w0 n_spec_TrailOk [v] σ R := by
  refine ac_spec_TrailOk ?_
  unfold vc_spec_TrailOk cs_spec_TrailOk_1
  have hl := h.le
  refine loop_rule (m := ms.length) (fun m l t => ∃ j, t = σ ∧ m + j = ms.length ∧ (∀ (i : Nat) (x : Mk), i < j → ms[i]? = some x → goodAt ms i x = true) ∧ l = [v, .bool false, .int .i64 (j : Nat)]) ?_ ⟨0, rfl, by omega, fun i x h => by omega, rfl⟩
  rintro m l t L ⟨j, rfl, hm, ht, rfl⟩ hL
  simp only [vget, List.getD_cons_zero, List.getD_cons_succ]
  rw [h.len, pBin_lt, pIf_d]
  refine ⟨fun hj => ?_, fun hj => ?_⟩
  · have hx := List.getElem?_eq_getElem (show j < ms.length by omega)
    generalize hxj : ms[j] = x at hx
    refine h.at hx fun g hg => ?_
    obtain ⟨u, hu, hur⟩ := hg
    simp only [expl, List.cons.injEq, and_true] at hu
    obtain ⟨hu0, hu1⟩ := hu
    rw [hu0, hu1]
    have bad : goodAt ms j x = false → R (.bool false) t := fun hb => by rw [trail_bad hx hb] at hR; exact hR
    refine spec_MarkOk (x := x) ⟨u, rfl, hur⟩ ?_
    rw [pUn_not, pIf_b]
    refine ⟨fun hmk => bad (by simp at hmk; simp [goodAt, hmk]), fun hmk => ?_⟩
    have hmk' : markOkB x = true := by simpa using hmk
    have next : afterB ms j x = true → underB (ms.take j) x.1 = false → L [v, .bool false, .int .i64 ((j : Int) + 1)] t := fun haf hb => hL _ _ (m - 1) (by omega) ⟨j + 1, rfl, by omega, fun i y hi he => by
      by_cases e : i = j
      · subst e; rw [hx] at he; cases he; simp [goodAt, hmk', haf, hb]
      · exact ht i y (by omega) he, rfl⟩
    have split : (0 < (j : Int) → afterB ms j x = true → True) := fun _ _ => trivial
    rw [pBin_gt, pIf_d]
    have step : ∀ {K : AX → List Value → Vw → Prop} {B : List Value → (AX → List Value → Vw → Prop) → Vw → Prop}, B = (fun l21 K22 s23 => pBin Tryz.prog 3 .lss (vget l21 3) (vget l21 2) (fun v24 => pIf v24 (pIndexAddr 2 (vget l21 0) (vget l21 3) (fun v25 => pField 1 v25 (fun v26 => pLoad w0 1 v26 s23 (fun g27 => pIf (g27 0)
          (pIndexAddr 2 (vget l21 0) (vget l21 2) (fun v28 => pField 0 v28 (fun v29 => pLoad w0 1 v29 s23 (fun g30 => pIndexAddr 2 (vget l21 0) (vget l21 3) (fun v31 => pField 0 v31 (fun v32 => pLoad w0 1 v32 s23 (fun g33 => AC Tryz.prog w0 n_spec_l2Within [g30 0, g33 0] s23 (fun v34 s35 => pIf v34 (K22 .ret [vget l21 0, .bool false, vget l21 2, vget l21 3] s35)
            (pBin Tryz.prog 3 .add (vget l21 3) (.int .i64 1) (fun v36 => K22 .normal [vget l21 0, vget l21 1, vget l21 2, v36] s35))))))))))
          (pBin Tryz.prog 3 .add (vget l21 3) (.int .i64 1) (fun v37 => K22 .normal [vget l21 0, vget l21 1, vget l21 2, v37] s23)))))) (K22 (.exit 2) [vget l21 0, vget l21 1, vget l21 2, vget l21 3] s23))) →
        afterB ms j x = true → (∀ k : Value, R (.bool false) t → K .ret [v, .bool false, .int .i64 j, k] t) → (∀ k : Value, underB (ms.take j) x.1 = false → K (.exit 2) [v, .bool false, .int .i64 j, k] t) →
        pLoop B [v, .bool false, .int .i64 j, .int .i64 0] t K := by
      rintro K B rfl haf hret hex
      refine loop_rule (m := j) (fun m' l s => ∃ k, s = t ∧ m' + k = j ∧ underB (ms.take k) x.1 = false ∧ l = [v, .bool false, .int .i64 j, .int .i64 (k : Nat)]) ?_ ⟨0, rfl, by omega, rfl, rfl⟩
      rintro m' l s L' ⟨k, rfl, hm', hu', rfl⟩ hL'
      simp only [vget, List.getD_cons_zero, List.getD_cons_succ]
      rw [pBin_lt, pIf_d]
      refine ⟨fun hk => ?_, fun hk => ?_⟩
      · have hy := List.getElem?_eq_getElem (show k < ms.length by omega)
        generalize hyk : ms[k] = y at hy
        have hstep := underB_take (p := x.1) hy
        have nx : underB (ms.take (k + 1)) x.1 = false → L' [v, .bool false, .int .i64 j, .int .i64 ((k : Int) + 1)] s := fun hf => hL' _ _ (m' - 1) (by omega) ⟨k + 1, rfl, by omega, hf, rfl⟩
        refine RSl.fld h hy (by omega) fun g1 es hes he => ?_
        obtain ⟨u1, rfl, hu1'⟩ := hes
        simp at he
        rw [← he, pIf_b]
        refine ⟨fun hheld => ?_, fun hheld => ?_⟩
        · refine RSl.fld h hx (by omega) fun g2 es hes he => ?_
          obtain ⟨u2, rfl, hu2'⟩ := hes
          simp at he
          refine RSl.fld h hy (by omega) fun g3 es hes he' => ?_
          obtain ⟨u3, rfl, hu3'⟩ := hes
          simp at he'
          rw [← he, ← he']
          refine spec_Within hu2' hu3' ?_
          rw [pIf_b]
          refine ⟨fun hw => hret _ (bad ?_), fun hw => ?_⟩
          · have : underB (ms.take j) x.1 = true := under_hit (j := k) (x := y) (by rw [List.getElem?_take_of_lt (by omega)]; exact hy) hheld hw
            simp [goodAt, this]
          · rw [pBin_add (by omega)]
            exact nx (by rw [hstep, hu', hw]; simp)
        · rw [pBin_add (by omega)]
          exact nx (by rw [hstep, hu', hheld]; simp)
      · have : k = j := by omega
        subst this
        exact hex _ hu'
    refine ⟨fun hpos => ?_, fun h0 => ?_⟩
    · obtain ⟨i, rfl⟩ : ∃ i, j = i + 1 := ⟨j - 1, by omega⟩
      rw [pBin_sub (by omega)]
      have hy := List.getElem?_eq_getElem (show i < ms.length by omega)
      generalize hyi : ms[i] = y at hy
      rw [show ((i + 1 : Nat) : Int) - 1 = (i : Nat) by omega]
      refine RSl.fld h hy (by omega) fun g2 es hes he => ?_
      obtain ⟨u2, rfl, hu2⟩ := hes
      simp at he
      refine RSl.fld h hx (by omega) fun g3 es hes he3 => ?_
      obtain ⟨u3, rfl, hu3⟩ := hes
      simp at he3
      rw [← he, ← he3]
      have haf : afterB ms (i + 1) x = lexLt y.1 x.1 := by simp [afterB, hy]
      refine spec_Less hu2 hu3 ?_
      rw [pUn_not, pIf_b]
      refine ⟨fun hb => bad (by simp at hb; simp [goodAt, haf, hb]), fun hg => ?_⟩
      have hg' : afterB ms (i + 1) x = true := by rw [haf]; simpa using hg
      refine step rfl hg' (fun k hr => hr) (fun k hu => ?_)
      show pBin Tryz.prog 3 .add (.int .i64 ((i + 1 : Nat) : Int)) (.int .i64 1) _
      rw [pBin_add (by omega)]
      exact next hg' hu
    · have : j = 0 := by omega
      subst this
      refine step rfl rfl (fun k hr => hr) (fun k hu => ?_)
      show pBin Tryz.prog 3 .add (.int .i64 ((0 : Nat) : Int)) (.int .i64 1) _
      rw [pBin_add (by omega)]
      exact next rfl hu
  · have hj' : j = ms.length := by omega
    subst hj'
    show pLen v _
    rw [h.len, pBin_le]
    rw [trail_good fun i x he => ht i x (List.getElem?_eq_some_iff.1 he).1 he] at hR
    exact hR
end
end Go.Proofs.YtkbhjejalkbogaaGreat

/- The law 'TrailOk', of the functions alone. -/
set_option linter.unusedVariables false
set_option linter.unusedSimpArgs false
namespace Go.Proofs.YtkbhjejalkbogaaGreat
open Go Go.Av

section
variable {w0 : World} {σ : Vw}

theorem sumBy_mem {α : Type} {f : α → Nat} : ∀ {xs : List α} {x : α}, x ∈ xs → f x ≤ sumBy f xs
  | a :: r, x, h => by
    simp only [sumBy]
    rcases List.mem_cons.1 h with e | e
    · subst e; omega
    · have := sumBy_mem (f := f) e; omega

end
end Go.Proofs.YtkbhjejalkbogaaGreat

/- Trees: what is read of one; their size, their copy, their comparison. -/
set_option linter.unusedVariables false
set_option linter.unusedSimpArgs false
namespace Go.Proofs.YtkbhjejalkbogaaGreat
open Go Go.Av

inductive Tr where
  | mk (dir : Bool) (mode : Int) (text : ByteArray) (names : List ByteArray) (kids : List Tr)
noncomputable instance : DecidableEq Tr := fun _ _ => Classical.propDecidable _

/-- What is read: n bounds the depth. -/
def RT : Nat → (Addr → Option Value) → List Value → Tr → Prop
  | 0, _, _, _ => False
  | n + 1, rd, es, .mk d m t ns ks => ∃ u w, es = [.bool d, .int .i64 m, .string t, u, w] ∧ (-9223372036854775808 ≤ m ∧ m ≤ 9223372036854775807) ∧ t.size ≤ 9223372036854775807 ∧ RSl 1 RS rd u ns ∧ RSl 5 (RT n) rd w ks
def OT (w0 : World) : Nat → Vw → List Nat → List Value → Tr → Prop
  | 0, _, _, _, _ => False
  | n + 1, σ, F, es, .mk d m t ns ks => ∃ u w F1 F2, es = [.bool d, .int .i64 m, .string t, u, w] ∧ (-9223372036854775808 ≤ m ∧ m ≤ 9223372036854775807) ∧ t.size ≤ 9223372036854775807 ∧ OStrs w0 σ F1 u ns ∧ OSl w0 5 (OT w0 n) σ F2 w ks ∧ F = F1 ++ F2 ∧ F.Nodup
def szT : Nat → Tr → Nat
  | 0, _ => 0
  | n + 1, .mk d m t ns ks => t.size + (ns.length + sumS ns) + (ks.length + sumBy (szT n) ks)

theorem mono_rt : ∀ (n : Nat) (rd rd' : Addr → Option Value) (es : List Value) (x : Tr), Le rd rd' → RT n rd es x → RT n rd' es x
  | 0, _, _, _, _, _, h => h
  | n + 1, rd, rd', es, .mk d m t ns ks, hl, h => by
    obtain ⟨u, w, h1, h2, h3, h4, h5⟩ := h
    exact ⟨u, w, h1, h2, h3, h4.mono hl fun _ _ h => h, h5.mono hl fun es x => mono_rt n _ _ es x hl⟩

section
variable {w0 : World} {σ : Vw}

theorem ok_rt (w0 : World) : ∀ n, OOk w0 5 (RT n) (OT w0 n)
  | 0 => ⟨fun _ _ _ _ h => h.elim, fun _ _ _ _ _ h => h.elim, fun _ _ _ _ h => h.elim, fun _ _ _ _ h => h.elim, fun _ _ _ _ h => h.elim, fun _ _ _ _ h => h.elim⟩
  | n + 1 => by
    have ih := ok_rt w0 n
    refine ⟨?_, ?_, ?_, ?_, ?_, ?_⟩
    · rintro σ F es ⟨d, m, t, ns, ks⟩ ⟨u, w, F1, F2, h1, h2, h3, h4, h5, h6, h7⟩
      exact ⟨u, w, h1, h2, h3, h4.rel (ok_str w0), h5.rel ih⟩
    · rintro σ σ' F es ⟨d, m, t, ns, ks⟩ ⟨u, w, F1, F2, h1, h2, h3, h4, h5, h6, h7⟩ hF
      subst h6
      exact ⟨u, w, F1, F2, h1, h2, h3, h4.frame (ok_str w0) fun b hb => hF b (List.mem_append_left _ hb), h5.frame ih fun b hb => hF b (List.mem_append_right _ hb), rfl, h7⟩
    · rintro σ F es ⟨d, m, t, ns, ks⟩ ⟨u, w, F1, F2, h1, h2, h3, h4, h5, h6, h7⟩ b hb
      subst h6
      rcases List.mem_append.1 hb with h | h
      · exact h4.dom (ok_str w0) b h
      · exact h5.dom ih b h
    · rintro σ F es ⟨d, m, t, ns, ks⟩ ⟨u, w, F1, F2, h1, h2, h3, h4, h5, h6, h7⟩; exact h7
    · rintro σ F es ⟨d, m, t, ns, ks⟩ ⟨u, w, F1, F2, rfl, h2, h3, h4, h5, h6, h7⟩; rfl
    · rintro σ F es ⟨d, m, t, ns, ks⟩ ⟨u, w, F1, F2, rfl, h2, h3, h4, h5, h6, h7⟩ c hc
      simp at hc
      rcases hc with rfl | rfl | rfl | rfl | rfl
      · rfl
      · rfl
      · rfl
      · exact OSl.one' h4
      · exact OSl.one' h5

theorem pVal_5 {a b c d e : Value} {A : Prop} (h1 : a.oneCell' = true) (h2 : b.oneCell' = true) (h3 : c.oneCell' = true) (h4 : d.oneCell' = true) (h5 : e.oneCell' = true) : pVal true 5 (.agg ⟨[a, b, c, d, e]⟩) A ↔ A := pValN rfl (by simp [h1, h2, h3, h4, h5])

end
end Go.Proofs.YtkbhjejalkbogaaGreat

/- Trees: their copy, their comparison. -/
set_option linter.unusedVariables false
set_option linter.unusedSimpArgs false
namespace Go.Proofs.YtkbhjejalkbogaaGreat
open Go Go.Av

section
variable {w0 : World}

/-- No list in it is too long. -/
def fitT : Nat → Tr → Prop
  | 0, _ => True
  | n + 1, .mk d m t ns ks => ns.length ≤ 1000000000000 ∧ ks.length ≤ 1000000000000 ∧ ∀ k, k ∈ ks → fitT n k
theorem fit_of : ∀ (n : Nat) (x : Tr), szT n x ≤ 1000000000000 → fitT n x
  | 0, _, _ => trivial
  | n + 1, .mk d m t ns ks, h => by
    simp only [szT] at h
    refine ⟨by omega, by omega, fun k hk => fit_of n k ?_⟩
    have := sumBy_mem (f := szT n) hk
    omega

end
end Go.Proofs.YtkbhjejalkbogaaGreat

/- Trees: when one is sound. -/
set_option linter.unusedVariables false
set_option linter.unusedSimpArgs false
namespace Go.Proofs.YtkbhjejalkbogaaGreat
open Go Go.Av

def prevLt (ns : List ByteArray) (j : Nat) (x : ByteArray) : Bool :=
  match j with
  | 0 => true
  | i + 1 => match ns[i]? with
    | some y => strLt y x
    | none => true
noncomputable def nameAt (ns : List ByteArray) (j : Nat) (x : ByteArray) : Bool := nameOk x && prevLt ns j x
def namesP (ns : List ByteArray) : Prop := ∀ (j : Nat) (x : ByteArray), ns[j]? = some x → nameAt ns j x = true
open Classical in
noncomputable def plainB : Tr → Bool
  | .mk d m t ns ks => inB m 0 7 && (decide (ns.length = ks.length) && (if d = true then decide (namesP ns) && decide (t = ⟨#[]⟩) else decide (t.size ≤ 24) && decide (ns.length = 0)))
def allB {α : Type} (p : α → Bool) : List α → Bool
  | [] => true
  | a :: r => p a && allB p r
theorem allB_iff {α : Type} {p : α → Bool} {xs : List α} : allB p xs = true ↔ ∀ (j : Nat) (x : α), xs[j]? = some x → p x = true := by
  induction xs with
  | nil => simp [allB]
  | cons a r ih =>
    simp only [allB, Bool.and_eq_true, ih]
    constructor
    · rintro ⟨h1, h2⟩ j x hj
      cases j with
      | zero => simp at hj; subst hj; exact h1
      | succ j => exact h2 j x (by simpa using hj)
    · intro h
      exact ⟨h 0 a rfl, fun j x hj => h (j + 1) x (by simpa using hj)⟩
theorem allB_bad {α : Type} {p : α → Bool} {xs : List α} {j : Nat} {x : α} (hj : xs[j]? = some x) (h : p x = false) : allB p xs = false := by
  cases hc : allB p xs with
  | false => rfl
  | true => have := allB_iff.1 hc j x hj; rw [h] at this; cases this
noncomputable def soundB : Nat → Tr → Int → Bool
  | 0, _, _ => false
  | n + 1, .mk d m t ns ks, k => plainB (.mk d m t ns ks) && (decide (k ≤ 4) && allB (fun x => soundB n x (k + 1)) ks)

section
variable {w0 : World} {σ : Vw}

theorem pBin_sge {P : Program} {T : Nat} {a b : ByteArray} {K : Value → Prop} : pBin P T .geq (.string a) (.string b) K ↔ K (.bool (!strLt a b)) := pBin_s rfl

theorem spec_Plain {n : Nat} {es : List Value} {x : Tr} {R : Value → Vw → Prop} (h : RT n (Av.get w0 σ) es x) (hR : R (.bool (plainB x)) σ) : AC Tryz.prog w0 n_spec_l1Plain [.agg ⟨es⟩] σ R := by
  obtain _ | n := n
  · exact h.elim
  obtain ⟨d, m, t, ns, ks⟩ := x
  obtain ⟨u, w, rfl, h2, h3, h4, h5⟩ := h
  refine ac_spec_l1Plain ?_
  unfold vc_spec_l1Plain
  have hl := h4.le
  rw [pVal_5 rfl rfl rfl h4.one h5.one]
  simp only [cellOf_agg, List.getD_cons_zero, List.getD_cons_succ]
  refine spec_In ?_
  rw [pUn_not, pIf_b]
  refine ⟨fun hb => ?_, fun hm => ?_⟩
  · have : plainB (.mk d m t ns ks) = false := by simp at hb; simp [plainB, hb]
    rw [this] at hR; exact hR
  have hm' : inB m 0 7 = true := by simpa using hm
  rw [h4.len, h5.len, pBin_ne, pIf_d]
  refine ⟨fun hne => ?_, fun heq => ?_⟩
  · have : plainB (.mk d m t ns ks) = false := by
      have : ¬ ns.length = ks.length := by omega
      simp [plainB, this]
    rw [this] at hR; exact hR
  have heq' : ns.length = ks.length := by omega
  rw [pUn_not, pIf_b]
  refine ⟨fun hd => ?_, fun hd => ?_⟩
  · have hd' : d = false := by simpa using hd
    subst hd'
    have hp : plainB (.mk false m t ns ks) = (decide (t.size ≤ 24) && decide (ns.length = 0)) := by simp [plainB, hm', heq']
    rw [hp] at hR
    rw [pLenS_s, pBin_le, pIf_d]
    refine ⟨fun ht => ?_, fun ht => ?_⟩
    · rw [h4.len, pBin_eq]
      have e1 : decide (t.size ≤ 24) = true := by simp; omega
      have e2 : decide (ns.length = 0) = decide ((ns.length : Int) = 0) := by congr 1; apply propext; omega
      rw [e1, e2] at hR; exact hR
    · have e1 : decide (t.size ≤ 24) = false := by simp; omega
      rw [e1] at hR; exact hR
  · have hd' : d = true := by simpa using hd
    subst hd'
    have hp : ∀ b, b = plainB (.mk true m t ns ks) → R (.bool b) σ := fun b e => e ▸ hR
    refine loop_rule (m := ns.length) (fun k l s => ∃ j, s = σ ∧ k + j = ns.length ∧ (∀ (i : Nat) (x : ByteArray), i < j → ns[i]? = some x → nameAt ns i x = true) ∧ l = [.bool false, .int .i64 (j : Nat), .bool true, .int .i64 m, .string t, u, w]) ?_ ⟨0, rfl, by omega, fun i x h => by omega, rfl⟩
    rintro k l s L ⟨j, rfl, hk, ht, rfl⟩ hL
    simp only [vget, List.getD_cons_zero, List.getD_cons_succ]
    rw [h4.len, pBin_lt, pIf_d]
    refine ⟨fun hj => ?_, fun hj => ?_⟩
    · have hx := List.getElem?_eq_getElem (show j < ns.length by omega)
      generalize hxj : ns[j] = x at hx
      have bad : nameAt ns j x = false → R (.bool false) s := fun hb => hp false (by
        have : ¬ namesP ns := fun hh => by rw [hh j x hx] at hb; cases hb
        simp [plainB, this])
      have next : nameAt ns j x = true → L [.bool false, .int .i64 ((j : Int) + 1), .bool true, .int .i64 m, .string t, u, w] s := fun hg => hL _ _ (k - 1) (by omega) ⟨j + 1, rfl, by omega, fun i y hi he => by
        by_cases e : i = j
        · subst e; rw [hx] at he; cases he; exact hg
        · exact ht i y (by omega) he, rfl⟩
      refine RSl.at1 h4 hx fun g hg hs => ?_
      rw [hg]
      refine spec_nameOk hs ?_
      rw [pUn_not, pIf_b]
      refine ⟨fun hb => bad (by simp at hb; simp [nameAt, hb]), fun hg => ?_⟩
      have hg' : nameOk x = true := by simpa using hg
      rw [pBin_gt, pIf_d]
      refine ⟨fun hpos => ?_, fun h0 => ?_⟩
      · obtain ⟨i, rfl⟩ : ∃ i, j = i + 1 := ⟨j - 1, by omega⟩
        rw [pBin_sub (by omega)]
        have hy := List.getElem?_eq_getElem (show i < ns.length by omega)
        generalize hyi : ns[i] = y at hy
        rw [show ((i + 1 : Nat) : Int) - 1 = (i : Nat) by omega]
        refine RSl.at1 h4 hy fun g2 hg2 hs2 => ?_
        refine RSl.at1 h4 hx fun g3 hg3 hs3 => ?_
        have hpl : prevLt ns (i + 1) x = strLt y x := by simp [prevLt, hy]
        rw [hg2, hg3, pBin_sge, pIf_b]
        refine ⟨fun hb => bad (by simp at hb; simp [nameAt, hpl, hb]), fun hb => ?_⟩
        rw [pBin_add (by omega)]
        exact next (by simp at hb; simp [nameAt, hg', hpl, hb])
      · have : j = 0 := by omega
        subst this
        rw [pBin_add (by omega)]
        exact next (by simp [nameAt, hg', prevLt])
    · have hj' : j = ns.length := by omega
      subst hj'
      show pBin Tryz.prog 9 .eql (.string t) (.string ⟨#[]⟩) _
      rw [pBin_seq]
      refine hp _ ?_
      have : namesP ns := fun i x he => ht i x (List.getElem?_eq_some_iff.1 he).1 he
      simp [plainB, hm', heq', this]
end
end Go.Proofs.YtkbhjejalkbogaaGreat

/- Trees: sound by either reading. -/
set_option linter.unusedVariables false
set_option linter.unusedSimpArgs false
namespace Go.Proofs.YtkbhjejalkbogaaGreat
open Go Go.Av

section
variable {w0 : World}

theorem spec_Parts : ∀ (n : Nat) {σ : Vw} {es : List Value} {x : Tr} {k : Int} {R : Value → Vw → Prop}, RT n (Av.get w0 σ) es x → (0 ≤ k ∧ k ≤ 5) → R (.bool (soundB n x k)) σ → AC Tryz.prog w0 n_spec_l1Parts [.agg ⟨es⟩, .int .i64 k] σ R
  | 0, _, _, _, _, _, h, _, _ => h.elim
  | n + 1, σ, es, .mk d m t ns ks, k, R, h, hk, hR => by
    have h0 := h
    obtain ⟨u, w, rfl, h2, h3, h4, h5⟩ := h
    refine ac_spec_l1Parts ?_
    unfold vc_spec_l1Parts
    have hl := h5.le
    rw [pVal_5 rfl rfl rfl h4.one h5.one]
    simp only [cellOf_agg, List.getD_cons_zero, List.getD_cons_succ]
    refine spec_Plain h0 ?_
    rw [pUn_not, pIf_b]
    refine ⟨fun hb => ?_, fun hg => ?_⟩
    · have : soundB (n + 1) (.mk d m t ns ks) k = false := by simp at hb; simp [soundB, hb]
      rw [this] at hR; exact hR
    have hg' : plainB (.mk d m t ns ks) = true := by simpa using hg
    rw [pBin_gt, pIf_d]
    refine ⟨fun hb => ?_, fun hle => ?_⟩
    · have : soundB (n + 1) (.mk d m t ns ks) k = false := by
        have : ¬ k ≤ 4 := by omega
        simp [soundB, this]
      rw [this] at hR; exact hR
    have hle' : k ≤ 4 := by omega
    have hs : soundB (n + 1) (.mk d m t ns ks) k = allB (fun x => soundB n x (k + 1)) ks := by simp [soundB, hg', hle']
    rw [hs] at hR
    refine loop_rule (m := ks.length) (fun c l s => ∃ j, s = σ ∧ c + j = ks.length ∧ (∀ (i : Nat) (x : Tr), i < j → ks[i]? = some x → soundB n x (k + 1) = true) ∧ l = [.int .i64 k, .bool false, .int .i64 (j : Nat), .bool d, .int .i64 m, .string t, u, w]) ?_ ⟨0, rfl, by omega, fun i x h => by omega, rfl⟩
    rintro c l s L ⟨j, rfl, hc, ht, rfl⟩ hL
    simp only [vget, List.getD_cons_zero, List.getD_cons_succ]
    rw [h5.len, pBin_lt, pIf_d]
    refine ⟨fun hj => ?_, fun hj => ?_⟩
    · have hx := List.getElem?_eq_getElem (show j < ks.length by omega)
      generalize hxj : ks[j] = x at hx
      refine h5.at hx fun g hg => ?_
      rw [pBin_add (by omega)]
      refine spec_Parts n (x := x) hg (by omega) ?_
      rw [pUn_not, pIf_b]
      refine ⟨fun hb => ?_, fun hb => ?_⟩
      · rw [allB_bad hx (by simpa using hb)] at hR; exact hR
      · rw [pBin_add (by omega)]
        refine hL _ _ (c - 1) (by omega) ⟨j + 1, rfl, by omega, fun i y hi he => ?_, rfl⟩
        by_cases e : i = j
        · subst e; rw [hx] at he; cases he; simpa using hb
        · exact ht i y (by omega) he
    · have hj' : j = ks.length := by omega
      subst hj'
      rw [allB_iff.2 fun i x he => ht i x (List.getElem?_eq_some_iff.1 he).1 he] at hR
      exact hR
end
end Go.Proofs.YtkbhjejalkbogaaGreat

/- Trees: sound by the program's own reading. -/
set_option linter.unusedVariables false
set_option linter.unusedSimpArgs false
namespace Go.Proofs.YtkbhjejalkbogaaGreat
open Go Go.Av

section
variable {w0 : World}

theorem impl_sound : ∀ (n : Nat) {σ : Vw} {es : List Value} {x : Tr} {k : Int} {R : Value → Vw → Prop}, RT n (Av.get w0 σ) es x → (0 ≤ k ∧ k ≤ 5) → R (.bool (soundB n x k)) σ → AC Tryz.prog w0 n_impl_Tree_sound [.agg ⟨es⟩, .int .i64 k] σ R
  | 0, _, _, _, _, _, h, _, _ => h.elim
  | n + 1, σ, es, .mk d m t ns ks, k, R, h, hk, hR => by
    have h0 := h
    obtain ⟨u, w, rfl, h2, h3, h4, h5⟩ := h
    refine ac_impl_Tree_sound ?_
    unfold vc_impl_Tree_sound cs_impl_Tree_sound_1
    have hl := h4.le
    rw [pVal_5 rfl rfl rfl h4.one h5.one]
    simp only [cellOf_agg, List.getD_cons_zero, List.getD_cons_succ]
    have no : soundB (n + 1) (.mk d m t ns ks) k = false → R (.bool false) σ := fun e => by rw [e] at hR; exact hR
    refine ac_impl_modeOk ?_
    unfold vc_impl_modeOk
    refine impl_within ?_
    show pUn .not (.bool _) _
    rw [pUn_not, pIf_b]
    refine ⟨fun hb => no (by simp at hb; simp [soundB, plainB, hb]), fun hm => ?_⟩
    have hm' : inB m 0 7 = true := by simpa using hm
    rw [pBin_gt, pIf_d]
    refine ⟨fun hb => no (by have : ¬ k ≤ 4 := by omega
                             simp [soundB, this]), fun hle => ?_⟩
    have hle' : k ≤ 4 := by omega
    rw [h4.len, h5.len, pBin_ne, pIf_d]
    refine ⟨fun hne => no (by have : ¬ ns.length = ks.length := by omega
                              simp [soundB, plainB, this]), fun heq => ?_⟩
    have heq' : ns.length = ks.length := by omega
    rw [pUn_not, pIf_b]
    refine ⟨fun hd => ?_, fun hd => ?_⟩
    · have hd' : d = false := by simpa using hd
      subst hd'
      rw [pLenS_s, pBin_le, pIf_d]
      refine ⟨fun htx => ?_, fun htx => no (by have : ¬ t.size ≤ 24 := by omega
                                               simp [soundB, plainB, this])⟩
      rw [h4.len, pBin_eq]
      have e : soundB (n + 1) (.mk false m t ns ks) k = decide ((ns.length : Int) = 0) := by
        have e1 : t.size ≤ 24 := by omega
        by_cases hz : ns.length = 0
        · have hkz : ks = [] := List.length_eq_zero_iff.1 (by omega)
          have hnz : ns = [] := List.length_eq_zero_iff.1 hz
          subst hkz hnz
          simp [soundB, plainB, hm', hle', e1, allB]
        · have hz' : ¬ ((ns.length : Int) = 0) := by omega
          have hz2 : ¬ (ks.length = 0) := by omega
          simp [soundB, plainB, heq', hz', hz2]
      rw [e] at hR; exact hR
    · have hd' : d = true := by simpa using hd
      subst hd'
      rw [pBin_sne, pIf_d]
      refine ⟨fun htx => no (by simp [soundB, plainB, htx]), fun htx => ?_⟩
      have htx' := Decidable.not_not.1 htx
      rw [h4.len]
      refine loop_rule (m := ns.length) (fun c l s => ∃ j, s = σ ∧ c + j = ns.length ∧ (∀ (i : Nat) (x : ByteArray), i < j → ns[i]? = some x → nameAt ns i x = true) ∧ (∀ (i : Nat) (x : Tr), i < j → ks[i]? = some x → soundB n x (k + 1) = true) ∧ l = [.int .i64 k, .bool false, u, .int .i64 ns.length, .int .i64 (j : Nat), .bool true, .int .i64 m, .string t, u, w]) ?_ ⟨0, rfl, by omega, fun i x h => by omega, fun i x h => by omega, rfl⟩
      rintro c l s L ⟨j, rfl, hc, ht, hkd, rfl⟩ hL
      simp only [vget, List.getD_cons_zero, List.getD_cons_succ]
      rw [pBin_lt, pIf_d]
      refine ⟨fun hj => ?_, fun hj => ?_⟩
      · have hx := List.getElem?_eq_getElem (show j < ns.length by omega)
        generalize hxj : ns[j] = x at hx
        have hkk := List.getElem?_eq_getElem (show j < ks.length by omega)
        generalize hkj : ks[j] = kid at hkk
        have bad : nameAt ns j x = false → R (.bool false) s := fun hb => no (by
          have : ¬ namesP ns := fun hh => by rw [hh j x hx] at hb; cases hb
          simp [soundB, plainB, this])
        have last : nameAt ns j x = true → pIndexAddr 5 w (.int .i64 j) (fun v35 => pLoad w0 5 v35 s (fun g36 => pBin Tryz.prog 3 .add (.int .i64 k) (.int .i64 1) (fun v37 => AC Tryz.prog w0 n_impl_Tree_sound [.agg ⟨[g36 0, g36 1, g36 2, g36 3, g36 4]⟩, v37] s (fun v38 s39 => pUn .not v38 (fun v40 => pIf v40 (R (.bool false) s39) (pBin Tryz.prog 3 .add (.int .i64 j) (.int .i64 1) (fun v41 => L [.int .i64 k, .bool false, u, .int .i64 ns.length, v41, .bool true, .int .i64 m, .string t, u, w] s39))))))) := by
          intro hgood
          refine h5.at hkk fun g hg => ?_
          rw [pBin_add (by omega)]
          refine impl_sound n (x := kid) hg (by omega) ?_
          rw [pUn_not, pIf_b]
          refine ⟨fun hb => no ?_, fun hb => ?_⟩
          · have := allB_bad (p := fun x => soundB n x (k + 1)) hkk (by simpa using hb)
            simp [soundB, this]
          · rw [pBin_add (by omega)]
            refine hL _ _ (c - 1) (by omega) ⟨j + 1, rfl, by omega, fun i y hi he => ?_, fun i y hi he => ?_, rfl⟩
            · by_cases e : i = j
              · subst e; rw [hx] at he; cases he; exact hgood
              · exact ht i y (by omega) he
            · by_cases e : i = j
              · subst e; rw [hkk] at he; cases he; simpa using hb
              · exact hkd i y (by omega) he
        refine RSl.at1 h4 hx fun g hg hs => ?_
        rw [hg]
        refine impl_nameOk hs ?_
        rw [pUn_not, pIf_b]
        refine ⟨fun hb => bad (by simp at hb; simp [nameAt, hb]), fun hg => ?_⟩
        have hg' : nameOk x = true := by simpa using hg
        rw [pBin_gt, pIf_d]
        refine ⟨fun hpos => ?_, fun h0 => ?_⟩
        · obtain ⟨i, rfl⟩ : ∃ i, j = i + 1 := ⟨j - 1, by omega⟩
          rw [pBin_sub (by omega)]
          have hy := List.getElem?_eq_getElem (show i < ns.length by omega)
          generalize hyi : ns[i] = y at hy
          rw [show ((i + 1 : Nat) : Int) - 1 = (i : Nat) by omega]
          refine RSl.at1 h4 hy fun g2 hg2 hs2 => ?_
          have hpl : prevLt ns (i + 1) x = strLt y x := by simp [prevLt, hy]
          rw [hg2, pBin_sge, pIf_b]
          refine ⟨fun hb => bad (by simp at hb; simp [nameAt, hpl, hb]), fun hb => ?_⟩
          exact last (by simp at hb; simp [nameAt, hg', hpl, hb])
        · have : j = 0 := by omega
          subst this
          exact last (by simp [nameAt, hg', prevLt])
      · have hj' : j = ns.length := by omega
        subst hj'
        have e1 : namesP ns := fun i x he => ht i x (List.getElem?_eq_some_iff.1 he).1 he
        have e2 : allB (fun x => soundB n x (k + 1)) ks = true := allB_iff.2 fun i x he => hkd i x (by have := (List.getElem?_eq_some_iff.1 he).1; omega) he
        have e : soundB (n + 1) (.mk true m t ns ks) k = true := by simp [soundB, plainB, hm', heq', e1, htx', hle', e2]
        rw [e] at hR; exact hR
end
end Go.Proofs.YtkbhjejalkbogaaGreat

/- Trees: how many paths; the laws 'TreeOk' and 'TreeCount', of the functions alone. -/
set_option linter.unusedVariables false
set_option linter.unusedSimpArgs false
namespace Go.Proofs.YtkbhjejalkbogaaGreat
open Go Go.Av

def cntT : Nat → Tr → Nat
  | 0, _ => 0
  | n + 1, .mk d m t ns ks => ks.length + sumBy (cntT n) ks
theorem sumBy_mono {α : Type} {f g : α → Nat} : ∀ {xs : List α}, (∀ x, x ∈ xs → f x ≤ g x) → sumBy f xs ≤ sumBy g xs
  | [], _ => by simp [sumBy]
  | a :: r, h => by
    have := sumBy_mono (xs := r) fun x hx => h x (List.mem_cons_of_mem _ hx)
    have := h a List.mem_cons_self
    simp only [sumBy]; omega
theorem sumBy_one {α : Type} {f : α → Nat} : ∀ {xs : List α}, sumBy (fun x => f x + 1) xs = sumBy f xs + xs.length
  | [] => by simp [sumBy]
  | a :: r => by have := sumBy_one (f := f) (xs := r); simp only [sumBy, List.length_cons, this]; omega
theorem cnt_le : ∀ (n : Nat) (x : Tr), cntT n x ≤ szT n x
  | 0, _ => by simp [cntT, szT]
  | n + 1, .mk d m t ns ks => by
    have := sumBy_mono (xs := ks) fun x _ => cnt_le n x
    simp only [cntT, szT]; omega

section
variable {w0 : World}

theorem spec_Count : ∀ (n : Nat) {σ : Vw} {es : List Value} {x : Tr} {R : Value → Vw → Prop}, RT n (Av.get w0 σ) es x → cntT n x ≤ 1000000000000 → R (.int .i64 (cntT n x)) σ → AC Tryz.prog w0 n_spec_l1Count [.agg ⟨es⟩] σ R
  | 0, _, _, _, _, h, _, _ => h.elim
  | n + 1, σ, es, .mk d m t ns ks, R, h, hb, hR => by
    obtain ⟨u, w, rfl, h2, h3, h4, h5⟩ := h
    refine ac_spec_l1Count ?_
    unfold vc_spec_l1Count
    rw [pVal_5 rfl rfl rfl h4.one h5.one]
    simp only [cellOf_agg, List.getD_cons_zero, List.getD_cons_succ]
    simp only [cntT] at hb hR
    rw [h5.len]
    refine loop_rule (m := ks.length) (fun c l s => ∃ j, s = σ ∧ c + j = ks.length ∧ l = [.int .i64 ((ks.length + sumBy (cntT n) (ks.take j) : Nat) : Int), .int .i64 (j : Nat), .bool d, .int .i64 m, .string t, u, w]) ?_ ⟨0, rfl, by omega, by simp [sumBy]⟩
    rintro c l s L ⟨j, rfl, hc, rfl⟩ hL
    simp only [vget, List.getD_cons_zero, List.getD_cons_succ]
    rw [h5.len, pBin_lt, pIf_d]
    refine ⟨fun hj => ?_, fun hj => ?_⟩
    · have hx := List.getElem?_eq_getElem (show j < ks.length by omega)
      generalize hxj : ks[j] = x at hx
      refine h5.at hx fun g hg => ?_
      have ht := sumBy_take (f := cntT n) hx
      have hle := sumBy_le (f := cntT n) (xs := ks) (j + 1)
      refine spec_Count n (x := x) hg (by omega) ?_
      rw [pBin_add (by omega), pBin_add (by omega)]
      refine hL _ _ (c - 1) (by omega) ⟨j + 1, rfl, by omega, ?_⟩
      rw [ht]
      congr 2
      omega
    · have hj' : j = ks.length := by omega
      subst hj'
      rw [List.take_length]
      exact hR

theorem impl_paths : ∀ (n : Nat) {σ : Vw} {es : List Value} {x : Tr} {R : Value → Vw → Prop}, RT n (Av.get w0 σ) es x → cntT n x ≤ 1000000000000 → R (.int .i64 ((cntT n x + 1 : Nat) : Int)) σ → AC Tryz.prog w0 n_impl_Tree_paths [.agg ⟨es⟩] σ R
  | 0, _, _, _, _, h, _, _ => h.elim
  | n + 1, σ, es, .mk d m t ns ks, R, h, hb, hR => by
    obtain ⟨u, w, rfl, h2, h3, h4, h5⟩ := h
    refine ac_impl_Tree_paths ?_
    unfold vc_impl_Tree_paths
    rw [pVal_5 rfl rfl rfl h4.one h5.one]
    simp only [cellOf_agg, List.getD_cons_zero, List.getD_cons_succ]
    simp only [cntT] at hb hR
    rw [h5.len]
    refine loop_rule (m := ks.length) (fun c l s => ∃ j, s = σ ∧ c + j = ks.length ∧ l = [.int .i64 ((1 + sumBy (fun x => cntT n x + 1) (ks.take j) : Nat) : Int), w, .int .i64 ks.length, .int .i64 (j : Nat)]) ?_ ⟨0, rfl, by omega, by simp [sumBy]⟩
    have hsum := sumBy_one (f := cntT n) (xs := ks)
    rintro c l s L ⟨j, rfl, hc, rfl⟩ hL
    simp only [vget, List.getD_cons_zero, List.getD_cons_succ]
    rw [pBin_lt, pIf_d]
    refine ⟨fun hj => ?_, fun hj => ?_⟩
    · have hx := List.getElem?_eq_getElem (show j < ks.length by omega)
      generalize hxj : ks[j] = x at hx
      refine h5.at hx fun g hg => ?_
      have ht := sumBy_take (f := fun x => cntT n x + 1) hx
      have hle := sumBy_le (f := fun x => cntT n x + 1) (xs := ks) (j + 1)
      have hin : ∀ (A : Prop), A → pVal true 5 (.agg ⟨[g 0, g 1, g 2, g 3, g 4]⟩) A := fun A hA => ⟨⟨_, rfl, rfl, (by
        obtain _ | n := n
        · exact hg.elim
        · obtain ⟨d', m', t', ns', ks'⟩ := x
          obtain ⟨u', w', e, _, _, q4, q5⟩ := hg
          have e' : [g 0, g 1, g 2, g 3, g 4] = [.bool d', .int .i64 m', .string t', u', w'] := e
          rw [e']
          intro c hc
          simp at hc
          rcases hc with rfl | rfl | rfl | rfl | rfl
          · rfl
          · rfl
          · rfl
          · exact q4.one
          · exact q5.one)⟩, hA⟩
      refine hin _ ?_
      refine impl_paths n (x := x) hg (by omega) ?_
      rw [pBin_add (by omega), pBin_add (by omega)]
      refine hL _ _ (c - 1) (by omega) ⟨j + 1, rfl, by omega, ?_⟩
      rw [ht]
      congr 2
      omega
    · have hj' : j = ks.length := by omega
      subst hj'
      rw [List.take_length, hsum]
      show R (.int .i64 _) s
      rw [show ((1 + (sumBy (cntT n) ks + ks.length) : Nat) : Int) = ((ks.length + sumBy (cntT n) ks + 1 : Nat) : Int) by omega]
      exact hR
end
end Go.Proofs.YtkbhjejalkbogaaGreat

/- Trees: the laws 'TreeOk' and 'TreeCount', of the functions alone. -/
set_option linter.unusedVariables false
set_option linter.unusedSimpArgs false
namespace Go.Proofs.YtkbhjejalkbogaaGreat
open Go Go.Av

def isDir : Tr → Bool
  | .mk d _ _ _ _ => d
noncomputable def treeOk (n : Nat) (x : Tr) : Bool := isDir x && (soundB n x 0 && decide (cntT n x ≤ 30))
section
variable {w0 : World} {σ : Vw}

theorem RT.five {n : Nat} {rd : Addr → Option Value} {es : List Value} {x : Tr} (h : RT n rd es x) : ∃ a b c d e, es = [a, b, c, d, e] ∧ a = .bool (isDir x) ∧ ∀ A : Prop, pVal true 5 (.agg ⟨es⟩) A ↔ A := by
  obtain _ | n := n
  · exact h.elim
  · obtain ⟨d', m', t', ns', ks'⟩ := x
    obtain ⟨u', w', rfl, _, _, q4, q5⟩ := h
    exact ⟨_, _, _, _, _, rfl, rfl, fun A => pVal_5 rfl rfl rfl q4.one q5.one⟩

theorem spec_TreeOk {n : Nat} {es : List Value} {x : Tr} {R : Value → Vw → Prop} (h : RT n (Av.get w0 σ) es x) (hb : cntT n x ≤ 1000000000000) (hR : R (.bool (treeOk n x)) σ) : AC Tryz.prog w0 n_spec_TreeOk [.agg ⟨es⟩] σ R := by
  have h0 := h
  obtain ⟨a, b, c, d, e, rfl, rfl, hp⟩ := RT.five h
  refine ac_spec_TreeOk ?_
  unfold vc_spec_TreeOk
  rw [hp]
  simp only [cellOf_agg, List.getD_cons_zero, List.getD_cons_succ]
  rw [pIf_b]
  refine ⟨fun hd => ?_, fun hd => by simpa [treeOk, hd] using hR⟩
  refine spec_Parts n h0 (by omega) ?_
  rw [pIf_b]
  refine ⟨fun hs => ?_, fun hs => by simpa [treeOk, hs] using hR⟩
  refine spec_Count n h0 hb ?_
  rw [pBin_le]
  have : treeOk n x = decide ((cntT n x : Int) ≤ 30) := by
    simp only [treeOk, hd, hs, Bool.true_and]
    congr 1; apply propext; omega
  rw [this] at hR; exact hR

theorem impl_TreeOk {n : Nat} {es : List Value} {x : Tr} {R : Value → Vw → Prop} (h : RT n (Av.get w0 σ) es x) (hb : cntT n x ≤ 1000000000000) (hR : R (.bool (treeOk n x)) σ) : AC Tryz.prog w0 n_impl_TreeOk [.agg ⟨es⟩] σ R := by
  have h0 := h
  obtain ⟨a, b, c, d, e, rfl, rfl, hp⟩ := RT.five h
  refine ac_impl_TreeOk ?_
  unfold vc_impl_TreeOk
  rw [hp]
  simp only [cellOf_agg, List.getD_cons_zero, List.getD_cons_succ]
  rw [pIf_b]
  refine ⟨fun hd => ?_, fun hd => by simpa [treeOk, hd] using hR⟩
  refine impl_sound n h0 (by omega) ?_
  rw [pIf_b]
  refine ⟨fun hs => ?_, fun hs => by simpa [treeOk, hs] using hR⟩
  refine impl_paths n h0 hb ?_
  rw [pBin_le]
  have : treeOk n x = decide (((cntT n x + 1 : Nat) : Int) ≤ 31) := by
    simp only [treeOk, hd, hs, Bool.true_and]
    congr 1; apply propext; omega
  rw [this] at hR; exact hR

end
end Go.Proofs.YtkbhjejalkbogaaGreat

/- How a tree is opened that came with the call. -/
set_option linter.unusedVariables false
set_option linter.unusedSimpArgs false
namespace Go.Proofs.YtkbhjejalkbogaaGreat
open Go Go.Av Go.RowKit

theorem RT_up : ∀ (n : Nat) (rd : Addr → Option Value) (es : List Value) (x : Tr), RT n rd es x → RT (n + 1) rd es x
  | 0, _, _, _, h => h.elim
  | n + 1, rd, es, .mk d m t ns ks, h => by
    obtain ⟨u, w, h1, h2, h3, h4, h5⟩ := h
    exact ⟨u, w, h1, h2, h3, h4, h5.imp fun es x h => RT_up n rd es x h⟩
theorem RT_le {n m : Nat} (h : n ≤ m) {rd : Addr → Option Value} {es : List Value} {x : Tr} (hr : RT n rd es x) : RT m rd es x := by
  obtain ⟨k, rfl⟩ := Nat.exists_eq_add_of_le h
  clear h
  induction k with
  | zero => exact hr
  | succ k ih => exact RT_up _ _ _ _ ih

end Go.Proofs.YtkbhjejalkbogaaGreat
