/- The law FnExactTreeRead holds: it returns true, and the input reads as it did. No condition. -/
import Derived.Test.YtpplljcblgnnhaaRows
import Derived.Test.YtpplljcblgnnhaaE9
import Derived.Test.YtpplljcblgnnhaaB4
import Derived.WalkKit
import Derived.ProofKit
import Derived.OpenShut
import Derived.ShutString
import Derived.ChangeOld
import Derived.Below
import Derived.Carry
import Derived.SizedLaws
namespace Go.Proofs.Ytpplljcblgnnhaa.fnExactTreeRead
open Go.ChangeShapes Go.WideShapes Go.ChangeAt Go.RowKit Go.Av
set_option linter.unusedVariables false
set_option linter.unusedSimpArgs false
theorem own : ownKnob Try.prog.godebug = none := by kernel_rfl
theorem laidOut : laidOutB Try.prog = true := by kernel_rfl
set_option maxRecDepth 100000 in
theorem lifted (os : Os) (started : os.Started) (H : Type) (enc : TypeId × Value → H) :
    ReturnsInHanded {} Try.checked os 12 .any (Rows.fnExactTreeReadSpec.pre6 enc Try.prog Try.f12 Rows.fnExactTreeReadRow.domain false) (Rows.fnExactTreeReadSpec.post enc Try.prog Try.f12 false true false false) := by
  refine returnsInHanded_of_change_sized (C := Try.checked) own started (by kernel_rfl) Try.func12
    (ChangeSpec.witness6 (enc := enc) (C := Try.checked) false ⟨#[], #[.agg #[.bool false, .int .i64 0, .string ⟨#[]⟩, .slice none 0 0, .slice none 0 0], .slice none 0 0, .int .i64 0, .int .i64 0], []⟩ 8 (by kernel_rfl) (by kernel_rfl) (by kernel_rfl) (by kernel_rfl)) ?_
  intro W base args ds gs before hval0 hW hcnd hsz0 _
  have hval : ∀ (j : Nat) t v, Try.f12.params[j]? = some t → args[j]? = some v → Value.okWide Try.prog W .any base t v := hval0
  have hW' := hW
  obtain ⟨p, q, hA0, hV, rfl, hfz, hnd⟩ := hW
  have hA : DataW.TrodAll enc Try.prog W 0 (fun _ => true) true Try.f12.params.toList args.toList ds p := hA0
  rw [Try.params12] at hA hval
  obtain ⟨v0, v1, v2, v3, d0, d1, d2, d3, p0, p1, p2, p3, rfl, rfl, hpp, h0, h1, h2, h3⟩ := trodAll_four hA
  obtain ⟨rfl, rfl⟩ := trodVars_none hV
  have hT0 : Try.prog.underlying 43 = some (.struct (fsOf Try.prog 43)) := by kernel_rfl
  obtain ⟨c0, rfl, hc0⟩ := okWide_struct hT0 (hval 0 43 v0 rfl rfl)
  obtain ⟨A1, len1, cap1, rfl⟩ := okWide_slice (t := 25) (e := 9) (by kernel_rfl) (hval 1 25 v1 rfl rfl)
  obtain ⟨n2, rfl⟩ := okWide_int (t := 3) (k := .i64) (by kernel_rfl) (hval 2 3 v2 rfl rfl)
  obtain ⟨n3, rfl⟩ := okWide_int (t := 3) (k := .i64) (by kernel_rfl) (hval 3 3 v3 rfl rfl)
  have h0k := h0
  obtain ⟨fuel0, hf0⟩ := h0
  have h1k := h1
  obtain ⟨fuel1, hf1⟩ := h1
  have h2k := h2
  obtain ⟨fuel2, hf2⟩ := h2
  have h3k := h3
  obtain ⟨fuel3, hf3⟩ := h3
  clear hA0 hval0 hsz0
  simp only [List.append_nil] at hW'
  have hlt : ∀ x ∈ p, x.block < W.heap.size := fun x hx => by simpa using hW'.lt x hx
  have hargs0 : ∀ (W' : World), Below W.heap.size W W' → DataW.Trod enc Try.prog W' 0 (fun b => decide (b < W.heap.size)) true 43 (.agg c0) d0 p0 :=
    fun W' hn => Below.trod laidOut (by kernel_rfl) (of_decide_eq_true (by kernel_rfl)) h0k hn (fun x hx => hlt x (by rw [hpp]; simp [hx]))
  have hargs1 : ∀ (W' : World), Below W.heap.size W W' → DataW.Trod enc Try.prog W' 0 (fun b => decide (b < W.heap.size)) true 25 (.slice A1 len1 cap1) d1 p1 :=
    fun W' hn => Below.trod laidOut (by kernel_rfl) (of_decide_eq_true (by kernel_rfl)) h1k hn (fun x hx => hlt x (by rw [hpp]; simp [hx]))
  have hargs2 : ∀ (W' : World), Below W.heap.size W W' → DataW.Trod enc Try.prog W' 0 (fun b => decide (b < W.heap.size)) true 3 (.int .i64 n2) d2 p2 :=
    fun W' hn => Below.trod laidOut (by kernel_rfl) (of_decide_eq_true (by kernel_rfl)) h2k hn (fun x hx => hlt x (by rw [hpp]; simp [hx]))
  have hargs3 : ∀ (W' : World), Below W.heap.size W W' → DataW.Trod enc Try.prog W' 0 (fun b => decide (b < W.heap.size)) true 3 (.int .i64 n3) d3 p3 :=
    fun W' hn => Below.trod laidOut (by kernel_rfl) (of_decide_eq_true (by kernel_rfl)) h3k hn (fun x hx => hlt x (by rw [hpp]; simp [hx]))
  have hl0 : c0.toList.length = 5 := by rw [Array.length_toList, hc0]; kernel_rfl
  obtain ⟨x0, r0⟩ := open_tree fuel0 c0.toList _ hf0 hl0
  obtain ⟨u1, x1, hu1, r1⟩ := open_rsl (t := t_s_string) (e := t_string) (by kernel_rfl) (by kernel_rfl) (open_rs (by kernel_rfl)) hf1
  have hu1' : u1 = .slice A1 len1 cap1 := by
    have : [Value.slice A1 len1 cap1] = [u1] := hu1
    cases this; rfl
  subst hu1'
  obtain ⟨m2, e2, r2⟩ := open_int (t := 3) (by kernel_rfl) hf2
  have e2' : m2 = n2 := by
    have : [Value.int .i64 n2] = [.int .i64 m2] := e2
    cases this; rfl
  subst e2'
  obtain ⟨m3, e3, r3⟩ := open_int (t := 3) (by kernel_rfl) hf3
  have e3' : m3 = n3 := by
    have : [Value.int .i64 n3] = [.int .i64 m3] := e3
    cases this; rfl
  subst e3'
  refine ((law_TreeRead (R := fun v _ => v = .bool true) r0 r1 r2 r3 (by intros; rfl)).calls).mono fun e W' ⟨v, σ', he, hv, bel⟩ => ?_
  subst he hv
  have hW'' := hW'
  rw [hpp] at hW''
  simp only [List.append_assoc] at hW''
  exact ⟨_, rfl, _, _, _, [], _, [], hW'', trodAll_mk1 (shut_bool Try.underlying4 _), trodAll_mk4 (hargs0 W' bel) (hargs1 W' bel) (hargs2 W' bel) (hargs3 W' bel), rfl, bel.frame _, fun h => by cases h⟩
theorem over : Rows.fnExactTreeReadRow.holds Try.pinned (OpenSpec.ofChange Rows.fnExactTreeReadSpec) :=
  OpenClaim.holds_of_wide 12 Try.f12 rfl rfl rfl rfl rfl rfl rfl ⟨rfl, rfl, rfl, rfl, rfl⟩ rfl rfl rfl rfl rfl (by kernel_rfl) Try.func12 (by kernel_rfl)
    (of_decide_eq_true (by kernel_rfl)) (by unfold Func.isWrapper; first | (rw [if_pos (by decide +kernel)]; kernel_rfl) | (rw [if_neg (by decide +kernel)]; exact ⟨rfl, rfl⟩))
    (fun os started H enc _ => lifted os started H enc)
theorem proved : Rows.FnExactTreeReadSaid := over
end Go.Proofs.Ytpplljcblgnnhaa.fnExactTreeRead
namespace Go.Proofs.Ytpplljcblgnnhaa
/-- The row, under a short name, for the claim. -/
theorem fnExactTreeRead_holds : Rows.FnExactTreeReadSaid := fnExactTreeRead.proved
end Go.Proofs.Ytpplljcblgnnhaa
