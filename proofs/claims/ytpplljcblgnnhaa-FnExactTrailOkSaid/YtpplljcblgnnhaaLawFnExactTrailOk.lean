/- The law FnExactTrailOk holds: it returns true, and the input reads as it did. No condition. -/
import Derived.Test.YtpplljcblgnnhaaRows
import Derived.Test.YtpplljcblgnnhaaB3
import Derived.Test.YtpplljcblgnnhaaC9
import Derived.WalkKit
import Derived.ProofKit
import Derived.OpenShut
import Derived.ShutString
import Derived.ChangeOld
import Derived.Below
import Derived.Carry
import Derived.SizedLaws
namespace Go.Proofs.Ytpplljcblgnnhaa.fnExactTrailOk
open Go.ChangeShapes Go.WideShapes Go.ChangeAt Go.RowKit Go.Av
set_option linter.unusedVariables false
theorem own : ownKnob Try.prog.godebug = none := by kernel_rfl
theorem laidOut : laidOutB Try.prog = true := by kernel_rfl
theorem open_mk {H : Type} {enc : TypeId × Value → H} {W : World} {spare : Nat → Bool} : ∀ (fuel : Nat) (es : List Value) (y : DataW H × List MemPlace), DataW.trod enc Try.prog W 0 spare true fuel 113 es = some y → es.length = 2 → ∃ x, RMk (Av.get W σ0) es x := by
  intro fuel es y h hl
  have hT : Try.prog.underlying 113 = some (.struct (fsOf Try.prog 113)) := by kernel_rfl
  obtain ⟨f1, y1, h1⟩ := open_field hT 0 25 0 1 (by kernel_rfl) (by kernel_rfl) h
  obtain ⟨f2, y2, h2⟩ := open_field hT 1 4 1 1 (by kernel_rfl) (by kernel_rfl) h
  obtain ⟨u, xs, hu, hrd⟩ := open_rsl (t := 25) (e := 9) (by kernel_rfl) (by kernel_rfl) (open_rs (by kernel_rfl)) h1
  obtain ⟨b, hb, _⟩ := DataW.trod_bool Try.underlying4 h2
  refine ⟨(xs, b), u, ?_, hrd⟩
  match es, hl with
  | [p, q], _ =>
    simp at hu hb
    subst hu hb
    rfl
set_option maxRecDepth 100000 in
theorem lifted (os : Os) (started : os.Started) (H : Type) (enc : TypeId × Value → H) :
    ReturnsInHanded {} Try.checked os 10 .any (Rows.fnExactTrailOkSpec.pre6 enc Try.prog Try.f10 Rows.fnExactTrailOkRow.domain false) (Rows.fnExactTrailOkSpec.post enc Try.prog Try.f10 false true false false) := by
  refine returnsInHanded_of_change_sized (C := Try.checked) own started (by kernel_rfl) Try.func10
    (ChangeSpec.witness6 (enc := enc) (C := Try.checked) false ⟨#[], #[.slice none 0 0], []⟩ 8 (by kernel_rfl) (by kernel_rfl) (by kernel_rfl) (by kernel_rfl)) ?_
  intro W base args ds gs before hval0 hW hcnd hsz0 _
  have hval : ∀ (j : Nat) t v, Try.f10.params[j]? = some t → args[j]? = some v → Value.okWide Try.prog W .any base t v := hval0
  have hW' := hW
  obtain ⟨p, q, hA0, hV, rfl, hfz, hnd⟩ := hW
  have hA : DataW.TrodAll enc Try.prog W 0 (fun _ => true) true Try.f10.params.toList args.toList ds p := hA0
  rw [Try.params10] at hA hval
  obtain ⟨v0, d0, rfl, rfl, h0⟩ := trodAll_one hA
  obtain ⟨rfl, rfl⟩ := trodVars_none hV
  obtain ⟨A0, len, cap, rfl⟩ := okWide_slice (e := 113) (by kernel_rfl) (hval 0 62 v0 rfl rfl)
  have h0k := h0
  obtain ⟨fuel, hf⟩ := h0
  clear hA0 hval0 hsz0
  simp only [List.append_nil] at hW'
  have hlt : ∀ x ∈ p, x.block < W.heap.size := fun x hx => by simpa using hW'.lt x hx
  have hargs : ∀ (W' : World), Below W.heap.size W W' → DataW.Trod enc Try.prog W' 0 (fun b => decide (b < W.heap.size)) true 62 (.slice A0 len cap) d0 p :=
    fun W' hn => Below.trod laidOut (by kernel_rfl) (of_decide_eq_true (by kernel_rfl)) h0k hn hlt
  obtain ⟨u, xs, hu, hrd⟩ := open_rsl (t := 62) (e := 113) (by kernel_rfl) (by kernel_rfl) open_mk hf
  have hu' : u = .slice A0 len cap := by
    have : [Value.slice A0 len cap] = [u] := hu
    cases this; rfl
  subst hu'
  refine ((law_TrailOk (R := fun v _ => v = .bool true) hrd fun _ _ => rfl).calls).mono fun e W' ⟨v, σ', he, hv, bel⟩ => ?_
  subst he hv
  exact ⟨_, rfl, _, _, _, [], _, [], hW', trodAll_mk1 (shut_bool Try.underlying4 _), trodAll_mk1 (hargs W' bel), rfl, bel.frame _, fun h => by cases h⟩
theorem over : Rows.fnExactTrailOkRow.holds Try.pinned (OpenSpec.ofChange Rows.fnExactTrailOkSpec) :=
  OpenClaim.holds_of_wide 10 Try.f10 rfl rfl rfl rfl rfl rfl rfl ⟨rfl, rfl, rfl, rfl, rfl⟩ rfl rfl rfl rfl rfl (by kernel_rfl) Try.func10 (by kernel_rfl)
    (of_decide_eq_true (by kernel_rfl)) (by unfold Func.isWrapper; first | (rw [if_pos (by decide +kernel)]; kernel_rfl) | (rw [if_neg (by decide +kernel)]; exact ⟨rfl, rfl⟩))
    (fun os started H enc _ => lifted os started H enc)
theorem proved : Rows.FnExactTrailOkSaid := over
end Go.Proofs.Ytpplljcblgnnhaa.fnExactTrailOk
namespace Go.Proofs.Ytpplljcblgnnhaa
/-- The row, under a short name, for the claim. -/
theorem fnExactTrailOk_holds : Rows.FnExactTrailOkSaid := fnExactTrailOk.proved
end Go.Proofs.Ytpplljcblgnnhaa
