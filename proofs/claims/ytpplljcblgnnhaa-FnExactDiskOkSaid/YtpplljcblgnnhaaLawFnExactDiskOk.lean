/- The law FnExactDiskOk holds: it returns true, and the input reads as it did. No condition. -/
import Derived.Test.YtpplljcblgnnhaaRows
import Derived.Test.YtpplljcblgnnhaaB3
import Derived.Test.YtpplljcblgnnhaaC3
import Derived.WalkKit
import Derived.ProofKit
import Derived.OpenShut
import Derived.ShutString
import Derived.ChangeOld
import Derived.Below
import Derived.Carry
import Derived.SizedLaws
namespace Go.Proofs.Ytpplljcblgnnhaa.fnExactDiskOk
open Go.ChangeShapes Go.WideShapes Go.ChangeAt Go.RowKit Go.Av
set_option linter.unusedVariables false
theorem own : ownKnob Try.prog.godebug = none := by kernel_rfl
theorem laidOut : laidOutB Try.prog = true := by kernel_rfl
set_option maxRecDepth 100000 in
theorem lifted (os : Os) (started : os.Started) (H : Type) (enc : TypeId × Value → H) :
    ReturnsInHanded {} Try.checked os 5 .any (Rows.fnExactDiskOkSpec.pre6 enc Try.prog Try.f5 Rows.fnExactDiskOkRow.domain false) (Rows.fnExactDiskOkSpec.post enc Try.prog Try.f5 false true false false) := by
  refine returnsInHanded_of_change_sized (C := Try.checked) own started (by kernel_rfl) Try.func5
    (ChangeSpec.witness6 (enc := enc) (C := Try.checked) false ⟨#[], #[.agg #[.slice none 0 0]], []⟩ 8 (by kernel_rfl) (by kernel_rfl) (by kernel_rfl) (by kernel_rfl)) ?_
  intro W base args ds gs before hval0 hW hcnd hsz0 _
  have hval : ∀ (j : Nat) t v, Try.f5.params[j]? = some t → args[j]? = some v → Value.okWide Try.prog W .any base t v := hval0
  have hW' := hW
  obtain ⟨p, q, hA0, hV, rfl, hfz, hnd⟩ := hW
  have hA : DataW.TrodAll enc Try.prog W 0 (fun _ => true) true Try.f5.params.toList args.toList ds p := hA0
  rw [Try.params5] at hA hval
  obtain ⟨v0, d0, rfl, rfl, h0⟩ := trodAll_one hA
  obtain ⟨rfl, rfl⟩ := trodVars_none hV
  have hT : Try.prog.underlying 27 = some (.struct (fsOf Try.prog 27)) := by kernel_rfl
  obtain ⟨cs, rfl, hcs⟩ := okWide_struct hT (hval 0 27 v0 rfl rfl)
  have h0k := h0
  obtain ⟨fuel, hf⟩ := h0
  clear hA0 hval0 hsz0
  simp only [List.append_nil] at hW'
  have hlt : ∀ x ∈ p, x.block < W.heap.size := fun x hx => by simpa using hW'.lt x hx
  have hargs : ∀ (W' : World), Below W.heap.size W W' → DataW.Trod enc Try.prog W' 0 (fun b => decide (b < W.heap.size)) true 27 (.agg cs) d0 p :=
    fun W' hn => Below.trod laidOut (by kernel_rfl) (of_decide_eq_true (by kernel_rfl)) h0k hn hlt
  obtain ⟨fuel', y, hy⟩ := open_field hT 0 25 0 1 (by kernel_rfl) (by kernel_rfl) hf
  have hlen : cs.toList.length = 1 := by rw [Array.length_toList, hcs]; kernel_rfl
  obtain ⟨u, xs, hu, hrd⟩ := open_rsl (t := 25) (e := 9) (by kernel_rfl) (by kernel_rfl) (open_rs (by kernel_rfl)) hy
  have hcells : cs = ⟨[u]⟩ := by
    apply Array.toList_inj.1
    show cs.toList = [u]
    rw [← hu]
    show _ = (cs.toList.drop 0).take 1
    rw [List.drop_zero, List.take_of_length_le (by omega)]
  subst hcells
  refine ((law_DiskOk (R := fun v _ => v = .bool true) hrd fun _ _ => rfl).calls).mono fun e W' ⟨v, σ', he, hv, bel⟩ => ?_
  subst he hv
  exact ⟨_, rfl, _, _, _, [], _, [], hW', trodAll_mk1 (shut_bool Try.underlying4 _), trodAll_mk1 (hargs W' bel), rfl, bel.frame _, fun h => by cases h⟩
theorem over : Rows.fnExactDiskOkRow.holds Try.pinned (OpenSpec.ofChange Rows.fnExactDiskOkSpec) :=
  OpenClaim.holds_of_wide 5 Try.f5 rfl rfl rfl rfl rfl rfl rfl ⟨rfl, rfl, rfl, rfl, rfl⟩ rfl rfl rfl rfl rfl (by kernel_rfl) Try.func5 (by kernel_rfl)
    (of_decide_eq_true (by kernel_rfl)) (by unfold Func.isWrapper; first | (rw [if_pos (by decide +kernel)]; kernel_rfl) | (rw [if_neg (by decide +kernel)]; exact ⟨rfl, rfl⟩))
    (fun os started H enc _ => lifted os started H enc)
theorem proved : Rows.FnExactDiskOkSaid := over
end Go.Proofs.Ytpplljcblgnnhaa.fnExactDiskOk
namespace Go.Proofs.Ytpplljcblgnnhaa
/-- The row, under a short name, for the claim. -/
theorem fnExactDiskOk_holds : Rows.FnExactDiskOkSaid := fnExactDiskOk.proved
end Go.Proofs.Ytpplljcblgnnhaa
