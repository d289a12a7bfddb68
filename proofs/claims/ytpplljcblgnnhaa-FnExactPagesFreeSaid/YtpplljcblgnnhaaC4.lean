/- The lists of texts in rows of their own; marks (a path and a bool) and their lists: size, copy, comparison. -/
import Derived.Test.YtpplljcblgnnhaaD2
import Derived.Test.YtpplljcblgnnhaaC2
set_option linter.unusedVariables false
set_option linter.unusedSimpArgs false
namespace Go.Proofs.Ytpplljcblgnnhaa
open Go Go.Av

/-- A text needs no row. -/
def OStr (σ : Vw) (F : List Nat) (es : List Value) (s : ByteArray) : Prop := F = [] ∧ es = [.string s] ∧ s.size ≤ 9223372036854775807

section
variable {w0 : World} {σ : Vw}

theorem ok_str (w0 : World) : OOk w0 1 RS OStr := by
  refine ⟨?_, ?_, ?_, ?_, ?_, ?_⟩
  · rintro σ F es x ⟨_, h1, h2⟩; exact ⟨h1, h2⟩
  · rintro σ σ' F es x h _; exact h
  · rintro σ F es x ⟨rfl, _, _⟩ b hb; cases hb
  · rintro σ F es x ⟨rfl, _, _⟩; exact List.nodup_nil
  · rintro σ F es x ⟨_, rfl, _⟩; rfl
  · rintro σ F es x ⟨_, rfl, _⟩ c hc; rw [List.mem_singleton.1 hc]; rfl

abbrev OStrs (w0 : World) := OSl w0 1 OStr
theorem mono_rs {rd rd' : Addr → Option Value} {es : List Value} {x : ByteArray} (_ : Le rd rd') (h : RS rd es x) : RS rd' es x := h

theorem strs_le {rd : Addr → Option Value} {v : Value} {xs : List ByteArray} (h : RSl 1 RS rd v xs) : ∀ x, x ∈ xs → x.size ≤ 9223372036854775807 := by
  obtain ⟨A, cap, _, _, h3⟩ := h
  intro x hx
  obtain ⟨j, hj⟩ := List.getElem?_of_mem hx
  obtain ⟨a, es, _, _, _, h4⟩ := h3 j x hj
  exact h4.2

theorem flat_strs (xs : List ByteArray) : xs.map Value.string = (xs.map fun s => [Value.string s]).flatten := by
  induction xs with
  | nil => rfl
  | cons a r ih => simp [ih]

theorem own_strs {b cap : Nat} {r : Row} {xs : List ByteArray} (hb : w0.heap.size ≤ b) (hr : σ b = some r) (hc : r.cells = xs.map .string) (hm : xs.length ≤ cap ∧ cap ≤ 9223372036854775807) (hs : ∀ x, x ∈ xs → x.size ≤ 9223372036854775807) : OStrs w0 σ [b] (.slice (some ⟨b, 0, none⟩) xs.length cap) xs := by
  have hnil : (List.replicate xs.length ([] : List Nat)).flatten = [] := by simp
  refine ⟨Nat.le_trans hm.1 hm.2, by simp, .inr ⟨b, 0, cap, r, [], [], xs.map fun s => [.string s], List.replicate xs.length [], rfl, hm, hb, hr, by rw [hc, flat_strs]; simp, rfl, by simp, by simp, by rw [hnil], fun j c x f e1 e2 e3 => ?_⟩⟩
  rw [List.getElem?_map, e2] at e1
  cases e1
  refine ⟨?_, rfl, hs x (List.mem_of_getElem? e2)⟩
  rw [List.getElem?_replicate] at e3
  split at e3
  · cases e3; rfl
  · cases e3

theorem toStringS' {v : Value} {xs : List ByteArray} (h : RSl 1 RS (Av.get w0 σ) v xs) (hb : xs.length ≤ 1000000000000) {R : Value → Vw → Prop}
    (hR : ∀ v' F σ', Keeps σ σ' → OStrs w0 σ' F v' xs → (∀ b, b ∈ F → σ b = none) → R v' σ') : AC Try.prog w0 n_laws_toStringS [v] σ R :=
  toStringS h hb fun b ety h1 h2 => hR _ [b] _ (Keeps.put h2) (own_strs h1 put_at rfl ⟨Nat.le_refl _, h.le⟩ (strs_le h)) fun i hi => by rw [List.mem_singleton.1 hi]; exact h2

/-- A mark: a path, and a bool. -/
abbrev Mk := List ByteArray × Bool
def RMk (rd : Addr → Option Value) (es : List Value) (m : Mk) : Prop := ∃ v, es = [v, .bool m.2] ∧ RSl 1 RS rd v m.1
def OMk (w0 : World) (σ : Vw) (F : List Nat) (es : List Value) (m : Mk) : Prop := ∃ v, es = [v, .bool m.2] ∧ OStrs w0 σ F v m.1
def szMk (m : Mk) : Nat := m.1.length + sumS m.1

theorem OSl.one' {α : Type} {n : Nat} {O : Vw → List Nat → List Value → α → Prop} {F : List Nat} {v : Value} {xs : List α} (h : OSl w0 n O σ F v xs) : v.oneCell' = true := by
  obtain ⟨_, _, ⟨rfl, _⟩ | ⟨_, _, _, _, _, _, _, _, rfl, _⟩⟩ := h <;> rfl

theorem ok_mk (w0 : World) : OOk w0 2 RMk (OMk w0) := by
  refine ⟨?_, ?_, ?_, ?_, ?_, ?_⟩
  · rintro σ F es x ⟨v, h1, h2⟩; exact ⟨v, h1, h2.rel (ok_str w0)⟩
  · rintro σ σ' F es x ⟨v, h1, h2⟩ hF; exact ⟨v, h1, h2.frame (ok_str w0) hF⟩
  · rintro σ F es x ⟨v, h1, h2⟩; exact h2.dom (ok_str w0)
  · rintro σ F es x ⟨v, h1, h2⟩; exact h2.2.1
  · rintro σ F es x ⟨v, rfl, h2⟩; rfl
  · rintro σ F es x ⟨v, rfl, h2⟩ c hc
    simp at hc
    rcases hc with rfl | rfl
    · exact OSl.one' h2
    · rfl
theorem mono_mk {rd rd' : Addr → Option Value} {es : List Value} {x : Mk} (hl : Le rd rd') (h : RMk rd es x) : RMk rd' es x := by
  obtain ⟨v, h1, h2⟩ := h; exact ⟨v, h1, h2.mono hl fun _ _ h => h⟩

theorem sumS_eq (xs : List ByteArray) : sumS xs = sumBy ByteArray.size xs := by
  induction xs with
  | nil => rfl
  | cons a r ih => simp [sumS, sumBy, ih]

theorem szMark {es : List Value} {x : Mk} {m : Int} {R : Value → Vw → Prop} (h : RMk (Av.get w0 σ) es x) (hm : 0 ≤ m ∧ m ≤ 9223372036854775807) (hR : R (.int .i64 (Av.left m (szMk x))) σ) : AC Try.prog w0 n_laws_szMark [.agg ⟨es⟩, .int .i64 m] σ R := by
  obtain ⟨v, rfl, h2⟩ := h
  refine ac_laws_szMark ?_
  unfold vc_laws_szMark
  rw [pVal_2 h2.one rfl]
  refine szStringS h2 hm ?_
  rw [pBin_lt, pIf_d]
  have e : left m (x.1.length + sumS x.1) = Av.left m (szMk x) := rfl
  rw [e]
  refine ⟨fun hlt => ?_, fun _ => hR⟩
  rw [Av.left_neg] at hlt
  rw [Av.left_low hlt] at hR; exact hR

theorem szMarkS {v : Value} {xs : List Mk} {m : Int} (h : RSl 2 RMk (Av.get w0 σ) v xs) (hm : 0 ≤ m ∧ m ≤ 9223372036854775807) {R : Value → Vw → Prop} (hR : R (.int .i64 (Av.left m (xs.length + sumBy szMk xs))) σ) : AC Try.prog w0 n_laws_szMarkS [v, .int .i64 m] σ R := by
  refine ac_laws_szMarkS ?_
  have e : vc_laws_szMarkS w0 v (.int .i64 m) σ R = VszS Try.prog w0 3 2 n_laws_szMark v (.int .i64 m) σ R := by kernel_rfl
  rw [e]
  exact szS_gen (fun x _ es m R' h hm hR => szMark h hm hR) h hm hR

theorem toMark {es : List Value} {x : Mk} {R : Value → Vw → Prop} (h : RMk (Av.get w0 σ) es x) (hb : x.1.length ≤ 1000000000000) (hR : ∀ es' F σ', Keeps σ σ' → OMk w0 σ' F es' x → (∀ b, b ∈ F → σ b = none) → R (.agg ⟨es'⟩) σ') : AC Try.prog w0 n_laws_toMark [.agg ⟨es⟩] σ R := by
  obtain ⟨v, rfl, h2⟩ := h
  refine ac_laws_toMark ?_
  unfold vc_laws_toMark
  rw [pVal_2 h2.one rfl]
  refine toStringS' h2 hb fun v' F σ' hk ho hF => ?_
  rw [pVal1 (OSl.one' ho), pVal1 rfl, cellOf_agg, pVal_2 (OSl.one' ho) rfl]
  exact hR _ F σ' hk ⟨v', rfl, ho⟩ hF

theorem toMarkS {v : Value} {xs : List Mk} (h : RSl 2 RMk (Av.get w0 σ) v xs) (hl : xs.length ≤ 1000000000000) (hb : ∀ x, x ∈ xs → x.1.length ≤ 1000000000000) {R : Value → Vw → Prop}
    (hR : ∀ v' F σ', Keeps σ σ' → OSl w0 2 (OMk w0) σ' F v' xs → (∀ b, b ∈ F → σ b = none) → R v' σ') : AC Try.prog w0 n_laws_toMarkS [v] σ R := by
  refine ac_laws_toMarkS ?_
  have e : vc_laws_toMarkS w0 v σ R = VtoS Try.prog w0 3 115 2 32 n_laws_toMark [.slice none 0 0, .bool false] v σ R := by kernel_rfl
  rw [e]
  exact toS_gen (n := 2) (Rel := RMk) (bytes := 32) rfl (ok_mk w0) (fun _ _ _ _ hl h => mono_mk hl h) (fun x hx s es R' _ h hR => toMark h (hb x hx) hR) h (by omega) hR

theorem eqMark {es es' : List Value} {x y : Mk} {R : Value → Vw → Prop} (h : RMk (Av.get w0 σ) es x) (h' : RMk (Av.get w0 σ) es' y) (hR : R (.bool (decide (x = y))) σ) : AC Try.prog w0 n_laws_eqMark [.agg ⟨es⟩, .agg ⟨es'⟩] σ R := by
  obtain ⟨v, rfl, h2⟩ := h
  obtain ⟨v', rfl, h2'⟩ := h'
  refine ac_laws_eqMark ?_
  unfold vc_laws_eqMark
  rw [pVal_2 h2.one rfl, pVal_2 h2'.one rfl]
  refine eqStringS h2 h2' ?_
  obtain ⟨a, p⟩ := x
  obtain ⟨b, q⟩ := y
  have eb : ∀ K : Value → Prop, pBin Try.prog 4 .neq (.bool p) (.bool q) K ↔ K (.bool !(p == q)) := fun K => pBin_b (by kernel_rfl) rfl
  rw [pUn_not, pIf_b]
  simp only [cellOf_agg, List.getD_cons_zero, List.getD_cons_succ]
  rw [eb, pIf_b]
  by_cases e1 : a = b
  · subst e1
    by_cases e2 : p = q
    · subst e2; simpa using hR
    · simpa [e2] using hR
  · simpa [e1] using hR

theorem eqMarkS {v v' : Value} {xs ys : List Mk} (h : RSl 2 RMk (Av.get w0 σ) v xs) (h' : RSl 2 RMk (Av.get w0 σ) v' ys) {R : Value → Vw → Prop} (hR : R (.bool (decide (xs = ys))) σ) : AC Try.prog w0 n_laws_eqMarkS [v, v'] σ R := by
  refine ac_laws_eqMarkS ?_
  have e : vc_laws_eqMarkS w0 v v' σ R = VeqS Try.prog w0 3 2 n_laws_eqMark v v' σ R := by kernel_rfl
  rw [e]
  exact eqS_gen (fun x _ y es es' R' h h' hR => eqMark h h' hR) h h' hR
end
end Go.Proofs.Ytpplljcblgnnhaa
