/- Writes of a disk: the law 'DiskWrite', of the functions alone. -/
import Derived.Test.YtpplljcblgnnhaaC3
import Derived.Test.YtpplljcblgnnhaaC5
import Derived.Test.YtpplljcblgnnhaaE2
import Derived.Test.YtpplljcblgnnhaaD5
set_option linter.unusedVariables false
set_option linter.unusedSimpArgs false
namespace Go.Proofs.Ytpplljcblgnnhaa
open Go Go.Av

abbrev Rw := Int × ByteArray
def encRaw (x : Rw) : List Value := [.int .i64 x.1, .string x.2]
def goodRaw (x : Rw) : Prop := (-9223372036854775808 ≤ x.1 ∧ x.1 ≤ 9223372036854775807) ∧ x.2.size ≤ 9223372036854775807
def szRw (x : Rw) : Nat := x.2.size
abbrev RRaw := RFl encRaw goodRaw
abbrev ORaw := OFl encRaw goodRaw
theorem rok_raw : ROk 2 RRaw := rok_fl (n := 2) (enc := encRaw) (good := goodRaw) (fun _ => rfl) (fun x c h => by simp [encRaw] at h; rcases h with rfl | rfl <;> rfl)
theorem ok_raw (w0 : World) : OOk w0 2 RRaw ORaw := ok_fl (n := 2) (enc := encRaw) (good := goodRaw) (fun _ => rfl) (fun x c h => by simp [encRaw] at h; rcases h with rfl | rfl <;> rfl) w0
theorem rok_str : ROk 1 RS := ⟨fun _ _ _ _ _ h => h, fun _ _ _ h => by rw [h.1]; rfl, fun _ _ _ h c hc => by rw [h.1] at hc; rw [List.mem_singleton.1 hc]; rfl⟩

section
variable {w0 : World} {σ : Vw}

theorem szRaw {es : List Value} {x : Rw} {m : Int} {R : Value → Vw → Prop} (h : RRaw (Av.get w0 σ) es x) (hm : 0 ≤ m ∧ m ≤ 9223372036854775807) (hR : R (.int .i64 (Av.left m (szRw x))) σ) : AC Try.prog w0 n_laws_szRaw [.agg ⟨es⟩, .int .i64 m] σ R := by
  obtain ⟨rfl, hg⟩ := h
  refine ac_laws_szRaw ?_
  unfold vc_laws_szRaw
  rw [encRaw, pVal_2 rfl rfl]
  show pLenS (.string x.2) _
  have := hg.2
  unfold szRw at hR
  rw [pLenS_s, pBin_sub (by omega), pBin_lt, pIf_d]
  refine ⟨fun hlt => ?_, fun hge => ?_⟩
  · rw [Av.left_low (by omega)] at hR; exact hR
  · rw [Av.left_in (by omega)] at hR; exact hR

theorem szRawS {v : Value} {xs : List Rw} {m : Int} (h : RSl 2 RRaw (Av.get w0 σ) v xs) (hm : 0 ≤ m ∧ m ≤ 9223372036854775807) {R : Value → Vw → Prop} (hR : R (.int .i64 (Av.left m (xs.length + sumBy szRw xs))) σ) : AC Try.prog w0 n_laws_szRawS [v, .int .i64 m] σ R := by
  refine ac_laws_szRawS ?_
  have e : vc_laws_szRawS w0 v (.int .i64 m) σ R = VszS Try.prog w0 3 2 n_laws_szRaw v (.int .i64 m) σ R := by kernel_rfl
  rw [e]
  exact szS_gen (sz := szRw) (fun x _ es m R' h hm hR => szRaw h hm hR) h hm hR

theorem toRaw {es : List Value} {x : Rw} {R : Value → Vw → Prop} (h : RRaw (Av.get w0 σ) es x) (hR : ∀ es' F σ', Keeps σ σ' → ORaw σ' F es' x → (∀ b, b ∈ F → σ b = none) → R (.agg ⟨es'⟩) σ') : AC Try.prog w0 n_laws_toRaw [.agg ⟨es⟩] σ R := by
  obtain ⟨rfl, hg⟩ := h
  refine ac_laws_toRaw ?_
  unfold vc_laws_toRaw
  rw [encRaw, pVal_2 rfl rfl]
  simp only [cellOf_agg, List.getD_cons_zero, List.getD_cons_succ]
  rw [pVal1 rfl, pVal1 rfl, pVal_2 rfl rfl]
  exact hR _ [] σ (Keeps.refl σ) ⟨rfl, rfl, hg⟩ (by simp)

theorem toRawS {v : Value} {xs : List Rw} (h : RSl 2 RRaw (Av.get w0 σ) v xs) (hl : xs.length ≤ 1000000000000) {R : Value → Vw → Prop}
    (hR : ∀ v' F σ', Keeps σ σ' → OSl w0 2 ORaw σ' F v' xs → (∀ b, b ∈ F → σ b = none) → R v' σ') : AC Try.prog w0 n_laws_toRawS [v] σ R := by
  refine ac_laws_toRawS ?_
  have e : vc_laws_toRawS w0 v σ R = VtoS Try.prog w0 3 t_impl_Raw 2 24 n_laws_toRaw [.int .i64 0, .string ⟨#[]⟩] v σ R := by kernel_rfl
  rw [e]
  exact toS_gen (n := 2) (Rel := RRaw) (bytes := 24) rfl (ok_raw w0) (fun _ _ _ _ hl h => h) (fun x hx s es R' _ h hR => toRaw h hR) h (by omega) hR

theorem eqRaw {es es' : List Value} {x y : Rw} {R : Value → Vw → Prop} (h : RRaw (Av.get w0 σ) es x) (h' : RRaw (Av.get w0 σ) es' y) (hR : R (.bool (decide (x = y))) σ) : AC Try.prog w0 n_laws_eqRaw [.agg ⟨es⟩, .agg ⟨es'⟩] σ R := by
  obtain ⟨rfl, hg⟩ := h
  obtain ⟨rfl, hg'⟩ := h'
  refine ac_laws_eqRaw ?_
  unfold vc_laws_eqRaw
  rw [encRaw, encRaw, pVal_2 rfl rfl, pVal_2 rfl rfl]
  obtain ⟨a, p⟩ := x
  obtain ⟨b, q⟩ := y
  simp only [cellOf_agg, List.getD_cons_zero, List.getD_cons_succ]
  rw [pBin_ne, pIf_d]
  refine ⟨fun h => ?_, fun h => ?_⟩
  · have : ¬ ((a, p) = (b, q)) := fun e => h (by cases e; rfl)
    simpa [this] using hR
  · have h' := Decidable.not_not.1 h
    subst h'
    rw [pBin_sne, pIf_d]
    refine ⟨fun h => ?_, fun h => ?_⟩
    · have : ¬ ((a, p) = (a, q)) := fun e => h (by cases e; rfl)
      simpa [this] using hR
    · have h' := Decidable.not_not.1 h
      subst h'
      simpa using hR

theorem eqRawS {v v' : Value} {xs ys : List Rw} (h : RSl 2 RRaw (Av.get w0 σ) v xs) (h' : RSl 2 RRaw (Av.get w0 σ) v' ys) {R : Value → Vw → Prop} (hR : R (.bool (decide (xs = ys))) σ) : AC Try.prog w0 n_laws_eqRawS [v, v'] σ R := by
  refine ac_laws_eqRawS ?_
  have e : vc_laws_eqRawS w0 v v' σ R = VeqS Try.prog w0 3 2 n_laws_eqRaw v v' σ R := by kernel_rfl
  rw [e]
  exact eqS_gen (fun x _ y es es' R' h h' hR => eqRaw h h' hR) h h' hR

def mkRaw (k : Nat) (_ : Rw) : Rw := ((k : Int), mtext (k + 1))
theorem markRawS {F : List Nat} {v : Value} {xs : List Rw} {k : Nat} (h : OSl w0 2 ORaw σ F v xs) (hk : k + sumBy (fun _ => 2) xs ≤ 1000000000000) {R : Value → Vw → Prop}
    (hR : ∀ σ', KeepsBut F σ σ' → OSl w0 2 ORaw σ' F v (mkS mkRaw (fun _ => 2) k xs) → R (.int .i64 ((k + sumBy (fun _ => 2) xs : Nat) : Int)) σ') : AC Try.prog w0 n_laws_markRawS [v, .int .i64 (k : Nat)] σ R := by
  refine ac_laws_markRawS ?_
  unfold vc_laws_markRawS
  refine mark_loop (ok_raw w0) (mk := mkRaw) (cnt := fun _ => 2) h hk ?_ hR
  intro j x k' s ys K hj hlen hkb hx hk' hO hyj hK
  simp only [vget, List.getD_cons_zero, List.getD_cons_succ]
  obtain ⟨b, o, f, c, A, C, r, hix, hb, hr, hc, hA, hOx, hbF, hf, hput⟩ := hO.focus (ok_raw w0) hyj
  obtain ⟨rfl, rfl, hsz⟩ := hOx
  refine hix _ ?_
  refine field_store hr hc hA (by show 0 < 2; omega) rfl ?_
  rw [pBin_add (by omega)]
  refine markText (k := k' + 1) (by omega) fun s1 k1 => ?_
  refine hix _ ?_
  refine field_store (k1 _ _ put_at) rfl hA (by show 1 < 2; omega) rfl ?_
  rw [pBin_add (by omega), pBin_add (by have := h.1; omega)]
  rw [show ((k' : Nat) : Int) + 1 + 1 = ((k' + 2 : Nat) : Int) by omega]
  refine hK _ ((KeepsBut.put hbF).trans (k1.but.trans (KeepsBut.put hbF))) (hput _ [.int .i64 (k' : Nat), .string (mtext (k' + 1))] (mkRaw k' x) _ put_at rfl ⟨rfl, rfl, ⟨?_, ?_⟩⟩ fun i hi hne _ => ?_)
  · show -9223372036854775808 ≤ (k' : Int) ∧ (k' : Int) ≤ 9223372036854775807; omega
  · exact mtext_size (k := k' + 1) (by omega)
  · have hd := hO.dom (ok_raw w0) i hi
    simp only [Vw.put, hne, if_false]
    cases hs : s i with
    | none => exact absurd hs hd.2
    | some r' => exact k1 i r' (by simp [Vw.put, hne, hs])

theorem markDisk {F : List Nat} {v : Value} {xs : List ByteArray} {k : Nat} (h : OStrs w0 σ F v xs) (hk : k + xs.length ≤ 1000000000000) {R : Value → Vw → Prop}
    (hR : ∀ σ', KeepsBut F σ σ' → OStrs w0 σ' F v (mkTexts k xs) → R (.int .i64 ((k + xs.length : Nat) : Int)) σ') : AC Try.prog w0 n_laws_markDisk [.agg ⟨[v]⟩, .int .i64 (k : Nat)] σ R := by
  refine ac_laws_markDisk ?_
  unfold vc_laws_markDisk
  rw [pVal_1 (OSl.one' h)]
  exact markStringS h hk hR
theorem heldDisk {v : Value} {xs : List ByteArray} {k : Nat} (h : RSl 1 RS (Av.get w0 σ) v (mkTexts k xs)) (hk : k + xs.length ≤ 1000000000000) {R : Value → Vw → Prop}
    (hR : ∀ σ', Keeps σ σ' → R (.int .i64 ((k + xs.length : Nat) : Int)) σ') : AC Try.prog w0 n_laws_heldDisk [.agg ⟨[v]⟩, .int .i64 (k : Nat)] σ R := by
  refine ac_laws_heldDisk ?_
  unfold vc_laws_heldDisk
  rw [pVal_1 h.one]
  refine heldStringS h hk fun σ' hkp => ?_
  rw [pBin_lt, pIf_d]
  exact ⟨fun h => by omega, fun _ => hR σ' hkp⟩
end
end Go.Proofs.Ytpplljcblgnnhaa
