/- A disk's rows: the law 'DiskOk', of the functions alone. -/
import Derived.Test.YtpplljcblgnnhaaC2
set_option linter.unusedVariables false
set_option linter.unusedSimpArgs false
namespace Go.Proofs.Ytpplljcblgnnhaa
open Go Go.Av

section
variable {w0 : World} {σ : Vw}

theorem left_neg {n : Int} {t : Nat} : left n t < 0 ↔ n < t := by unfold left; split <;> omega
theorem left_le {n : Int} {t : Nat} : -1 ≤ left n t ∧ (0 ≤ n → left n t ≤ n) := by unfold left; split <;> omega

theorem szDisk {v : Value} {xs : List ByteArray} {n : Int} (h : RSl 1 RS (Av.get w0 σ) v xs) (hn : 0 ≤ n ∧ n ≤ 9223372036854775807) {R : Value → Vw → Prop} (hR : R (.int .i64 (left n (xs.length + sumS xs))) σ) : AC Try.prog w0 n_laws_szDisk [.agg ⟨[v]⟩, .int .i64 n] σ R := by
  refine ac_laws_szDisk ?_
  unfold vc_laws_szDisk
  rw [pVal_1 h.one]
  refine szStringS h hn ?_
  rw [pBin_lt, pIf_d]
  refine ⟨fun hlt => ?_, fun _ => hR⟩
  have : left n (xs.length + sumS xs) = -1 := by have := left_neg.1 hlt; unfold left; rw [if_pos (by omega)]
  rw [this] at hR; exact hR

theorem toDisk {v : Value} {xs : List ByteArray} (h : RSl 1 RS (Av.get w0 σ) v xs) (hb : xs.length ≤ 1000000000000) {R : Value → Vw → Prop}
    (hR : ∀ b ety, w0.heap.size ≤ b → σ b = none → R (.agg ⟨[.slice (some ⟨b, 0, none⟩) xs.length xs.length]⟩) (σ.put b ⟨ety, xs.map .string, xs.length, (0, 0)⟩)) : AC Try.prog w0 n_laws_toDisk [.agg ⟨[v]⟩] σ R := by
  refine ac_laws_toDisk ?_
  unfold vc_laws_toDisk
  rw [pVal_1 h.one]
  refine toStringS h hb fun b ety h1 h2 => ?_
  rw [pVal1 rfl, pVal_1 rfl]
  exact hR b ety h1 h2

theorem eqDisk {v v' : Value} {xs ys : List ByteArray} (h : RSl 1 RS (Av.get w0 σ) v xs) (h' : RSl 1 RS (Av.get w0 σ) v' ys) {R : Value → Vw → Prop} (hR : R (.bool (decide (xs = ys))) σ) : AC Try.prog w0 n_laws_eqDisk [.agg ⟨[v]⟩, .agg ⟨[v']⟩] σ R := by
  refine ac_laws_eqDisk ?_
  unfold vc_laws_eqDisk
  rw [pVal_1 h.one, pVal_1 h'.one]
  refine eqStringS h h' ?_
  rw [pUn_not, pIf_b]
  by_cases e : xs = ys
  · simpa [e] using hR
  · simpa [e] using hR

/-- The list that a row of ours holds. -/
theorem own_strs0 {b cap : Nat} {r : Row} {xs : List ByteArray} (hb : w0.heap.size ≤ b) (hr : σ b = some r) (hc : r.cells = xs.map .string) (hm : xs.length ≤ cap ∧ cap ≤ 9223372036854775807) (hs : ∀ x, x ∈ xs → x.size ≤ 9223372036854775807) : RSl 1 RS (Av.get w0 σ) (.slice (some ⟨b, 0, none⟩) xs.length cap) xs := by
  refine RSl.own (cs := xs.map fun s => [.string s]) (tail := []) hb hr (by rw [hc, List.append_nil]; clear hc hm hs; induction xs with | nil => rfl | cons x r ih => simp [ih]) (by simp) (by simp) hm ?_
  intro j c x h1 h2
  rw [List.getElem?_map, h2] at h1
  cases h1
  exact ⟨rfl, hs x (List.mem_of_getElem? h2)⟩
theorem strs_le0 {v : Value} {xs : List ByteArray} (h : RSl 1 RS (Av.get w0 σ) v xs) : ∀ x, x ∈ xs → x.size ≤ 9223372036854775807 := by
  obtain ⟨A, cap, _, _, h3⟩ := h
  intro x hx
  obtain ⟨j, hj⟩ := List.getElem?_of_mem hx
  obtain ⟨a, es, _, _, _, h4⟩ := h3 j x hj
  exact h4.2

def okD : List ByteArray → Bool
  | [] => true
  | s :: r => decide (s.size ≤ 64) && okD r
theorem okD_iff {xs : List ByteArray} : okD xs = true ↔ ∀ (j : Nat) (x : ByteArray), xs[j]? = some x → x.size ≤ 64 := by
  induction xs with
  | nil => simp [okD]
  | cons a r ih =>
    simp only [okD, Bool.and_eq_true, decide_eq_true_eq, ih]
    constructor
    · rintro ⟨h1, h2⟩ j x hj
      cases j with
      | zero => simp at hj; subst hj; exact h1
      | succ j => exact h2 j x (by simpa using hj)
    · intro h
      exact ⟨h 0 a rfl, fun j x hj => h (j + 1) x (by simpa using hj)⟩
def diskOk (xs : List ByteArray) : Bool := okD xs && decide (xs.length = 194)

theorem spec_DiskOk {v : Value} {xs : List ByteArray} (h : RSl 1 RS (Av.get w0 σ) v xs) {R : Value → Vw → Prop} (hR : R (.bool (diskOk xs)) σ) : AC Try.prog w0 n_spec_DiskOk [.agg ⟨[v]⟩] σ R := by
  refine ac_spec_DiskOk ?_
  unfold vc_spec_DiskOk
  rw [pVal_1 h.one]
  have hl := h.le
  refine loop_rule (m := xs.length) (fun m l s => ∃ j, s = σ ∧ m + j = xs.length ∧ (∀ (i : Nat) (x : ByteArray), i < j → xs[i]? = some x → x.size ≤ 64) ∧ l = [.bool false, .int .i64 (j : Nat), v]) ?_ ⟨0, rfl, by omega, fun i x h => by omega, rfl⟩
  rintro m l s L ⟨j, rfl, hm, ht, rfl⟩ hL
  simp only [vget, List.getD_cons_zero, List.getD_cons_succ]
  rw [h.len, pBin_lt, pIf_d]
  refine ⟨fun hj => ?_, fun hj => ?_⟩
  · have hj' : j < xs.length := by omega
    have hx := List.getElem?_eq_getElem hj'
    refine h.at hx fun g hg => ?_
    obtain ⟨hg, hs⟩ := hg
    simp only [expl, List.cons.injEq, and_true] at hg
    rw [hg, pLenS_s, pBin_gt, pIf_d]
    refine ⟨fun hgt => ?_, fun hle => ?_⟩
    · have : diskOk xs = false := by
        cases hc : okD xs with
        | false => simp [diskOk, hc]
        | true => have := okD_iff.1 hc j _ hx; omega
      rw [this] at hR; exact hR
    · rw [pBin_add (by omega)]
      refine hL _ _ (m - 1) (by omega) ⟨j + 1, rfl, by omega, fun i x hi he => ?_, rfl⟩
      by_cases e : i = j
      · subst e; rw [hx] at he; cases he; omega
      · exact ht i x (by omega) he
  · have hj' : j = xs.length := by omega
    subst hj'
    show pLen v _
    rw [h.len, pBin_eq]
    have : diskOk xs = decide ((xs.length : Int) = 194) := by
      have h1 : okD xs = true := okD_iff.2 fun i x he => ht i x (List.getElem?_eq_some_iff.1 he).1 he
      simp only [diskOk, h1, Bool.true_and]
      congr 1
      apply propext
      omega
    rw [this] at hR
    exact hR

theorem impl_DiskOk {v : Value} {xs : List ByteArray} (h : RSl 1 RS (Av.get w0 σ) v xs) {R : Value → Vw → Prop} (hR : R (.bool (diskOk xs)) σ) : AC Try.prog w0 n_impl_DiskOk [.agg ⟨[v]⟩] σ R := by
  refine ac_impl_DiskOk ?_
  unfold vc_impl_DiskOk
  have hl := h.le
  rw [pVal_1 h.one]
  simp only [cellOf_agg, List.getD_cons_zero]
  rw [h.len]
  refine loop_rule (m := xs.length) (fun m l s => ∃ j, s = σ ∧ m + j = xs.length ∧ (∀ (i : Nat) (x : ByteArray), i < j → xs[i]? = some x → x.size ≤ 64) ∧ l = [.bool false, v, .int .i64 xs.length, .int .i64 (j : Nat), v]) ?_ ⟨0, rfl, by omega, fun i x h => by omega, rfl⟩
  rintro m l s L ⟨j, rfl, hm, ht, rfl⟩ hL
  simp only [vget, List.getD_cons_zero, List.getD_cons_succ]
  rw [pBin_lt, pIf_d]
  refine ⟨fun hj => ?_, fun hj => ?_⟩
  · have hj' : j < xs.length := by omega
    have hx := List.getElem?_eq_getElem hj'
    refine h.at hx fun g hg => ?_
    obtain ⟨hg, hs⟩ := hg
    simp only [expl, List.cons.injEq, and_true] at hg
    rw [hg, pLenS_s, pBin_gt, pIf_d]
    refine ⟨fun hgt => ?_, fun hle => ?_⟩
    · have : diskOk xs = false := by
        cases hc : okD xs with
        | false => simp [diskOk, hc]
        | true => have := okD_iff.1 hc j _ hx; omega
      rw [this] at hR; exact hR
    · rw [pBin_add (by omega)]
      refine hL _ _ (m - 1) (by omega) ⟨j + 1, rfl, by omega, fun i x hi he => ?_, rfl⟩
      by_cases e : i = j
      · subst e; rw [hx] at he; cases he; omega
      · exact ht i x (by omega) he
  · have hj' : j = xs.length := by omega
    subst hj'
    show pLen v _
    rw [h.len, pBin_eq]
    have : diskOk xs = decide ((xs.length : Int) = 194) := by
      have h1 : okD xs = true := okD_iff.2 fun i x he => ht i x (List.getElem?_eq_some_iff.1 he).1 he
      simp only [diskOk, h1, Bool.true_and]
      congr 1
      apply propext
      omega
    rw [this] at hR
    exact hR

theorem law_DiskOk {v : Value} {xs : List ByteArray} (h : RSl 1 RS (Av.get w0 σ) v xs) {R : Value → Vw → Prop} (hR : ∀ σ', Keeps σ σ' → R (.bool true) σ') : AC Try.prog w0 n_laws_FnExactDiskOk [.agg ⟨[v]⟩] σ R := by
  refine ac_laws_FnExactDiskOk ?_
  unfold vc_laws_FnExactDiskOk
  rw [pVal_1 h.one]
  simp only [cellOf_agg, List.getD_cons_zero]
  refine szDisk h (by omega) ?_
  rw [pBin_lt, pIf_d]
  refine ⟨fun _ => hR _ (Keeps.refl _), fun hb => ?_⟩
  have hlen : xs.length ≤ 1048576 := by rw [left_neg] at hb; omega
  have hsz := strs_le0 h
  refine toDisk h (by omega) fun b1 e1 hb1 hn1 => ?_
  have k1 := Keeps.put (r := ⟨e1, xs.map .string, xs.length, (0, 0)⟩) hn1
  refine spec_DiskOk (own_strs0 (r := ⟨e1, xs.map .string, xs.length, (0, 0)⟩) hb1 put_at rfl ⟨Nat.le_refl _, by omega⟩ hsz) ?_
  refine toDisk (h.mono k1.le fun _ _ h => h) (by omega) fun b2 e2 hb2 hn2 => ?_
  have k2 := k1.trans (Keeps.put (r := ⟨e2, xs.map .string, xs.length, (0, 0)⟩) hn2)
  rw [pVal_1 rfl]
  have o2 := own_strs0 (w0 := w0) (cap := xs.length) (r := ⟨e2, xs.map .string, xs.length, (0, 0)⟩) hb2 (put_at (σ := σ.put b1 ⟨e1, xs.map .string, xs.length, (0, 0)⟩)) rfl ⟨Nat.le_refl _, by omega⟩ hsz
  refine impl_DiskOk o2 ?_
  rw [pBin_b (v := .bool false) (by kernel_rfl) (by simp), pIf_b]
  refine ⟨nofun, fun _ => ?_⟩
  refine toDisk (h.mono k2.le fun _ _ h => h) (by omega) fun b3 e3 hb3 hn3 => ?_
  have k3' := Keeps.put (r := ⟨e3, xs.map .string, xs.length, (0, 0)⟩) hn3
  have k3 := k2.trans k3'
  refine ⟨k3'.ext, ?_⟩
  refine eqDisk (o2.mono k3'.le fun _ _ h => h) (own_strs0 hb3 put_at rfl ⟨Nat.le_refl _, by omega⟩ hsz) ?_
  rw [pUn_not, pIf_b]
  refine ⟨fun h => by simp at h, fun _ => hR _ k3⟩
end
end Go.Proofs.Ytpplljcblgnnhaa
