/- The law 'DiskWrite', of the functions alone. -/
import Derived.Test.YtpplljcblgnnhaaE3
set_option linter.unusedVariables false
set_option linter.unusedSimpArgs false
namespace Go.Proofs.Ytpplljcblgnnhaa
open Go Go.Av

/-- One write. -/
def setD (bs : List ByteArray) (x : Rw) : List ByteArray := if inB x.1 0 193 = true ∧ x.2.size ≤ 64 then bs.set x.1.toNat x.2 else bs
def runD (bs : List ByteArray) (xs : List Rw) : List ByteArray := xs.foldl setD bs
theorem runD_len (bs : List ByteArray) (xs : List Rw) : (runD bs xs).length = bs.length := by
  induction xs generalizing bs with
  | nil => rfl
  | cons x r ih =>
    have : runD bs (x :: r) = runD (setD bs x) r := rfl
    rw [this, ih]
    unfold setD; split
    · rw [List.length_set]
    · rfl
def cutN (cut : Int) (n : Nat) : Nat := (min (max cut 0) n).toNat
def writeD (bs : List ByteArray) (xs : List Rw) (cut : Int) : List ByteArray := if diskOk bs = true then runD bs (xs.take (cutN cut xs.length)) else []

section
variable {w0 : World} {σ : Vw}

theorem take_all {xs : List Rw} {bs : List ByteArray} {j : Nat} {x : Rw} (hj : xs[j]? = some x) : runD bs (xs.take (j + 1)) = setD (runD bs (xs.take j)) x := foldl_take hj

theorem spec_Copy {v : Value} {xs : List ByteArray} (h : RSl 1 RS (Av.get w0 σ) v xs) (hl : xs.length ≤ 1000000000) {R : Value → Vw → Prop}
    (hR : ∀ v' F σ', Keeps σ σ' → OAcc w0 t_string 1 OStr σ' F v' xs → (∀ b, b ∈ F → σ b = none) → R (.agg ⟨[v']⟩) σ') : AC Try.prog w0 n_spec_l21Copy [.agg ⟨[v]⟩] σ R := by
  refine ac_spec_l21Copy ?_
  unfold vc_spec_l21Copy
  rw [pVal_1 h.one]
  intro b h1 h2
  have ha := OAcc.new (w0 := w0) (σ := σ) (ety := t_string) (n := 1) (O := OStr) h1
  refine ha.all (ok_str w0) h (Keeps.put h2).le (fun es y hy => ⟨rfl, hy⟩) (by simp; omega) (by omega) fun v' F' σ' k1 o1 f1 => ?_
  rw [pVal1 (OSl.one' o1.osl), pVal_1 (OSl.one' o1.osl)]
  have hf : ∀ i, i ∈ F' → σ i = none := fun i hi => by
    rcases f1 i hi with e | e
    · rw [List.mem_singleton.1 e]; exact h2
    · cases hs : σ i with
      | none => rfl
      | some r => rw [Keeps.put h2 i r hs] at e; cases e
  exact hR v' F' σ' (k1.old (Keeps.put h2) (fun i hi => by rw [List.mem_singleton.1 hi]; exact h2)) o1 hf

theorem impl_clone {v : Value} {xs : List ByteArray} (h : RSl 1 RS (Av.get w0 σ) v xs) (hl : xs.length ≤ 1000000000) {R : Value → Vw → Prop}
    (hR : ∀ v' F σ', Keeps σ σ' → OAcc w0 t_string 1 OStr σ' F v' xs → (∀ b, b ∈ F → σ b = none) → R (.agg ⟨[v']⟩) σ') : AC Try.prog w0 n_impl_cloneDisk [.agg ⟨[v]⟩] σ R := by
  refine ac_impl_cloneDisk ?_
  unfold vc_impl_cloneDisk
  rw [pVal_1 h.one]
  intro b h1 h2
  have ha := OAcc.new (w0 := w0) (σ := σ) (ety := t_string) (n := 1) (O := OStr) h1
  refine ha.all (ok_str w0) h (Keeps.put h2).le (fun es y hy => ⟨rfl, hy⟩) (by simp; omega) (by omega) fun v' F' σ' k1 o1 f1 => ?_
  rw [pVal1 (OSl.one' o1.osl), pVal_1 (OSl.one' o1.osl)]
  have hf : ∀ i, i ∈ F' → σ i = none := fun i hi => by
    rcases f1 i hi with e | e
    · rw [List.mem_singleton.1 e]; exact h2
    · cases hs : σ i with
      | none => rfl
      | some r => rw [Keeps.put h2 i r hs] at e; cases e
  exact hR v' F' σ' (k1.old (Keeps.put h2) (fun i hi => by rw [List.mem_singleton.1 hi]; exact h2)) o1 hf

/-- A text of a list of our own is written. -/
theorem str_store {F : List Nat} {v : Value} {xs : List ByteArray} (h : OStrs w0 σ F v xs) {j : Nat} {x y : ByteArray} (hj : xs[j]? = some x) (hy : y.size ≤ 9223372036854775807) {K : Vw → Prop}
    (hK : ∀ σ', KeepsBut F σ σ' → OStrs w0 σ' F v (xs.set j y) → K σ') : pIndexAddr 1 v (.int .i64 j) fun p => pVal false 1 (.string y) (pStore p [.string y] σ K) := by
  obtain ⟨b, o, f, c, A, C, r, hix, hb, hr, hc, hA, hOx, hbF, hf, hput⟩ := h.focus (ok_str w0) hj
  obtain ⟨rfl, rfl, hsz⟩ := hOx
  refine hix _ ?_
  refine elem_store hr hc hA rfl ?_
  exact hK _ (KeepsBut.put hbF) (hput _ [.string y] y _ put_at rfl ⟨rfl, rfl, hy⟩ fun i hi hne _ => by simp [Vw.put, hne])

theorem spec_RawOk {es : List Value} {x : Rw} {R : Value → Vw → Prop} (h : RRaw (Av.get w0 σ) es x) (hR : R (.bool (inB x.1 0 193 && decide (x.2.size ≤ 64))) σ) : AC Try.prog w0 n_spec_l21RawOk [.agg ⟨es⟩] σ R := by
  obtain ⟨rfl, hg⟩ := h
  refine ac_spec_l21RawOk ?_
  unfold vc_spec_l21RawOk
  rw [encRaw, pVal_2 rfl rfl]
  simp only [cellOf_agg, List.getD_cons_zero, List.getD_cons_succ]
  refine ac_spec_l21In ?_
  unfold vc_spec_l21In
  rw [pBin_ge, pIf_d]
  have fin : ∀ b : Bool, b = inB x.1 0 193 → pIf (.bool b) (pLenS (.string x.2) (fun v2 => pBin Try.prog 3 .leq v2 (.int .i64 64) (fun v3 => R v3 σ))) (R (.bool false) σ) := by
    rintro b rfl
    rw [pIf_b, pLenS_s, pBin_le]
    refine ⟨fun h => ?_, fun h => ?_⟩
    · rw [h] at hR
      have e : decide ((x.2.size : Int) ≤ 64) = decide (x.2.size ≤ 64) := by congr 1; apply propext; omega
      rw [e]; simpa using hR
    · rw [h] at hR; simpa using hR
  refine ⟨fun h => ?_, fun h => ?_⟩
  · rw [pBin_le]; exact fin _ (by simp [inB, h])
  · exact fin _ (by simp [inB, h])

theorem spec_DiskWrite {v u : Value} {bs : List ByteArray} {xs : List Rw} {cut : Int} (h : RSl 1 RS (Av.get w0 σ) v bs) (hu : RSl 2 RRaw (Av.get w0 σ) u xs) {R : Value → Vw → Prop}
    (hR : ∀ v' F σ', Keeps σ σ' → OStrs w0 σ' F v' (writeD bs xs cut) → (∀ b, b ∈ F → σ b = none) → R (.agg ⟨[v']⟩) σ') : AC Try.prog w0 n_spec_DiskWrite [.agg ⟨[v]⟩, u, .int .i64 cut] σ R := by
  refine ac_spec_DiskWrite ?_
  unfold vc_spec_DiskWrite
  have hl := h.le
  have hul := hu.le
  rw [pVal_1 h.one]
  simp only [cellOf_agg, List.getD_cons_zero, List.getD_cons_succ]
  refine spec_DiskOk h ?_
  rw [pUn_not, pIf_b]
  refine ⟨fun hn => ?_, fun hok => ?_⟩
  · rw [pVal_1 rfl]
    have : diskOk bs = false := by simpa using hn
    have e : writeD bs xs cut = [] := by simp [writeD, this]
    rw [e] at hR
    exact hR _ [] σ (Keeps.refl σ) ⟨by simp, by simp, .inl ⟨rfl, rfl, rfl⟩⟩ (by simp)
  · have hok' : diskOk bs = true := by simpa using hok
    have hlen : bs.length = 194 := by simp [diskOk] at hok'; exact hok'.2
    have e : writeD bs xs cut = runD bs (xs.take (cutN cut xs.length)) := by simp [writeD, hok']
    rw [e] at hR
    refine spec_Copy h (by omega) fun v1 F1 s1 k1 o1 f1 => ?_
    rw [pVal_1 (OSl.one' o1.osl)]
    have fin : ∀ (s : Vw), Keeps σ s → OStrs w0 s F1 v1 (runD bs (xs.take (cutN cut xs.length))) → pVal true 1 (.agg ⟨[v1]⟩) (R (.agg ⟨[v1]⟩) s) := fun s ks os => by
      rw [pVal_1 (OSl.one' os)]; exact hR v1 F1 s ks os f1
    refine loop_rule (m := cutN cut xs.length) (fun c l s => ∃ j : Nat, c + j = cutN cut xs.length ∧ Keeps σ s ∧ OStrs w0 s F1 v1 (runD bs (xs.take j)) ∧ l = [u, .int .i64 cut, .int .i64 (j : Nat), .slice none 0 0, v1]) ?_ ⟨0, by omega, k1, by simpa [runD] using o1.osl, rfl⟩
    rintro c l s L ⟨j, hc, ks, os, rfl⟩ hL
    have hcut : cutN cut xs.length = (min (max cut 0) xs.length).toNat := rfl
    simp only [vget, List.getD_cons_zero, List.getD_cons_succ]
    have hu' := hu.mono ks.le fun _ _ h => h
    rw [hu'.len, pBin_lt, pIf_d]
    refine ⟨fun hj => ?_, fun hj => ?_⟩
    · rw [pBin_lt, pIf_d]
      refine ⟨fun hj2 => ?_, fun hj2 => ?_⟩
      · have hx := List.getElem?_eq_getElem (show j < xs.length by omega)
        generalize hxj : xs[j] = x at hx
        have ht := take_all (bs := bs) hx
        refine hu'.at hx fun g hg => ?_
        refine spec_RawOk hg ?_
        rw [pIf_b]
        have next : ∀ s', KeepsBut F1 s s' → OStrs w0 s' F1 v1 (setD (runD bs (xs.take j)) x) → pBin Try.prog 3 .add (.int .i64 (j : Nat)) (.int .i64 1) (fun v => L [u, .int .i64 cut, v, .slice none 0 0, v1] s') := fun s' k' o' => by
          rw [pBin_add (by omega)]
          rw [← ht] at o'
          exact hL _ _ (c - 1) (by omega) ⟨j + 1, by omega, k'.old ks f1, o', by simp⟩
        refine ⟨fun hg2 => ?_, fun hg2 => ?_⟩
        · simp only [Bool.and_eq_true, decide_eq_true_eq] at hg2
          refine hu'.atf hx 0 (by omega) fun es1 g1 hes1 hg1 => ?_
          refine hu'.atf hx 1 (by omega) fun es2 g2 hes2 hg2' => ?_
          obtain ⟨rfl, _⟩ := hes1
          obtain ⟨rfl, hgood⟩ := hes2
          simp only [encRaw, List.getElem?_cons_zero, List.getElem?_cons_succ, Option.some.injEq] at hg1 hg2'
          rw [← hg1, ← hg2']
          have hr : 0 ≤ x.1 ∧ x.1 ≤ 193 := by have := hg2.1; simpa [inB] using this
          obtain ⟨n, hn⟩ : ∃ n : Nat, x.1 = n := ⟨x.1.toNat, by omega⟩
          rw [hn]
          have hn' : n < (runD bs (xs.take j)).length := by rw [runD_len]; omega
          refine str_store os (List.getElem?_eq_getElem hn') hgood.2 fun s' k' o' => next s' k' ?_
          have : setD (runD bs (xs.take j)) x = (runD bs (xs.take j)).set n x.2 := by
            unfold setD; rw [if_pos hg2, hn]; rfl
          rw [this]; exact o'
        · refine next s (KeepsBut.refl _ _) ?_
          have : setD (runD bs (xs.take j)) x = runD bs (xs.take j) := by
            unfold setD; rw [if_neg]; simpa using hg2
          rw [this]; exact os
      · have : j = cutN cut xs.length := by omega
        subst this
        exact fin s ks os
    · have : j = cutN cut xs.length := by omega
      subst this
      exact fin s ks os

theorem impl_DiskWrite {v u : Value} {bs : List ByteArray} {xs : List Rw} {cut : Int} (h : RSl 1 RS (Av.get w0 σ) v bs) (hu : RSl 2 RRaw (Av.get w0 σ) u xs) {R : Value → Vw → Prop}
    (hR : ∀ v' F σ', Keeps σ σ' → OStrs w0 σ' F v' (writeD bs xs cut) → (∀ b, b ∈ F → σ b = none) → R (.agg ⟨[v']⟩) σ') : AC Try.prog w0 n_impl_DiskWrite [.agg ⟨[v]⟩, u, .int .i64 cut] σ R := by
  refine ac_impl_DiskWrite ?_
  unfold vc_impl_DiskWrite
  have hl := h.le
  have hul := hu.le
  rw [pVal_1 h.one]
  simp only [cellOf_agg, List.getD_cons_zero, List.getD_cons_succ]
  refine impl_DiskOk h ?_
  rw [pUn_not, pIf_b]
  refine ⟨fun hn => ?_, fun hok => ?_⟩
  · rw [pVal_1 rfl]
    have : diskOk bs = false := by simpa using hn
    have e : writeD bs xs cut = [] := by simp [writeD, this]
    rw [e] at hR
    exact hR _ [] σ (Keeps.refl σ) ⟨by simp, by simp, .inl ⟨rfl, rfl, rfl⟩⟩ (by simp)
  · have hok' : diskOk bs = true := by simpa using hok
    have hlen : bs.length = 194 := by simp [diskOk] at hok'; exact hok'.2
    have e : writeD bs xs cut = runD bs (xs.take (cutN cut xs.length)) := by simp [writeD, hok']
    rw [e] at hR
    refine impl_clone h (by omega) fun v1 F1 s1 k1 o1 f1 => ?_
    rw [pVal_1 (OSl.one' o1.osl), pMax_s]
    have hu1 := hu.mono k1.le fun _ _ h => h
    rw [hu1.len, pMin_s]
    have hcut : (min (max cut 0) (xs.length : Int)) = ((cutN cut xs.length : Nat) : Int) := by unfold cutN; omega
    rw [hcut]
    refine hu.slice (l := 0) (u := cutN cut xs.length) rfl rfl (by omega) (by unfold cutN; omega) fun u2 hu2 => ?_
    rw [List.drop_zero] at hu2
    have hlen2 : (xs.take (cutN cut xs.length)).length = cutN cut xs.length := by rw [List.length_take]; unfold cutN; omega
    rw [hu2.len, hlen2]
    have fin : ∀ (s : Vw), Keeps σ s → OStrs w0 s F1 v1 (runD bs (xs.take (cutN cut xs.length))) → pVal true 1 (.agg ⟨[v1]⟩) (R (.agg ⟨[v1]⟩) s) := fun s ks os => by
      rw [pVal_1 (OSl.one' os)]; exact hR v1 F1 s ks os f1
    refine loop_rule (m := cutN cut xs.length) (fun c l s => ∃ j : Nat, c + j = cutN cut xs.length ∧ Keeps σ s ∧ Keeps s1 s1 ∧ KeepsBut F1 s1 s ∧ OStrs w0 s F1 v1 (runD bs (xs.take j)) ∧ l = [u2, .int .i64 (cutN cut xs.length : Nat), .int .i64 (j : Nat), .slice none 0 0, v1]) ?_ ⟨0, by omega, k1, Keeps.refl _, KeepsBut.refl _ _, by simpa [runD] using o1.osl, rfl⟩
    rintro c l s L ⟨j, hc, ks, _, kb, os, rfl⟩ hL
    simp only [vget, List.getD_cons_zero, List.getD_cons_succ]
    rw [pBin_lt, pIf_d]
    refine ⟨fun hj => ?_, fun hj => ?_⟩
    · have hjx : j < xs.length := by unfold cutN at hj; omega
      have hx := List.getElem?_eq_getElem hjx
      generalize hxj : xs[j] = x at hx
      have ht := take_all (bs := bs) hx
      have hx2 : (xs.take (cutN cut xs.length))[j]? = some x := by rw [List.getElem?_take_of_lt (by omega)]; exact hx
      have next : ∀ s', KeepsBut F1 s s' → OStrs w0 s' F1 v1 (setD (runD bs (xs.take j)) x) → pBin Try.prog 3 .add (.int .i64 (j : Nat)) (.int .i64 1) (fun v => L [u2, .int .i64 (cutN cut xs.length : Nat), v, .slice none 0 0, v1] s') := fun s' k' o' => by
        rw [pBin_add (by omega)]
        rw [← ht] at o'
        exact hL _ _ (c - 1) (by omega) ⟨j + 1, by omega, k'.old ks f1, Keeps.refl _, kb.trans k', o', by simp⟩
      have no : ¬ (inB x.1 0 193 = true ∧ x.2.size ≤ 64) → pBin Try.prog 3 .add (.int .i64 (j : Nat)) (.int .i64 1) (fun v => L [u2, .int .i64 (cutN cut xs.length : Nat), v, .slice none 0 0, v1] s) := fun hn => by
        refine next s (KeepsBut.refl _ _) ?_
        have : setD (runD bs (xs.take j)) x = runD bs (xs.take j) := by unfold setD; rw [if_neg hn]
        rw [this]; exact os
      have hus := hu2.mono ks.le fun _ _ h => h
      refine hus.at hx2 fun g hg => ?_
      obtain ⟨hg, hgood⟩ := hg
      simp only [expl, encRaw, List.cons.injEq, and_true] at hg
      obtain ⟨g0, g1⟩ := hg
      rw [g0, g1, pVal_2 rfl rfl]
      refine impl_within ?_
      rw [pIf_b]
      refine ⟨fun hin => ?_, fun hin => no fun hh => by rw [hh.1] at hin; cases hin⟩
      rw [pLenS_s, pBin_le, pIf_d]
      refine ⟨fun hsz => ?_, fun hsz => no fun hh => by omega⟩
      have hr : 0 ≤ x.1 ∧ x.1 ≤ 193 := by simpa [inB] using hin
      obtain ⟨n, hn⟩ : ∃ n : Nat, x.1 = n := ⟨x.1.toNat, by omega⟩
      rw [hn]
      have hn' : n < (runD bs (xs.take j)).length := by rw [runD_len]; omega
      refine str_store os (List.getElem?_eq_getElem hn') hgood.2 fun s' k' o' => next s' k' ?_
      have : setD (runD bs (xs.take j)) x = (runD bs (xs.take j)).set n x.2 := by
        unfold setD; rw [if_pos ⟨hin, by omega⟩, hn]; rfl
      rw [this]; exact o'
    · have : j = cutN cut xs.length := by omega
      subst this
      exact fin s ks os
end
end Go.Proofs.Ytpplljcblgnnhaa
