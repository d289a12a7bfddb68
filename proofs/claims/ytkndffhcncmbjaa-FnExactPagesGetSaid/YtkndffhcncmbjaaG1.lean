/- The text of a name: 'PagesGet', by either reading. -/
import Derived.Test.YtkndffhcncmbjaaF7
set_option linter.unusedVariables false
set_option linter.unusedSimpArgs false
namespace Go.Proofs.Ytkndffhcncmbjaa
open Go Go.Av

def pnIdx : List Pn → ByteArray → Option Nat
  | [], _ => none
  | n :: r, x => if n.name = x then some 0 else (pnIdx r x).map (· + 1)
theorem pnIdx_some {ns : List Pn} {x : ByteArray} : ∀ {j : Nat}, pnIdx ns x = some j → ∃ n, ns[j]? = some n ∧ n.name = x := by
  induction ns with
  | nil => intro j h; simp [pnIdx] at h
  | cons s r ih =>
    intro j h
    unfold pnIdx at h
    split at h
    · rename_i e; cases h; exact ⟨s, rfl, e⟩
    · cases hr : pnIdx r x with
      | none => rw [hr] at h; cases h
      | some i => rw [hr] at h; cases h; simpa using ih hr
theorem pnIdx_at {ns : List Pn} {x : ByteArray} : ∀ {j : Nat} {n : Pn}, ns[j]? = some n → n.name = x → (∀ (i : Nat) (y : Pn), i < j → ns[i]? = some y → y.name ≠ x) → pnIdx ns x = some j := by
  induction ns with
  | nil => intro j n h; simp at h
  | cons s r ih =>
    intro j n h hx hn
    unfold pnIdx
    cases j with
    | zero => simp at h; subst h; rw [if_pos hx]
    | succ j =>
      rw [if_neg (hn 0 s (by omega) rfl), ih (by simpa using h) hx fun i y hi hy => hn (i + 1) y (by omega) (by simpa using hy)]
      rfl
theorem pnIdx_none {ns : List Pn} {x : ByteArray} (h : ∀ (i : Nat) (y : Pn), ns[i]? = some y → y.name ≠ x) : pnIdx ns x = none := by
  induction ns with
  | nil => rfl
  | cons s r ih =>
    unfold pnIdx
    rw [if_neg (h 0 s rfl), ih fun i y hy => h (i + 1) y (by simpa using hy)]
    rfl

/-- A place as a number, -1 for none. -/
def plI : Option Nat → Int
  | some j => j
  | none => -1
/-- What lies in a page. -/
def dataAt (ps : List Pg) (i : Nat) : ByteArray := match ps[i]? with | some p => p.data | none => ⟨#[]⟩
def catD (ps : List Pg) (l : List Nat) : ByteArray := l.foldl (fun s i => s ++ dataAt ps i) ⟨#[]⟩
theorem catD_take {ps : List Pg} {l : List Nat} {j i : Nat} (hj : l[j]? = some i) : catD ps (l.take (j + 1)) = catD ps (l.take j) ++ dataAt ps i := foldl_take hj
theorem ch_size {e : Int → Prop} {ps : List Pg} : ∀ {r : List Nat} {a l : Int}, Ch e ps r a l → ∀ (s : ByteArray), ((r.foldl (fun s i => s ++ dataAt ps i) s).size : Int) = s.size + l
  | [], a, l, h, s => by have := h.2; simp [this]
  | i :: r, a, l, ⟨h1, h2, p, h3, h4, h5, h6⟩, s => by
    rw [List.foldl_cons, ch_size h6, ByteArray.size_append]
    have : dataAt ps i = p.data := by simp [dataAt, h3]
    rw [this]; omega
theorem ch_small {e : Int → Prop} {ps : List Pg} : ∀ {r : List Nat} {a l : Int}, Ch e ps r a l → ∀ i, i ∈ r → (dataAt ps i).size ≤ 40
  | [], a, l, h, i, hi => by cases hi
  | k :: r, a, l, ⟨h1, h2, p, h3, h4, h5, h6⟩, i, hi => by
    rcases List.mem_cons.1 hi with e | e
    · subst e
      have : dataAt ps i = p.data := by simp [dataAt, h3]
      rw [this]; omega
    · exact ch_small h6 i e
theorem catD_le {ps : List Pg} : ∀ {l : List Nat}, (∀ i, i ∈ l → (dataAt ps i).size ≤ 40) → (catD ps l).size ≤ 40 * l.length := by
  intro l
  suffices ∀ s : ByteArray, (∀ i, i ∈ l → (dataAt ps i).size ≤ 40) → (l.foldl (fun s i => s ++ dataAt ps i) s).size ≤ s.size + 40 * l.length by
    intro h
    have h2 := this ⟨#[]⟩ h
    have e : (⟨#[]⟩ : ByteArray).size = 0 := rfl
    rw [e, Nat.zero_add] at h2
    exact h2
  induction l with
  | nil => intro s _; simp
  | cons a r ih =>
    intro s h
    rw [List.foldl_cons]
    have := ih (s ++ dataAt ps a) fun i hi => h i (List.mem_cons_of_mem _ hi)
    rw [ByteArray.size_append] at this
    have h2 := h a List.mem_cons_self
    simp only [List.length_cons]
    omega

theorem chS_chain {ps : List Pg} {n : Pn} {r : List Nat} (h : chS ps n = some r) : Ch (fun a => a < 0) ps r n.first n.size := (chOf_spec h).1
/-- What a name's text is. -/
noncomputable def textOf (x : Pgs) (n : Pn) : ByteArray := catD x.1 ((chS x.1 n).getD [])
noncomputable def getP (x : Pgs) (name : ByteArray) : ByteArray × Bool :=
  if pagesOk x = true then match (pnIdx x.2 name).bind (x.2[·]?) with
    | some n => (textOf x n, true)
    | none => (⟨#[]⟩, false)
  else (⟨#[]⟩, false)

theorem OkS.chI {x : Pgs} (h : OkS x) {j : Nat} {n : Pn} (hj : x.2[j]? = some n) : ∃ r, chI x.1 n = some r ∧ chS x.1 n = some r := by
  have h' := (ok_same x).1 h
  obtain ⟨r, hr⟩ := Option.isSome_iff_exists.1 (h'.2.2.1 j n hj).2
  exact ⟨r, hr, chS_of_chI hr⟩
theorem pagesOk_iff {x : Pgs} : pagesOk x = true ↔ OkS x := by simp [pagesOk]
theorem OkS.size {x : Pgs} (h : OkS x) {j : Nat} {n : Pn} (hj : x.2[j]? = some n) : 0 ≤ n.size ∧ n.size ≤ 3000 := by
  have := ((h.2.2.1 j n hj).1).2.2
  simpa [inB] using this

section
variable {w0 : World} {σ : Vw}

theorem RSl.elem {α : Type} {n : Nat} {R : (Addr → Option Value) → List Value → α → Prop} {rd : Addr → Option Value} {v : Value} {xs : List α} (h : RSl n R rd v xs) {j : Nat} {x : α} (hj : xs[j]? = some x) : ∃ es, R rd es x := by
  obtain ⟨A, cap, _, _, h3⟩ := h
  obtain ⟨a, es, _, _, _, h⟩ := h3 j x hj
  exact ⟨es, h⟩
theorem good_fl {α : Type} {n : Nat} {enc : α → List Value} {good : α → Prop} {rd : Addr → Option Value} {v : Value} {xs : List α} (h : RSl n (RFl enc good) rd v xs) {j : Nat} {x : α} (hj : xs[j]? = some x) : good x := by
  obtain ⟨es, h⟩ := RSl.elem h hj
  exact h.2

theorem spec_l32At {es : List Value} {x : Pgs} {name : ByteArray} (h : RPgs (Av.get w0 σ) es x) {R : Value → Vw → Prop} (hR : R (.int .i64 (plI (pnIdx x.2 name))) σ) : AC Try.prog w0 n_spec_l32At [.agg ⟨es⟩, .string name] σ R := by
  refine ac_spec_l32At ?_
  unfold vc_spec_l32At
  rw [RPgs.two h]
  obtain ⟨u, v, rfl, hu, hv⟩ := h
  have hl := hv.le
  simp only [cellOf_agg, List.getD_cons_zero, List.getD_cons_succ]
  refine loop_rule (m := x.2.length) (fun c l s => ∃ j, s = σ ∧ c + j = x.2.length ∧ (∀ (i : Nat) (y : Pn), i < j → x.2[i]? = some y → y.name ≠ name) ∧ l = [.string name, .int .i64 0, .int .i64 (j : Nat), u, v]) ?_ ⟨0, rfl, by omega, fun i y h => by omega, rfl⟩
  rintro c l s L ⟨j, rfl, hc, ht, rfl⟩ hL
  simp only [vget, List.getD_cons_zero, List.getD_cons_succ]
  rw [hv.len, pBin_lt, pIf_d]
  refine ⟨fun hj => ?_, fun hj => ?_⟩
  · have hx := List.getElem?_eq_getElem (show j < x.2.length by omega)
    generalize hxj : x.2[j]'(by omega) = n at hx
    refine fl_at hv hx 0 (by omega) rfl fun g hg hgood => ?_
    rw [hg, pBin_seq, pIf_d]
    refine ⟨fun he => ?_, fun hne => ?_⟩
    · rw [pnIdx_at hx he ht] at hR
      exact hR
    · rw [pBin_add (by omega)]
      refine hL _ _ (c - 1) (by omega) ⟨j + 1, rfl, by omega, fun i z hi hz => ?_, rfl⟩
      by_cases e : i = j
      · subst e; rw [hx] at hz; cases hz; exact hne
      · exact ht i z (by omega) hz
  · rw [pnIdx_none fun i y hy => ht i y (by have := (List.getElem?_eq_some_iff.1 hy).1; omega) hy] at hR
    exact hR

theorem impl_find {es : List Value} {x : Pgs} {name : ByteArray} (h : RPgs (Av.get w0 σ) es x) {R : Value → Vw → Prop} (hR : ∀ σ', Keeps σ σ' → R (.int .i64 (plI (pnIdx x.2 name))) σ') : AC Try.prog w0 n_impl_Pages_find [.agg ⟨es⟩, .string name] σ R := by
  refine ac_impl_Pages_find ?_
  unfold vc_impl_Pages_find
  rw [RPgs.two h, pVal1 rfl]
  obtain ⟨u, v, rfl, hu, hv⟩ := h
  have hl := hv.le
  simp only [cellOf_agg, List.getD_cons_zero, List.getD_cons_succ]
  intro b h1 h2
  have k1 : Keeps σ (σ.put b ⟨9, [.string name], 1, (0, 0)⟩) := Keeps.put h2
  have hb : (σ.put b ⟨9, [.string name], 1, (0, 0)⟩) b = some ⟨9, [.string name], 1, (0, 0)⟩ := put_at
  have hR := hR _ k1
  have hv := hv.mono k1.le fun _ _ h => h
  show AC _ _ _ _ (σ.put b ⟨9, [.string name], 1, (0, 0)⟩) _
  generalize σ.put b ⟨9, [.string name], 1, (0, 0)⟩ = s1 at *
  refine ac_slices_IndexFunc_impl_PageName_impl_PageName ?_
  unfold vc_slices_IndexFunc_impl_PageName_impl_PageName
  rw [hv.len]
  refine loop_rule (m := x.2.length) (fun c l s => ∃ j, s = s1 ∧ c + j = x.2.length ∧ (∀ (i : Nat) (y : Pn), i < j → x.2[i]? = some y → y.name ≠ name) ∧ l = [v, .func (.func n_impl_Pages_find_c1) ⟨[]⟩ ⟨[.pointer (some ⟨b, 0, none⟩)]⟩, .int .i64 0, .int .i64 x.2.length, .int .i64 (j : Nat)]) ?_ ⟨0, rfl, by omega, fun i y h => by omega, rfl⟩
  rintro c l s L ⟨j, rfl, hc, ht, rfl⟩ hL
  simp only [vget, List.getD_cons_zero, List.getD_cons_succ]
  rw [pBin_lt, pIf_d]
  refine ⟨fun hj => ?_, fun hj => ?_⟩
  · have hx := List.getElem?_eq_getElem (show j < x.2.length by omega)
    generalize hxj : x.2[j]'(by omega) = n at hx
    refine pn_at hv hx fun g g0 g1 g2 hgood => ?_
    rw [g0, g1, g2]
    refine ⟨_, _, _, rfl, ?_⟩
    show AC Try.prog w0 n_impl_Pages_find_c1 [.agg ⟨encPn n⟩, .pointer (some ⟨b, 0, none⟩)] s _
    refine ac_impl_Pages_find_c1 ?_
    unfold vc_impl_Pages_find_c1
    rw [pn_three]
    refine pLoad_row (A := []) (c := [.string name]) (C := []) h1 hb rfl rfl rfl fun g hg => ?_
    simp only [expl, List.cons.injEq, and_true] at hg
    show pBin Try.prog 9 .eql (.string n.name) _ _
    rw [hg, pBin_seq]
    show pIf (.bool _) _ _
    rw [pIf_d]
    refine ⟨fun he => ?_, fun hne => ?_⟩
    · rw [pnIdx_at hx he ht] at hR
      exact hR
    · rw [pBin_add (by omega)]
      refine hL _ _ (c - 1) (by omega) ⟨j + 1, rfl, by omega, fun i z hi hz => ?_, rfl⟩
      by_cases e : i = j
      · subst e; rw [hx] at hz; cases hz; exact hne
      · exact ht i z (by omega) hz
  · rw [pnIdx_none fun i y hy => ht i y (by have := (List.getElem?_eq_some_iff.1 hy).1; omega) hy] at hR
    exact hR

theorem dataAt_of {ps : List Pg} {i : Nat} {p : Pg} (h : ps[i]? = some p) : dataAt ps i = p.data := by simp [dataAt, h]

theorem spec_l32Text {es : List Value} {x : Pgs} {j : Nat} {n : Pn} (h : RPgs (Av.get w0 σ) es x) (hok : OkS x) (hj : x.2[j]? = some n) {R : Value → Vw → Prop} (hR : ∀ σ', Keeps σ σ' → R (.string (textOf x n)) σ') : AC Try.prog w0 n_spec_l32Text [.agg ⟨es⟩, .int .i64 (j : Nat)] σ R := by
  refine ac_spec_l32Text ?_
  unfold vc_spec_l32Text
  rw [RPgs.two h]
  obtain ⟨u, v, rfl, hu, hv⟩ := h
  simp only [cellOf_agg, List.getD_cons_zero, List.getD_cons_succ]
  have hg := good_fl hv hj
  refine pn_at hv hj fun g g0 g1 g2 _ => ?_
  rw [g0, g1, g2]
  refine spec_Chain (n := n) (x := x) ⟨u, v, rfl, hu, hv⟩ hg hok.1 (hok.size hj) fun c F σ' hk ho hF => ?_
  obtain ⟨r, hcI, hcS⟩ := hok.chI hj
  have htx : textOf x n = catD x.1 r := by simp [textOf, hcS]
  rw [htx] at hR
  rw [hcS] at ho ⊢
  have ho : OSl w0 1 ON σ' F c r := by simpa using ho
  have hc := ho.rel (ok_n w0)
  have hlc := hc.le
  rw [pExtract_s rfl, pExtract_s rfl]
  have hch := chS_chain hcS
  have hsm := ch_small hch
  have hlt : ∀ i, i ∈ r → i < x.1.length := fun i hi => ch_lt hch hi
  have hu' := hu.mono hk.le fun _ _ h => h
  have hrl : r.length ≤ 1000000 := by
    have h1 := (ok_same x).1 hok
    have hnd : r.Nodup := by
      have := (chOf_spec hcI).2
      exact this
    have := nodup_len _ _ hnd hlt
    rw [hok.1] at this; omega
  refine loop_rule (m := r.length) (fun k l s => ∃ i, s = σ' ∧ k + i = r.length ∧ l = [c, .string (catD x.1 (r.take i)), .int .i64 (i : Nat), u, v]) ?_ ⟨0, rfl, by omega, rfl⟩
  rintro k l s L ⟨i, rfl, hki, rfl⟩ hL
  simp only [vget, List.getD_cons_zero, List.getD_cons_succ]
  rw [hc.len, pBin_lt, pIf_d]
  refine ⟨fun hi => ?_, fun hi => ?_⟩
  · have hx := List.getElem?_eq_getElem (show i < r.length by omega)
    generalize hxi : r[i]'(by omega) = q at hx
    have hq := hlt q (List.mem_of_getElem? hx)
    have hp := List.getElem?_eq_getElem hq
    generalize hpq : x.1[q] = p at hp
    refine n_at hc hx fun g hg => ?_
    rw [hg]
    refine fl_at hu' hp 1 (by omega) rfl fun g hg hgood => ?_
    have hsz := catD_le (ps := x.1) (l := r.take i) fun y hy => hsm y (List.mem_of_mem_take hy)
    have h40 := hsm q (List.mem_of_getElem? hx)
    rw [dataAt_of hp] at h40
    rw [List.length_take] at hsz
    rw [hg, pBin_cat (by omega), pBin_add (by omega)]
    refine hL _ _ (k - 1) (by omega) ⟨i + 1, rfl, by omega, ?_⟩
    rw [catD_take hx, dataAt_of hp]; simp
  · have e : i = r.length := by omega
    subst e
    rw [List.take_length]
    exact hR _ hk

theorem impl_get {es : List Value} {x : Pgs} {name : ByteArray} (h : RPgs (Av.get w0 σ) es x) (hok : OkS x) {R : Value → Vw → Prop}
    (hR : ∀ σ', Keeps σ σ' → R (.tuple ⟨[.string (getP x name).1, .bool (getP x name).2]⟩) σ') : AC Try.prog w0 n_impl_Pages_get [.agg ⟨es⟩, .string name] σ R := by
  refine ac_impl_Pages_get ?_
  unfold vc_impl_Pages_get
  rw [RPgs.two h]
  have h0 := h
  obtain ⟨u, v, rfl, hu, hv⟩ := h
  simp only [cellOf_agg, List.getD_cons_zero, List.getD_cons_succ]
  refine impl_find h0 fun s1 k1 => ?_
  cases hix : pnIdx x.2 name with
  | none =>
    have e : getP x name = (⟨#[]⟩, false) := by simp [getP, pagesOk_iff.2 hok, hix]
    rw [e] at hR
    show pBin Try.prog 3 .lss (.int .i64 (-1)) _ _
    rw [pBin_lt, pIf_d]
    exact ⟨fun _ => hR s1 k1, fun h => by omega⟩
  | some j =>
    obtain ⟨n, hj, _⟩ := pnIdx_some hix
    have e : getP x name = (textOf x n, true) := by simp [getP, pagesOk_iff.2 hok, hix, hj]
    rw [e] at hR
    show pBin Try.prog 3 .lss (.int .i64 (j : Nat)) _ _
    rw [pBin_lt, pIf_d]
    refine ⟨fun h => by omega, fun _ => ?_⟩
    have hv1 := hv.mono k1.le fun _ _ h => h
    have hu1 := hu.mono k1.le fun _ _ h => h
    have hg := good_fl hv hj
    refine pn_at hv1 hj fun g g0 g1 g2 _ => ?_
    rw [g0, g1, g2]
    refine impl_Chain (n := n) (x := x) ⟨u, v, rfl, hu1, hv1⟩ hg hok.1 (hok.size hj) fun c F σ' hk ho hF => ?_
    obtain ⟨r, hcI, hcS⟩ := hok.chI hj
    have htx : textOf x n = catD x.1 r := by simp [textOf, hcS]
    rw [htx] at hR
    rw [hcI] at ho ⊢
    have ho : OSl w0 1 ON σ' F c r := by simpa using ho
    have hc := ho.rel (ok_n w0)
    have hlc := hc.le
    rw [pExtract_s rfl, pExtract_s rfl, hc.len]
    have hch := chS_chain hcS
    have hsm := ch_small hch
    have hlt : ∀ i, i ∈ r → i < x.1.length := fun i hi => ch_lt hch hi
    have hu' := hu1.mono hk.le fun _ _ h => h
    have hrl : r.length ≤ 1000000 := by
      have hnd : r.Nodup := (chOf_spec hcI).2
      have := nodup_len _ _ hnd hlt
      rw [hok.1] at this; omega
    refine loop_rule (m := r.length) (fun k l s => ∃ i, s = σ' ∧ k + i = r.length ∧ l = [.string (catD x.1 (r.take i)), c, .int .i64 r.length, .int .i64 (i : Nat), u, v]) ?_ ⟨0, rfl, by omega, rfl⟩
    rintro k l s L ⟨i, rfl, hki, rfl⟩ hL
    simp only [vget, List.getD_cons_zero, List.getD_cons_succ]
    rw [pBin_lt, pIf_d]
    refine ⟨fun hi => ?_, fun hi => ?_⟩
    · have hx := List.getElem?_eq_getElem (show i < r.length by omega)
      generalize hxi : r[i]'(by omega) = q at hx
      have hq := hlt q (List.mem_of_getElem? hx)
      have hp := List.getElem?_eq_getElem hq
      generalize hpq : x.1[q] = p at hp
      refine n_at hc hx fun g hg => ?_
      rw [hg]
      refine fl_at hu' hp 1 (by omega) rfl fun g hg hgood => ?_
      have hsz := catD_le (ps := x.1) (l := r.take i) fun y hy => hsm y (List.mem_of_mem_take hy)
      have h40 := hsm q (List.mem_of_getElem? hx)
      rw [dataAt_of hp] at h40
      rw [List.length_take] at hsz
      rw [hg, pBin_cat (by omega), pBin_add (by omega)]
      refine hL _ _ (k - 1) (by omega) ⟨i + 1, rfl, by omega, ?_⟩
      rw [catD_take hx, dataAt_of hp]; simp
    · have e : i = r.length := by omega
      subst e
      rw [List.take_length]
      exact hR _ (k1.trans hk)

theorem spec_PagesGet {es : List Value} {x : Pgs} {name : ByteArray} (h : RPgs (Av.get w0 σ) es x) {R : Value → Vw → Prop}
    (hR : ∀ σ', Keeps σ σ' → R (.tuple ⟨[.string (getP x name).1, .bool (getP x name).2]⟩) σ') : AC Try.prog w0 n_spec_PagesGet [.agg ⟨es⟩, .string name] σ R := by
  refine ac_spec_PagesGet ?_
  unfold vc_spec_PagesGet
  rw [RPgs.two h]
  have h0 := h
  obtain ⟨u, v, rfl, hu, hv⟩ := h
  simp only [cellOf_agg, List.getD_cons_zero, List.getD_cons_succ]
  refine spec_PagesOk h0 fun s1 k1 => ?_
  rw [pUn_not, pIf_b]
  refine ⟨fun hn => ?_, fun hn => ?_⟩
  · have e : getP x name = (⟨#[]⟩, false) := by simp at hn; simp [getP, hn]
    rw [e] at hR; exact hR s1 k1
  have hok : OkS x := pagesOk_iff.1 (by simpa using hn)
  have h1 := mono_pgs k1.le h0
  refine spec_l32At h1 ?_
  cases hix : pnIdx x.2 name with
  | none =>
    have e : getP x name = (⟨#[]⟩, false) := by simp [getP, pagesOk_iff.2 hok, hix]
    rw [e] at hR
    show pBin Try.prog 3 .lss (.int .i64 (-1)) _ _
    rw [pBin_lt, pIf_d]
    exact ⟨fun _ => hR s1 k1, fun h => by omega⟩
  | some j =>
    obtain ⟨n, hj, _⟩ := pnIdx_some hix
    have e : getP x name = (textOf x n, true) := by simp [getP, pagesOk_iff.2 hok, hix, hj]
    rw [e] at hR
    show pBin Try.prog 3 .lss (.int .i64 (j : Nat)) _ _
    rw [pBin_lt, pIf_d]
    refine ⟨fun h => by omega, fun _ => ?_⟩
    refine spec_l32At h1 ⟨Ext.refl _, ?_⟩
    rw [hix]
    exact spec_l32Text h1 hok hj fun s2 k2 => hR s2 (k1.trans k2)

theorem impl_PagesGet {es : List Value} {x : Pgs} {name : ByteArray} (h : RPgs (Av.get w0 σ) es x) {R : Value → Vw → Prop}
    (hR : ∀ σ', Keeps σ σ' → R (.tuple ⟨[.string (getP x name).1, .bool (getP x name).2]⟩) σ') : AC Try.prog w0 n_impl_PagesGet [.agg ⟨es⟩, .string name] σ R := by
  refine ac_impl_PagesGet ?_
  unfold vc_impl_PagesGet
  rw [RPgs.two h]
  have h0 := h
  obtain ⟨u, v, rfl, hu, hv⟩ := h
  simp only [cellOf_agg, List.getD_cons_zero, List.getD_cons_succ]
  refine impl_PagesOk h0 fun s1 k1 => ?_
  rw [pUn_not, pIf_b]
  refine ⟨fun hn => ?_, fun hn => ?_⟩
  · have e : getP x name = (⟨#[]⟩, false) := by simp at hn; simp [getP, hn]
    rw [e] at hR; exact hR s1 k1
  have hok : OkS x := pagesOk_iff.1 (by simpa using hn)
  refine impl_get (mono_pgs k1.le h0) hok fun s2 k2 => ?_
  rw [pExtract_s rfl, pExtract_s rfl]
  exact hR s2 (k1.trans k2)

theorem law_PagesGet {es : List Value} {x : Pgs} {name : ByteArray} (h : RPgs (Av.get w0 σ) es x) (hs : name.size ≤ 9223372036854775807) {R : Value → Vw → Prop} (hR : ∀ σ', R (.bool true) σ') : AC Try.prog w0 n_laws_FnExactPagesGet [.agg ⟨es⟩, .string name] σ R := by
  refine ac_laws_FnExactPagesGet ?_
  unfold vc_laws_FnExactPagesGet
  rw [RPgs.two h]
  have h0 := h
  obtain ⟨u, v, rfl, hu, hv⟩ := h
  simp only [cellOf_agg, List.getD_cons_zero, List.getD_cons_succ]
  rw [pLenS_s, pBin_gt, pIf_d]
  refine ⟨fun _ => hR _, fun hn => ?_⟩
  refine szPages h0 (by omega) ?_
  rw [pBin_lt, pIf_d]
  refine ⟨fun _ => hR _, fun hb => ?_⟩
  rw [Av.left_neg] at hb
  have hsz : szPgs x ≤ 1048576 := by omega
  have hl1 : x.1.length ≤ 1000000000000 := by unfold szPgs at hsz; omega
  have hl2 : x.2.length ≤ 1000000000000 := by unfold szPgs at hsz; omega
  refine toPages h0 hl1 hl2 fun es1 F1 s1 k1 o1 f1 => ?_
  refine spec_PagesGet ((ok_pgs w0).rel _ _ _ _ o1) fun s2 k2 => ?_
  rw [pExtract_s rfl, pExtract_s rfl]
  have k12 := k1.trans k2
  refine toPages (mono_pgs k12.le h0) hl1 hl2 fun es2 F2 s3 k3 o2 f2 => ?_
  have r2 := (ok_pgs w0).rel _ _ _ _ o2
  rw [RPgs.two r2]
  obtain ⟨a, b, rfl⟩ := RPgs.pair r2
  simp only [cellOf_agg, List.getD_cons_zero, List.getD_cons_succ]
  refine impl_PagesGet r2 fun s4 k4 => ?_
  rw [pExtract_s rfl, pExtract_s rfl, pBin_sne, pIf_d]
  refine ⟨fun h => absurd rfl h, fun _ => ?_⟩
  rw [pBin_b (v := .bool false) (by kernel_rfl) (by simp), pIf_b]
  refine ⟨nofun, fun _ => ?_⟩
  have k34 := (k12.trans k3).trans k4
  refine toPages (mono_pgs k34.le h0) hl1 hl2 fun es3 F3 s5 k5 o3 f3 => ?_
  refine ⟨k5.ext, ?_⟩
  refine eqPages (mono_pgs (k4.trans k5).le r2) ((ok_pgs w0).rel _ _ _ _ o3) ?_
  rw [pUn_not, pIf_b]
  exact ⟨fun h => by simp at h, fun _ => hR _⟩
end
end Go.Proofs.Ytkndffhcncmbjaa
