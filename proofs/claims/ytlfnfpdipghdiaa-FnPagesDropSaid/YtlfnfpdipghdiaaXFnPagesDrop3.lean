/- The law FnPagesDrop holds: it returns true, and the input reads as it did. No condition. This is part 3 of 3 of its proof. -/
import Derived.Test.YtlfnfpdipghdiaaXFnPagesDrop2
import Derived.Test.YtlfnfpdipghdiaaProg
import Derived.Lib.AppendIntMem
import Derived.Lib.Join
import Derived.Lib.SlicesCompact
import Derived.Sort.Walk0
import Derived.Shelf.Sort.Plain
import Derived.Shelf.Slices.CompactS
import Derived.Shelf.Slices.Cells
import Derived.Shelf.Slices.In.SortNone
import Derived.ChangeKeysEq
import Derived.Test.YtlfnfpdipghdiaaRows
import Derived.WalkKit
import Derived.ProofKit
import Derived.OpenShut
import Derived.ShutString
import Derived.ChangeOld
import Derived.Below
import Derived.Carry
import Derived.SizedLaws

/- The text of a name: 'PagesGet', by either reading. -/
set_option linter.unusedVariables false
set_option linter.unusedSimpArgs false
namespace Go.Proofs.Ytlfnfpdipghdiaa
open Go Go.Av

def pnIdx : List Pn → ByteArray → Option Nat
  | [], _ => none
  | n :: r, x => if n.name = x then some 0 else (pnIdx r x).map (· + 1)
theorem pnIdx_some {ns : List Pn} {x : ByteArray} : ∀ {j : Nat}, pnIdx ns x = some j → ∃ n, ns[j]? = some n ∧ n.name = x := by
  induction ns with
  | nil => intro j h; simp [pnIdx] at h
  | cons s r ih =>
    intro j h
    unfold pnIdx at h
    split at h
    · rename_i e; cases h; exact ⟨s, rfl, e⟩
    · cases hr : pnIdx r x with
      | none => rw [hr] at h; cases h
      | some i => rw [hr] at h; cases h; simpa using ih hr
theorem pnIdx_at {ns : List Pn} {x : ByteArray} : ∀ {j : Nat} {n : Pn}, ns[j]? = some n → n.name = x → (∀ (i : Nat) (y : Pn), i < j → ns[i]? = some y → y.name ≠ x) → pnIdx ns x = some j := by
  induction ns with
  | nil => intro j n h; simp at h
  | cons s r ih =>
    intro j n h hx hn
    unfold pnIdx
    cases j with
    | zero => simp at h; subst h; rw [if_pos hx]
    | succ j =>
      rw [if_neg (hn 0 s (by omega) rfl), ih (by simpa using h) hx fun i y hi hy => hn (i + 1) y (by omega) (by simpa using hy)]
      rfl
theorem pnIdx_none {ns : List Pn} {x : ByteArray} (h : ∀ (i : Nat) (y : Pn), ns[i]? = some y → y.name ≠ x) : pnIdx ns x = none := by
  induction ns with
  | nil => rfl
  | cons s r ih =>
    unfold pnIdx
    rw [if_neg (h 0 s rfl), ih fun i y hy => h (i + 1) y (by simpa using hy)]
    rfl

/-- A place as a number, -1 for none. -/
def plI : Option Nat → Int
  | some j => j
  | none => -1
/-- What lies in a page. -/
def dataAt (ps : List Pg) (i : Nat) : ByteArray := match ps[i]? with | some p => p.data | none => ⟨#[]⟩
def catD (ps : List Pg) (l : List Nat) : ByteArray := l.foldl (fun s i => s ++ dataAt ps i) ⟨#[]⟩
theorem catD_take {ps : List Pg} {l : List Nat} {j i : Nat} (hj : l[j]? = some i) : catD ps (l.take (j + 1)) = catD ps (l.take j) ++ dataAt ps i := foldl_take hj
theorem ch_size {e : Int → Prop} {ps : List Pg} : ∀ {r : List Nat} {a l : Int}, Ch e ps r a l → ∀ (s : ByteArray), ((r.foldl (fun s i => s ++ dataAt ps i) s).size : Int) = s.size + l
  | [], a, l, h, s => by have := h.2; simp [this]
  | i :: r, a, l, ⟨h1, h2, p, h3, h4, h5, h6⟩, s => by
    rw [List.foldl_cons, ch_size h6, ByteArray.size_append]
    have : dataAt ps i = p.data := by simp [dataAt, h3]
    rw [this]; omega
theorem ch_small {e : Int → Prop} {ps : List Pg} : ∀ {r : List Nat} {a l : Int}, Ch e ps r a l → ∀ i, i ∈ r → (dataAt ps i).size ≤ 40
  | [], a, l, h, i, hi => by cases hi
  | k :: r, a, l, ⟨h1, h2, p, h3, h4, h5, h6⟩, i, hi => by
    rcases List.mem_cons.1 hi with e | e
    · subst e
      have : dataAt ps i = p.data := by simp [dataAt, h3]
      rw [this]; omega
    · exact ch_small h6 i e
theorem catD_le {ps : List Pg} : ∀ {l : List Nat}, (∀ i, i ∈ l → (dataAt ps i).size ≤ 40) → (catD ps l).size ≤ 40 * l.length := by
  intro l
  suffices ∀ s : ByteArray, (∀ i, i ∈ l → (dataAt ps i).size ≤ 40) → (l.foldl (fun s i => s ++ dataAt ps i) s).size ≤ s.size + 40 * l.length by
    intro h
    have h2 := this ⟨#[]⟩ h
    have e : (⟨#[]⟩ : ByteArray).size = 0 := rfl
    rw [e, Nat.zero_add] at h2
    exact h2
  induction l with
  | nil => intro s _; simp
  | cons a r ih =>
    intro s h
    rw [List.foldl_cons]
    have := ih (s ++ dataAt ps a) fun i hi => h i (List.mem_cons_of_mem _ hi)
    rw [ByteArray.size_append] at this
    have h2 := h a List.mem_cons_self
    simp only [List.length_cons]
    omega

theorem chS_chain {ps : List Pg} {n : Pn} {r : List Nat} (h : chS ps n = some r) : Ch (fun a => a < 0) ps r n.first n.size := (chOf_spec h).1
/-- What a name's text is. -/
noncomputable def textOf (x : Pgs) (n : Pn) : ByteArray := catD x.1 ((chS x.1 n).getD [])
noncomputable def getP (x : Pgs) (name : ByteArray) : ByteArray × Bool :=
  if pagesOk x = true then match (pnIdx x.2 name).bind (x.2[·]?) with
    | some n => (textOf x n, true)
    | none => (⟨#[]⟩, false)
  else (⟨#[]⟩, false)

theorem OkS.chI {x : Pgs} (h : OkS x) {j : Nat} {n : Pn} (hj : x.2[j]? = some n) : ∃ r, chI x.1 n = some r ∧ chS x.1 n = some r := by
  have h' := (ok_same x).1 h
  obtain ⟨r, hr⟩ := Option.isSome_iff_exists.1 (h'.2.2.1 j n hj).2
  exact ⟨r, hr, chS_of_chI hr⟩
theorem pagesOk_iff {x : Pgs} : pagesOk x = true ↔ OkS x := by simp [pagesOk]
theorem OkS.size {x : Pgs} (h : OkS x) {j : Nat} {n : Pn} (hj : x.2[j]? = some n) : 0 ≤ n.size ∧ n.size ≤ 3000 := by
  have := ((h.2.2.1 j n hj).1).2.2
  simpa [inB] using this

section
variable {w0 : World} {σ : Vw}

theorem RSl.elem {α : Type} {n : Nat} {R : (Addr → Option Value) → List Value → α → Prop} {rd : Addr → Option Value} {v : Value} {xs : List α} (h : RSl n R rd v xs) {j : Nat} {x : α} (hj : xs[j]? = some x) : ∃ es, R rd es x := by
  obtain ⟨A, cap, _, _, h3⟩ := h
  obtain ⟨a, es, _, _, _, h⟩ := h3 j x hj
  exact ⟨es, h⟩
theorem good_fl {α : Type} {n : Nat} {enc : α → List Value} {good : α → Prop} {rd : Addr → Option Value} {v : Value} {xs : List α} (h : RSl n (RFl enc good) rd v xs) {j : Nat} {x : α} (hj : xs[j]? = some x) : good x := by
  obtain ⟨es, h⟩ := RSl.elem h hj
  exact h.2

theorem spec_l32At {es : List Value} {x : Pgs} {name : ByteArray} (h : RPgs (Av.get w0 σ) es x) {R : Value → Vw → Prop} (hR : R (.int .i64 (plI (pnIdx x.2 name))) σ) : AC Try.prog w0 n_spec_l32At [.agg ⟨es⟩, .string name] σ R := by
  refine ac_spec_l32At ?_
  unfold vc_spec_l32At
  rw [RPgs.two h]
  obtain ⟨u, v, rfl, hu, hv⟩ := h
  have hl := hv.le
  simp only [cellOf_agg, List.getD_cons_zero, List.getD_cons_succ]
  refine loop_rule (m := x.2.length) (fun c l s => ∃ j, s = σ ∧ c + j = x.2.length ∧ (∀ (i : Nat) (y : Pn), i < j → x.2[i]? = some y → y.name ≠ name) ∧ l = [.string name, .int .i64 0, .int .i64 (j : Nat), u, v]) ?_ ⟨0, rfl, by omega, fun i y h => by omega, rfl⟩
  rintro c l s L ⟨j, rfl, hc, ht, rfl⟩ hL
  simp only [vget, List.getD_cons_zero, List.getD_cons_succ]
  rw [hv.len, pBin_lt, pIf_d]
  refine ⟨fun hj => ?_, fun hj => ?_⟩
  · have hx := List.getElem?_eq_getElem (show j < x.2.length by omega)
    generalize hxj : x.2[j]'(by omega) = n at hx
    refine fl_at hv hx 0 (by omega) rfl fun g hg hgood => ?_
    rw [hg, pBin_seq, pIf_d]
    refine ⟨fun he => ?_, fun hne => ?_⟩
    · rw [pnIdx_at hx he ht] at hR
      exact hR
    · rw [pBin_add (by omega)]
      refine hL _ _ (c - 1) (by omega) ⟨j + 1, rfl, by omega, fun i z hi hz => ?_, rfl⟩
      by_cases e : i = j
      · subst e; rw [hx] at hz; cases hz; exact hne
      · exact ht i z (by omega) hz
  · rw [pnIdx_none fun i y hy => ht i y (by have := (List.getElem?_eq_some_iff.1 hy).1; omega) hy] at hR
    exact hR

theorem impl_find {es : List Value} {x : Pgs} {name : ByteArray} (h : RPgs (Av.get w0 σ) es x) {R : Value → Vw → Prop} (hR : ∀ σ', Keeps σ σ' → R (.int .i64 (plI (pnIdx x.2 name))) σ') : AC Try.prog w0 n_impl_Pages_find [.agg ⟨es⟩, .string name] σ R := by
  refine ac_impl_Pages_find ?_
  unfold vc_impl_Pages_find
  rw [RPgs.two h, pVal1 rfl]
  obtain ⟨u, v, rfl, hu, hv⟩ := h
  have hl := hv.le
  simp only [cellOf_agg, List.getD_cons_zero, List.getD_cons_succ]
  intro b h1 h2
  have k1 : Keeps σ (σ.put b ⟨9, [.string name], 1, (0, 0)⟩) := Keeps.put h2
  have hb : (σ.put b ⟨9, [.string name], 1, (0, 0)⟩) b = some ⟨9, [.string name], 1, (0, 0)⟩ := put_at
  have hR := hR _ k1
  have hv := hv.mono k1.le fun _ _ h => h
  show AC _ _ _ _ (σ.put b ⟨9, [.string name], 1, (0, 0)⟩) _
  generalize σ.put b ⟨9, [.string name], 1, (0, 0)⟩ = s1 at *
  refine ac_slices_IndexFunc_impl_PageName_impl_PageName ?_
  unfold vc_slices_IndexFunc_impl_PageName_impl_PageName
  rw [hv.len]
  refine loop_rule (m := x.2.length) (fun c l s => ∃ j, s = s1 ∧ c + j = x.2.length ∧ (∀ (i : Nat) (y : Pn), i < j → x.2[i]? = some y → y.name ≠ name) ∧ l = [v, .func (.func n_impl_Pages_find_c1) ⟨[]⟩ ⟨[.pointer (some ⟨b, 0, none⟩)]⟩, .int .i64 0, .int .i64 x.2.length, .int .i64 (j : Nat)]) ?_ ⟨0, rfl, by omega, fun i y h => by omega, rfl⟩
  rintro c l s L ⟨j, rfl, hc, ht, rfl⟩ hL
  simp only [vget, List.getD_cons_zero, List.getD_cons_succ]
  rw [pBin_lt, pIf_d]
  refine ⟨fun hj => ?_, fun hj => ?_⟩
  · have hx := List.getElem?_eq_getElem (show j < x.2.length by omega)
    generalize hxj : x.2[j]'(by omega) = n at hx
    refine pn_at hv hx fun g g0 g1 g2 hgood => ?_
    rw [g0, g1, g2]
    refine ⟨_, _, _, rfl, ?_⟩
    show AC Try.prog w0 n_impl_Pages_find_c1 [.agg ⟨encPn n⟩, .pointer (some ⟨b, 0, none⟩)] s _
    refine ac_impl_Pages_find_c1 ?_
    unfold vc_impl_Pages_find_c1
    rw [pn_three]
    refine pLoad_row (A := []) (c := [.string name]) (C := []) h1 hb rfl rfl rfl fun g hg => ?_
    simp only [expl, List.cons.injEq, and_true] at hg
    show pBin Try.prog 9 .eql (.string n.name) _ _
    rw [hg, pBin_seq]
    show pIf (.bool _) _ _
    rw [pIf_d]
    refine ⟨fun he => ?_, fun hne => ?_⟩
    · rw [pnIdx_at hx he ht] at hR
      exact hR
    · rw [pBin_add (by omega)]
      refine hL _ _ (c - 1) (by omega) ⟨j + 1, rfl, by omega, fun i z hi hz => ?_, rfl⟩
      by_cases e : i = j
      · subst e; rw [hx] at hz; cases hz; exact hne
      · exact ht i z (by omega) hz
  · rw [pnIdx_none fun i y hy => ht i y (by have := (List.getElem?_eq_some_iff.1 hy).1; omega) hy] at hR
    exact hR

theorem dataAt_of {ps : List Pg} {i : Nat} {p : Pg} (h : ps[i]? = some p) : dataAt ps i = p.data := by simp [dataAt, h]

theorem impl_get {es : List Value} {x : Pgs} {name : ByteArray} (h : RPgs (Av.get w0 σ) es x) (hok : OkS x) {R : Value → Vw → Prop}
    (hR : ∀ σ', Keeps σ σ' → R (.tuple ⟨[.string (getP x name).1, .bool (getP x name).2]⟩) σ') : AC Try.prog w0 n_impl_Pages_get [.agg ⟨es⟩, .string name] σ R := by
  refine ac_impl_Pages_get ?_
  unfold vc_impl_Pages_get
  rw [RPgs.two h]
  have h0 := h
  obtain ⟨u, v, rfl, hu, hv⟩ := h
  simp only [cellOf_agg, List.getD_cons_zero, List.getD_cons_succ]
  refine impl_find h0 fun s1 k1 => ?_
  cases hix : pnIdx x.2 name with
  | none =>
    have e : getP x name = (⟨#[]⟩, false) := by simp [getP, pagesOk_iff.2 hok, hix]
    rw [e] at hR
    show pBin Try.prog 3 .lss (.int .i64 (-1)) _ _
    rw [pBin_lt, pIf_d]
    exact ⟨fun _ => hR s1 k1, fun h => by omega⟩
  | some j =>
    obtain ⟨n, hj, _⟩ := pnIdx_some hix
    have e : getP x name = (textOf x n, true) := by simp [getP, pagesOk_iff.2 hok, hix, hj]
    rw [e] at hR
    show pBin Try.prog 3 .lss (.int .i64 (j : Nat)) _ _
    rw [pBin_lt, pIf_d]
    refine ⟨fun h => by omega, fun _ => ?_⟩
    have hv1 := hv.mono k1.le fun _ _ h => h
    have hu1 := hu.mono k1.le fun _ _ h => h
    have hg := good_fl hv hj
    refine pn_at hv1 hj fun g g0 g1 g2 _ => ?_
    rw [g0, g1, g2]
    refine impl_Chain (n := n) (x := x) ⟨u, v, rfl, hu1, hv1⟩ hg hok.1 (hok.size hj) fun c F σ' hk ho hF => ?_
    obtain ⟨r, hcI, hcS⟩ := hok.chI hj
    have htx : textOf x n = catD x.1 r := by simp [textOf, hcS]
    rw [htx] at hR
    rw [hcI] at ho ⊢
    have ho : OSl w0 1 ON σ' F c r := by simpa using ho
    have hc := ho.rel (ok_n w0)
    have hlc := hc.le
    rw [pExtract_s rfl, pExtract_s rfl, hc.len]
    have hch := chS_chain hcS
    have hsm := ch_small hch
    have hlt : ∀ i, i ∈ r → i < x.1.length := fun i hi => ch_lt hch hi
    have hu' := hu1.mono hk.le fun _ _ h => h
    have hrl : r.length ≤ 1000000 := by
      have hnd : r.Nodup := (chOf_spec hcI).2
      have := nodup_len _ _ hnd hlt
      rw [hok.1] at this; omega
    refine loop_rule (m := r.length) (fun k l s => ∃ i, s = σ' ∧ k + i = r.length ∧ l = [.string (catD x.1 (r.take i)), c, .int .i64 r.length, .int .i64 (i : Nat), u, v]) ?_ ⟨0, rfl, by omega, rfl⟩
    rintro k l s L ⟨i, rfl, hki, rfl⟩ hL
    simp only [vget, List.getD_cons_zero, List.getD_cons_succ]
    rw [pBin_lt, pIf_d]
    refine ⟨fun hi => ?_, fun hi => ?_⟩
    · have hx := List.getElem?_eq_getElem (show i < r.length by omega)
      generalize hxi : r[i]'(by omega) = q at hx
      have hq := hlt q (List.mem_of_getElem? hx)
      have hp := List.getElem?_eq_getElem hq
      generalize hpq : x.1[q] = p at hp
      refine n_at hc hx fun g hg => ?_
      rw [hg]
      refine fl_at hu' hp 1 (by omega) rfl fun g hg hgood => ?_
      have hsz := catD_le (ps := x.1) (l := r.take i) fun y hy => hsm y (List.mem_of_mem_take hy)
      have h40 := hsm q (List.mem_of_getElem? hx)
      rw [dataAt_of hp] at h40
      rw [List.length_take] at hsz
      rw [hg, pBin_cat (by omega), pBin_add (by omega)]
      refine hL _ _ (k - 1) (by omega) ⟨i + 1, rfl, by omega, ?_⟩
      rw [catD_take hx, dataAt_of hp]; simp
    · have e : i = r.length := by omega
      subst e
      rw [List.take_length]
      exact hR _ (k1.trans hk)

theorem impl_PagesGet {es : List Value} {x : Pgs} {name : ByteArray} (h : RPgs (Av.get w0 σ) es x) {R : Value → Vw → Prop}
    (hR : ∀ σ', Keeps σ σ' → R (.tuple ⟨[.string (getP x name).1, .bool (getP x name).2]⟩) σ') : AC Try.prog w0 n_impl_PagesGet [.agg ⟨es⟩, .string name] σ R := by
  refine ac_impl_PagesGet ?_
  unfold vc_impl_PagesGet
  rw [RPgs.two h]
  have h0 := h
  obtain ⟨u, v, rfl, hu, hv⟩ := h
  simp only [cellOf_agg, List.getD_cons_zero, List.getD_cons_succ]
  refine impl_PagesOk h0 fun s1 k1 => ?_
  rw [pUn_not, pIf_b]
  refine ⟨fun hn => ?_, fun hn => ?_⟩
  · have e : getP x name = (⟨#[]⟩, false) := by simp at hn; simp [getP, hn]
    rw [e] at hR; exact hR s1 k1
  have hok : OkS x := pagesOk_iff.1 (by simpa using hn)
  refine impl_get (mono_pgs k1.le h0) hok fun s2 k2 => ?_
  rw [pExtract_s rfl, pExtract_s rfl]
  exact hR s2 (k1.trans k2)

end
end Go.Proofs.Ytlfnfpdipghdiaa

/- Rows of our own: cells stored, an element taken out in place, the copy of two lists in any order. -/
set_option linter.unusedVariables false
set_option linter.unusedSimpArgs false
namespace Go.Av
open Go Go.RowKit

section
variable {P : Program} {w0 : World} {σ σ' : Vw} {α γ : Type}

theorem cell_store {b o : Nat} {r : Row} {A c C new : List Value} {K : Vw → Prop} (hr : σ b = some r) (hc : r.cells = A ++ (c ++ C)) (hA : A.length = o) (hl : c.length = new.length)
    (hK : K (σ.put b { r with cells := A ++ (new ++ C) })) : pStore (.pointer (some ⟨b, o, none⟩)) new σ K := by
  refine ⟨b, o, r, rfl, hr, by rw [hc]; simp only [List.length_append]; omega, ?_⟩
  rw [hc, ← hA, setAt_mid A c new C hl]
  exact hK

/-- An element of a list of our own is written, all its cells. -/
theorem OSl.store {n : Nat} {Rel : (Addr → Option Value) → List Value → α → Prop} {O : Vw → List Nat → List Value → α → Prop} (ok : OOk w0 n Rel O) {F : List Nat} {v : Value} {xs : List α} (h : OSl w0 n O σ F v xs) {j : Nat} {x y : α} {new : List Value} (hj : xs[j]? = some x)
    (hO : ∀ f c σ', O σ f c x → O σ' f new y) (hn : new.length = n) {K : Vw → Prop}
    (hK : ∀ σ', KeepsBut F σ σ' → OSl w0 n O σ' F v (xs.set j y) → K σ') : pIndexAddr n v (.int .i64 j) fun p => pStore p new σ K := by
  obtain ⟨b, o, f, c, A, C, r, hix, hb, hr, hc, hA, hOx, hbF, hf, hput⟩ := h.focus ok hj
  refine hix _ ?_
  have hcl := ok.len _ _ _ _ hOx
  refine cell_store hr hc hA (by rw [hcl, hn]) ?_
  exact hK _ (KeepsBut.put hbF) (hput _ new y _ put_at rfl (hO _ _ _ hOx) fun i hi hne _ => by simp [Vw.put, hne])

def Vclone2 (w0 : World) (e1 n1 b1 e2 n2 b2 : Nat) (u v : Value) (σ : Vw) (K : Value → Value → Vw → Prop) : Prop :=
  (pNew w0 e1 [] σ (fun x0 s1 => (pAppendS w0 e1 n1 b1 (.slice (some (Addr.mk x0 0 none)) 0 0) u s1 (fun v2 s3 => pNew w0 e2 [] s3 (fun x4 s5 => pAppendS w0 e2 n2 b2 (.slice (some (Addr.mk x4 0 none)) 0 0) v s5 (fun v6 s7 => K v2 v6 s7)))) ∧
    (pNew w0 e2 [] s1 (fun x8 s9 => pAppendS w0 e1 n1 b1 (.slice (some (Addr.mk x0 0 none)) 0 0) u s9 (fun v10 s11 => pAppendS w0 e2 n2 b2 (.slice (some (Addr.mk x8 0 none)) 0 0) v s11 (fun v12 s13 => K v10 v12 s13)))))) ∧
  (pNew w0 e2 [] σ (fun x14 s15 => pNew w0 e1 [] s15 (fun x16 s17 => pAppendS w0 e1 n1 b1 (.slice (some (Addr.mk x16 0 none)) 0 0) u s17 (fun v18 s19 => pAppendS w0 e2 n2 b2 (.slice (some (Addr.mk x14 0 none)) 0 0) v s19 (fun v20 s21 => K v18 v20 s21)))))

theorem fresh_in {F F' : List Nat} {σ s : Vw} (k : Keeps σ s) (hF : ∀ i, i ∈ F → σ i = none) (h : ∀ i, i ∈ F' → i ∈ F ∨ s i = none) : ∀ i, i ∈ F' → σ i = none := fun i hi => by
  rcases h i hi with e | e
  · exact hF i e
  · cases hs : σ i with
    | none => rfl
    | some r => rw [k i r hs] at e; cases e
theorem clone2 {e1 n1 b1 e2 n2 b2 : Nat} {R1 : (Addr → Option Value) → List Value → α → Prop} {O1 : Vw → List Nat → List Value → α → Prop} {R2 : (Addr → Option Value) → List Value → γ → Prop} {O2 : Vw → List Nat → List Value → γ → Prop}
    (ok1 : OOk w0 n1 R1 O1) (ok2 : OOk w0 n2 R2 O2) (hO1 : ∀ rd s es y, R1 rd es y → O1 s [] es y) (hO2 : ∀ rd s es y, R2 rd es y → O2 s [] es y) {u v : Value} {xs : List α} {ys : List γ}
    (hu : RSl n1 R1 (Av.get w0 σ) u xs) (hv : RSl n2 R2 (Av.get w0 σ) v ys) (hx : xs.length ≤ 1000000000000) (hy : ys.length ≤ 1000000000000) (hb1 : b1 ≤ 140) (hb2 : b2 ≤ 140) {K : Value → Value → Vw → Prop}
    (hK : ∀ u' F v' G σ', Keeps σ σ' → OAcc w0 e1 n1 O1 σ' F u' xs → OAcc w0 e2 n2 O2 σ' G v' ys → (∀ i, i ∈ F → σ i = none) → (∀ i, i ∈ G → σ i = none) → (∀ i, i ∈ F → i ∉ G) → K u' v' σ') : Vclone2 w0 e1 n1 b1 e2 n2 b2 u v σ K := by
  have nof : ∀ {σ s : Vw} {i : Nat}, Keeps σ s → s i = none → σ i = none := fun {σ s i} k hi => by
    cases hs : σ i with
    | none => rfl
    | some r => rw [k i r hs] at hi; cases hi
  refine ⟨fun x0 h1 h2 => ⟨?_, fun x8 h3 h4 => ?_⟩, fun x14 h1 h2 x16 h3 h4 => ?_⟩
  · have k0 : Keeps σ (σ.put x0 ⟨e1, [], 0, (0, 0)⟩) := Keeps.put h2
    refine OAcc.allX (F := [x0]) ok1 (OAcc.new h1) hu k0.le (hO1 _ _) (by simpa using hx) hb1 fun u' F s ex k1 o1 f1 x4 h3 h4 => ?_
    have hF0 : ∀ i, i ∈ [x0] → σ i = none := fun i hi => by rw [List.mem_singleton.1 hi]; exact h2
    have hF := fresh_in k0 hF0 f1
    have k1' := k1.old k0 hF0
    have k2 : Keeps s (s.put x4 ⟨e2, [], 0, (0, 0)⟩) := Keeps.put h4
    have o1' := o1.frame ok1 (k2.but_at fun b hb => (o1.dom ok1 b hb).2)
    refine OAcc.allX (F := [x4]) ok2 (OAcc.new h3) hv (k1'.trans k2).le (hO2 _ _) (by simpa using hy) hb2 fun v' G s' ex k3 o2 f2 => ?_
    have hG0 : ∀ i, i ∈ [x4] → s i = none := fun i hi => by rw [List.mem_singleton.1 hi]; exact h4
    have hG := fresh_in k2 hG0 f2
    have k3' := k3.old k2 hG0
    have o1'' := o1.frame ok1 (k3'.but_at fun b hb => (o1.dom ok1 b hb).2)
    refine hK u' F v' G s' (k1'.trans k3') (by simpa using o1'') (by simpa using o2) hF (fun i hi => nof k1' (hG i hi)) fun i hi hi' => (o1.dom ok1 i hi).2 (hG i hi')
  · have k0 : Keeps σ (σ.put x0 ⟨e1, [], 0, (0, 0)⟩) := Keeps.put h2
    have k1 : Keeps (σ.put x0 ⟨e1, [], 0, (0, 0)⟩) ((σ.put x0 ⟨e1, [], 0, (0, 0)⟩).put x8 ⟨e2, [], 0, (0, 0)⟩) := Keeps.put h4
    have a1 : OAcc w0 e1 n1 O1 (σ.put x0 ⟨e1, [], 0, (0, 0)⟩) [x0] (.slice (some ⟨x0, 0, none⟩) 0 0) [] := OAcc.new h1
    have a1' := a1.frame ok1 (k1.but_at fun b hb => (a1.dom ok1 b hb).2)
    have a2 : OAcc w0 e2 n2 O2 ((σ.put x0 ⟨e1, [], 0, (0, 0)⟩).put x8 ⟨e2, [], 0, (0, 0)⟩) [x8] (.slice (some ⟨x8, 0, none⟩) 0 0) [] := OAcc.new h3
    have hF0 : ∀ i, i ∈ [x0] → σ i = none := fun i hi => by rw [List.mem_singleton.1 hi]; exact h2
    have hG0 : ∀ i, i ∈ [x8] → σ i = none := fun i hi => by rw [List.mem_singleton.1 hi]; exact nof k0 h4
    have hne : x8 ≠ x0 := fun e => by rw [e, put_at] at h4; cases h4
    have k01 := k0.trans k1
    refine OAcc.allX (F := [x0]) ok1 a1' hu k01.le (hO1 _ _) (by simpa using hx) hb1 fun u' F s ex k2 o1 f1 => ?_
    have hF := fresh_in k01 hF0 f1
    have k2' := k2.old k01 hF0
    have a2' := a2.frame ok2 (k2.at (fun b hb => (a2.dom ok2 b hb).2) fun b hb hb' => hne ((List.mem_singleton.1 hb).symm.trans (List.mem_singleton.1 hb')))
    have hFG : x8 ∉ F := fun hi => by
      rcases f1 _ hi with e | e
      · exact hne (List.mem_singleton.1 e)
      · rw [put_at] at e; cases e
    refine OAcc.allX (F := [x8]) ok2 a2' hv k2'.le (hO2 _ _) (by simpa using hy) hb2 fun v' G s' ex k3 o2 f2 => ?_
    have o1' := o1.frame ok1 (k3.at (fun b hb => (o1.dom ok1 b hb).2) fun b hb hb' => hFG ((List.mem_singleton.1 hb') ▸ hb))
    refine hK u' F v' G s' (k3.old k2' hG0) (by simpa using o1') (by simpa using o2) hF (fresh_in k2' hG0 f2) fun i hi hi' => ?_
    rcases f2 i hi' with e | e
    · exact hFG ((List.mem_singleton.1 e) ▸ hi)
    · exact (o1.dom ok1 i hi).2 e
  · have k0 : Keeps σ (σ.put x14 ⟨e2, [], 0, (0, 0)⟩) := Keeps.put h2
    have k1 : Keeps (σ.put x14 ⟨e2, [], 0, (0, 0)⟩) ((σ.put x14 ⟨e2, [], 0, (0, 0)⟩).put x16 ⟨e1, [], 0, (0, 0)⟩) := Keeps.put h4
    have a2 : OAcc w0 e2 n2 O2 (σ.put x14 ⟨e2, [], 0, (0, 0)⟩) [x14] (.slice (some ⟨x14, 0, none⟩) 0 0) [] := OAcc.new h1
    have a2' := a2.frame ok2 (k1.but_at fun b hb => (a2.dom ok2 b hb).2)
    have a1 : OAcc w0 e1 n1 O1 ((σ.put x14 ⟨e2, [], 0, (0, 0)⟩).put x16 ⟨e1, [], 0, (0, 0)⟩) [x16] (.slice (some ⟨x16, 0, none⟩) 0 0) [] := OAcc.new h3
    have hG0 : ∀ i, i ∈ [x14] → σ i = none := fun i hi => by rw [List.mem_singleton.1 hi]; exact h2
    have hF0 : ∀ i, i ∈ [x16] → σ i = none := fun i hi => by rw [List.mem_singleton.1 hi]; exact nof k0 h4
    have hne : x16 ≠ x14 := fun e => by rw [e, put_at] at h4; cases h4
    have k01 := k0.trans k1
    refine OAcc.allX (F := [x16]) ok1 a1 hu k01.le (hO1 _ _) (by simpa using hx) hb1 fun u' F s ex k2 o1 f1 => ?_
    have hF := fresh_in k01 hF0 f1
    have k2' := k2.old k01 hF0
    have a2'' := a2'.frame ok2 (k2.at (fun b hb => (a2'.dom ok2 b hb).2) fun b hb hb' => hne ((List.mem_singleton.1 hb').symm.trans (List.mem_singleton.1 hb)))
    have hFG : x14 ∉ F := fun hi => by
      rcases f1 _ hi with e | e
      · exact hne (List.mem_singleton.1 e).symm
      · exact absurd e (a2'.dom ok2 x14 (List.mem_singleton.2 rfl)).2
    refine OAcc.allX (F := [x14]) ok2 a2'' hv k2'.le (hO2 _ _) (by simpa using hy) hb2 fun v' G s' ex k3 o2 f2 => ?_
    have o1' := o1.frame ok1 (k3.at (fun b hb => (o1.dom ok1 b hb).2) fun b hb hb' => hFG ((List.mem_singleton.1 hb') ▸ hb))
    refine hK u' F v' G s' (k3.old k2' hG0) (by simpa using o1') (by simpa using o2) hF (fresh_in k2' hG0 f2) fun i hi hi' => ?_
    rcases f2 i hi' with e | e
    · exact hFG ((List.mem_singleton.1 e) ▸ hi)
    · exact (o1.dom ok1 i hi).2 e

/-! ### An element is taken out, in place -/
def VDel (P : Program) (w0 : World) (T ety n bytes : Nat) (z : List Value) (a0 a1 a2 : Value) (σ : Vw) (R : Value → Vw → Prop) : Prop :=
  pLen a0 (fun v0 => pSlice3 n a0 (some a1) (some a2) (some v0) (fun v1 => pBin P T .eql a1 a2 (fun v2 => pIf v2 (R a0 σ) (pLen a0 (fun v3 => pSlice n a0 none (some a1) (fun v4 => pSlice n a0 (some a2) none (fun v5 => pAppendS w0 ety n bytes v4 v5 σ (fun v6 s7 => pLen v6 (fun v8 => pSlice n v6 (some v8) (some v3) (fun v9 => pClear n z v9 s7 (fun s10 => R v6 s10)))))))))))

theorem del_row {T ety n bytes b off cap j : Nat} {z : List Value} {r : Row} {pre post : List Value} {css : List (List Value)} (hz : z.length = n) (hz1 : ∀ c, c ∈ z → c.oneCell' = true) (hb : w0.heap.size ≤ b) (hr : σ b = some r) (hc : r.cells = pre ++ (css.flatten ++ post)) (hpre : pre.length = off)
    (hn : ∀ c, c ∈ css → c.length = n) (h1 : ∀ c, c ∈ css → ∀ u, u ∈ c → u.oneCell' = true) (hn0 : 0 < n) (hcap : css.length ≤ cap ∧ cap ≤ 9223372036854775807) (hj : j < css.length) {R : Value → Vw → Prop}
    (hR : R (.slice (some ⟨b, off, none⟩) (css.length - 1) cap) (σ.put b { r with cells := pre ++ ((css.take j ++ css.drop (j + 1)).flatten ++ (z ++ post)) })) :
    VDel P w0 T ety n bytes z (.slice (some ⟨b, off, none⟩) css.length cap) (.int .i64 (j : Nat)) (.int .i64 ((j : Int) + 1)) σ R := by
  obtain ⟨m, hm⟩ : ∃ m, css.length = j + 1 + m := ⟨css.length - (j + 1), by omega⟩
  have hcj := List.getElem?_eq_getElem hj
  have htl : ∀ c, c ∈ css.take j → c.length = n := fun c hc => hn c (List.mem_of_mem_take hc)
  have hdl : ∀ c, c ∈ css.drop (j + 1) → c.length = n := fun c hc => hn c (List.mem_of_mem_drop hc)
  have hfl := split_at hcj
  have hcl := hn _ (List.getElem_mem hj)
  have htlen : (css.take j).flatten.length = j * n := by rw [flat_len _ htl, List.length_take, Nat.min_eq_left (by omega)]
  have hdlen : (css.drop (j + 1)).flatten.length = m * n := by rw [flat_len _ hdl, List.length_drop]; congr 1; omega
  unfold VDel
  rw [pLen_s]
  refine ⟨some ⟨b, off, none⟩, css.length, cap, (j : Int), (j : Int) + 1, (css.length : Int), rfl, rfl, rfl, rfl, rfl, rfl, by omega, by omega, by omega, by omega, ?_⟩
  rw [pBin_eq, pIf_d]
  refine ⟨fun h => by omega, fun _ => ?_⟩
  rw [pLen_s]
  refine ⟨some ⟨b, off, none⟩, css.length, cap, 0, (j : Int), rfl, rfl, rfl, by omega, by omega, by omega, ?_⟩
  refine ⟨some ⟨b, off, none⟩, css.length, cap, (j : Int) + 1, (css.length : Int), rfl, rfl, rfl, by omega, by omega, by omega, ?_⟩
  have e0 : (if cap = (0 : Int).toNat then some (Addr.mk b off none) else (some (Addr.mk b off none)).map (·.add ((0 : Int).toNat * n))) = some (Addr.mk b off none) := by
    split
    · rfl
    · simp [Addr.add]
  rw [e0]
  simp only [Int.toNat_natCast, Int.toNat_zero, Nat.sub_zero]
  have ej : ((j : Int) + 1).toNat = j + 1 := by omega
  rw [ej]
  have hcells : r.cells = (pre ++ (css.take j).flatten) ++ ((css[j] ++ (css.drop (j + 1)).flatten) ++ post) := by rw [hc, hfl]; simp
  -- what is moved
  refine ⟨_, css.length - (j + 1), cap - (j + 1), (css.drop (j + 1)).flatten, rfl, by rw [hdlen]; congr 1; omega, fun u hu => ?_, fun i hi => ?_, .inl ⟨b, off, j, cap, r, rfl, hr, by omega, by rw [hdlen]; congr 1; omega, fun u hu => ?_, ?_, ?_⟩⟩
  · obtain ⟨c, hc1, hc2⟩ := List.mem_flatten.1 hu
    exact h1 c (List.mem_of_mem_drop hc1) u hc2
  · have hi' : i < m * n := by rw [← hdlen]; exact hi
    have hcapne : ¬ cap = j + 1 := fun e => by
      have : m = 0 := by omega
      subst this; omega
    refine ⟨_, by rw [if_neg hcapne]; rfl, ?_⟩
    rw [add_add, addr_add, get_row hb hr, hc, ← List.getElem?_eq_getElem hi]
    rw [List.getElem?_append_right (by omega), hpre]
    have e2 : off + ((j + 1) * n + i) - off = (j + 1) * n + i := by omega
    have hlt : (j + 1) * n + i < css.flatten.length := by
      rw [flat_len _ hn, hm, Nat.add_mul (j + 1)]; omega
    rw [e2, List.getElem?_append_left hlt]
    have h3 : css.flatten = (css.take (j + 1)).flatten ++ (css.drop (j + 1)).flatten := by rw [← List.flatten_append, List.take_append_drop]
    have h4 : (css.take (j + 1)).flatten.length = (j + 1) * n := by
      rw [flat_len _ fun c hc => hn c (List.mem_of_mem_take hc), List.length_take, Nat.min_eq_left (by omega)]
    rw [h3, List.getElem?_append_right (by omega), h4]
    congr 1; omega
  · obtain ⟨c, hc1, hc2⟩ := List.mem_flatten.1 hu
    exact h1 c (List.mem_of_mem_drop hc1) u hc2
  · rw [hcells]; simp only [List.length_append]; omega
  · -- the cells behind it
    generalize hDe : (css.drop (j + 1)).flatten = D at *
    generalize hTe : (css.take j).flatten = T' at *
    generalize hce : css[j] = cj at *
    have hB : (cj ++ D).length = n + m * n := by rw [List.length_append, hcl, hdlen]
    have hsplit : cj ++ D = (cj ++ D).take (m * n) ++ (cj ++ D).drop (m * n) := (List.take_append_drop _ _).symm
    have hold : ((cj ++ D).take (m * n)).length = D.length := by rw [List.length_take, hB, hdlen]; omega
    have hlast : ((cj ++ D).drop (m * n)).length = n := by rw [List.length_drop, hB]; omega
    have hset : setAt r.cells (off + j * n) D = (pre ++ T') ++ (D ++ ((cj ++ D).drop (m * n) ++ post)) := by
      have hA : (pre ++ T').length = off + j * n := by rw [List.length_append, hpre, htlen]
      have hcells2 : r.cells = (pre ++ T') ++ ((cj ++ D).take (m * n) ++ ((cj ++ D).drop (m * n) ++ post)) := by
        rw [hcells, ← List.append_assoc ((cj ++ D).take (m * n)), List.take_append_drop]
      rw [hcells2, ← hA, setAt_mid _ _ _ _ hold]
    rw [hset]
    have e3 : j + (css.length - (j + 1)) = css.length - 1 := by omega
    rw [e3, pLen_s]
    refine ⟨some ⟨b, off, none⟩, css.length - 1, cap, ((css.length - 1 : Nat) : Int), (css.length : Int), rfl, rfl, rfl, by omega, by omega, by omega, ?_⟩
    simp only [Int.toNat_natCast]
    have e4 : css.length - (css.length - 1) = 1 := by omega
    have hcapne : ¬ cap = css.length - 1 := by omega
    rw [e4, if_neg hcapne]
    refine ⟨hz, hz1, _, 1, cap - (css.length - 1), rfl, .inr ⟨b, off + (css.length - 1) * n, _, by simp [addr_add], by omega, put_at, ?_, ?_⟩⟩
    · simp only [List.length_append, hpre, htlen, hdlen, hlast]
      have : (css.length - 1) * n = j * n + m * n := by rw [← Nat.add_mul]; congr 1; omega
      omega
    · have e5 : (List.replicate 1 z).flatten = z := by simp
      have hA2 : (pre ++ T' ++ D).length = off + (css.length - 1) * n := by
        simp only [List.length_append, hpre, htlen, hdlen]
        have : (css.length - 1) * n = j * n + m * n := by rw [← Nat.add_mul]; congr 1; omega
        omega
      simp only
      rw [e5]
      have e6 : (pre ++ T') ++ (D ++ ((cj ++ D).drop (m * n) ++ post)) = (pre ++ T' ++ D) ++ ((cj ++ D).drop (m * n) ++ post) := by simp
      rw [e6, ← hA2, setAt_mid _ _ _ _ (by rw [hlast, hz]), put_put]
      have e7 : (pre ++ T' ++ D) ++ (z ++ post) = pre ++ ((css.take j ++ css.drop (j + 1)).flatten ++ (z ++ post)) := by
        rw [List.flatten_append, hTe, hDe]; simp
      rw [e7]
      exact hR

/-- An element of a list of our own is taken out: what is read then. -/
theorem OSl.del {T ety n bytes j : Nat} {z : List Value} {Rel : (Addr → Option Value) → List Value → α → Prop} {O : Vw → List Nat → List Value → α → Prop} (ok : OOk w0 n Rel O) (hO : ∀ s s' f es y, O s f es y → f = [] ∧ O s' f es y) (hz : z.length = n) (hz1 : ∀ c, c ∈ z → c.oneCell' = true) (hn0 : 0 < n) {F : List Nat} {v : Value} {xs : List α}
    (h : OSl w0 n O σ F v xs) (hj : j < xs.length) {R : Value → Vw → Prop} (hR : ∀ v' σ', KeepsBut F σ σ' → RSl n Rel (Av.get w0 σ') v' (xs.take j ++ xs.drop (j + 1)) → R v' σ') : VDel P w0 T ety n bytes z v (.int .i64 (j : Nat)) (.int .i64 ((j : Int) + 1)) σ R := by
  obtain ⟨g1, g2, ⟨rfl, rfl, _⟩ | ⟨b, off, cap, r, pre, post, css, Fs, rfl, gc, g3, g4, g5, g6, g7, g8, g9, g10⟩⟩ := h
  · simp at hj
  · have each : ∀ (i : Nat) (c : List Value), css[i]? = some c → ∃ x f, xs[i]? = some x ∧ O σ f c x := fun i c hi => by
      have hlt : i < css.length := (List.getElem?_eq_some_iff.1 hi).1
      exact ⟨_, _, List.getElem?_eq_getElem (by omega), g10 i c _ _ hi (List.getElem?_eq_getElem (by omega)) (List.getElem?_eq_getElem (by omega))⟩
    have hn : ∀ c, c ∈ css → c.length = n := fun c hc => by obtain ⟨i, hi⟩ := List.getElem?_of_mem hc; obtain ⟨x, f, _, ho⟩ := each i c hi; exact ok.len _ _ _ _ ho
    have h1 : ∀ c, c ∈ css → ∀ u, u ∈ c → u.oneCell' = true := fun c hc => by obtain ⟨i, hi⟩ := List.getElem?_of_mem hc; obtain ⟨x, f, _, ho⟩ := each i c hi; exact ok.one _ _ _ _ ho
    rw [← g7]
    refine del_row hz hz1 g3 g4 g5 g6 hn h1 hn0 (by rw [g7]; exact gc) (by omega) (hR _ _ (KeepsBut.put (by rw [g9]; exact List.mem_cons_self)) ?_)
    have hlen : (xs.take j ++ xs.drop (j + 1)).length = css.length - 1 := by simp only [List.length_append, List.length_take, List.length_drop]; omega
    refine ⟨_, cap, by rw [hlen], by rw [hlen]; omega, fun i x hi => ?_⟩
    -- the cells of the element
    have hget : ∃ c f, (css.take j ++ css.drop (j + 1))[i]? = some c ∧ O σ f c x := by
      by_cases hij : i < j
      · rw [List.getElem?_append_left (by rw [List.length_take]; omega), List.getElem?_take_of_lt hij] at hi
        refine ⟨css[i]'(by omega), _, ?_, g10 i _ x _ (List.getElem?_eq_getElem (by omega)) hi (List.getElem?_eq_getElem (by omega))⟩
        rw [List.getElem?_append_left (by rw [List.length_take]; omega), List.getElem?_take_of_lt hij]
        exact List.getElem?_eq_getElem (by omega)
      · rw [List.getElem?_append_right (by rw [List.length_take]; omega), List.getElem?_drop, List.length_take, Nat.min_eq_left (by omega)] at hi
        have hlt : j + 1 + (i - j) < xs.length := (List.getElem?_eq_some_iff.1 hi).1
        refine ⟨css[j + 1 + (i - j)]'(by omega), _, ?_, g10 _ _ x _ (List.getElem?_eq_getElem (by omega)) hi (List.getElem?_eq_getElem (by omega))⟩
        rw [List.getElem?_append_right (by rw [List.length_take]; omega), List.getElem?_drop, List.length_take, Nat.min_eq_left (by omega)]
        exact List.getElem?_eq_getElem (by omega)
    obtain ⟨c, f, hci, ho⟩ := hget
    have hn' : ∀ c, c ∈ css.take j ++ css.drop (j + 1) → c.length = n := fun c hc => by
      rcases List.mem_append.1 hc with h | h
      · exact hn c (List.mem_of_mem_take h)
      · exact hn c (List.mem_of_mem_drop h)
    obtain ⟨rfl, ho'⟩ := hO σ (σ.put b { r with cells := pre ++ ((css.take j ++ css.drop (j + 1)).flatten ++ (z ++ post)) }) f c x ho
    refine ⟨_, c, rfl, ok.len _ _ _ _ ho, fun k hk => ?_, ok.rel _ _ _ _ ho'⟩
    rw [addr_add, get_row g3 put_at]
    simp only
    rw [List.getElem?_append_right (by omega), show off + (i * n + k) - pre.length = i * n + k by omega, List.getElem?_append_left, flat_get _ hn' i c hci k hk]
    have hil : i < (css.take j ++ css.drop (j + 1)).length := (List.getElem?_eq_some_iff.1 hci).1
    rw [flat_len _ hn']
    calc i * n + k < i * n + n := by omega
      _ = (i + 1) * n := by rw [Nat.add_mul, Nat.one_mul]
      _ ≤ (css.take j ++ css.drop (j + 1)).length * n := Nat.mul_le_mul_right n hil
end
end Go.Av

/- Pages that are let go: the marks of pages, and 'PagesDrop' by either reading. -/
set_option linter.unusedVariables false
set_option linter.unusedSimpArgs false
namespace Go.Proofs.Ytlfnfpdipghdiaa
open Go Go.Av

section
variable {w0 : World} {σ : Vw}

def zeroPg : Pg := ⟨false, ⟨#[]⟩, -1⟩
def dropPs (ps : List Pg) (l : List Nat) : List Pg := l.foldl (fun ps i => ps.set i zeroPg) ps
theorem dropPs_len {ps : List Pg} {l : List Nat} : (dropPs ps l).length = ps.length := by
  induction l generalizing ps with
  | nil => rfl
  | cons a r ih =>
    have : dropPs ps (a :: r) = dropPs (ps.set a zeroPg) r := rfl
    rw [this, ih, List.length_set]
theorem dropPs_take {ps : List Pg} {l : List Nat} {j i : Nat} (hj : l[j]? = some i) : dropPs ps (l.take (j + 1)) = (dropPs ps (l.take j)).set i zeroPg := foldl_take hj
noncomputable def dropX (x : Pgs) (j : Nat) (n : Pn) : Pgs := (dropPs x.1 ((chS x.1 n).getD []), x.2.take j ++ x.2.drop (j + 1))
noncomputable def dropP (x : Pgs) (name : ByteArray) : Pgs × Int :=
  if pagesOk x = true then match pnIdx x.2 name with
    | some j => match x.2[j]? with
      | some n => (dropX x j n, 0)
      | none => (x, 3)
    | none => (x, 3)
  else (([], []), 1)
theorem dropX_len {x : Pgs} {j : Nat} {n : Pn} : (dropX x j n).1.length = x.1.length ∧ (dropX x j n).2.length ≤ x.2.length := by
  refine ⟨dropPs_len, ?_⟩
  show (x.2.take j ++ x.2.drop (j + 1)).length ≤ _
  simp only [List.length_append, List.length_take, List.length_drop]; omega
theorem dropP_len {x : Pgs} {name : ByteArray} : (dropP x name).1.1.length ≤ x.1.length ∧ (dropP x name).1.2.length ≤ x.2.length := by
  unfold dropP
  split
  · split
    · split
      · exact ⟨Nat.le_of_eq dropX_len.1, dropX_len.2⟩
      · exact ⟨Nat.le_refl _, Nat.le_refl _⟩
    · exact ⟨Nat.le_refl _, Nat.le_refl _⟩
  · simp

theorem nof {σ s : Vw} {i : Nat} (k : Keeps σ s) (hi : s i = none) : σ i = none := by
  cases hs : σ i with
  | none => rfl
  | some r => rw [k i r hs] at hi; cases hi
theorem OPgs.mk {F G : List Nat} {u v : Value} {x : Pgs} {e1 e2 : Nat} (o1 : OAcc w0 e1 3 OPg σ F u x.1) (o2 : OAcc w0 e2 3 OPn σ G v x.2) (hFG : ∀ i, i ∈ F → i ∉ G) : OPgs w0 σ (F ++ G) [u, v] x :=
  ⟨u, v, F, G, rfl, o1.osl, o2.osl, rfl, List.nodup_append.2 ⟨o1.2.1, o2.2.1, fun a ha b hb e => hFG a ha (e ▸ hb)⟩⟩

theorem spec_l32Copy {es : List Value} {x : Pgs} (h : RPgs (Av.get w0 σ) es x) (hx : x.1.length ≤ 1000000000000) (hy : x.2.length ≤ 1000000000000) {R : Value → Vw → Prop}
    (hR : ∀ es' F σ', Keeps σ σ' → OPgs w0 σ' F es' x → (∀ b, b ∈ F → σ b = none) → R (.agg ⟨es'⟩) σ') : AC Try.prog w0 n_spec_l32Copy [.agg ⟨es⟩] σ R := by
  refine ac_spec_l32Copy ?_
  unfold vc_spec_l32Copy
  rw [RPgs.two h]
  obtain ⟨u, v, rfl, hu, hv⟩ := h
  simp only [cellOf_agg, List.getD_cons_zero, List.getD_cons_succ]
  show Vclone2 w0 t_impl_Page 3 32 t_impl_PageName 3 32 u v σ (fun a b s => pVal false 1 a (pVal false 1 b (pVal true 2 (.agg ⟨[a, b]⟩) (R (.agg ⟨[a, b]⟩) s))))
  refine clone2 (ok_pg w0) (ok_pn w0) (fun _ _ _ _ h => ⟨rfl, h⟩) (fun _ _ _ _ h => ⟨rfl, h⟩) hu hv hx hy (by omega) (by omega) fun u' F v' G σ' k o1 o2 f1 f2 hd => ?_
  rw [pVal1 (OSl.one' o1.osl), pVal1 (OSl.one' o2.osl), pVal_2 (OSl.one' o1.osl) (OSl.one' o2.osl)]
  exact hR [u', v'] (F ++ G) σ' k (OPgs.mk o1 o2 hd) fun i hi => by
    rcases List.mem_append.1 hi with h | h
    · exact f1 i h
    · exact f2 i h

theorem impl_clonePages {es : List Value} {x : Pgs} (h : RPgs (Av.get w0 σ) es x) (hx : x.1.length ≤ 1000000000000) (hy : x.2.length ≤ 1000000000000) {R : Value → Vw → Prop}
    (hR : ∀ es' F σ', Keeps σ σ' → OPgs w0 σ' F es' x → (∀ b, b ∈ F → σ b = none) → R (.agg ⟨es'⟩) σ') : AC Try.prog w0 n_impl_clonePages [.agg ⟨es⟩] σ R := by
  refine ac_impl_clonePages ?_
  unfold vc_impl_clonePages
  rw [RPgs.two h]
  obtain ⟨u, v, rfl, hu, hv⟩ := h
  simp only [cellOf_agg, List.getD_cons_zero, List.getD_cons_succ]
  show Vclone2 w0 t_impl_Page 3 32 t_impl_PageName 3 32 u v σ (fun a b s => pVal false 1 a (pVal false 1 b (pVal true 2 (.agg ⟨[a, b]⟩) (R (.agg ⟨[a, b]⟩) s))))
  refine clone2 (ok_pg w0) (ok_pn w0) (fun _ _ _ _ h => ⟨rfl, h⟩) (fun _ _ _ _ h => ⟨rfl, h⟩) hu hv hx hy (by omega) (by omega) fun u' F v' G σ' k o1 o2 f1 f2 hd => ?_
  rw [pVal1 (OSl.one' o1.osl), pVal1 (OSl.one' o2.osl), pVal_2 (OSl.one' o1.osl) (OSl.one' o2.osl)]
  exact hR [u', v'] (F ++ G) σ' k (OPgs.mk o1 o2 hd) fun i hi => by
    rcases List.mem_append.1 hi with h | h
    · exact f1 i h
    · exact f2 i h

/-- A page of our own is let go. -/
theorem page_drop {F : List Nat} {v : Value} {xs : List Pg} (h : OSl w0 3 OPg σ F v xs) {j : Nat} (hj : j < xs.length) {K : Vw → Prop} (hK : ∀ σ', KeepsBut F σ σ' → OSl w0 3 OPg σ' F v (xs.set j zeroPg) → K σ') :
    pVal false 1 (.int .i64 (-1)) (pIndexAddr 3 v (.int .i64 (j : Nat)) fun p => pVal true 3 (.agg ⟨[.bool false, .string ⟨#[]⟩, .int .i64 (-1)]⟩) (pStore p [.bool false, .string ⟨#[]⟩, .int .i64 (-1)] σ K)) := by
  rw [pVal1 rfl]
  have e : (fun p => pVal true 3 (.agg ⟨[.bool false, .string ⟨#[]⟩, .int .i64 (-1)]⟩) (pStore p [.bool false, .string ⟨#[]⟩, .int .i64 (-1)] σ K)) = fun p => pStore p [.bool false, .string ⟨#[]⟩, .int .i64 (-1)] σ K := by
    funext p; rw [pVal_3 rfl rfl rfl]
  rw [e]
  exact OSl.store (ok_pg w0) h (y := zeroPg) (List.getElem?_eq_getElem hj) (fun f c s h => ⟨h.1, rfl, by show 0 ≤ _; omega, ⟨by decide, by decide⟩⟩) rfl hK
end
end Go.Proofs.Ytlfnfpdipghdiaa

/- What holds of pages that are ok: plain. -/
set_option linter.unusedVariables false
set_option linter.unusedSimpArgs false
namespace Go.Proofs.Ytlfnfpdipghdiaa
open Go Go.Av

theorem ch_len {e : Int → Prop} {ps : List Pg} : ∀ {r : List Nat} {a l : Int}, Ch e ps r a l → (r.length : Int) = (l + 39) / 40
  | [], a, l, h => by have := h.2; subst this; rfl
  | i :: r, a, l, ⟨h1, h2, p, h3, h4, h5, h6⟩ => by
    have := ch_len h6
    simp only [List.length_cons]
    omega

theorem bl_transP : ∀ {a b c : List UInt8}, Op.bytesLess a b = true → Op.bytesLess b c = true → Op.bytesLess a c = true
  | _, [], _, h, _ => by
    rename_i a _
    cases a <;> simp [Op.bytesLess] at h
  | [], b :: bs, [], _, h => by simp [Op.bytesLess] at h
  | [], b :: bs, c :: cs, _, _ => by simp [Op.bytesLess]
  | a :: at', b :: bs, [], _, h => by simp [Op.bytesLess] at h
  | a :: at', b :: bs, c :: cs, h, h' => by
    simp only [Op.bytesLess, Bool.or_eq_true, Bool.and_eq_true, decide_eq_true_eq, beq_iff_eq] at h h' ⊢
    rcases h with h | ⟨rfl, h⟩
    · rcases h' with h' | ⟨rfl, h'⟩
      · exact .inl (UInt8.lt_trans h h')
      · exact .inl h
    · rcases h' with h' | ⟨rfl, h'⟩
      · exact .inl h'
      · exact .inr ⟨rfl, bl_transP h h'⟩
theorem strLt_transP {a b c : ByteArray} (h : strLt a b = true) (h' : strLt b c = true) : strLt a c = true := bl_transP h h'

theorem names_asc {ns : List Pn} (h : ∀ (j : Nat) (n : Pn), ns[j]? = some n → prevN ns j n = true) : ∀ {i j : Nat} {a b : Pn}, i < j → ns[i]? = some a → ns[j]? = some b → strLt a.name b.name = true := by
  intro i j
  induction j with
  | zero => intro a b hij; omega
  | succ j ih =>
    intro a b hij ha hb
    have hlt : j < ns.length := by have := (List.getElem?_eq_some_iff.1 hb).1; omega
    have hc := List.getElem?_eq_getElem hlt
    have hp := h (j + 1) b hb
    simp only [prevN, hc] at hp
    by_cases e : i = j
    · subst e
      rw [hc] at ha; cases ha
      exact hp
    · exact strLt_transP (ih (by omega) ha hc) hp

theorem idx_of_name {x : Pgs} (h : OkS x) {j : Nat} {n : Pn} (hj : x.2[j]? = some n) : pnIdx x.2 n.name = some j := by
  refine pnIdx_at hj rfl fun i y hi hy he => ?_
  have := names_asc (fun j n hj => (h.2.2.1 j n hj).1.2.1) hi hy hj
  rw [he, strLt_irrefl] at this
  cases this

theorem snoc_ind {α : Type} {P : List α → Prop} (h0 : P []) (h1 : ∀ l a, P l → P (l ++ [a])) (l : List α) : P l := by
  have : ∀ r : List α, P r.reverse := by
    intro r
    induction r with
    | nil => exact h0
    | cons a r ih => rw [List.reverse_cons]; exact h1 _ _ ih
  have := this l.reverse
  rwa [List.reverse_reverse] at this
theorem free_sum (ps : List Pg) : freeN ps + ((List.range ps.length).filter fun i => match ps[i]? with | some p => p.used | none => false).length = ps.length := by
  refine snoc_ind (P := fun ps => freeN ps + ((List.range ps.length).filter fun i => match ps[i]? with | some p => p.used | none => false).length = ps.length) rfl (fun ps p ih => ?_) ps
  · skip
    have h1 : freeN (ps ++ [p]) = freeN ps + (if p.used = true then 0 else 1) := by
      unfold freeN
      clear ih
      induction ps with
      | nil => simp [sumBy]
      | cons a r ih => simp only [List.cons_append, sumBy, ih]; omega
    have h2 : (List.range (ps ++ [p]).length).filter (fun i => match (ps ++ [p])[i]? with | some p => p.used | none => false) =
        (List.range ps.length).filter (fun i => match ps[i]? with | some p => p.used | none => false) ++ (if p.used = true then [ps.length] else []) := by
      rw [List.length_append, List.length_singleton, List.range_succ, List.filter_append]
      congr 1
      · apply List.filter_congr
        intro i hi
        rw [List.getElem?_append_left (by simpa using hi)]
      · simp only [List.filter_cons, List.filter_nil, List.getElem?_append_right (Nat.le_refl _), Nat.sub_self, List.getElem?_cons_zero]
    rw [h1, h2, List.length_append, List.length_append, List.length_singleton]
    split <;> simp <;> omega

theorem ls_lt {x : Pgs} (h : OkS x) : ∀ i, i ∈ lsOf (chS x.1) x.2 → i < x.1.length := fun i hi => by
  obtain ⟨n, hn, r, hr, hir⟩ := lsOf_mem.1 hi
  exact ch_lt (chS_chain hr) hir

theorem free_count {x : Pgs} (h : OkS x) : freeN x.1 + (lsOf (chS x.1) x.2).length = 96 := by
  have h1 := free_sum x.1
  have hp : (lsOf (chS x.1) x.2).Perm ((List.range x.1.length).filter fun i => match x.1[i]? with | some p => p.used | none => false) := by
    refine (List.perm_ext_iff_of_nodup h.2.2.2.1 (List.Pairwise.filter _ List.nodup_range)).2 fun i => ?_
    rw [List.mem_filter, List.mem_range]
    constructor
    · intro hi
      have hlt := ls_lt h i hi
      refine ⟨hlt, ?_⟩
      have hc := List.getElem?_eq_getElem hlt
      rw [hc]
      exact ((h.2.2.2.2 i _ hc).1).2 hi
    · rintro ⟨hlt, hu⟩
      have hc := List.getElem?_eq_getElem hlt
      rw [hc] at hu
      exact ((h.2.2.2.2 i _ hc).1).1 hu
  rw [hp.length_eq]
  rw [h.1] at h1
  rw [h.1]
  exact h1

theorem text_size {x : Pgs} (h : OkS x) {j : Nat} {n : Pn} (hj : x.2[j]? = some n) : ((textOf x n).size : Int) = n.size ∧ (((chS x.1 n).getD []).length : Int) = (n.size + 39) / 40 := by
  obtain ⟨r, hI, hS⟩ := h.chI hj
  have hc := chS_chain hS
  rw [hS, Option.getD_some]
  refine ⟨?_, ch_len hc⟩
  have := ch_size hc ⟨#[]⟩
  have e : textOf x n = r.foldl (fun s i => s ++ dataAt x.1 i) ⟨#[]⟩ := by simp [textOf, hS, catD]
  rw [e, this]
  show ((0 : Nat) : Int) + n.size = n.size
  omega
end Go.Proofs.Ytlfnfpdipghdiaa

/- Pages that were let go are ok: plain. -/
set_option linter.unusedVariables false
set_option linter.unusedSimpArgs false
namespace Go.Proofs.Ytlfnfpdipghdiaa
open Go Go.Av

theorem ch_congr {e : Int → Prop} {ps qs : List Pg} : ∀ {r : List Nat} {a l : Int}, Ch e ps r a l → (∀ i, i ∈ r → qs[i]? = ps[i]?) → Ch e qs r a l
  | [], a, l, h, _ => h
  | i :: r, a, l, ⟨h1, h2, p, h3, h4, h5, h6⟩, hq => ⟨h1, h2, p, by rw [hq i List.mem_cons_self]; exact h3, h4, h5, ch_congr h6 fun k hk => hq k (List.mem_cons_of_mem _ hk)⟩

theorem dropPs_get {ps : List Pg} : ∀ {l : List Nat} {i : Nat}, (dropPs ps l)[i]? = if i ∈ l ∧ i < ps.length then some zeroPg else ps[i]? := by
  intro l
  induction l generalizing ps with
  | nil => intro i; simp [dropPs]
  | cons a r ih =>
    intro i
    have : dropPs ps (a :: r) = dropPs (ps.set a zeroPg) r := rfl
    rw [this, ih, List.length_set]
    by_cases h1 : i ∈ r ∧ i < ps.length
    · rw [if_pos h1, if_pos ⟨List.mem_cons_of_mem _ h1.1, h1.2⟩]
    · rw [if_neg h1]
      by_cases h2 : i = a
      · subst h2
        by_cases h3 : i < ps.length
        · rw [if_pos ⟨List.mem_cons_self, h3⟩, List.getElem?_set_self h3]
        · rw [if_neg fun h => h3 h.2, List.getElem?_eq_none (by rw [List.length_set]; omega), List.getElem?_eq_none (by omega)]
      · rw [List.getElem?_set_ne (Ne.symm h2)]
        have : ¬ (i ∈ a :: r ∧ i < ps.length) := fun h => by
          rcases List.mem_cons.1 h.1 with e | e
          · exact h2 e
          · exact h1 ⟨e, h.2⟩
        rw [if_neg this]

theorem lsOf_append {c : Pn → Option (List Nat)} (a b : List Pn) : lsOf c (a ++ b) = lsOf c a ++ lsOf c b := by simp [lsOf]

section
variable {x : Pgs} {j : Nat} {n : Pn} {r : List Nat}
theorem ls_split (hj : x.2[j]? = some n) (hr : chS x.1 n = some r) : lsOf (chS x.1) x.2 = lsOf (chS x.1) (x.2.take j) ++ (r ++ lsOf (chS x.1) (x.2.drop (j + 1))) := by
  have h1 : x.2 = x.2.take j ++ (n :: x.2.drop (j + 1)) := by
    have hlt := (List.getElem?_eq_some_iff.1 hj).1
    have e : x.2[j] = n := (List.getElem?_eq_some_iff.1 hj).2
    rw [← e, ← List.drop_eq_getElem_cons hlt, List.take_append_drop]
  conv => lhs; rw [h1]
  rw [lsOf_append]
  congr 1
  have : lsOf (chS x.1) (n :: x.2.drop (j + 1)) = (chS x.1 n).getD [] ++ lsOf (chS x.1) (x.2.drop (j + 1)) := by simp [lsOf]
  rw [this, hr, Option.getD_some]

theorem mem_rest {ns : List Pn} {m : Pn} (h : m ∈ ns.take j ++ ns.drop (j + 1)) : m ∈ ns := by
  rcases List.mem_append.1 h with h | h
  · exact List.mem_of_mem_take h
  · exact List.mem_of_mem_drop h

/-- A name that stays: its pages are as they were. -/
theorem chain_rest (hok : OkS x) (hj : x.2[j]? = some n) (hr : chS x.1 n = some r) {m : Pn} (hm : m ∈ x.2.take j ++ x.2.drop (j + 1)) : chS (dropPs x.1 r) m = chS x.1 m := by
  obtain ⟨i, hi⟩ := List.getElem?_of_mem (mem_rest hm)
  obtain ⟨s, _, hs⟩ := hok.chI hi
  rw [hs]
  have he : ∀ a : Int, a < 0 → a < 0 := fun a h => h
  refine chOf_some (e := fun a => a < 0) he (ch_congr (chS_chain hs) fun k hk => ?_) trivial
  rw [dropPs_get, if_neg]
  rintro ⟨hkr, _⟩
  have hnd := hok.2.2.2.1
  rw [ls_split hj hr] at hnd
  have hks : k ∈ lsOf (chS x.1) (x.2.take j) ∨ k ∈ lsOf (chS x.1) (x.2.drop (j + 1)) := by
    rcases List.mem_append.1 hm with h | h
    · exact .inl (lsOf_mem.2 ⟨m, h, s, hs, hk⟩)
    · exact .inr (lsOf_mem.2 ⟨m, h, s, hs, hk⟩)
  have h1 := List.nodup_append.1 hnd
  rcases hks with h | h
  · exact h1.2.2 k h k (List.mem_append_left _ hkr) rfl
  · exact (List.nodup_append.1 h1.2.1).2.2 k hkr k h rfl

theorem ls_rest (hok : OkS x) (hj : x.2[j]? = some n) (hr : chS x.1 n = some r) : lsOf (chS (dropPs x.1 r)) (x.2.take j ++ x.2.drop (j + 1)) = lsOf (chS x.1) (x.2.take j) ++ lsOf (chS x.1) (x.2.drop (j + 1)) := by
  rw [← lsOf_append]
  exact lsOf_congr fun m hm => chain_rest hok hj hr hm

theorem rest_get {ns : List Pn} {i : Nat} (hj : j < ns.length) : (ns.take j ++ ns.drop (j + 1))[i]? = if i < j then ns[i]? else ns[i + 1]? := by
  have htl : (ns.take j).length = j := by rw [List.length_take]; omega
  by_cases h : i < j
  · rw [if_pos h, List.getElem?_append_left (by omega), List.getElem?_take_of_lt h]
  · rw [if_neg h, List.getElem?_append_right (by omega), List.getElem?_drop, htl]
    congr 1; omega

theorem drop_ok (hok : OkS x) (hj : x.2[j]? = some n) : OkS (dropX x j n) := by
  obtain ⟨r, hI, hr⟩ := hok.chI hj
  have hjl := (List.getElem?_eq_some_iff.1 hj).1
  have hX : dropX x j n = (dropPs x.1 r, x.2.take j ++ x.2.drop (j + 1)) := by simp [dropX, hr]
  rw [hX]
  have hnd := hok.2.2.2.1
  rw [ls_split hj hr] at hnd
  have h1 := List.nodup_append.1 hnd
  have h2 := List.nodup_append.1 h1.2.1
  have asc : ∀ {i j : Nat} {a b : Pn}, i < j → x.2[i]? = some a → x.2[j]? = some b → strLt a.name b.name = true := fun g1 g2 g3 => names_asc (fun j n hj => (hok.2.2.1 j n hj).1.2.1) g1 g2 g3
  have hlen : (dropPs x.1 r).length = 96 := by rw [dropPs_len]; exact hok.1
  refine ⟨hlen, by have := hok.2.1; simp only [List.length_append, List.length_take, List.length_drop]; omega, fun i m hm => ?_, ?_, fun i p hp => ?_⟩
  · have hmm : m ∈ x.2.take j ++ x.2.drop (j + 1) := List.mem_of_getElem? hm
    obtain ⟨k, hk⟩ := List.getElem?_of_mem (mem_rest hmm)
    obtain ⟨g1, g2, g3⟩ := hok.2.2.1 k m hk
    refine ⟨⟨g1.1, ?_, g1.2.2⟩, g2, by rw [chain_rest hok hj hr hmm]; exact g3⟩
    simp only at hm
    rw [rest_get hjl] at hm
    cases i with
    | zero => rfl
    | succ i =>
      simp only [prevN]
      rw [rest_get hjl]
      split at hm
      · rename_i h
        rw [if_pos (by omega)]
        have hc := List.getElem?_eq_getElem (show i < x.2.length by omega)
        rw [hc]
        exact asc (by omega) hc hm
      · by_cases h : i < j
        · rw [if_pos h]
          have hc := List.getElem?_eq_getElem (show i < x.2.length by omega)
          rw [hc]
          exact asc (by omega) hc hm
        · rw [if_neg h]
          have hlt := (List.getElem?_eq_some_iff.1 hm).1
          have hc := List.getElem?_eq_getElem (show i + 1 < x.2.length by omega)
          rw [hc]
          exact asc (by omega) hc hm
  · show (lsOf (chS (dropPs x.1 r)) (x.2.take j ++ x.2.drop (j + 1))).Nodup
    rw [ls_rest hok hj hr]
    exact List.nodup_append.2 ⟨h1.1, h2.2.1, fun a ha b hb => h1.2.2 a ha b (List.mem_append_right _ hb)⟩
  · simp only at hp ⊢
    rw [ls_rest hok hj hr]
    rw [dropPs_get] at hp
    by_cases hir : i ∈ r ∧ i < x.1.length
    · rw [if_pos hir] at hp
      cases hp
      refine ⟨⟨fun h => (by cases h), fun h => ?_⟩, fun _ => ⟨rfl, rfl⟩, by show (-1 : Int) ≤ -1; omega⟩
      exfalso
      rcases List.mem_append.1 h with h | h
      · exact h1.2.2 i h i (List.mem_append_left _ hir.1) rfl
      · exact h2.2.2 i hir.1 i h rfl
    · rw [if_neg hir] at hp
      obtain ⟨g1, g2, g3⟩ := hok.2.2.2.2 i p hp
      refine ⟨g1.trans ?_, g2, g3⟩
      have hlt := (List.getElem?_eq_some_iff.1 hp).1
      rw [ls_split hj hr]
      simp only [List.mem_append]
      constructor
      · rintro (h | h | h)
        · exact .inl h
        · exact absurd ⟨h, hlt⟩ hir
        · exact .inr h
      · rintro (h | h)
        · exact .inl h
        · exact .inr (.inr h)

theorem drop_gone (hok : OkS x) (hj : x.2[j]? = some n) : pnIdx (dropX x j n).2 n.name = none := by
  have hjl := (List.getElem?_eq_some_iff.1 hj).1
  have asc : ∀ {i j : Nat} {a b : Pn}, i < j → x.2[i]? = some a → x.2[j]? = some b → strLt a.name b.name = true := fun g1 g2 g3 => names_asc (fun j n hj => (hok.2.2.1 j n hj).1.2.1) g1 g2 g3
  refine pnIdx_none fun i y hy he => ?_
  have hy' : (x.2.take j ++ x.2.drop (j + 1))[i]? = some y := hy
  rw [rest_get hjl] at hy'
  split at hy'
  · have := asc (by omega) hy' hj
    rw [he, strLt_irrefl] at this; cases this
  · have := asc (show j < i + 1 by omega) hj hy'
    rw [he, strLt_irrefl] at this; cases this

theorem drop_free (hok : OkS x) (hj : x.2[j]? = some n) : freeN (dropX x j n).1 = freeN x.1 + ((chS x.1 n).getD []).length := by
  obtain ⟨r, hI, hr⟩ := hok.chI hj
  have h1 := free_count hok
  have h2 := free_count (drop_ok hok hj)
  have hX : dropX x j n = (dropPs x.1 r, x.2.take j ++ x.2.drop (j + 1)) := by simp [dropX, hr]
  rw [hX] at h2 ⊢
  have h3 := ls_rest hok hj hr
  have h4 := ls_split hj hr
  simp only at h2 ⊢
  rw [h3, List.length_append] at h2
  rw [h4, List.length_append, List.length_append] at h1
  rw [hr, Option.getD_some]
  omega
end
end Go.Proofs.Ytlfnfpdipghdiaa

/- A text that is kept in pages that are not used: pure. -/
set_option linter.unusedVariables false
set_option linter.unusedSimpArgs false
set_option maxRecDepth 20000
namespace Go.Proofs.Ytlfnfpdipghdiaa
open Go Go.Av

/-- The page of a number of a text's chain. -/
def keepPg (text : ByteArray) (ks : List Nat) (t : Nat) : Pg := ⟨true, text.extract (40 * t) (min (40 * (t + 1)) text.size), match ks[t + 1]? with | some k => (k : Int) | none => -1⟩
def firstK (ks : List Nat) (t : Nat) : Int := match ks[t]? with | some k => (k : Int) | none => -1
/-- Pages in which a text was kept. -/
structure KP (ps0 : List Pg) (text : ByteArray) (ks : List Nat) (ps : List Pg) : Prop where
  len : ps.length = ps0.length
  other : ∀ j, j ∉ ks → ps[j]? = ps0[j]?
  here : ∀ t k, ks[t]? = some k → ps[k]? = some (keepPg text ks t)
theorem keep_size {text : ByteArray} {ks : List Nat} {t : Nat} : (keepPg text ks t).data.size = min 40 (text.size - 40 * t) := by
  show (text.extract _ _).size = _
  rw [ByteArray.size_extract]; omega
theorem keep_chain {ps0 ps : List Pg} {text : ByteArray} {ks : List Nat} (h : KP ps0 text ks ps) (hn : text.size ≤ 40 * ks.length) (hn2 : 40 * ks.length < text.size + 40) : ∀ (m t : Nat), m + t = ks.length → Ch (fun a => a < 0) ps (ks.drop t) (firstK ks t) ((text.size - 40 * t : Nat) : Int)
  | 0, t, ht => by
    have e : ks.drop t = [] := List.drop_eq_nil_of_le (by omega)
    have e2 : firstK ks t = -1 := by unfold firstK; rw [List.getElem?_eq_none (by omega)]
    rw [e, e2]
    exact ⟨by show (-1 : Int) < 0; omega, by omega⟩
  | m + 1, t, ht => by
    have hlt : t < ks.length := by omega
    have hk := List.getElem?_eq_getElem hlt
    rw [List.drop_eq_getElem_cons hlt]
    generalize ks[t] = k at hk
    have e2 : firstK ks t = k := by unfold firstK; rw [hk]
    refine ⟨e2, by omega, keepPg text ks t, h.here t k hk, rfl, by rw [keep_size]; omega, ?_⟩
    have ih := keep_chain h hn hn2 m (t + 1) (by omega)
    have e3 : (((text.size - 40 * t : Nat) : Int) - min 40 ((text.size - 40 * t : Nat) : Int)) = ((text.size - 40 * (t + 1) : Nat) : Int) := by omega
    rw [e3]
    exact ih
/-- The name goes in where it belongs. -/
def putN (ns : List Pn) (k : Nat) (n : Pn) : List Pn := ns.take k ++ n :: ns.drop k
theorem putN_get {ns : List Pn} {k : Nat} {n : Pn} (hk : k ≤ ns.length) (i : Nat) : (putN ns k n)[i]? = if i < k then ns[i]? else if i = k then some n else ns[i - 1]? := by
  unfold putN
  have hl : (ns.take k).length = k := by rw [List.length_take]; omega
  by_cases h : i < k
  · rw [if_pos h, List.getElem?_append_left (by omega), List.getElem?_take_of_lt h]
  · rw [if_neg h, List.getElem?_append_right (by omega), hl]
    by_cases e : i = k
    · rw [if_pos e, e, Nat.sub_self]; rfl
    · rw [if_neg e, show i - k = (i - k - 1) + 1 by omega, List.getElem?_cons_succ, List.getElem?_drop]
      congr 1; omega
theorem keep_ok {x : Pgs} {ps : List Pg} {text nm : ByteArray} {ks : List Nat} {k : Nat} (hok : OkS x) (hnm : nameOk nm = true) (h16 : x.2.length < 16) (hs : text.size ≤ 3000) (h : KP x.1 text ks ps) (hn : text.size ≤ 40 * ks.length) (hn2 : 40 * ks.length < text.size + 40)
    (hnd : ks.Nodup) (hfree : ∀ i, i ∈ ks → ∃ p, x.1[i]? = some p ∧ p.used = false) (hk : k ≤ x.2.length) (hlt : ∀ i n, i < k → x.2[i]? = some n → strLt n.name nm = true) (hgt : ∀ n, x.2[k]? = some n → strLt nm n.name = true) :
    OkS (ps, putN x.2 k ⟨nm, firstK ks 0, (text.size : Nat)⟩) ∧ chS ps ⟨nm, firstK ks 0, (text.size : Nat)⟩ = some ks := by
  have he : ∀ a : Int, a < 0 → a < 0 := fun a h => h
  have hchn : Ch (fun a => a < 0) ps ks (firstK ks 0) (text.size : Nat) := by
    have := keep_chain h hn hn2 ks.length 0 (by omega)
    simpa using this
  have hnew : chS ps ⟨nm, firstK ks 0, (text.size : Nat)⟩ = some ks := chOf_some he hchn trivial
  have hfr : ∀ i, i ∈ lsOf (chS x.1) x.2 → i ∉ ks := fun i hi hi' => by
    obtain ⟨p, hp, hu⟩ := hfree i hi'
    have := ((hok.2.2.2.2 i p hp).1).2 hi
    rw [hu] at this; cases this
  have hold : ∀ m, m ∈ x.2 → chS ps m = chS x.1 m := fun m hm => by
    obtain ⟨i, hi⟩ := List.getElem?_of_mem hm
    obtain ⟨s, _, hs'⟩ := hok.chI hi
    rw [hs']
    refine chOf_some he (ch_congr (chS_chain hs') fun i hi => h.other i (hfr i (lsOf_mem.2 ⟨m, hm, s, hs', hi⟩))) trivial
  have hls : lsOf (chS x.1) x.2 = lsOf (chS x.1) (x.2.take k) ++ lsOf (chS x.1) (x.2.drop k) := by rw [← lsOf_append, List.take_append_drop]
  have hls' : lsOf (chS ps) (putN x.2 k ⟨nm, firstK ks 0, (text.size : Nat)⟩) = lsOf (chS x.1) (x.2.take k) ++ (ks ++ lsOf (chS x.1) (x.2.drop k)) := by
    unfold putN
    rw [lsOf_append, lsOf_congr (fun m hm => hold m (List.mem_of_mem_take hm))]
    congr 1
    have e : ∀ l, lsOf (chS ps) (⟨nm, firstK ks 0, (text.size : Nat)⟩ :: l) = ks ++ lsOf (chS ps) l := fun l => by
      unfold lsOf
      rw [List.map_cons, List.flatten_cons, hnew, Option.getD_some]
    rw [e, lsOf_congr (fun m hm => hold m (List.mem_of_mem_drop hm))]
  have asc : ∀ {i j : Nat} {a b : Pn}, i < j → x.2[i]? = some a → x.2[j]? = some b → strLt a.name b.name = true := fun g1 g2 g3 => names_asc (fun j n hj => (hok.2.2.1 j n hj).1.2.1) g1 g2 g3
  have hnd0 := hok.2.2.2.1
  rw [hls] at hnd0
  have h1 := List.nodup_append.1 hnd0
  have hl1 : ∀ i, i ∈ lsOf (chS x.1) (x.2.take k) → i ∉ ks := fun i hi => hfr i (by rw [hls]; exact List.mem_append_left _ hi)
  have hl2 : ∀ i, i ∈ lsOf (chS x.1) (x.2.drop k) → i ∉ ks := fun i hi => hfr i (by rw [hls]; exact List.mem_append_right _ hi)
  refine ⟨⟨by show ps.length = 96; rw [h.len]; exact hok.1, by show (putN _ _ _).length ≤ 16; unfold putN; simp only [List.length_append, List.length_take, List.length_cons, List.length_drop]; omega, fun j n hj => ?_, ?_, fun i p hp => ?_⟩, hnew⟩
  · have hj : (putN x.2 k ⟨nm, firstK ks 0, (text.size : Nat)⟩)[j]? = some n := hj
    rw [putN_get hk] at hj
    have hf : -1 ≤ firstK ks 0 := by unfold firstK; split <;> omega
    have prev : ∀ {j : Nat} {a : Pn}, (∀ y, (putN x.2 k ⟨nm, firstK ks 0, (text.size : Nat)⟩)[j]? = some y → strLt y.name a.name = true) → prevN (putN x.2 k ⟨nm, firstK ks 0, (text.size : Nat)⟩) (j + 1) a = true := fun {j a} hy => by
      simp only [prevN]
      cases hc : (putN x.2 k ⟨nm, firstK ks 0, (text.size : Nat)⟩)[j]? with
      | none => rfl
      | some y => exact hy y hc
    by_cases c1 : j < k
    · rw [if_pos c1] at hj
      obtain ⟨g1, g2, g3⟩ := hok.2.2.1 j n hj
      refine ⟨⟨g1.1, ?_, g1.2.2⟩, g2, by show (chS ps n).isSome = true; rw [hold n (List.mem_of_getElem? hj)]; exact g3⟩
      cases j with
      | zero => rfl
      | succ j =>
        refine prev fun y hy => ?_
        rw [putN_get hk, if_pos (by omega)] at hy
        exact asc (by omega) hy hj
    · rw [if_neg c1] at hj
      by_cases c2 : j = k
      · rw [if_pos c2] at hj
        cases hj
        refine ⟨⟨hnm, ?_, by simp only [inB, decide_eq_true_eq]; omega⟩, hf, by show (chS ps _).isSome = true; rw [hnew]; rfl⟩
        cases j with
        | zero => rfl
        | succ j =>
          refine prev fun y hy => ?_
          rw [putN_get hk, if_pos (by omega)] at hy
          exact hlt j y (by omega) hy
      · rw [if_neg c2] at hj
        obtain ⟨g1, g2, g3⟩ := hok.2.2.1 (j - 1) n hj
        refine ⟨⟨g1.1, ?_, g1.2.2⟩, g2, by show (chS ps n).isSome = true; rw [hold n (List.mem_of_getElem? hj)]; exact g3⟩
        cases j with
        | zero => rfl
        | succ j =>
          refine prev fun y hy => ?_
          rw [putN_get hk, if_neg (by omega)] at hy
          have hj : x.2[j]? = some n := hj
          by_cases c3 : j = k
          · rw [if_pos c3] at hy
            cases hy
            exact hgt n (c3 ▸ hj)
          · rw [if_neg c3] at hy
            exact asc (by omega) hy hj
  · show (lsOf (chS ps) _).Nodup
    rw [hls']
    refine List.nodup_append.2 ⟨h1.1, List.nodup_append.2 ⟨hnd, h1.2.1, fun a ha b hb e => hl2 b hb (e ▸ ha)⟩, fun a ha b hb e => ?_⟩
    rcases List.mem_append.1 hb with hb | hb
    · exact hl1 a ha (e ▸ hb)
    · exact h1.2.2 a ha b hb e
  · have hp : ps[i]? = some p := hp
    show (p.used = true ↔ i ∈ lsOf (chS ps) _) ∧ _
    rw [hls']
    by_cases hi : i ∈ ks
    · obtain ⟨t, ht⟩ := List.getElem?_of_mem hi
      have := h.here t i ht
      rw [hp] at this
      cases this
      refine ⟨⟨fun _ => List.mem_append_right _ (List.mem_append_left _ hi), fun _ => rfl⟩, (fun h => (by cases h)), ?_⟩
      show -1 ≤ (keepPg text ks t).next
      unfold keepPg
      simp only
      split <;> omega
    · rw [h.other i hi] at hp
      obtain ⟨g1, g2, g3⟩ := hok.2.2.2.2 i p hp
      refine ⟨g1.trans ?_, g2, g3⟩
      rw [hls]
      simp only [List.mem_append]
      constructor
      · rintro (h | h)
        · exact .inl h
        · exact .inr (.inr h)
      · rintro (h | h | h)
        · exact .inl h
        · exact absurd h hi
        · exact .inr h

/-! ### Page by page -/
theorem KP.start {ps : List Pg} {text : ByteArray} : KP ps text [] ps := ⟨rfl, fun _ _ => rfl, fun t k h => by simp at h⟩
/-- One page more: the page is written, then the one before it leads to it. -/
theorem KP.snoc {ps0 ps : List Pg} {text : ByteArray} {ks : List Nat} {i : Nat} (h : KP ps0 text ks ps) (hi : i ∉ ks) (hl : i < ps0.length) (hnd : ks.Nodup) :
    KP ps0 text (ks ++ [i]) (match ks.getLast? with
      | none => ps.set i ⟨true, text.extract (40 * ks.length) (min (40 * (ks.length + 1)) text.size), -1⟩
      | some l => (ps.set i ⟨true, text.extract (40 * ks.length) (min (40 * (ks.length + 1)) text.size), -1⟩).set l (keepPg text (ks ++ [i]) (ks.length - 1))) := by
  have hil : i < ps.length := by rw [h.len]; exact hl
  have hpg : ∀ t, t + 1 < ks.length → keepPg text (ks ++ [i]) t = keepPg text ks t := fun t ht => by
    unfold keepPg
    rw [List.getElem?_append_left ht]
  have hlastpg : keepPg text (ks ++ [i]) ks.length = ⟨true, text.extract (40 * ks.length) (min (40 * (ks.length + 1)) text.size), -1⟩ := by
    unfold keepPg
    rw [List.getElem?_eq_none (by simp)]
  cases hg : ks.getLast? with
  | none =>
    have e : ks = [] := List.getLast?_eq_none_iff.1 hg
    subst e
    simp only
    refine ⟨by rw [List.length_set]; exact h.len, fun j hj => ?_, fun t k ht => ?_⟩
    · have : j ≠ i := fun e => hj (by simp [e])
      rw [List.getElem?_set_ne (Ne.symm this)]
      exact h.other j (by simp)
    · cases t with
      | zero =>
        simp at ht
        subst ht
        rw [List.getElem?_set_self hil, ← hlastpg]; rfl
      | succ t => simp at ht
  | some l =>
    simp only
    have hne : ks ≠ [] := fun e => by rw [e] at hg; cases hg
    have hpos : 0 < ks.length := List.length_pos_iff.2 hne
    have hlast : ks[ks.length - 1]? = some l := by rw [← List.getLast?_eq_getElem?]; exact hg
    have hlm : l ∈ ks := List.mem_of_getElem? hlast
    have hli : l ≠ i := fun e => hi (e ▸ hlm)
    have hll : l < ps.length := by
      have := h.here _ l hlast
      exact (List.getElem?_eq_some_iff.1 this).1
    refine ⟨by rw [List.length_set, List.length_set]; exact h.len, fun j hj => ?_, fun t k ht => ?_⟩
    · have h1 : j ≠ i := fun e => hj (by simp [e])
      have h2 : j ≠ l := fun e => hj (by simp [e, hlm])
      rw [List.getElem?_set_ne (Ne.symm h2), List.getElem?_set_ne (Ne.symm h1)]
      exact h.other j fun e => hj (List.mem_append_left _ e)
    · by_cases c1 : t < ks.length
      · rw [List.getElem?_append_left c1] at ht
        by_cases c2 : t = ks.length - 1
        · rw [← c2] at hlast
          rw [hlast] at ht; cases ht
          rw [List.getElem?_set_self (by rw [List.length_set]; exact hll), c2]
        · have hkl : k ≠ l := fun e => by
            subst e
            have e1 := List.getElem?_eq_some_iff.1 ht
            have e2 := List.getElem?_eq_some_iff.1 hlast
            obtain ⟨b1, b2⟩ := e1
            obtain ⟨d1, d2⟩ := e2
            rcases Nat.lt_or_gt_of_ne c2 with c | c
            · exact List.pairwise_iff_getElem.1 hnd _ _ b1 d1 c (b2.trans d2.symm)
            · exact List.pairwise_iff_getElem.1 hnd _ _ d1 b1 c (d2.trans b2.symm)
          have hki : k ≠ i := fun e => hi (e ▸ List.mem_of_getElem? ht)
          rw [List.getElem?_set_ne (Ne.symm hkl), List.getElem?_set_ne (Ne.symm hki), h.here t k ht, hpg t (by omega)]
      · have htl := (List.getElem?_eq_some_iff.1 ht).1
        rw [List.length_append, List.length_singleton] at htl
        have e : t = ks.length := by omega
        subst e
        rw [List.getElem?_append_right (by omega), Nat.sub_self] at ht
        cases ht
        rw [List.getElem?_set_ne hli, List.getElem?_set_self hil, hlastpg]
end Go.Proofs.Ytlfnfpdipghdiaa

/- Texts as lists of bytes; what is cut at a byte; decimals. Plain. -/
set_option linter.unusedVariables false
set_option linter.unusedSimpArgs false
namespace Go.Av
open Go Go.RowKit

abbrev bl (s : ByteArray) : List UInt8 := s.data.toList
def ofL (l : List UInt8) : ByteArray := ⟨l.toArray⟩
theorem bl_ofL (l : List UInt8) : bl (ofL l) = l := rfl
theorem bl_inj {a b : ByteArray} (h : bl a = bl b) : a = b := by
  cases a; cases b
  simp only [ByteArray.mk.injEq]
  exact Array.toList_inj.1 h
theorem size_bl (s : ByteArray) : (bl s).length = s.size := by
  show s.data.toList.length = s.data.size
  simp
theorem size_ofL (l : List UInt8) : (ofL l).size = l.length := by rw [← size_bl, bl_ofL]
theorem bl_append (a b : ByteArray) : bl (a ++ b) = bl a ++ bl b := by
  show (a ++ b).data.toList = _
  rw [ByteArray.data_append, Array.toList_append]
theorem ofL_append (a b : List UInt8) : ofL a ++ ofL b = ofL (a ++ b) := bl_inj (by rw [bl_append, bl_ofL, bl_ofL, bl_ofL])
theorem bl_extract (s : ByteArray) (i j : Nat) : bl (s.extract i j) = ((bl s).drop i).take (j - i) := by
  simp [bl, ByteArray.data_extract, Array.toList_extract, List.extract_eq_take_drop]
theorem bl_byte (n : Nat) : bl (strOfNums [((n % 256 : Nat) : Int)]) = [UInt8.ofNat n] := by
  simp only [bl, strOfNums, List.map_cons, List.map_nil]
  congr 1
  apply UInt8.toNat_inj.1
  simp
  omega

/-! ### Decimals -/
def dig (n : Nat) : UInt8 := UInt8.ofNat (48 + n % 10)
def decL (k : Nat) : List UInt8 := if h : k < 10 then [dig k] else decL (k / 10) ++ [dig k]
termination_by k
decreasing_by omega
theorem decL_small {k : Nat} (h : k < 10) : decL k = [dig k] := by rw [decL, dif_pos h]
theorem decL_big {k : Nat} (h : ¬ k < 10) : decL k = decL (k / 10) ++ [dig k] := by rw [decL, dif_neg h]
theorem decL_len (k : Nat) : 1 ≤ (decL k).length ∧ (decL k).length ≤ k / 10 + 1 := by
  induction k using Nat.strongRecOn with
  | _ k ih =>
    by_cases h : k < 10
    · rw [decL_small h]; simp
    · rw [decL_big h]
      have := ih (k / 10) (by omega)
      simp only [List.length_append, List.length_singleton]
      omega
/-- A number's figures. -/
def decN (k : Nat) : ByteArray := ofL (decL k)
theorem decN_size (k : Nat) : 1 ≤ (decN k).size ∧ (decN k).size ≤ k / 10 + 1 := by
  rw [decN, size_ofL]; exact decL_len k
end Go.Av

/- The pages that are not used, in order; what a text takes of them: pure. -/
set_option linter.unusedVariables false
set_option linter.unusedSimpArgs false
set_option maxRecDepth 20000
namespace Go.Proofs.Ytlfnfpdipghdiaa
open Go Go.Av

def isFree (ps : List Pg) (j : Nat) : Bool := match ps[j]? with | some p => !p.used | none => false
def freeL (ps : List Pg) (i : Nat) : List Nat := (List.range i).filter (isFree ps)
theorem freeL_succ (ps : List Pg) (i : Nat) : freeL ps (i + 1) = if isFree ps i = true then freeL ps i ++ [i] else freeL ps i := by
  unfold freeL
  rw [List.range_succ, List.filter_append]
  by_cases h : isFree ps i = true
  · rw [if_pos h, List.filter_cons_of_pos h, List.filter_nil]
  · rw [if_neg h, List.filter_cons_of_neg h, List.filter_nil, List.append_nil]
theorem freeL_mem {ps : List Pg} {i j : Nat} (h : j ∈ freeL ps i) : j < i ∧ ∃ p, ps[j]? = some p ∧ p.used = false := by
  obtain ⟨h1, h2⟩ := List.mem_filter.1 h
  refine ⟨List.mem_range.1 h1, ?_⟩
  unfold isFree at h2
  split at h2
  · rename_i p hp; exact ⟨p, hp, by simpa using h2⟩
  · cases h2
theorem freeL_nodup (ps : List Pg) (i : Nat) : (freeL ps i).Nodup := List.Pairwise.filter _ List.nodup_range
theorem freeL_len (ps : List Pg) : (freeL ps ps.length).length = freeN ps := by
  have h1 : freeN ps + ((List.range ps.length).filter fun i => match ps[i]? with | some p => p.used | none => false).length = ps.length := free_sum ps
  have h2 : ∀ (l : List Nat) (f g : Nat → Bool), (∀ i, i ∈ l → f i = !g i) → (l.filter f).length + (l.filter g).length = l.length := fun l f g => by
    induction l with
    | nil => intro _; rfl
    | cons a r ih =>
      intro h
      have ih := ih fun i hi => h i (List.mem_cons_of_mem _ hi)
      have ha := h a List.mem_cons_self
      cases hg : g a with
      | true =>
        rw [hg] at ha
        rw [List.filter_cons_of_neg (by rw [ha]; simp), List.filter_cons_of_pos hg, List.length_cons, List.length_cons]; omega
      | false =>
        rw [hg] at ha
        rw [List.filter_cons_of_pos (by rw [ha]; rfl), List.filter_cons_of_neg (by rw [hg]; simp), List.length_cons, List.length_cons]; omega
  have h3 := h2 (List.range ps.length) (isFree ps) (fun i => match ps[i]? with | some p => p.used | none => false) fun i hi => by
    have hc := List.getElem?_eq_getElem (List.mem_range.1 hi)
    unfold isFree
    rw [hc]
  rw [List.length_range] at h3
  unfold freeL
  omega
/-- What is left of a text behind so many pages. -/
def leftK (text : ByteArray) (n : Nat) : ByteArray := text.extract (min (40 * n) text.size) text.size
theorem leftK_size (text : ByteArray) (n : Nat) : (leftK text n).size = text.size - 40 * n := by unfold leftK; rw [ByteArray.size_extract]; omega
theorem leftK_zero (text : ByteArray) : leftK text 0 = text := by
  unfold leftK
  apply bl_inj
  rw [bl_extract, Nat.mul_zero, Nat.zero_min, List.drop_zero, Nat.sub_zero, List.take_of_length_le (by rw [size_bl]; omega)]
theorem leftK_head {text : ByteArray} {n : Nat} (h : 40 * n < text.size) : (leftK text n).extract 0 (min 40 (leftK text n).size) = text.extract (40 * n) (min (40 * (n + 1)) text.size) := by
  rw [leftK_size]
  unfold leftK
  apply bl_inj
  rw [bl_extract, bl_extract, bl_extract, List.drop_zero, Nat.sub_zero, Nat.min_eq_left (show 40 * n ≤ text.size by omega), List.take_take]
  congr 1; omega
theorem leftK_tail {text : ByteArray} {n : Nat} (h : 40 * n < text.size) : (leftK text n).extract (min 40 (leftK text n).size) (leftK text n).size = leftK text (n + 1) := by
  rw [leftK_size]
  unfold leftK
  apply bl_inj
  rw [bl_extract, bl_extract, bl_extract, Nat.min_eq_left (show 40 * n ≤ text.size by omega), List.drop_take, List.drop_drop, List.take_take]
  have e : 40 * n + min 40 (text.size - 40 * n) = min (40 * (n + 1)) text.size := by omega
  rw [e]
  congr 1; omega
theorem leftK_nil {text : ByteArray} {n : Nat} : leftK text n = ⟨#[]⟩ ↔ text.size ≤ 40 * n := by
  refine ⟨fun h => ?_, fun h => ?_⟩
  · have := leftK_size text n
    rw [h] at this
    have e : (⟨#[]⟩ : ByteArray).size = 0 := rfl
    omega
  · apply bl_inj
    unfold leftK
    rw [bl_extract, Nat.min_eq_right h, List.drop_eq_nil_of_le (by rw [size_bl]; omega)]; simp
end Go.Proofs.Ytlfnfpdipghdiaa

/- What the laws on pages say, without the program: pure. -/
set_option linter.unusedVariables false
set_option linter.unusedSimpArgs false
set_option maxRecDepth 20000
namespace Go.Proofs.Ytlfnfpdipghdiaa
open Go Go.Av

theorem idx_no : ∀ {ns : List Pn} {x : ByteArray}, pnIdx ns x = none → ∀ (i : Nat) (y : Pn), ns[i]? = some y → y.name ≠ x
  | [], _, _, i, y, hy => by simp at hy
  | n :: r, x, h, i, y, hy => by
    simp only [pnIdx] at h
    split at h
    · cases h
    · rename_i hne
      cases i with
      | zero => simp at hy; rw [← hy]; exact hne
      | succ i => exact idx_no (by simpa using h) i y (by simpa using hy)
/-- Where a name that is not there belongs. -/
theorem keep_pos {ns : List Pn} {nm : ByteArray} {k : Nat} (hstop : ∀ n, ns[k]? = some n → strLt n.name nm = false) (hno : pnIdx ns nm = none) : ∀ n, ns[k]? = some n → strLt nm n.name = true := fun n hn => by
  cases h : strLt nm n.name with
  | true => rfl
  | false => exact absurd (strLt_total (hstop n hn) h) (idx_no hno k n hn)
/-- What a text needs. -/
def needK (text : ByteArray) : Nat := (text.size + 39) / 40
theorem need_size {text : ByteArray} {ks : List Nat} (h : ks.length = needK text) : text.size ≤ 40 * ks.length ∧ 40 * ks.length < text.size + 40 := by
  unfold needK at h; omega

/-! ### No page is lost -/
theorem need_chain {x : Pgs} (h : OkS x) {j : Nat} {n : Pn} (hj : x.2[j]? = some n) : ((chS x.1 n).getD []).length = needK (textOf x n) := by
  have := text_size h hj
  unfold needK; omega
theorem get_here {x : Pgs} (h : OkS x) {j : Nat} {n : Pn} (hj : x.2[j]? = some n) : getP x n.name = (textOf x n, true) := by
  unfold getP
  rw [if_pos (pagesOk_iff.2 h), idx_of_name h hj]
  show (match x.2[j]? with | some n => (textOf x n, true) | none => (⟨#[]⟩, false)) = _
  rw [hj]

/-! ### What is dropped is gone -/
theorem drop_law (x : Pgs) (name : ByteArray) :
    ((dropP x name).2 ≠ 0 ∧ (getP x name).2 = false ∧ ((dropP x name).2 = 1 ∨ (dropP x name).1 = x)) ∨
    ((dropP x name).2 = 0 ∧ (getP x name).2 = true ∧ (getP (dropP x name).1 name).2 = false ∧ pagesFree (dropP x name).1 = pagesFree x + needK (getP x name).1 ∧ pagesOk (dropP x name).1 = true) := by
  by_cases hok : pagesOk x = true
  · have hS := pagesOk_iff.1 hok
    cases hi : pnIdx x.2 name with
    | none =>
      have e1 : dropP x name = (x, 3) := by unfold dropP; rw [if_pos hok, hi]
      have e2 : getP x name = (⟨#[]⟩, false) := by unfold getP; rw [if_pos hok, hi]; rfl
      rw [e1, e2]
      exact .inl ⟨by simp, rfl, .inr rfl⟩
    | some j =>
      obtain ⟨n, hj, hn⟩ := pnIdx_some hi
      subst hn
      have e1 : dropP x n.name = (dropX x j n, 0) := by
        unfold dropP
        rw [if_pos hok, hi]
        show (match x.2[j]? with | some n => (dropX x j n, (0 : Int)) | none => (x, 3)) = _
        rw [hj]
      have hd := drop_ok hS hj
      have hd' := pagesOk_iff.2 hd
      have e3 : getP (dropX x j n) n.name = (⟨#[]⟩, false) := by unfold getP; rw [if_pos hd', drop_gone hS hj]; rfl
      rw [e1, get_here hS hj]
      refine .inr ⟨rfl, rfl, by rw [e3], ?_, hd'⟩
      simp only
      unfold pagesFree
      rw [if_pos hok, if_pos hd', drop_free hS hj, need_chain hS hj]
      omega
  · have e1 : dropP x name = (([], []), 1) := by unfold dropP; rw [if_neg hok]
    have e2 : getP x name = (⟨#[]⟩, false) := by unfold getP; rw [if_neg hok]
    rw [e1, e2]
    exact .inl ⟨by simp, rfl, .inl rfl⟩
end Go.Proofs.Ytlfnfpdipghdiaa

/- Pages into which a text was put are ok: pure. -/
set_option linter.unusedVariables false
set_option linter.unusedSimpArgs false
set_option maxRecDepth 20000
namespace Go.Proofs.Ytlfnfpdipghdiaa
open Go Go.Av

/-- When the walk over the pages is done, as many were taken as the text needs. -/
theorem keep_done {y : Pgs} {text : ByteArray} {i : Nat} (hok : OkS y) (h1 : freeL y.1 i = [] ∨ 40 * ((freeL y.1 i).length - 1) < text.size) (h2 : i = 96 ∨ text.size ≤ 40 * (freeL y.1 i).length) (hroom : needK text ≤ freeN y.1) : (freeL y.1 i).length = needK text := by
  unfold needK at hroom ⊢
  have hb : text.size ≤ 40 * (freeL y.1 i).length := by
    rcases h2 with h | h
    · have e := freeL_len y.1
      rw [hok.1] at e
      rw [h, e]; omega
    · exact h
  rcases h1 with h | h
  · rw [h] at hb ⊢
    simp only [List.length_nil] at hb ⊢; omega
  · omega
theorem put_ok {y : Pgs} {ps : List Pg} {text nm : ByteArray} {i k : Nat} (hok : OkS y) (hnm : nameOk nm = true) (h16 : y.2.length < 16) (hs : text.size ≤ 3000) (h : KP y.1 text (freeL y.1 i) ps)
    (h1 : freeL y.1 i = [] ∨ 40 * ((freeL y.1 i).length - 1) < text.size) (h2 : i = 96 ∨ text.size ≤ 40 * (freeL y.1 i).length) (hroom : needK text ≤ freeN y.1)
    (hk : k ≤ y.2.length) (hlt : ∀ i n, i < k → y.2[i]? = some n → strLt n.name nm = true) (hstop : ∀ n, y.2[k]? = some n → strLt n.name nm = false) (hno : pnIdx y.2 nm = none) :
    OkS (ps, putN y.2 k ⟨nm, firstK (freeL y.1 i) 0, (text.size : Nat)⟩) := by
  have hlen := keep_done hok h1 h2 hroom
  obtain ⟨q1, q2⟩ := need_size hlen
  exact (keep_ok hok hnm h16 hs h q1 q2 (freeL_nodup _ _) (fun j hj => (freeL_mem hj).2) hk hlt (keep_pos hstop hno)).1
/-- A page that is not used is taken. -/
theorem keep_step {ps0 ps : List Pg} {text : ByteArray} {i : Nat} (h : KP ps0 text (freeL ps0 i) ps) (hf : isFree ps0 i = true) (hl : i < ps0.length) :
    KP ps0 text (freeL ps0 (i + 1)) (match (freeL ps0 i).getLast? with
      | none => ps.set i ⟨true, text.extract (40 * (freeL ps0 i).length) (min (40 * ((freeL ps0 i).length + 1)) text.size), -1⟩
      | some l => (ps.set i ⟨true, text.extract (40 * (freeL ps0 i).length) (min (40 * ((freeL ps0 i).length + 1)) text.size), -1⟩).set l (keepPg text (freeL ps0 i ++ [i]) ((freeL ps0 i).length - 1))) := by
  rw [freeL_succ, if_pos hf]
  exact h.snoc (fun hi => by have := (freeL_mem hi).1; omega) hl (freeL_nodup _ _)
theorem keep_skip {ps0 ps : List Pg} {text : ByteArray} {i : Nat} (h : KP ps0 text (freeL ps0 i) ps) (hf : ¬ isFree ps0 i = true) : KP ps0 text (freeL ps0 (i + 1)) ps := by
  rw [freeL_succ, if_neg hf]; exact h
/-- A page that was not reached yet is as it was. -/
theorem keep_at {ps0 ps : List Pg} {text : ByteArray} {i : Nat} (h : KP ps0 text (freeL ps0 i) ps) : ps[i]? = ps0[i]? := h.other i fun hi => by have := (freeL_mem hi).1; omega
/-- What the page before it holds, and what changes there. -/
theorem keep_prev {text : ByteArray} {ks : List Nat} {i l : Nat} (hl : ks.getLast? = some l) : keepPg text (ks ++ [i]) (ks.length - 1) = { keepPg text ks (ks.length - 1) with next := (i : Int) } := by
  have hne : ks ≠ [] := fun e => by rw [e] at hl; cases hl
  have hpos : 0 < ks.length := List.length_pos_iff.2 hne
  unfold keepPg
  rw [show ks.length - 1 + 1 = ks.length by omega, List.getElem?_append_right (Nat.le_refl _), Nat.sub_self]
  rfl
end Go.Proofs.Ytlfnfpdipghdiaa

/- 'PagesDrop' by either reading, and the law. -/
set_option linter.unusedVariables false
set_option linter.unusedSimpArgs false
namespace Go.Proofs.Ytlfnfpdipghdiaa
open Go Go.Av

section
variable {w0 : World} {σ : Vw}

theorem chain_of {x : Pgs} (hok : OkS x) {j : Nat} {n : Pn} (hj : x.2[j]? = some n) : ∃ r, chI x.1 n = some r ∧ chS x.1 n = some r ∧ r.Nodup ∧ r.length ≤ 96 ∧ ∀ i, i ∈ r → i < x.1.length := by
  obtain ⟨r, hI, hS⟩ := hok.chI hj
  have hlt : ∀ i, i ∈ r → i < x.1.length := fun i hi => ch_lt (chS_chain hS) hi
  have hnd : r.Nodup := (chOf_spec hI).2
  have := nodup_len _ _ hnd hlt
  exact ⟨r, hI, hS, hnd, by rw [hok.1] at this; exact this, hlt⟩

theorem OPgs.two {F : List Nat} {es : List Value} {x : Pgs} (h : OPgs w0 σ F es x) {A : Prop} : pVal true 2 (.agg ⟨es⟩) A ↔ A := RPgs.two ((ok_pgs w0).rel _ _ _ _ h)

theorem spec_l32Drop {F : List Nat} {es : List Value} {x : Pgs} {j : Nat} {n : Pn} (h : OPgs w0 σ F es x) (hok : OkS x) (hj : x.2[j]? = some n) {R : Value → Vw → Prop}
    (hR : ∀ es' σ', KeepsBut F σ σ' → RPgs (Av.get w0 σ') es' (dropX x j n) → R (.agg ⟨es'⟩) σ') : AC Try.prog w0 n_spec_l32Drop [.agg ⟨es⟩, .int .i64 (j : Nat)] σ R := by
  refine ac_spec_l32Drop ?_
  unfold vc_spec_l32Drop
  rw [OPgs.two h]
  have hrel := (ok_pgs w0).rel _ _ _ _ h
  obtain ⟨u, v, F1, F2, rfl, h1, h2, rfl, hnd⟩ := h
  have hdis := (List.nodup_append.1 hnd).2.2
  simp only [cellOf_agg, List.getD_cons_zero, List.getD_cons_succ]
  have hv := h2.rel (ok_pn w0)
  have hjl : j < x.2.length := (List.getElem?_eq_some_iff.1 hj).1
  have h16 := hok.2.1
  refine pn_at hv hj fun g g0 g1 g2 hgood => ?_
  rw [g0, g1, g2]
  refine spec_Chain (n := n) (x := x) hrel hgood hok.1 (hok.size hj) fun c Fc s1 k1 ho hF => ?_
  obtain ⟨r, hcI, hcS, hrn, hr96, hlt⟩ := chain_of hok hj
  have hdX : dropX x j n = (dropPs x.1 r, x.2.take j ++ x.2.drop (j + 1)) := by simp [dropX, hcS]
  rw [hdX] at hR
  rw [hcS] at ho ⊢
  have ho : OSl w0 1 ON s1 Fc c r := by simpa using ho
  rw [pExtract_s rfl, pExtract_s rfl]
  have hcne : ∀ i, i ∈ Fc → i ∉ F1 := fun i hi hi' => (h1.dom (ok_pg w0) i hi').2 (hF i hi)
  have b1 := h1.frame (ok_pg w0) (k1.but_at fun b hb => (h1.dom (ok_pg w0) b hb).2)
  have b2 := h2.frame (ok_pn w0) (k1.but_at fun b hb => (h2.dom (ok_pn w0) b hb).2)
  refine loop_rule (m := r.length) (fun k l s => ∃ i, k + i = r.length ∧ KeepsBut F1 s1 s ∧ OSl w0 3 OPg s F1 u (dropPs x.1 (r.take i)) ∧ l = [.int .i64 (j : Nat), c, .int .i64 (i : Nat), u, v, .slice none 0 0, .slice none 0 0]) ?_ ⟨0, by omega, KeepsBut.refl _ _, by simpa [dropPs] using b1, rfl⟩
  rintro k l s L ⟨i, hki, hks, hos, rfl⟩ hL
  simp only [vget, List.getD_cons_zero, List.getD_cons_succ]
  have hcs := ho.frame (ok_n w0) (hks.at (fun b hb => (ho.dom (ok_n w0) b hb).2) hcne)
  have hc := hcs.rel (ok_n w0)
  rw [hc.len, pBin_lt, pIf_d]
  refine ⟨fun hi => ?_, fun hi => ?_⟩
  · have hx := List.getElem?_eq_getElem (show i < r.length by omega)
    generalize hxi : r[i]'(by omega) = q at hx
    have hq := hlt q (List.mem_of_getElem? hx)
    refine n_at hc hx fun g hg => ?_
    rw [hg]
    refine page_drop hos (by rw [dropPs_len]; exact hq) fun s' k' o' => ?_
    rw [pBin_add (by omega)]
    refine hL _ _ (k - 1) (by omega) ⟨i + 1, by omega, hks.trans k', ?_, by simp⟩
    rw [dropPs_take hx]; exact o'
  · have e : i = r.length := by omega
    subst e
    rw [List.take_length] at hos
    show pSlice 3 v none (some (.int .i64 (j : Nat))) _
    have b2' := b2.frame (ok_pn w0) (hks.at (fun b hb => (b2.dom (ok_pn w0) b hb).2) fun b hb hb' => hdis b hb' b hb rfl)
    have hv' := b2'.rel (ok_pn w0)
    refine hv'.slice (l := 0) (u := j) rfl rfl (by omega) (by omega) fun v1 hv1 => ?_
    rw [List.drop_zero] at hv1
    rw [pBin_add (by omega), show ((j : Nat) : Int) + 1 = ((j + 1 : Nat) : Int) by omega]
    refine hv'.slice (l := j + 1) (u := x.2.length) rfl rfl (by omega) (by omega) fun v2 hv2 => ?_
    rw [List.take_length] at hv2
    intro b hb1 hb2
    have kb : Keeps s (s.put b ⟨t_impl_PageName, [], 0, (0, 0)⟩) := Keeps.put hb2
    have l1 : (x.2.take j).length ≤ 16 := by rw [List.length_take]; omega
    have l2 : (x.2.drop (j + 1)).length ≤ 16 := by rw [List.length_drop]; omega
    refine OAcc.all (F := [b]) (ok_pn w0) (OAcc.new hb1) hv1 kb.le (fun es y hy => ⟨rfl, hy⟩) (by simp only [List.length_nil]; omega) (by omega) fun va Fa sa ka oa fa => ?_
    have hb0 : ∀ i, i ∈ [b] → s i = none := fun i hi => by rw [List.mem_singleton.1 hi]; exact hb2
    have ka' := ka.old kb hb0
    have hFa := fresh_in kb hb0 fa
    refine OAcc.all (ok_pn w0) oa hv2 ka'.le (fun es y hy => ⟨rfl, hy⟩) (by simp only [List.length_nil, List.nil_append]; omega) (by omega) fun vb Fb sb kk ob fb => ?_
    have kb' := kk.old ka' hFa
    rw [pVal1 (OSl.one' ob.osl), pVal_2 (OSl.one' hos) (OSl.one' ob.osl)]
    have hos' := hos.frame (ok_pg w0) (kb'.but_at fun b hb => (hos.dom (ok_pg w0) b hb).2)
    have ktot : KeepsBut (F1 ++ F2) σ sb := (k1.but.trans (hks.mono fun b hb => List.mem_append_left _ hb)).trans kb'.but
    exact hR [u, vb] sb ktot ⟨u, vb, rfl, hos'.rel (ok_pg w0), by simpa using ob.osl.rel (ok_pn w0)⟩

theorem impl_dropped {es : List Value} {x : Pgs} {name : ByteArray} {j : Nat} {n : Pn} (h : RPgs (Av.get w0 σ) es x) (hok : OkS x) (hix : pnIdx x.2 name = some j) (hj : x.2[j]? = some n) {R : Value → Vw → Prop}
    (hR : ∀ es' F σ', Keeps σ σ' → OPgs w0 σ' F es' (dropX x j n) → (∀ b, b ∈ F → σ b = none) → R (.agg ⟨es'⟩) σ') : AC Try.prog w0 n_impl_Pages_dropped [.agg ⟨es⟩, .string name] σ R := by
  refine ac_impl_Pages_dropped ?_
  unfold vc_impl_Pages_dropped
  rw [RPgs.two h]
  have h0 := h
  obtain ⟨u, v, rfl, hu, hv⟩ := h
  simp only [cellOf_agg, List.getD_cons_zero, List.getD_cons_succ]
  have hjl : j < x.2.length := (List.getElem?_eq_some_iff.1 hj).1
  have h16 := hok.2.1
  have h96 := hok.1
  refine impl_clonePages h0 (by omega) (by omega) fun es1 F s1 k1 o1 f1 => ?_
  rw [OPgs.two o1]
  obtain ⟨u1, v1, F1, F2, rfl, a1, a2, rfl, hnd⟩ := o1
  have hdis := (List.nodup_append.1 hnd).2.2
  simp only [cellOf_agg, List.getD_cons_zero, List.getD_cons_succ]
  refine impl_find (mono_pgs k1.le h0) fun s2 k2 => ?_
  rw [hix]
  show pBin Try.prog 3 .lss (.int .i64 (j : Nat)) _ _
  rw [pBin_lt, pIf_d]
  refine ⟨fun h => by omega, fun _ => ?_⟩
  have k12 := k1.trans k2
  have h2 := mono_pgs k12.le h0
  have hgood := good_fl hv hj
  refine pn_at (hv.mono k12.le fun _ _ h => h) hj fun g g0 g1 g2 _ => ?_
  rw [g0, g1, g2]
  refine impl_Chain (n := n) (x := x) h2 hgood h96 (hok.size hj) fun c Fc s3 k3 ho hF => ?_
  obtain ⟨r, hcI, hcS, hrn, hr96, hlt⟩ := chain_of hok hj
  have hdX : dropX x j n = (dropPs x.1 r, x.2.take j ++ x.2.drop (j + 1)) := by simp [dropX, hcS]
  rw [hdX] at hR
  rw [hcI] at ho ⊢
  have ho : OSl w0 1 ON s3 Fc c r := by simpa using ho
  have k123 := k12.trans k3
  have k23 := k2.trans k3
  have b1 := a1.frame (ok_pg w0) (k23.but_at fun b hb => (a1.dom (ok_pg w0) b hb).2)
  have b2 := a2.frame (ok_pn w0) (k23.but_at fun b hb => (a2.dom (ok_pn w0) b hb).2)
  have hF1 : ∀ i, i ∈ F1 → σ i = none := fun i hi => f1 i (List.mem_append_left _ hi)
  have hF2 : ∀ i, i ∈ F2 → σ i = none := fun i hi => f1 i (List.mem_append_right _ hi)
  have hcne : ∀ i, i ∈ Fc → i ∉ F1 := fun i hi hi' => (a1.dom (ok_pg w0) i hi').2 (nof k2 (hF i hi))
  rw [pExtract_s rfl, pExtract_s rfl, (ho.rel (ok_n w0)).len]
  refine loop_rule (m := r.length) (fun k l s => ∃ i, k + i = r.length ∧ KeepsBut F1 s3 s ∧ OSl w0 3 OPg s F1 u1 (dropPs x.1 (r.take i)) ∧ l = [.int .i64 (j : Nat), c, .int .i64 r.length, .int .i64 (i : Nat), .slice none 0 0, .slice none 0 0, u1, v1]) ?_ ⟨0, by omega, KeepsBut.refl _ _, by simpa [dropPs] using b1, rfl⟩
  rintro k l s L ⟨i, hki, hks, hos, rfl⟩ hL
  simp only [vget, List.getD_cons_zero, List.getD_cons_succ]
  have hcs := ho.frame (ok_n w0) (hks.at (fun b hb => (ho.dom (ok_n w0) b hb).2) hcne)
  have hc := hcs.rel (ok_n w0)
  rw [pBin_lt, pIf_d]
  refine ⟨fun hi => ?_, fun hi => ?_⟩
  · have hx := List.getElem?_eq_getElem (show i < r.length by omega)
    generalize hxi : r[i]'(by omega) = q at hx
    have hq := hlt q (List.mem_of_getElem? hx)
    refine n_at hc hx fun g hg => ?_
    rw [hg]
    refine page_drop hos (by rw [dropPs_len]; exact hq) fun s' k' o' => ?_
    rw [pBin_add (by omega)]
    refine hL _ _ (k - 1) (by omega) ⟨i + 1, by omega, hks.trans k', ?_, by simp⟩
    rw [dropPs_take hx]; exact o'
  · have e : i = r.length := by omega
    subst e
    rw [List.take_length] at hos
    have b2' := b2.frame (ok_pn w0) (hks.at (fun b hb => (b2.dom (ok_pn w0) b hb).2) fun b hb hb' => hdis b hb' b hb rfl)
    have ks : Keeps σ s := hks.old k123 hF1
    intro b hb1 hb2
    have kb : Keeps s (s.put b ⟨t_impl_PageName, [], 0, (0, 0)⟩) := Keeps.put hb2
    have c2 := b2'.frame (ok_pn w0) (kb.but_at fun b hb => (b2'.dom (ok_pn w0) b hb).2)
    have c1 := hos.frame (ok_pg w0) (kb.but_at fun b hb => (hos.dom (ok_pg w0) b hb).2)
    have ha : OAcc w0 t_impl_PageName 3 OPn (s.put b ⟨t_impl_PageName, [], 0, (0, 0)⟩) [b] (.slice (some ⟨b, 0, none⟩) 0 0) [] := OAcc.new hb1
    have hbF2 : b ∉ F2 := fun hi => (b2'.dom (ok_pn w0) b hi).2 hb2
    have hb0 : ∀ i, i ∈ [b] → s i = none := fun i hi => by rw [List.mem_singleton.1 hi]; exact hb2
    show pBin Try.prog 3 .add (.int .i64 (j : Nat)) (.int .i64 1) _
    rw [pBin_add (by omega)]
    refine ac_slices_Delete_impl_PageName_impl_PageName ?_
    have edel : ∀ (a b c : Value) (s : Vw) (R : Value → Vw → Prop), vc_slices_Delete_impl_PageName_impl_PageName w0 a b c s R = VDel Try.prog w0 3 t_impl_PageName 3 32 [.string ⟨#[]⟩, .int .i64 0, .int .i64 0] a b c s R := fun _ _ _ _ _ => by kernel_rfl
    rw [edel]
    refine OSl.del (ok_pn w0) (fun s s' f es y h => ⟨h.1, h⟩) rfl (by intro c hc; simp at hc; rcases hc with rfl | rfl <;> rfl) (by omega) c2 hjl fun v' s' k' hv' => ?_
    have ha' := ha.frame (ok_pn w0) (k'.at (fun i hi => (ha.dom (ok_pn w0) i hi).2) fun i hi hi' => hbF2 ((List.mem_singleton.1 hi) ▸ hi'))
    have kbs' : Keeps σ s' := k'.old (ks.trans kb) hF2
    have hl : (x.2.take j ++ x.2.drop (j + 1)).length ≤ 100 := by simp only [List.length_append, List.length_take, List.length_drop]; omega
    refine OAcc.all (ok_pn w0) ha' hv' (Le.refl _) (fun es y hy => ⟨rfl, hy⟩) (by simp only [List.length_nil]; omega) (by omega) fun vb Fb sb kk ob fb => ?_
    have hbσ : ∀ i, i ∈ [b] → σ i = none := fun i hi => nof ks (hb0 i hi)
    have hFb : ∀ i, i ∈ Fb → σ i = none := fun i hi => by
      rcases fb i hi with h | h
      · exact hbσ i h
      · exact nof kbs' h
    have d1 := c1.frame (ok_pg w0) (k'.at (fun i hi => (c1.dom (ok_pg w0) i hi).2) fun i hi hi' => hdis i hi i hi' rfl)
    have d2 := d1.frame (ok_pg w0) (kk.at (fun i hi => (d1.dom (ok_pg w0) i hi).2) fun i hi hi' => (hos.dom (ok_pg w0) i hi).2 (hb0 i hi'))
    rw [pVal1 (OSl.one' ob.osl), pVal_2 (OSl.one' d2) (OSl.one' ob.osl)]
    have hdF : ∀ i, i ∈ F1 → i ∉ Fb := fun i hi hi' => by
      rcases fb i hi' with h | h
      · exact (hos.dom (ok_pg w0) i hi).2 (hb0 i h)
      · exact (d1.dom (ok_pg w0) i hi).2 h
    refine hR [u1, vb] (F1 ++ Fb) sb (kk.old kbs' hbσ) ⟨u1, vb, F1, Fb, rfl, d2, by simpa using ob.osl, rfl, List.nodup_append.2 ⟨d2.2.1, ob.2.1, fun a ha b hb e => hdF a ha (e ▸ hb)⟩⟩ fun i hi => ?_
    rcases List.mem_append.1 hi with h | h
    · exact hF1 i h
    · exact hFb i h

theorem nil_pgs {σ : Vw} : OPgs w0 σ [] [.slice none 0 0, .slice none 0 0] ([], []) := ⟨_, _, [], [], rfl, ⟨by simp, by simp, .inl ⟨rfl, rfl, rfl⟩⟩, ⟨by simp, by simp, .inl ⟨rfl, rfl, rfl⟩⟩, rfl, by simp⟩

theorem spec_PagesDrop {es : List Value} {x : Pgs} {name : ByteArray} (h : RPgs (Av.get w0 σ) es x) (hx : x.1.length ≤ 1000000000000) (hy : x.2.length ≤ 1000000000000) {R : Value → Vw → Prop}
    (hR : ∀ es' F σ', Keeps σ σ' → OPgs w0 σ' F es' (dropP x name).1 → (∀ b, b ∈ F → σ b = none) → R (.tuple ⟨[.agg ⟨es'⟩, .int .i64 (dropP x name).2]⟩) σ') : AC Try.prog w0 n_spec_PagesDrop [.agg ⟨es⟩, .string name] σ R := by
  refine ac_spec_PagesDrop ?_
  unfold vc_spec_PagesDrop
  rw [RPgs.two h]
  have h0 := h
  obtain ⟨u, v, rfl, hu, hv⟩ := h
  simp only [cellOf_agg, List.getD_cons_zero, List.getD_cons_succ]
  refine spec_PagesOk h0 fun s1 k1 => ?_
  rw [pUn_not, pIf_b]
  refine ⟨fun hn => ?_, fun hn => ?_⟩
  · have e : dropP x name = (([], []), 1) := by simp at hn; simp [dropP, hn]
    rw [e] at hR
    rw [pVal_2 rfl rfl]
    exact hR _ [] s1 k1 nil_pgs (by simp)
  have hok : OkS x := pagesOk_iff.1 (by simpa using hn)
  refine spec_l32Copy (mono_pgs k1.le h0) hx hy fun es1 F s2 k2 o1 f1 => ?_
  rw [OPgs.two o1]
  have r1 := (ok_pgs w0).rel _ _ _ _ o1
  obtain ⟨a, b, rfl⟩ := RPgs.pair r1
  simp only [cellOf_agg, List.getD_cons_zero, List.getD_cons_succ]
  have hF : ∀ i, i ∈ F → σ i = none := fun i hi => nof k1 (f1 i hi)
  refine spec_l32At r1 ?_
  cases hix : pnIdx x.2 name with
  | none =>
    have e : dropP x name = (x, 3) := by simp [dropP, pagesOk_iff.2 hok, hix]
    rw [e] at hR
    show pBin Try.prog 3 .lss (.int .i64 (-1)) _ _
    rw [pBin_lt, pIf_d]
    refine ⟨fun _ => ?_, fun h => by omega⟩
    rw [OPgs.two o1]
    exact hR _ F s2 (k1.trans k2) o1 hF
  | some j =>
    obtain ⟨n, hj, _⟩ := pnIdx_some hix
    have e : dropP x name = (dropX x j n, 0) := by simp [dropP, pagesOk_iff.2 hok, hix, hj]
    rw [e] at hR
    show pBin Try.prog 3 .lss (.int .i64 (j : Nat)) _ _
    rw [pBin_lt, pIf_d]
    refine ⟨fun h => by omega, fun _ => ?_⟩
    refine spec_l32Drop o1 hok hj fun es2 s3 k3 r3 => ?_
    have k13 := k3.old (k1.trans k2) hF
    refine spec_l32Copy r3 (by rw [dropX_len.1]; exact hx) (Nat.le_trans dropX_len.2 hy) fun es3 G s4 k4 o4 f4 => ?_
    rw [OPgs.two o4]
    obtain ⟨c, d, rfl⟩ := RPgs.pair ((ok_pgs w0).rel _ _ _ _ o4)
    simp only [cellOf_agg, List.getD_cons_zero, List.getD_cons_succ]
    exact hR _ G s4 (k13.trans k4) o4 fun i hi => nof k13 (f4 i hi)

theorem impl_PagesDrop {es : List Value} {x : Pgs} {name : ByteArray} (h : RPgs (Av.get w0 σ) es x) (hx : x.1.length ≤ 1000000000000) (hy : x.2.length ≤ 1000000000000) {R : Value → Vw → Prop}
    (hR : ∀ es' F σ', Keeps σ σ' → OPgs w0 σ' F es' (dropP x name).1 → (∀ b, b ∈ F → σ b = none) → R (.tuple ⟨[.agg ⟨es'⟩, .int .i64 (dropP x name).2]⟩) σ') : AC Try.prog w0 n_impl_PagesDrop [.agg ⟨es⟩, .string name] σ R := by
  refine ac_impl_PagesDrop ?_
  unfold vc_impl_PagesDrop
  rw [RPgs.two h]
  have h0 := h
  obtain ⟨u, v, rfl, hu, hv⟩ := h
  simp only [cellOf_agg, List.getD_cons_zero, List.getD_cons_succ]
  refine impl_PagesOk h0 fun s1 k1 => ?_
  rw [pUn_not, pIf_b]
  refine ⟨fun hn => ?_, fun hn => ?_⟩
  · have e : dropP x name = (([], []), 1) := by simp at hn; simp [dropP, hn]
    rw [e] at hR
    rw [pVal_2 rfl rfl]
    exact hR _ [] s1 k1 nil_pgs (by simp)
  have hok : OkS x := pagesOk_iff.1 (by simpa using hn)
  refine impl_find (mono_pgs k1.le h0) fun s2 k2 => ?_
  have k12 := k1.trans k2
  cases hix : pnIdx x.2 name with
  | none =>
    have e : dropP x name = (x, 3) := by simp [dropP, pagesOk_iff.2 hok, hix]
    rw [e] at hR
    show pBin Try.prog 3 .lss (.int .i64 (-1)) _ _
    rw [pBin_lt, pIf_d]
    refine ⟨fun _ => ?_, fun h => by omega⟩
    refine impl_clonePages (mono_pgs k12.le h0) hx hy fun es1 F s3 k3 o1 f1 => ?_
    rw [OPgs.two o1]
    obtain ⟨c, d, rfl⟩ := RPgs.pair ((ok_pgs w0).rel _ _ _ _ o1)
    simp only [cellOf_agg, List.getD_cons_zero, List.getD_cons_succ]
    exact hR _ F s3 (k12.trans k3) o1 fun i hi => nof k12 (f1 i hi)
  | some j =>
    obtain ⟨n, hj, _⟩ := pnIdx_some hix
    have e : dropP x name = (dropX x j n, 0) := by simp [dropP, pagesOk_iff.2 hok, hix, hj]
    rw [e] at hR
    show pBin Try.prog 3 .lss (.int .i64 (j : Nat)) _ _
    rw [pBin_lt, pIf_d]
    refine ⟨fun h => by omega, fun _ => ?_⟩
    refine impl_dropped (mono_pgs k12.le h0) hok hix hj fun es1 F s3 k3 o1 f1 => ?_
    rw [OPgs.two o1]
    obtain ⟨c, d, rfl⟩ := RPgs.pair ((ok_pgs w0).rel _ _ _ _ o1)
    simp only [cellOf_agg, List.getD_cons_zero, List.getD_cons_succ]
    exact hR _ F s3 (k12.trans k3) o1 fun i hi => nof k12 (f1 i hi)

end
end Go.Proofs.Ytlfnfpdipghdiaa

/- Pages into which texts are put: by the reference's hand, as far as a draw needs it: pages that are ok go to pages that are ok. -/
set_option linter.unusedVariables false
set_option linter.unusedSimpArgs false
set_option maxRecDepth 20000
namespace Go.Proofs.Ytlfnfpdipghdiaa
open Go Go.Av

section
variable {w0 : World} {σ : Vw}

theorem spec_l32DropO {F : List Nat} {es : List Value} {x : Pgs} {j : Nat} {n : Pn} (h : OPgs w0 σ F es x) (hok : OkS x) (hj : x.2[j]? = some n) {R : Value → Vw → Prop}
    (hR : ∀ es' F' σ', KeepsBut F σ σ' → OPgs w0 σ' F' es' (dropX x j n) → (∀ i, i ∈ F' → i ∈ F ∨ σ i = none) → R (.agg ⟨es'⟩) σ') : AC Try.prog w0 n_spec_l32Drop [.agg ⟨es⟩, .int .i64 (j : Nat)] σ R := by
  refine ac_spec_l32Drop ?_
  unfold vc_spec_l32Drop
  rw [OPgs.two h]
  have hrel := (ok_pgs w0).rel _ _ _ _ h
  obtain ⟨u, v, F1, F2, rfl, h1, h2, rfl, hnd⟩ := h
  have hdis := (List.nodup_append.1 hnd).2.2
  simp only [cellOf_agg, List.getD_cons_zero, List.getD_cons_succ]
  have hv := h2.rel (ok_pn w0)
  have hjl : j < x.2.length := (List.getElem?_eq_some_iff.1 hj).1
  have h16 := hok.2.1
  refine pn_at hv hj fun g g0 g1 g2 hgood => ?_
  rw [g0, g1, g2]
  refine spec_Chain (n := n) (x := x) hrel hgood hok.1 (hok.size hj) fun c Fc s1 k1 ho hF => ?_
  obtain ⟨r, hcI, hcS, hrn, hr96, hlt⟩ := chain_of hok hj
  have hdX : dropX x j n = (dropPs x.1 r, x.2.take j ++ x.2.drop (j + 1)) := by simp [dropX, hcS]
  rw [hdX] at hR
  rw [hcS] at ho ⊢
  have ho : OSl w0 1 ON s1 Fc c r := by simpa using ho
  rw [pExtract_s rfl, pExtract_s rfl]
  have hcne : ∀ i, i ∈ Fc → i ∉ F1 := fun i hi hi' => (h1.dom (ok_pg w0) i hi').2 (hF i hi)
  have b1 := h1.frame (ok_pg w0) (k1.but_at fun b hb => (h1.dom (ok_pg w0) b hb).2)
  have b2 := h2.frame (ok_pn w0) (k1.but_at fun b hb => (h2.dom (ok_pn w0) b hb).2)
  refine loop_rule (m := r.length) (fun k l s => ∃ i, k + i = r.length ∧ KeepsBut F1 s1 s ∧ OSl w0 3 OPg s F1 u (dropPs x.1 (r.take i)) ∧ l = [.int .i64 (j : Nat), c, .int .i64 (i : Nat), u, v, .slice none 0 0, .slice none 0 0]) ?_ ⟨0, by omega, KeepsBut.refl _ _, by simpa [dropPs] using b1, rfl⟩
  rintro k l s L ⟨i, hki, hks, hos, rfl⟩ hL
  simp only [vget, List.getD_cons_zero, List.getD_cons_succ]
  have hcs := ho.frame (ok_n w0) (hks.at (fun b hb => (ho.dom (ok_n w0) b hb).2) hcne)
  have hc := hcs.rel (ok_n w0)
  rw [hc.len, pBin_lt, pIf_d]
  refine ⟨fun hi => ?_, fun hi => ?_⟩
  · have hx := List.getElem?_eq_getElem (show i < r.length by omega)
    generalize hxi : r[i]'(by omega) = q at hx
    have hq := hlt q (List.mem_of_getElem? hx)
    refine n_at hc hx fun g hg => ?_
    rw [hg]
    refine page_drop hos (by rw [dropPs_len]; exact hq) fun s' k' o' => ?_
    rw [pBin_add (by omega)]
    refine hL _ _ (k - 1) (by omega) ⟨i + 1, by omega, hks.trans k', ?_, by simp⟩
    rw [dropPs_take hx]; exact o'
  · have e : i = r.length := by omega
    subst e
    rw [List.take_length] at hos
    show pSlice 3 v none (some (.int .i64 (j : Nat))) _
    have b2' := b2.frame (ok_pn w0) (hks.at (fun b hb => (b2.dom (ok_pn w0) b hb).2) fun b hb hb' => hdis b hb' b hb rfl)
    have hv' := b2'.rel (ok_pn w0)
    refine hv'.slice (l := 0) (u := j) rfl rfl (by omega) (by omega) fun v1 hv1 => ?_
    rw [List.drop_zero] at hv1
    rw [pBin_add (by omega), show ((j : Nat) : Int) + 1 = ((j + 1 : Nat) : Int) by omega]
    refine hv'.slice (l := j + 1) (u := x.2.length) rfl rfl (by omega) (by omega) fun v2 hv2 => ?_
    rw [List.take_length] at hv2
    intro b hb1 hb2
    have kb : Keeps s (s.put b ⟨t_impl_PageName, [], 0, (0, 0)⟩) := Keeps.put hb2
    have l1 : (x.2.take j).length ≤ 16 := by rw [List.length_take]; omega
    have l2 : (x.2.drop (j + 1)).length ≤ 16 := by rw [List.length_drop]; omega
    refine OAcc.all (F := [b]) (ok_pn w0) (OAcc.new hb1) hv1 kb.le (fun es y hy => ⟨rfl, hy⟩) (by simp only [List.length_nil]; omega) (by omega) fun va Fa sa ka oa fa => ?_
    have hb0 : ∀ i, i ∈ [b] → s i = none := fun i hi => by rw [List.mem_singleton.1 hi]; exact hb2
    have ka' := ka.old kb hb0
    have hFa := fresh_in kb hb0 fa
    refine OAcc.all (ok_pn w0) oa hv2 ka'.le (fun es y hy => ⟨rfl, hy⟩) (by simp only [List.length_nil, List.nil_append]; omega) (by omega) fun vb Fb sb kk ob fb => ?_
    have kb' := kk.old ka' hFa
    rw [pVal1 (OSl.one' ob.osl), pVal_2 (OSl.one' hos) (OSl.one' ob.osl)]
    have hos' := hos.frame (ok_pg w0) (kb'.but_at fun b hb => (hos.dom (ok_pg w0) b hb).2)
    have ktot : KeepsBut (F1 ++ F2) σ sb := (k1.but.trans (hks.mono fun b hb => List.mem_append_left _ hb)).trans kb'.but
    have hFb := fresh_in ka' hFa fb
    have hdF : ∀ i, i ∈ F1 → i ∉ Fb := fun i hi hi' => (hos.dom (ok_pg w0) i hi).2 (hFb i hi')
    refine hR [u, vb] (F1 ++ Fb) sb ktot ⟨u, vb, F1, Fb, rfl, hos', by simpa using ob.osl, rfl, List.nodup_append.2 ⟨hos'.2.1, ob.2.1, fun a ha b hb e => hdF a ha (e ▸ hb)⟩⟩ fun i hi => ?_
    rcases List.mem_append.1 hi with e | e
    · exact .inl (List.mem_append_left _ e)
    · refine .inr ?_
      have hn := hFb i e
      cases hσ : σ i with
      | none => rfl
      | some r0 =>
        by_cases e1 : i ∈ F1
        · exact absurd e (hdF i e1)
        · have := hks i r0 (k1 i r0 hσ) e1
          rw [hn] at this; cases this

end
end Go.Proofs.Ytlfnfpdipghdiaa

/- A text is kept in pages: by the reference's hand. -/
set_option linter.unusedVariables false
set_option linter.unusedSimpArgs false
set_option maxRecDepth 20000
namespace Go.Proofs.Ytlfnfpdipghdiaa
open Go Go.Av

def lastK (ks : List Nat) : Int := match ks.getLast? with | some l => (l : Int) | none => -1
theorem lastK_snoc (ks : List Nat) (i : Nat) : lastK (ks ++ [i]) = i := by unfold lastK; rw [List.getLast?_append]; rfl
theorem lastK_nil : lastK [] = -1 := rfl
theorem firstK_snoc {ks : List Nat} {i : Nat} : firstK (ks ++ [i]) 0 = if ks = [] then (i : Int) else firstK ks 0 := by
  cases ks with
  | nil => rfl
  | cons a r => rfl
theorem lastK_at {ks : List Nat} (h : ks ≠ []) : ∃ l, ks.getLast? = some l ∧ lastK ks = l ∧ ks[ks.length - 1]? = some l := by
  have hl := List.getLast?_eq_some_getLast h
  refine ⟨_, hl, by unfold lastK; rw [hl], ?_⟩
  rw [← List.getLast?_eq_getElem?, hl]

section
variable {w0 : World} {σ : Vw}

/-- The page behind a page is written. -/
theorem page_next {F : List Nat} {v : Value} {xs : List Pg} (h : OSl w0 3 OPg σ F v xs) {j : Nat} {p : Pg} (hj : xs[j]? = some p) {n : Int} (hn : rng n) {K : Vw → Prop} (hK : ∀ σ', KeepsBut F σ σ' → OSl w0 3 OPg σ' F v (xs.set j { p with next := n }) → K σ') :
    pIndexAddr 3 v (.int .i64 (j : Nat)) fun q => pField 2 q fun q => pVal false 1 (.int .i64 n) (pStore q [.int .i64 n] σ K) := by
  obtain ⟨b, o, f, c, A, C, r, hix, hb, hr, hc, hA, hOx, hbF, hf, hput⟩ := h.focus (ok_pg w0) hj
  obtain ⟨rfl, rfl, hsz⟩ := hOx
  refine hix _ ?_
  refine field_store hr hc hA (by show 2 < 3; omega) rfl ?_
  refine hK _ (KeepsBut.put hbF) (hput _ [.bool p.used, .string p.data, .int .i64 n] { p with next := n } _ put_at rfl ⟨rfl, rfl, ⟨hsz.1, hn⟩⟩ fun i hi hne _ => ?_)
  simp only [Vw.put, hne, if_false]

/-- The name goes in among the names. -/
theorem keep_end {name text : ByteArray} {first : Int} {k : Nat} {u v : Value} {F1 : List Nat} {ps : List Pg} {ns : List Pn} (h1 : OSl w0 3 OPg σ F1 u ps) (h2 : RSl 3 RPn (Av.get w0 σ) v ns) (hk : k ≤ ns.length) (hl : ns.length ≤ 16) (hn : name.size ≤ 9223372036854775807) (hf : rng first) (ht : text.size ≤ 3000) {R : Value → Vw → Prop}
    (hR : ∀ vb s, Keeps σ s → RPgs (Av.get w0 s) [u, vb] (ps, putN ns k ⟨name, first, (text.size : Nat)⟩) → R (.agg ⟨[u, vb]⟩) s) :
    pLenS (.string text) fun v48 => pVal false 1 (.string name) (pVal false 1 (.int .i64 first) (pVal false 1 v48 (pVal true 3 (.agg ⟨[.string name, .int .i64 first, v48]⟩) (pSlice 3 v none (some (.int .i64 (k : Nat))) fun v49 => pVal true 3 (.agg ⟨[.string name, .int .i64 first, v48]⟩) (pSlice 3 v (some (.int .i64 (k : Nat))) none fun v50 =>
      pNew w0 t_impl_PageName [] σ fun n51 s52 => pAppendS w0 t_impl_PageName 3 32 (.slice (some (Addr.mk n51 0 none)) 0 0) v49 s52 fun v53 s54 => allOne [.string name, .int .i64 first, v48] ∧ pAppend w0 t_impl_PageName 3 32 v53 1 [.string name, .int .i64 first, v48] s54 fun v55 s56 => pAppendS w0 t_impl_PageName 3 32 v55 v50 s56 fun v57 s58 => pVal false 1 v57 (pVal true 2 (.agg ⟨[u, v57]⟩) (R (.agg ⟨[u, v57]⟩) s58))))))) := by
  rw [pLenS_s, pVal1 rfl, pVal1 rfl, pVal1 rfl, pVal_3 rfl rfl rfl]
  refine h2.slice (l := 0) (u := k) rfl rfl (by omega) (by omega) fun v1 hv1 => ?_
  rw [List.drop_zero] at hv1
  rw [pVal_3 rfl rfl rfl]
  refine h2.slice (l := k) (u := ns.length) rfl rfl (by omega) (by omega) fun v2 hv2 => ?_
  rw [List.take_length] at hv2
  intro b hb1 hb2
  have kb : Keeps σ (σ.put b ⟨t_impl_PageName, [], 0, (0, 0)⟩) := Keeps.put hb2
  have l1 : (ns.take k).length ≤ 16 := by rw [List.length_take]; omega
  have l2 : (ns.drop k).length ≤ 16 := by rw [List.length_drop]; omega
  refine OAcc.all (F := [b]) (ok_pn w0) (OAcc.new hb1) hv1 kb.le (fun es y hy => ⟨rfl, hy⟩) (by simp only [List.length_nil]; omega) (by omega) fun va Fa sa ka oa fa => ?_
  have hb0 : ∀ i, i ∈ [b] → σ i = none := fun i hi => by rw [List.mem_singleton.1 hi]; exact hb2
  have ka' := ka.old kb hb0
  have hFa := fresh_in kb hb0 fa
  refine oa.one (ok_pn w0) (f := []) (y := ⟨name, first, (text.size : Nat)⟩) ⟨rfl, rfl, hn, hf, by unfold rng; simp only; omega⟩ (by simp) (by simp only [List.nil_append]; omega) (by omega) fun vc Fc sc kc oc fc => ?_
  have kc' := kc.old ka' hFa
  have hFc := fresh_in ka' hFa fun i hi => by
    rcases fc i hi with e | e | e
    · exact .inl e
    · cases e
    · exact .inr e
  refine OAcc.all (ok_pn w0) oc hv2 kc'.le (fun es y hy => ⟨rfl, hy⟩) (by simp only [List.nil_append, List.length_append, List.length_singleton]; omega) (by omega) fun vb Fb sb kk ob fb => ?_
  have kb' := kk.old kc' hFc
  have h1' := h1.frame (ok_pg w0) (kb'.but_at fun b hb => (h1.dom (ok_pg w0) b hb).2)
  rw [pVal1 (OSl.one' ob.osl), pVal_2 (OSl.one' h1') (OSl.one' ob.osl)]
  refine hR vb sb kb' ⟨u, vb, rfl, h1'.rel (ok_pg w0), ?_⟩
  have := ob.osl.rel (ok_pn w0)
  unfold putN
  simpa using this

set_option maxHeartbeats 1000000 in
theorem spec_l32Keep {F : List Nat} {es : List Value} {y : Pgs} {name text : ByteArray} (h : OPgs w0 σ F es y) (hok : OkS y) (hnm : nameOk name = true) (h16 : y.2.length < 16) (hs : text.size ≤ 3000) (hroom : needK text ≤ freeN y.1) (hno : pnIdx y.2 name = none) {R : Value → Vw → Prop}
    (hR : ∀ es' x' σ', KeepsBut F σ σ' → RPgs (Av.get w0 σ') es' x' → OkS x' → R (.agg ⟨es'⟩) σ') : AC Try.prog w0 n_spec_l32Keep [.agg ⟨es⟩, .string name, .string text] σ R := by
  refine ac_spec_l32Keep ?_
  unfold vc_spec_l32Keep cs_spec_l32Keep_3 cs_spec_l32Keep_2 cs_spec_l32Keep_1
  rw [OPgs.two h]
  obtain ⟨u, v, F1, F2, rfl, h1, h2, rfl, hnd⟩ := h
  have hdis := (List.nodup_append.1 hnd).2.2
  simp only [cellOf_agg, List.getD_cons_zero, List.getD_cons_succ]
  have h96 := hok.1
  have hv := h2.rel (ok_pn w0)
  have hns : name.size ≤ 1000 := by
    have : inB name.size 1 5 = true := by
      unfold nameOk at hnm
      simp only [Bool.and_eq_true] at hnm
      exact hnm.2
    simp only [inB, decide_eq_true_eq] at this; omega
  have rfst : ∀ i, i ≤ 96 → rng (firstK (freeL y.1 i) 0) := fun i hi => by
    unfold firstK
    split
    · rename_i k hk
      have := (freeL_mem (List.mem_of_getElem? hk)).1
      unfold rng; omega
    · unfold rng; omega
  -- behind the pages
  have rest : ∀ (i : Nat) (ps : List Pg) (s : Vw), i ≤ 96 → KeepsBut F1 σ s → OSl w0 3 OPg s F1 u ps → KP y.1 text (freeL y.1 i) ps → (freeL y.1 i = [] ∨ 40 * ((freeL y.1 i).length - 1) < text.size) → (i = 96 ∨ text.size ≤ 40 * (freeL y.1 i).length) →
      ∀ (Kn : List Value → Vw → Prop) (Kr : List Value → Vw → Prop), pLoop (fun l35 K36 s37 => pLen (vget l35 5) (fun v38 => pBin Try.prog 3 .lss (vget l35 3) v38 (fun v39 => pIf v39 (pIndexAddr 3 (vget l35 5) (vget l35 3) (fun v40 => pField 0 v40 (fun v41 => pLoad w0 1 v41 s37 (fun g42 => pBin Try.prog 9 .lss (g42 0) (vget l35 0) (fun v43 => pIf v43 (pBin Try.prog 3 .add (vget l35 3) (.int .i64 1) (fun v44 => K36 AX.normal [vget l35 0, vget l35 1, vget l35 2, v44, vget l35 4, vget l35 5, vget l35 6, vget l35 7] s37)) (K36 (AX.exit 2) [vget l35 0, vget l35 1, vget l35 2, vget l35 3, vget l35 4, vget l35 5, vget l35 6, vget l35 7] s37)))))) (K36 (AX.exit 2) [vget l35 0, vget l35 1, vget l35 2, vget l35 3, vget l35 4, vget l35 5, vget l35 6, vget l35 7] s37)))) [.string name, .string text, .int .i64 (firstK (freeL y.1 i) 0), .int .i64 0, u, v, .slice none 0 0, .slice none 0 0] s (fun x45 l46 s47 => match x45 with | .normal => Kn l46 s47 | .ret => Kr l46 s47 | .exit i59 => (match Nat.beq i59 2 with | true => pLenS (vget l46 1) (fun v60 => pVal false 1 (vget l46 0) (pVal false 1 (vget l46 2) (pVal false 1 v60 (pVal true 3 (.agg (⟨[vget l46 0, vget l46 2, v60]⟩)) (pSlice 3 (vget l46 5) none (some (vget l46 3)) (fun v61 => pVal true 3 (.agg (⟨[vget l46 0, vget l46 2, v60]⟩)) (pSlice 3 (vget l46 5) (some (vget l46 3)) none (fun v62 => pNew w0 t_impl_PageName [] s47 (fun n63 s64 => pAppendS w0 t_impl_PageName 3 32 (.slice (some (Addr.mk n63 0 none)) 0 0) v61 s64 (fun v65 s66 => (allOne [vget l46 0, vget l46 2, v60]) ∧ (pAppend w0 t_impl_PageName 3 32 v65 1 [vget l46 0, vget l46 2, v60] s66 (fun v67 s68 => pAppendS w0 t_impl_PageName 3 32 v67 v62 s68 (fun v69 s70 => pVal false 1 v69 (pVal true 2 (.agg (⟨[vget l46 4, v69]⟩)) (R (.agg (⟨[vget l46 4, v69]⟩)) s70))))))))))))))) | false => False)) := by
    intro i ps s hi ks ho hkp q1 q2 Kn Kr
    have b2 := h2.frame (ok_pn w0) (ks.at (fun b hb => (h2.dom (ok_pn w0) b hb).2) fun b hb hb' => hdis b hb' b hb rfl)
    have hvs := b2.rel (ok_pn w0)
    have done : ∀ (k : Nat), k ≤ y.2.length → (∀ i n, i < k → y.2[i]? = some n → strLt n.name name = true) → (∀ n, y.2[k]? = some n → strLt n.name name = false) → ∀ {T : Nat}, T = t_impl_PageName →
        pLenS (.string text) fun v48 => pVal false 1 (.string name) (pVal false 1 (.int .i64 (firstK (freeL y.1 i) 0)) (pVal false 1 v48 (pVal true 3 (.agg ⟨[.string name, .int .i64 (firstK (freeL y.1 i) 0), v48]⟩) (pSlice 3 v none (some (.int .i64 (k : Nat))) fun v49 => pVal true 3 (.agg ⟨[.string name, .int .i64 (firstK (freeL y.1 i) 0), v48]⟩) (pSlice 3 v (some (.int .i64 (k : Nat))) none fun v50 =>
          pNew w0 T [] s fun n51 s52 => pAppendS w0 T 3 32 (.slice (some (Addr.mk n51 0 none)) 0 0) v49 s52 fun v53 s54 => allOne [.string name, .int .i64 (firstK (freeL y.1 i) 0), v48] ∧ pAppend w0 T 3 32 v53 1 [.string name, .int .i64 (firstK (freeL y.1 i) 0), v48] s54 fun v55 s56 => pAppendS w0 T 3 32 v55 v50 s56 fun v57 s58 => pVal false 1 v57 (pVal true 2 (.agg ⟨[u, v57]⟩) (R (.agg ⟨[u, v57]⟩) s58))))))) := by
      intro k hk hlt hstop T hT
      subst hT
      refine keep_end ho hvs hk (by omega) (by omega) (rfst i hi) hs fun vb s' k' hrel => ?_
      refine hR [u, vb] _ s' ((ks.trans k'.but).mono fun b hb => List.mem_append_left _ hb) hrel ?_
      exact put_ok hok hnm h16 hs hkp q1 q2 hroom hk hlt hstop hno
    refine loop_rule (m := y.2.length) (fun m l st => ∃ k : Nat, m + k = y.2.length ∧ st = s ∧ (∀ i n, i < k → y.2[i]? = some n → strLt n.name name = true) ∧ l = [.string name, .string text, .int .i64 (firstK (freeL y.1 i) 0), .int .i64 (k : Nat), u, v, .slice none 0 0, .slice none 0 0]) ?_ ⟨0, by omega, rfl, fun i n h => by omega, rfl⟩
    rintro m l st L ⟨k, hm, rfl, hlt, rfl⟩ hL
    simp only [vget, List.getD_cons_zero, List.getD_cons_succ]
    rw [hvs.len, pBin_lt, pIf_d]
    refine ⟨fun hk => ?_, fun hk => ?_⟩
    · have hx := List.getElem?_eq_getElem (show k < y.2.length by omega)
      generalize y.2[k]'(by omega) = n at hx
      refine fl_at hvs hx 0 (by omega) rfl fun g hg hgood => ?_
      rw [hg, pBin_slt, pIf_b]
      refine ⟨fun hl => ?_, fun hl => ?_⟩
      · rw [pBin_add (by omega)]
        refine hL _ _ (m - 1) (by omega) ⟨k + 1, by omega, rfl, fun i z hi hz => ?_, rfl⟩
        by_cases e : i = k
        · subst e; rw [hx] at hz; cases hz; exact hl
        · exact hlt i z (by omega) hz
      · exact done k (by omega) hlt (fun z hz => by rw [hx] at hz; cases hz; exact hl) rfl
    · exact done k (by omega) hlt (fun z hz => by have := (List.getElem?_eq_some_iff.1 hz).1; omega) rfl
  have hfl0 : freeL y.1 0 = [] := rfl
  refine loop_rule (m := 96) (fun m l s => ∃ (i : Nat) (ps : List Pg), m + i = 96 ∧ KeepsBut F1 σ s ∧ OSl w0 3 OPg s F1 u ps ∧ KP y.1 text (freeL y.1 i) ps ∧ (freeL y.1 i = [] ∨ 40 * ((freeL y.1 i).length - 1) < text.size) ∧ l = [.string name, .string text, .int .i64 (firstK (freeL y.1 i) 0), .int .i64 (lastK (freeL y.1 i)), .string (leftK text (freeL y.1 i).length), .int .i64 (i : Nat), u, v, .slice none 0 0, .slice none 0 0]) ?_
    ⟨0, y.1, by omega, KeepsBut.refl _ _, h1, by rw [hfl0]; exact KP.start, .inl hfl0, by rw [hfl0, List.length_nil, leftK_zero]; rfl⟩
  rintro m l s L ⟨i, ps, hm, ks, ho, hkp, q1, rfl⟩ hL
  simp only [vget, List.getD_cons_zero, List.getD_cons_succ]
  have hpl : ps.length = 96 := by rw [hkp.len, h96]
  have hrel := ho.rel (ok_pg w0)
  rw [hrel.len, hpl, pBin_lt, pIf_d]
  refine ⟨fun hi => ?_, fun hi => ?_⟩
  · have hi' : i < 96 := by omega
    rw [pBin_sne, pIf_d]
    refine ⟨fun hne => ?_, fun he => ?_⟩
    · have hlt : 40 * (freeL y.1 i).length < text.size := by
        rcases Nat.lt_or_ge (40 * (freeL y.1 i).length) text.size with e | e
        · exact e
        · exact absurd (leftK_nil.2 e) hne
      have hx := List.getElem?_eq_getElem (show i < ps.length by omega)
      generalize ps[i]'(by omega) = p at hx
      have hx0 := keep_at hkp
      rw [hx] at hx0
      have hfr : isFree y.1 i = !p.used := by unfold isFree; rw [← hx0]
      refine fl_at hrel hx 0 (by omega) rfl fun g hg hgood => ?_
      rw [hg, pIf_b]
      refine ⟨fun hu => ?_, fun hu => ?_⟩
      · have hnf : ¬ isFree y.1 i = true := by rw [hfr, hu]; simp
        have e : freeL y.1 (i + 1) = freeL y.1 i := by rw [freeL_succ, if_neg hnf]
        rw [pBin_add (by omega)]
        refine hL _ _ (m - 1) (by omega) ⟨i + 1, ps, by omega, ks, ho, keep_skip hkp hnf, by rw [e]; exact q1, ?_⟩
        rw [e]; rfl
      · have hf : isFree y.1 i = true := by rw [hfr, hu]; rfl
        have e : freeL y.1 (i + 1) = freeL y.1 i ++ [i] := by rw [freeL_succ, if_pos hf]
        have hls := leftK_size text (freeL y.1 i).length
        have hd := leftK_head hlt
        have ht := leftK_tail hlt
        have hst := keep_step hkp hf (show i < y.1.length by omega)
        -- one page
        have page : ∀ (n : Int), n = ((min 40 (leftK text (freeL y.1 i).length).size : Nat) : Int) → pSliceStr (.string (leftK text (freeL y.1 i).length)) none (some (.int .i64 n)) (fun v12 => pVal false 1 (.bool true) (pVal false 1 v12 (pVal false 1 (.int .i64 (-1)) (pIndexAddr 3 u (.int .i64 (i : Nat)) (fun v13 => pVal true 3 (.agg (⟨[.bool true, v12, .int .i64 (-1)]⟩)) (pStore v13 [.bool true, v12, .int .i64 (-1)] s (fun s14 => pSliceStr (.string (leftK text (freeL y.1 i).length)) (some (.int .i64 n)) none (fun v15 => pBin Try.prog 3 .geq (.int .i64 (lastK (freeL y.1 i))) (.int .i64 0) (fun v16 => pIf v16 (pIndexAddr 3 u (.int .i64 (lastK (freeL y.1 i))) (fun v17 => pField 2 v17 (fun v18 => pVal false 1 (.int .i64 (i : Nat)) (pStore v18 [.int .i64 (i : Nat)] s14 (fun s19 => pBin Try.prog 3 .add (.int .i64 (i : Nat)) (.int .i64 1) (fun v20 => L [.string name, .string text, .int .i64 (firstK (freeL y.1 i) 0), .int .i64 (i : Nat), v15, v20, u, v, .slice none 0 0, .slice none 0 0] s19)))))) (pBin Try.prog 3 .add (.int .i64 (i : Nat)) (.int .i64 1) (fun v21 => L [.string name, .string text, .int .i64 (i : Nat), .int .i64 (i : Nat), v15, v21, u, v, .slice none 0 0, .slice none 0 0] s14))))))))))) := by
          rintro n rfl
          refine pSliceStr_s (l := 0) (h := ((min 40 (leftK text (freeL y.1 i).length).size : Nat) : Int)) rfl rfl (by omega) ?_
          rw [Int.toNat_natCast, show (0 : Int).toNat = 0 from rfl, hd, pVal1 rfl, pVal1 rfl, pVal1 rfl]
          have hdz : (text.extract (40 * (freeL y.1 i).length) (min (40 * ((freeL y.1 i).length + 1)) text.size)).size ≤ 40 := by rw [ByteArray.size_extract]; omega
          have e3 : ∀ (d : ByteArray) (K : Vw → Prop), (fun p => pVal true 3 (.agg ⟨[.bool true, .string d, .int .i64 (-1)]⟩) (pStore p [.bool true, .string d, .int .i64 (-1)] s K)) = fun p => pStore p [.bool true, .string d, .int .i64 (-1)] s K := fun d K => by
            funext p; rw [pVal_3 rfl rfl rfl]
          rw [e3]
          refine OSl.store (ok_pg w0) ho (y := ⟨true, text.extract (40 * (freeL y.1 i).length) (min (40 * ((freeL y.1 i).length + 1)) text.size), -1⟩) hx (fun f c s h => ⟨h.1, rfl, by show _ ≤ _; simp only; omega, ⟨show (-9223372036854775808 : Int) ≤ -1 by omega, show (-1 : Int) ≤ 9223372036854775807 by omega⟩⟩) rfl fun s1 k1 o1 => ?_
          refine pSliceStr_s (l := ((min 40 (leftK text (freeL y.1 i).length).size : Nat) : Int)) (h := ((leftK text (freeL y.1 i).length).size : Nat)) rfl rfl (by omega) ?_
          rw [Int.toNat_natCast, Int.toNat_natCast, ht, pBin_ge, pIf_d]
          have fin1 : freeL y.1 (i + 1) = [] ∨ 40 * ((freeL y.1 (i + 1)).length - 1) < text.size := .inr (by rw [e, List.length_append, List.length_singleton]; omega)
          refine ⟨fun hge => ?_, fun hlt0 => ?_⟩
          · have hne2 : freeL y.1 i ≠ [] := fun h0 => by rw [h0, lastK_nil] at hge; omega
            obtain ⟨l, g1, g2, g3⟩ := lastK_at hne2
            have hli : l ≠ i := fun h0 => by have := (freeL_mem (List.mem_of_getElem? g3)).1; omega
            have hpl := hkp.here _ _ g3
            rw [g1] at hst
            simp only at hst
            rw [g2]
            refine page_next o1 (j := l) (p := keepPg text (freeL y.1 i) ((freeL y.1 i).length - 1)) (by rw [List.getElem?_set_ne (fun h => hli h.symm)]; exact hpl) (n := (i : Nat)) (by unfold rng; omega) fun s2 k2 o2 => ?_
            rw [pBin_add (by omega)]
            rw [← keep_prev g1] at o2
            refine hL _ _ (m - 1) (by omega) ⟨i + 1, _, by omega, (ks.trans k1).trans k2, o2, hst, fin1, ?_⟩
            rw [e, firstK_snoc, if_neg hne2, lastK_snoc, List.length_append, List.length_singleton]; rfl
          · have h0 : freeL y.1 i = [] := by
              apply Classical.byContradiction
              intro h0
              obtain ⟨l, g1, g2, g3⟩ := lastK_at h0
              rw [g2] at hlt0; omega
            rw [h0] at hst
            simp only [List.getLast?_nil] at hst
            rw [h0] at o1
            rw [pBin_add (by omega)]
            refine hL _ _ (m - 1) (by omega) ⟨i + 1, _, by omega, ks.trans k1, o1, hst, fin1, ?_⟩
            rw [e, firstK_snoc, if_pos h0, lastK_snoc, List.length_append, List.length_singleton]; rfl
        rw [pLenS_s, pBin_gt, pIf_d]
        refine ⟨fun h40 => ?_, fun h40 => ?_⟩
        · exact page 40 (by omega)
        · exact page _ (by omega)
    · have he : leftK text (freeL y.1 i).length = ⟨#[]⟩ := by simpa using he
      exact rest i ps s (by omega) ks ho hkp q1 (.inr (leftK_nil.1 he)) _ _
  · exact rest i ps s (by omega) ks ho hkp q1 (.inl (by omega)) _ _
end
end Go.Proofs.Ytlfnfpdipghdiaa

/- Trees: sound by either reading. -/
set_option linter.unusedVariables false
set_option linter.unusedSimpArgs false
namespace Go.Proofs.Ytlfnfpdipghdiaa
open Go Go.Av

section
variable {w0 : World}

end
end Go.Proofs.Ytlfnfpdipghdiaa

/- Trees: sound by the program's own reading. -/
set_option linter.unusedVariables false
set_option linter.unusedSimpArgs false
namespace Go.Proofs.Ytlfnfpdipghdiaa
open Go Go.Av

section
variable {w0 : World}

end
end Go.Proofs.Ytlfnfpdipghdiaa

/- Trees: how many paths; the laws 'TreeOk' and 'TreeCount', of the functions alone. -/
set_option linter.unusedVariables false
set_option linter.unusedSimpArgs false
namespace Go.Proofs.Ytlfnfpdipghdiaa
open Go Go.Av

section
variable {w0 : World}

end
end Go.Proofs.Ytlfnfpdipghdiaa

/- Trees: the laws 'TreeOk' and 'TreeCount', of the functions alone. -/
set_option linter.unusedVariables false
set_option linter.unusedSimpArgs false
namespace Go.Proofs.Ytlfnfpdipghdiaa
open Go Go.Av

section
variable {w0 : World} {σ : Vw}

end
end Go.Proofs.Ytlfnfpdipghdiaa

/- How a tree is opened that came with the call. -/
set_option linter.unusedVariables false
set_option linter.unusedSimpArgs false
namespace Go.Proofs.Ytlfnfpdipghdiaa
open Go Go.Av Go.RowKit

end Go.Proofs.Ytlfnfpdipghdiaa

/- What is at a path of a tree, by either reading. -/
set_option linter.unusedVariables false
set_option linter.unusedSimpArgs false
namespace Go.Proofs.Ytlfnfpdipghdiaa
open Go Go.Av

section
variable {w0 : World} {σ : Vw}

end
end Go.Proofs.Ytlfnfpdipghdiaa

/- Reading and listing: the functions 'TreeRead' and 'TreeList' by either text. -/
set_option linter.unusedVariables false
set_option linter.unusedSimpArgs false
namespace Go.Proofs.Ytlfnfpdipghdiaa
open Go Go.Av

section
variable {w0 : World} {σ : Vw}

end
end Go.Proofs.Ytlfnfpdipghdiaa

/- Marks of trees. -/
set_option linter.unusedVariables false
set_option linter.unusedSimpArgs false
namespace Go.Proofs.Ytlfnfpdipghdiaa
open Go Go.Av

section
variable {w0 : World} {σ : Vw}

end
end Go.Proofs.Ytlfnfpdipghdiaa

/- The laws 'TreeRead' and 'TreeList', of the functions alone. -/
set_option linter.unusedVariables false
set_option linter.unusedSimpArgs false
namespace Go.Proofs.Ytlfnfpdipghdiaa
open Go Go.Av

section
variable {w0 : World} {σ : Vw}

end
end Go.Proofs.Ytlfnfpdipghdiaa

/- 'TreeAt': copies of trees by either hand; marks of trees that are results; the law. -/
set_option linter.unusedVariables false
set_option linter.unusedSimpArgs false
namespace Go.Proofs.Ytlfnfpdipghdiaa
open Go Go.Av

section
variable {w0 : World} {σ : Vw}

end
end Go.Proofs.Ytlfnfpdipghdiaa

/- Lists of our own that grow, whose elements are read where they lie, old or new: what an append keeps. -/
set_option linter.unusedVariables false
set_option linter.unusedSimpArgs false
namespace Go.Av
open Go Go.RowKit

section
variable {P : Program} {w0 : World} {σ σ' : Vw} {α : Type}

variable {ety n : Nat} {Rel : (Addr → Option Value) → List Value → α → Prop}
end
end Go.Av
namespace Go.Proofs.Ytlfnfpdipghdiaa
open Go Go.Av
end Go.Proofs.Ytlfnfpdipghdiaa

/- A tree in which something else is set at a path, by the reference's hand: that it is one, and not too large. -/
set_option linter.unusedVariables false
set_option linter.unusedSimpArgs false
namespace Go.Proofs.Ytlfnfpdipghdiaa
open Go Go.Av

section
variable {w0 : World} {σ : Vw}

end
end Go.Proofs.Ytlfnfpdipghdiaa

/- Bytes written into a text, by the reference's hand: how many they are. -/
set_option linter.unusedVariables false
set_option linter.unusedSimpArgs false
namespace Go.Proofs.Ytlfnfpdipghdiaa
open Go Go.Av

section
variable {w0 : World} {σ : Vw}

end
end Go.Proofs.Ytlfnfpdipghdiaa

/- Marks of marks. -/
set_option linter.unusedVariables false
set_option linter.unusedSimpArgs false
namespace Go.Proofs.Ytlfnfpdipghdiaa
open Go Go.Av

section
variable {w0 : World} {σ : Vw}

/-! ### Marks of marks -/
end
end Go.Proofs.Ytlfnfpdipghdiaa

/- Calls; marks of marks; the trail of a call by either hand; the law 'TrailOf'. -/
set_option linter.unusedVariables false
set_option linter.unusedSimpArgs false
namespace Go.Proofs.Ytlfnfpdipghdiaa
open Go Go.Av

section
variable {w0 : World} {σ : Vw}

end

end Go.Proofs.Ytlfnfpdipghdiaa

/- Entries of a layer: size, copy, comparison, marks. -/
set_option linter.unusedVariables false
set_option linter.unusedSimpArgs false
namespace Go.Proofs.Ytlfnfpdipghdiaa
open Go Go.Av

section
variable {w0 : World} {σ : Vw}

end

end Go.Proofs.Ytlfnfpdipghdiaa

/- A contract of the kit's, as one of ours. -/
set_option linter.unusedVariables false
set_option linter.unusedSimpArgs false
namespace Go.Av
open Go Go.RowKit

end Go.Av

/- A disk's rows: the law 'DiskOk', of the functions alone. -/
set_option linter.unusedVariables false
set_option linter.unusedSimpArgs false
namespace Go.Proofs.Ytlfnfpdipghdiaa
open Go Go.Av

section
variable {w0 : World} {σ : Vw}

end
end Go.Proofs.Ytlfnfpdipghdiaa

/- Writes of a disk: the law 'DiskWrite', of the functions alone. -/
set_option linter.unusedVariables false
set_option linter.unusedSimpArgs false
namespace Go.Proofs.Ytlfnfpdipghdiaa
open Go Go.Av

section
variable {w0 : World} {σ : Vw}

end
end Go.Proofs.Ytlfnfpdipghdiaa

/- The law 'DiskWrite', of the functions alone. -/
set_option linter.unusedVariables false
set_option linter.unusedSimpArgs false
namespace Go.Proofs.Ytlfnfpdipghdiaa
open Go Go.Av

section
variable {w0 : World} {σ : Vw}

end
end Go.Proofs.Ytlfnfpdipghdiaa

/- No function of Go's library is reached here that is not walked itself. -/
namespace Go.Proofs
end Go.Proofs

/- Decimals by either hand; how a text is cut into blocks. -/
set_option linter.unusedVariables false
set_option linter.unusedSimpArgs false
namespace Go.Proofs.Ytlfnfpdipghdiaa
open Go Go.Av Go.RowKit

theorem nums_dig (n : Nat) : strOfNums [((48 + n % 10 : Nat) : Int)] = ofL [dig n] := by
  have h := bl_byte (48 + n % 10)
  rw [Nat.mod_eq_of_lt (by omega)] at h
  exact bl_inj (by rw [h, bl_ofL]; rfl)
theorem decN_big {k : Nat} (h : ¬ k < 10) : decN k = decN (k / 10) ++ ofL [dig k] := by
  rw [decN, decL_big h, ← ofL_append]; rfl

section
variable {w0 : World} {σ : Vw}

theorem dec_row {σ' : Vw} {k : Nat} {K : Vw → Value → Prop} (hK : ∀ s, Keeps σ' s → K s (.string (ofL [dig k]))) : pNew w0 5 [.int .u8 ((48 + k % 10 : Nat) : Int)] σ' (fun n s => pStr w0 (.slice (some (Addr.mk n 0 none)) 1 1) s (fun v => K s v)) := by
  intro b h1 h2
  refine pStr1 (by rw [get_row h1 put_at]; rfl) ?_
  rw [nums_dig]
  exact hK _ (Keeps.put h2)

end
end Go.Proofs.Ytlfnfpdipghdiaa

/- Decimals of the tree's own hand; hex. -/
set_option linter.unusedVariables false
set_option linter.unusedSimpArgs false
namespace Go.Proofs.Ytlfnfpdipghdiaa
open Go Go.Av Go.RowKit

section
variable {w0 : World} {σ : Vw}

theorem spec_l1Dec_nat : ∀ (k : Nat), k ≤ 9223372036854775807 → ∀ {σ : Vw} {R : Value → Vw → Prop}, (∀ σ', Keeps σ σ' → R (.string (decN k)) σ') → AC Try.prog w0 n_spec_l1Dec [.int .i64 (k : Nat)] σ R := by
  intro k
  induction k using Nat.strongRecOn with
  | _ k ih =>
    intro hk σ R hR
    refine ac_spec_l1Dec ?_
    unfold vc_spec_l1Dec
    rw [pBin_lt, pIf_d]
    refine ⟨fun h => by omega, fun _ => ?_⟩
    rw [pBin_lt, pIf_d]
    refine ⟨fun h => by omega, fun _ => ?_⟩
    rw [pBin_lt, pIf_d]
    refine ⟨fun h10 => ?_, fun h10 => ?_⟩
    · rw [pBin_add (by omega), pConv_u8 (by omega), pVal1 rfl, show (48 : Int) + (k : Nat) = ((48 + k % 10 : Nat) : Int) by omega]
      refine dec_row fun s k1 => ?_
      have := hR s k1
      rw [decN, decL_small (by omega)] at this
      exact this
    · have hb : ¬ k < 10 := by omega
      have hd := (decN_size (k / 10)).2
      rw [decN_big hb] at hR
      have hcat : ∀ K : Value → Prop, pBin Try.prog 9 .add (.string (decN (k / 10))) (.string (ofL [dig k])) K ↔ K (.string (decN (k / 10) ++ ofL [dig k])) := fun K => pBin_cat (by rw [size_ofL]; simp only [List.length_singleton]; omega)
      rw [pBin_quo (by omega), pBin_rem (by omega), pBin_add (by omega), pConv_u8 (by omega), show (48 : Int) + (k : Nat) % 10 = ((48 + k % 10 : Nat) : Int) by omega, show ((k : Nat) : Int) / 10 = ((k / 10 : Nat) : Int) by omega]
      refine ⟨ih (k / 10) (by omega) (by omega) fun s k1 => ?_, ?_⟩
      · rw [pVal1 rfl]
        refine dec_row fun s2 k2 => ?_
        rw [hcat]
        exact hR s2 (k1.trans k2)
      · rw [pVal1 rfl]
        refine dec_row fun s2 k2 => ?_
        refine ih (k / 10) (by omega) (by omega) fun s k1 => ⟨k1.ext, ?_⟩
        rw [hcat]
        exact hR s (k2.trans k1)

end
end Go.Proofs.Ytlfnfpdipghdiaa

/- Paths and trails as texts; the law 'TrailShow'. -/
set_option linter.unusedVariables false
set_option linter.unusedSimpArgs false
namespace Go.Proofs.Ytlfnfpdipghdiaa
open Go Go.Av Go.RowKit

section
variable {w0 : World} {σ : Vw}

end
end Go.Proofs.Ytlfnfpdipghdiaa

/- Bytes in rows of our own; hex by the program's hand; a line of a tree. -/
set_option linter.unusedVariables false
set_option linter.unusedSimpArgs false
namespace Go.Proofs.Ytlfnfpdipghdiaa
open Go Go.Av Go.RowKit

section
variable {w0 : World} {σ : Vw}

end
end Go.Proofs.Ytlfnfpdipghdiaa

/- A tree as a text: what it is, and by the reference's hand; a line by the program's. -/
set_option linter.unusedVariables false
set_option linter.unusedSimpArgs false
namespace Go.Proofs.Ytlfnfpdipghdiaa
open Go Go.Av Go.RowKit

section
variable {w0 : World} {σ : Vw}

end
end Go.Proofs.Ytlfnfpdipghdiaa

/- What is said of a tree part by part, in order: a list. -/
set_option linter.unusedVariables false
set_option linter.unusedSimpArgs false
namespace Go.Proofs.Ytlfnfpdipghdiaa
open Go Go.Av

section
variable {w0 : World} {σ : Vw} {α : Type}

/-! ### By the reference's hand: a loop over the kids -/
end
end Go.Proofs.Ytlfnfpdipghdiaa

/- A box into which one more is put; a row that stays. -/
set_option linter.unusedVariables false
set_option linter.unusedSimpArgs false
namespace Go.Proofs.Ytlfnfpdipghdiaa
open Go Go.Av

section
variable {w0 : World} {σ : Vw} {α : Type}

end
end Go.Proofs.Ytlfnfpdipghdiaa

/- Texts in order; two lists of named parts in step. -/
set_option linter.unusedVariables false
set_option linter.unusedSimpArgs false
namespace Go.Proofs.Ytlfnfpdipghdiaa
open Go Go.Av

/-! ### Sorted and compacted -/
section
variable {α : Type} [DecidableEq α] [Inhabited α]
end
/-! ### In step -/
end Go.Proofs.Ytlfnfpdipghdiaa

/- slices.Sort and slices.Compact on texts in rows of our own; the names of either of two parts. -/
set_option linter.unusedVariables false
set_option linter.unusedSimpArgs false
namespace Go.Proofs.Ytlfnfpdipghdiaa
open Go Go.Av Go.RowKit Go.Sort

section
variable {w0 : World} {σ : Vw} {α : Type}

end
end Go.Proofs.Ytlfnfpdipghdiaa

/- What becomes of a part, with all below: what it is; by the reference's hand. -/
set_option linter.unusedVariables false
set_option linter.unusedSimpArgs false
set_option maxRecDepth 20000
namespace Go.Proofs.Ytlfnfpdipghdiaa
open Go Go.Av

section
variable {w0 : World} {σ : Vw}

end
end Go.Proofs.Ytlfnfpdipghdiaa

/- What becomes of a part, with all below: by the program's hand. -/
set_option linter.unusedVariables false
set_option linter.unusedSimpArgs false
set_option maxRecDepth 20000
namespace Go.Proofs.Ytlfnfpdipghdiaa
open Go Go.Av

section
variable {w0 : World} {σ : Vw}

end
end Go.Proofs.Ytlfnfpdipghdiaa

/- A call done in a tree by the reference's hand: that it gives a tree, and not too large a one. -/
set_option linter.unusedVariables false
set_option linter.unusedSimpArgs false
namespace Go.Proofs.Ytlfnfpdipghdiaa
open Go Go.Av

section
variable {w0 : World} {σ : Vw}

end
end Go.Proofs.Ytlfnfpdipghdiaa

/- A call done in a tree by the reference's hand: files, moves, all of it. -/
set_option linter.unusedVariables false
set_option linter.unusedSimpArgs false
namespace Go.Proofs.Ytlfnfpdipghdiaa
open Go Go.Av

section
variable {w0 : World} {σ : Vw}

end
end Go.Proofs.Ytlfnfpdipghdiaa

/- The reader of a code that a draw is drawn from: a row of its own that is hidden from all else; its picks. -/
set_option linter.unusedVariables false
set_option linter.unusedSimpArgs false
namespace Go.Av
open Go Go.RowKit

/-- A view without a row. -/
def Vw.del (σ : Vw) (b : Nat) : Vw := fun i => if i = b then none else σ i
theorem del_at {σ : Vw} {b : Nat} : (σ.del b) b = none := by simp [Vw.del]
theorem del_ne {σ : Vw} {b i : Nat} (h : i ≠ b) : (σ.del b) i = σ i := by simp [Vw.del, h]
theorem del_put {σ : Vw} {b : Nat} {r : Row} (h : σ b = none) : (σ.put b r).del b = σ := by
  funext i
  by_cases e : i = b
  · subst e; simp [Vw.del, h]
  · simp [Vw.del, Vw.put, e]
theorem del_some {σ : Vw} {b i : Nat} {r : Row} (h : (σ.del b) i = some r) : i ≠ b ∧ σ i = some r := by
  by_cases e : i = b
  · subst e; rw [del_at] at h; cases h
  · exact ⟨e, by rw [del_ne e] at h; exact h⟩
theorem del_keeps {σ : Vw} {b : Nat} : Keeps (σ.del b) σ := fun i r h => (del_some h).2
theorem del_le {w0 : World} {σ : Vw} {b : Nat} : Le (Av.get w0 (σ.del b)) (Av.get w0 σ) := del_keeps.le

/-- A call does not see a row that is kept from it, and leaves it. -/
theorem AC.hide {P : Program} {w0 : World} {f : FuncId} {args : List Value} {σ : Vw} {R R' : Value → Vw → Prop} {b : Nat} {r : Row} (hb : σ b = some r) (h : AC P w0 f args (σ.del b) R) (hR : ∀ v σ', σ' b = none → R v σ' → R' v (σ'.put b r)) : AC P w0 f args σ R' := by
  refine ⟨h.1, fun w hw => ?_⟩
  have hs : Sat w0 (σ.del b) w := ⟨hw.bel, fun i r' hi => hw.row i r' (del_some hi).2⟩
  refine (h.2 w hs).mono ?_
  rintro e w' ⟨v, σ', he, hRv, ha⟩
  have hlt := hw.lt hb
  have hn : σ' b = none := by
    cases hc : σ' b with
    | none => rfl
    | some r' =>
      rcases ha.dom b r' hc with h1 | h1
      · exact absurd del_at h1
      · omega
  refine ⟨v, σ'.put b r, he, hR v σ' hn hRv, ⟨⟨ha.sat.bel, fun i r' hi => ?_⟩, ha.size, fun i hi hni => ?_, fun i r' hi => ?_⟩⟩
  · by_cases e : i = b
    · subst e
      rw [put_at] at hi; cases hi
      obtain ⟨h1, cur, h2, h3⟩ := hw.row i _ hb
      exact ⟨h1, cur, (ha.fr i hlt del_at).trans h2, h3⟩
    · rw [put_ne e] at hi
      exact ha.sat.row i r' hi
  · refine ha.fr i hi ?_
    by_cases e : i = b
    · subst e; exact del_at
    · rw [del_ne e]; exact hni
  · by_cases e : i = b
    · subst e; exact .inl (by rw [hb]; simp)
    · rw [put_ne e] at hi
      rcases ha.dom i r' hi with h1 | h1
      · exact .inl (by rw [del_ne e] at h1; exact h1)
      · exact .inr h1
end Go.Av
namespace Go.Proofs.Ytlfnfpdipghdiaa
open Go Go.Av Go.RowKit

theorem pBin_xor {P : Program} {T : Nat} {a b : Int} {K : Value → Prop} (ha : 0 ≤ a ∧ a ≤ 9223372036854775807) (hb : 0 ≤ b ∧ b ≤ 9223372036854775807) (hK : ∀ c : Int, 0 ≤ c ∧ c ≤ 9223372036854775807 → K (.int .i64 c)) : pBin P T .xor (.int .i64 a) (.int .i64 b) K := by
  obtain ⟨m, rfl⟩ : ∃ m : Nat, a = m := ⟨a.toNat, by omega⟩
  obtain ⟨n, rfl⟩ : ∃ n : Nat, b = n := ⟨b.toNat, by omega⟩
  refine ⟨_, rfl, ?_⟩
  have h1 : (BitVec.ofInt 64 (m : Int) ^^^ BitVec.ofInt 64 (n : Int)).toNat = m ^^^ n := by
    rw [BitVec.toNat_xor]
    simp only [BitVec.ofInt_natCast, BitVec.toNat_ofNat]
    rw [Nat.mod_eq_of_lt (by omega), Nat.mod_eq_of_lt (by omega)]
  have h2 : m ^^^ n < 2 ^ 63 := Nat.xor_lt_two_pow (by omega) (by omega)
  show K (.int .i64 (IntKind.i64.wrap ((BitVec.ofInt 64 (m : Int) ^^^ BitVec.ofInt 64 (n : Int)).toNat : Int)))
  rw [h1, IntWalk.i64_in _ (by omega)]
  exact hK _ (by omega)
section
variable {w0 : World} {σ : Vw}

/-- A byte that is read. -/
def RU8 (rd : Addr → Option Value) (es : List Value) (x : Nat) : Prop := es = [.int .u8 (x : Int)] ∧ x ≤ 255
/-- The reader: its row, how far it has come at most. -/
def RD (w0 : World) (σ : Vw) (b p : Nat) : Prop := ∃ (u : Value) (q ety cap : Nat) (bs : List Nat), w0.heap.size ≤ b ∧ σ b = some ⟨ety, [u, .int .i64 (q : Nat)], cap, (0, 0)⟩ ∧ q ≤ p ∧ RSl 1 RU8 (Av.get w0 (fun _ => none)) u bs ∧ bs.length ≤ 2000

theorem RD.more {b p p' : Nat} (h : RD w0 σ b p) (hp : p ≤ p') : RD w0 σ b p' := by
  obtain ⟨u, q, ety, cap, bs, h1, h2, h3, h4⟩ := h
  exact ⟨u, q, ety, cap, bs, h1, h2, by omega, h4⟩
/-- The reader's row is not touched, the rest is kept. -/
theorem RD.keep {b p : Nat} {s : Vw} (h : RD w0 σ b p) (hb : s b = σ b) : RD w0 s b p := by
  obtain ⟨u, q, ety, cap, bs, h1, h2, h3, h4, h5⟩ := h
  exact ⟨u, q, ety, cap, bs, h1, by rw [hb]; exact h2, h3, h4, h5⟩
/-- Calls that have nothing to do with the reader. -/
theorem RD.hide {b p : Nat} (h : RD w0 σ b p) {f : FuncId} {args : List Value} {R R' : Value → Vw → Prop} (hc : AC Try.prog w0 f args (σ.del b) R) (hR : ∀ v s, Keeps (σ.del b) (s.del b) → RD w0 s b p → R v (s.del b) → R' v s) (hk : ∀ v s, R v s → Keeps (σ.del b) s) : AC Try.prog w0 f args σ R' := by
  obtain ⟨u, q, ety, cap, bs, h1, h2, h3, h4, h5⟩ := h
  refine AC.hide h2 hc fun v s hs hRv => ?_
  have hd : (s.put b ⟨ety, [u, .int .i64 (q : Nat)], cap, (0, 0)⟩).del b = s := del_put hs
  have k := hk v s hRv
  refine hR v _ (by rw [hd]; exact k) ⟨u, q, ety, cap, bs, h1, put_at, h3, h4, h5⟩ (by rw [hd]; exact hRv)
end
end Go.Proofs.Ytlfnfpdipghdiaa

/- What is drawn from a code: numbers, names, bytes; a call done in a tree, in all. -/
set_option linter.unusedVariables false
set_option linter.unusedSimpArgs false
namespace Go.Proofs.Ytlfnfpdipghdiaa
open Go Go.Av Go.RowKit

section
variable {w0 : World} {σ : Vw}

abbrev ptr (b : Nat) : Value := .pointer (some (Addr.mk b 0 none))
theorem spec_pick {b p n : Nat} (h : RD w0 σ b p) (hp : p ≤ 100000000) (hn : 0 < n ∧ n ≤ 1000000000) {R : Value → Vw → Prop} (hR : ∀ (k : Nat) s, k < n → RD w0 s b (p + 1) → s.del b = σ.del b → (∀ i, i ≠ b → s i = σ i) → R (.int .i64 (k : Nat)) s) : AC Try.prog w0 n_p_spec_l1Rd_pick [ptr b, .int .i64 (n : Nat)] σ R := by
  obtain ⟨u, q, ety, cap, bs, h1, h2, h3, h4, h5⟩ := h
  refine ac_p_spec_l1Rd_pick ?_
  unfold vc_p_spec_l1Rd_pick
  refine ⟨_, rfl, field_load (A := []) (C := []) (c := [u, .int .i64 (q : Nat)]) h1 h2 rfl rfl rfl fun g hg => ?_⟩
  rw [hg, pBin_add (by omega)]
  refine ⟨_, rfl, field_store (A := []) (C := []) (c := [u, .int .i64 (q : Nat)]) h2 rfl rfl (by show 1 < 2; omega) rfl ?_⟩
  simp only [List.nil_append, List.append_nil, List.set_cons_zero, List.set_cons_succ]
  generalize hs4 : σ.put b ⟨ety, [u, .int .i64 ((q : Int) + 1)], cap, (0, 0)⟩ = s4
  have hr4 : s4 b = some ⟨ety, [u, .int .i64 ((q : Int) + 1)], cap, (0, 0)⟩ := by rw [← hs4]; exact put_at
  have hd4 : s4.del b = σ.del b := by
    rw [← hs4]; funext i
    by_cases e : i = b
    · subst e; simp [Vw.del]
    · simp [Vw.del, Vw.put, e]
  have ho4 : ∀ i, i ≠ b → s4 i = σ i := fun i hi => by rw [← hs4, put_ne hi]
  have hu4 : RSl 1 RU8 (Av.get w0 s4) u bs := h4.mono (Keeps.le fun i r h => by cases h) fun _ _ h => h
  have hRD : RD w0 s4 b (p + 1) := ⟨u, q + 1, ety, cap, bs, h1, by rw [hr4]; rfl, by omega, h4, h5⟩
  have out : ∀ (k : Nat), k < n → R (.int .i64 (k : Nat)) s4 := fun k hk => hR k s4 hk hRD hd4 ho4
  clear hR hs4
  have ld0 : ∀ {K : (Nat → Value) → Prop}, (∀ g : Nat → Value, g 0 = u → K g) → pNil (ptr b) (pField 0 (ptr b) fun v => pLoad w0 1 v s4 K) := fun hK => ⟨_, rfl, field_load (A := []) (C := []) (c := [u, .int .i64 ((q : Int) + 1)]) h1 hr4 rfl rfl rfl hK⟩
  have ld1 : ∀ {K : (Nat → Value) → Prop}, (∀ g : Nat → Value, g 0 = .int .i64 ((q : Int) + 1) → K g) → pNil (ptr b) (pField 1 (ptr b) fun v => pLoad w0 1 v s4 K) := fun hK => ⟨_, rfl, field_load (A := []) (C := []) (c := [u, .int .i64 ((q : Int) + 1)]) h1 hr4 rfl rfl rfl hK⟩
  rw [pBin_lt, pIf_d]
  refine ⟨fun h => by omega, fun _ => ?_⟩
  refine ld0 fun g hg => ?_
  rw [hg, hu4.len, pBin_eq, pIf_d]
  refine ⟨fun _ => out 0 (by omega), fun hne => ?_⟩
  have hpos : 0 < bs.length := by omega
  refine ld1 fun g hg => ?_
  rw [hg, pBin_sub (by omega), show (q : Int) + 1 - 1 = (q : Nat) by omega]
  refine ld0 fun g hg => ?_
  rw [hg, hu4.len, pBin_lt, pIf_d]
  have byte : ∀ (j : Nat) (x : Nat), bs[j]? = some x → x ≤ 255 := fun j x hj => by
    obtain ⟨_, _, _, _, hh⟩ := h4
    obtain ⟨_, _, _, _, _, hx⟩ := hh j x hj
    exact hx.2
  refine ⟨fun hlt => ?_, fun hge => ?_⟩
  · refine ld0 fun g hg => ?_
    rw [hg]
    have hx := List.getElem?_eq_getElem (show q < bs.length by omega)
    generalize bs[q]'(by omega) = x at hx
    have hxb := byte q x hx
    refine hu4.at hx fun g hg => ?_
    obtain ⟨hg, _⟩ := hg
    simp only [expl, List.cons.injEq, and_true] at hg
    rw [hg, pConv_i64 (by omega), pBin_rem (by omega)]
    have : ((x : Nat) : Int) % ((n : Nat) : Int) = ((x % n : Nat) : Int) := by omega
    rw [this]
    exact out _ (Nat.mod_lt _ (by omega))
  · refine ld0 fun g hg => ?_
    rw [hg]
    refine ld0 fun g hg => ?_
    rw [hg, hu4.len, pBin_rem (by omega), show ((q : Nat) : Int) % ((bs.length : Nat) : Int) = ((q % bs.length : Nat) : Int) by omega]
    have hx := List.getElem?_eq_getElem (Nat.mod_lt q hpos)
    generalize bs[q % bs.length]'(Nat.mod_lt q hpos) = x at hx
    have hxb := byte _ x hx
    refine hu4.at hx fun g hg => ?_
    obtain ⟨hg, _⟩ := hg
    simp only [expl, List.cons.injEq, and_true] at hg
    rw [hg, pConv_i64 (by omega), pBin_mul (by omega)]
    refine ld0 fun g hg => ?_
    rw [hg, pBin_mul (by omega), pBin_add (by omega)]
    refine ld0 fun g hg => ?_
    have hm7 : (((q : Nat) : Int) * 7 + 3) % ((bs.length : Nat) : Int) = (((q * 7 + 3) % bs.length : Nat) : Int) := by
      have := Int.natCast_emod (q * 7 + 3) bs.length
      rw [show (((q * 7 + 3 : Nat)) : Int) = (q : Int) * 7 + 3 by omega] at this
      exact this.symm
    rw [hg, hu4.len, pBin_rem (by omega), hm7]
    have hy := List.getElem?_eq_getElem (Nat.mod_lt (q * 7 + 3) hpos)
    generalize bs[(q * 7 + 3) % bs.length]'(Nat.mod_lt (q * 7 + 3) hpos) = y at hy
    have hyb := byte _ y hy
    refine hu4.at hy fun g hg => ?_
    obtain ⟨hg, _⟩ := hg
    simp only [expl, List.cons.injEq, and_true] at hg
    rw [hg, pConv_i64 (by omega), pBin_mul (by omega), pBin_add (by omega), pBin_mul (by omega), pBin_add (by omega)]
    refine ld0 fun g hg => ?_
    have hq0 : ((q : Nat) : Int) / ((bs.length : Nat) : Int) = ((q / bs.length : Nat) : Int) := by omega
    have hq1 : q / bs.length ≤ q := Nat.div_le_self _ _
    rw [hg, hu4.len, pBin_quo (by omega), hq0]
    clear hq0
    generalize q / bs.length = z at hq1 ⊢
    rw [pBin_mul (by omega), pBin_add (by omega), pBin_quo (by omega)]
    refine pBin_xor (by omega) (by omega) fun c hc => ?_
    rw [pBin_rem (by omega)]
    obtain ⟨m, rfl⟩ : ∃ m : Nat, c = m := ⟨c.toNat, by omega⟩
    rw [show ((m : Nat) : Int) % ((n : Nat) : Int) = ((m % n : Nat) : Int) by omega]
    exact out _ (Nat.mod_lt _ (by omega))

theorem spec_of {b p : Nat} {w : Value} {xs : List ByteArray} (h : RD w0 σ b p) (hp : p ≤ 100000000) (hw : RSl 1 RS (Av.get w0 (σ.del b)) w xs) (hx : 0 < xs.length ∧ xs.length ≤ 1000000000) {R : Value → Vw → Prop} (hR : ∀ (x : ByteArray) s, x ∈ xs → RD w0 s b (p + 1) → s.del b = σ.del b → (∀ i, i ≠ b → s i = σ i) → R (.string x) s) : AC Try.prog w0 n_p_spec_l1Rd_of [ptr b, w] σ R := by
  refine ac_p_spec_l1Rd_of ?_
  unfold vc_p_spec_l1Rd_of
  rw [hw.len]
  refine spec_pick h hp hx fun k s hk hrd hd ho => ?_
  have hw' : RSl 1 RS (Av.get w0 s) w xs := hw.mono (by rw [← hd]; exact del_le) fun _ _ h => h
  have hkx := List.getElem?_eq_getElem hk
  refine RSl.at1 hw' hkx fun g hg _ => ?_
  rw [hg]
  exact hR _ s (List.mem_of_getElem? hkx) hrd hd ho
end
end Go.Proofs.Ytlfnfpdipghdiaa

/- Names, bytes and paths that are drawn. -/
set_option linter.unusedVariables false
set_option linter.unusedSimpArgs false
namespace Go.Proofs.Ytlfnfpdipghdiaa
open Go Go.Av Go.RowKit

theorem del_put_ne {σ : Vw} {b n : Nat} {r : Row} (h : n ≠ b) : (σ.put n r).del b = (σ.del b).put n r := by
  funext i
  by_cases e : i = b
  · subst e
    have : ¬ i = n := fun e => h e.symm
    simp [Vw.del, Vw.put, this]
  · simp [Vw.del, Vw.put, e]
section
variable {w0 : World} {σ : Vw}

theorem RD.at {b p : Nat} (h : RD w0 σ b p) : σ b ≠ none := by obtain ⟨u, q, ety, cap, bs, h1, h2, _⟩ := h; rw [h2]; simp
/-- A new row beside the reader. -/
theorem RD.new {b p n : Nat} {r : Row} (h : RD w0 σ b p) (hn : σ n = none) : n ≠ b ∧ RD w0 (σ.put n r) b p ∧ Keeps (σ.del b) ((σ.put n r).del b) := by
  have hne : n ≠ b := fun e => h.at (e ▸ hn)
  have k : Keeps (σ.del b) ((σ.put n r).del b) := by rw [del_put_ne hne]; exact Keeps.put (by rw [del_ne hne]; exact hn)
  exact ⟨hne, h.keep (put_ne fun e => hne e.symm), k⟩
theorem row_strs {s : Vw} {b e c k : Nat} {z : Nat × Nat} {xs : List ByteArray} (hb : w0.heap.size ≤ b) (hr : s b = some ⟨e, xs.map Value.string, c, z⟩) (hx : ∀ x, x ∈ xs → x.size ≤ 9223372036854775807) (hk : xs.length ≤ k ∧ k ≤ 9223372036854775807) : RSl 1 RS (Av.get w0 s) (.slice (some ⟨b, 0, none⟩) xs.length k) xs := by
  refine ⟨some ⟨b, 0, none⟩, k, rfl, hk, fun j x hj => ⟨_, [.string x], rfl, rfl, fun i hi => ?_, rfl, hx x (List.mem_of_getElem? hj)⟩⟩
  have e : i = 0 := by omega
  subst e
  rw [addr_add, get_row hb hr]
  simp only [Nat.mul_one, Nat.add_zero, Nat.zero_add, List.getElem?_map, hj, Option.map_some]
  rfl
/-- One of some texts. -/
theorem of_lit {b p k : Nat} {xs : List ByteArray} (h : RD w0 σ b p) (hp : p ≤ 100000000) (hx : 0 < xs.length ∧ xs.length ≤ 1000) (hsz : ∀ x, x ∈ xs → x.size ≤ 1000000) (hk : xs.length = k) {cells : List Value} (hc : cells = xs.map Value.string) {R : Value → Vw → Prop} (hR : ∀ (x : ByteArray) s, x ∈ xs → RD w0 s b (p + 1) → Keeps (σ.del b) (s.del b) → R (.string x) s) :
    pNew w0 t_string cells σ (fun n0 s1 => AC Try.prog w0 n_p_spec_l1Rd_of [ptr b, .slice (some (Addr.mk n0 0 none)) k k] s1 R) := by
  intro n h1 h2
  subst hc hk
  obtain ⟨hne, hrd, kk⟩ := h.new (r := ⟨t_string, xs.map Value.string, (xs.map Value.string).length, (0, 0)⟩) h2
  refine spec_of hrd hp (row_strs h1 (by rw [del_ne hne]; exact put_at) (fun x hx => by have := hsz x hx; omega) (by omega)) (by omega) fun x s hx hrd' hd _ => hR x s hx hrd' (by rw [hd]; exact kk)

theorem spec_l1Many {s0 : ByteArray} {n : Nat} (hs : s0.size * n ≤ 1000000) (hs0 : s0.size ≤ 1000000) (hn : n ≤ 1000000) {R : Value → Vw → Prop} (hR : ∀ t : ByteArray, t.size ≤ s0.size * n → R (.string t) σ) : AC Try.prog w0 n_spec_l1Many [.string s0, .int .i64 (n : Nat)] σ R := by
  refine ac_spec_l1Many ?_
  unfold vc_spec_l1Many
  refine loop_rule (m := n) (fun m l st => ∃ (s out : ByteArray) (k : Nat), st = σ ∧ k ≤ m ∧ k ≤ n ∧ out.size + s.size * k ≤ s0.size * n ∧ l = [.string s, .int .i64 (k : Nat), .string out]) ?_ ⟨s0, ⟨#[]⟩, n, rfl, Nat.le_refl _, Nat.le_refl _, by show 0 + _ ≤ _; omega, rfl⟩
  rintro m l st L ⟨s, out, k, rfl, hk, hkn, hsz, rfl⟩ hL
  simp only [vget, List.getD_cons_zero, List.getD_cons_succ]
  rw [pBin_gt, pIf_d]
  refine ⟨fun hpos => ?_, fun _ => hR out (by omega)⟩
  have h1 : s.size ≤ s.size * k := Nat.le_mul_of_pos_right _ (by omega)
  have h2 : s.size * k = s.size * (k % 2) + 2 * (s.size * (k / 2)) := by
    have : k = k % 2 + 2 * (k / 2) := by omega
    conv => lhs; rw [this, Nat.mul_add]
    rw [Nat.mul_left_comm]
  have h3 : (s ++ s).size * (k / 2) = 2 * (s.size * (k / 2)) := by rw [ByteArray.size_append, ← Nat.two_mul, Nat.mul_assoc]
  have hq : ((k : Nat) : Int) / 2 = ((k / 2 : Nat) : Int) := by omega
  rw [pBin_rem (by omega), pBin_eq, pIf_d]
  refine ⟨fun hodd => ?_, fun heven => ?_⟩
  · have hk1 : k % 2 = 1 := by omega
    rw [hk1, Nat.mul_one] at h2
    rw [pBin_cat (by omega), pBin_cat (by omega), pBin_quo (by omega), hq]
    refine hL _ _ (m - 1) (by omega) ⟨s ++ s, out ++ s, k / 2, rfl, by omega, by omega, ?_, rfl⟩
    rw [h3, ByteArray.size_append]; omega
  · have hk1 : k % 2 = 0 := by omega
    rw [hk1, Nat.mul_zero] at h2
    rw [pBin_cat (by omega), pBin_quo (by omega), hq]
    refine hL _ _ (m - 1) (by omega) ⟨s ++ s, out, k / 2, rfl, by omega, by omega, ?_, rfl⟩
    rw [h3]; omega

theorem spec_l1Open {u : Value} {bs : List Nat} (h : RSl 1 RU8 (Av.get w0 (fun _ => none)) u bs) {R : Value → Vw → Prop} (hR : ∀ b s, RD w0 s b 0 → s.del b = σ → σ b = none → R (ptr b) s) : AC Try.prog w0 n_spec_l1Open [u] σ R := by
  refine ac_spec_l1Open ?_
  unfold vc_spec_l1Open
  have go : ∀ (v : Value) (cs : List Nat) (ety : Nat), RSl 1 RU8 (Av.get w0 (fun _ => none)) v cs → cs.length ≤ 2000 → pVal false 1 v (pVal true 2 (.agg (⟨[v, .int .i64 0]⟩)) (pNew w0 ety [v, .int .i64 0] σ (fun n3 s4 => R (.pointer (some (Addr.mk n3 0 none))) s4))) := fun v cs ety hv hl => by
    rw [pVal1 hv.one, pVal_2 hv.one rfl]
    intro n h1 h2
    have hd : (σ.put n ⟨ety, [v, .int .i64 0], 2, (0, 0)⟩).del n = σ := del_put h2
    exact hR n _ ⟨v, 0, ety, 2, cs, h1, put_at, Nat.le_refl _, hv, hl⟩ hd h2
  rw [h.len, pBin_gt, pIf_d]
  refine ⟨fun hgt => ?_, fun hle => go u bs _ h (by omega)⟩
  refine RSl.take (σ := fun _ => none) (j := 2000) h (by omega) fun v' hv' => go v' _ _ hv' (by rw [List.length_take]; omega)
end
end Go.Proofs.Ytlfnfpdipghdiaa

/- The laws on drawn pages; what they draw. -/
set_option linter.unusedVariables false
set_option linter.unusedSimpArgs false
set_option maxRecDepth 20000
namespace Go.Proofs.Ytlfnfpdipghdiaa
open Go Go.Av Go.RowKit

section
variable {w0 : World} {σ : Vw}

theorem spec_l61Text {b p : Nat} (h : RD w0 σ b p) (hp : p ≤ 1000000) {R : Value → Vw → Prop} (hR : ∀ (t : ByteArray) s, RD w0 s b (p + 3) → Keeps (σ.del b) (s.del b) → t.size ≤ 4000 → R (.string t) s) : AC Try.prog w0 n_spec_l61Text [ptr b] σ R := by
  refine ac_spec_l61Text ?_
  unfold vc_spec_l61Text
  have s1 : ∀ b, (⟨#[b]⟩ : ByteArray).size = 1 := fun _ => rfl
  refine spec_pick (n := 8) h (by omega) (by omega) fun j s hj hrd1 hd1 _ => ?_
  have k1 : Keeps (σ.del b) (s.del b) := by rw [hd1]; exact Keeps.refl _
  rw [pBin_eq, pIf_d]
  refine ⟨fun _ => ?_, fun _ => ?_⟩
  · refine spec_pick (n := 5) hrd1 (by omega) (by omega) fun j2 s2 hj2 hrd2 hd2 _ => ?_
    have k2 : Keeps (s.del b) (s2.del b) := by rw [hd2]; exact Keeps.refl _
    rw [pBin_mul (by omega), show (40 : Int) * (j2 : Nat) = ((40 * j2 : Nat) : Int) by omega]
    refine spec_l1Many (by rw [s1]; omega) (by rw [s1]; omega) (by omega) fun t ht => ?_
    rw [s1] at ht
    exact hR t s2 (hrd2.more (by omega)) (k1.trans k2) (by omega)
  rw [pBin_eq, pIf_d]
  refine ⟨fun _ => ?_, fun _ => ?_⟩
  · refine spec_pick (n := 2) hrd1 (by omega) (by omega) fun j2 s2 hj2 hrd2 hd2 _ => ?_
    have k2 : Keeps (s.del b) (s2.del b) := by rw [hd2]; exact Keeps.refl _
    rw [pBin_sub (by omega)]
    refine spec_pick (n := 3) hrd2 (by omega) (by omega) fun j3 s3 hj3 hrd3 hd3 _ => ?_
    have k3 : Keeps (s2.del b) (s3.del b) := by rw [hd3]; exact Keeps.refl _
    rw [pBin_add (by omega), show (3000 : Int) - (j2 : Nat) + (j3 : Nat) = ((3000 - j2 + j3 : Nat) : Int) by omega]
    refine spec_l1Many (by rw [s1]; omega) (by rw [s1]; omega) (by omega) fun t ht => ?_
    rw [s1] at ht
    exact hR t s3 (hrd3.more (by omega)) ((k1.trans k2).trans k3) (by omega)
  rw [pBin_eq, pIf_d]
  refine ⟨fun _ => hR _ s (hrd1.more (by omega)) k1 (Nat.zero_le _), fun _ => ?_⟩
  have hpv : ∀ (x : ByteArray) (A : Prop), pVal false 1 (.string x) A ↔ A := fun x A => pVal1 rfl
  simp only [hpv]
  have hsz : ∀ x, x ∈ [(⟨#[97]⟩ : ByteArray), ⟨#[104, 101, 108, 108, 111, 10]⟩, ⟨#[101, 110, 100, 10]⟩, ⟨#[97, 32, 49, 10]⟩, ⟨#[0]⟩] → x.size ≤ 7 := by
    intro x hx
    simp at hx
    rcases hx with rfl | rfl | rfl | rfl | rfl <;> decide
  refine of_lit (xs := [(⟨#[97]⟩ : ByteArray), ⟨#[104, 101, 108, 108, 111, 10]⟩, ⟨#[101, 110, 100, 10]⟩, ⟨#[97, 32, 49, 10]⟩, ⟨#[0]⟩]) hrd1 (by omega) (by simp) (fun x hx => by have := hsz x hx; omega) rfl rfl fun x s2 hx hrd2 k2 => ?_
  have hxs := hsz x hx
  refine spec_pick (n := 60) hrd2 (by omega) (by omega) fun j3 s3 hj3 hrd3 hd3 _ => ?_
  have k3 : Keeps (s2.del b) (s3.del b) := by rw [hd3]; exact Keeps.refl _
  have hmul : x.size * j3 ≤ 7 * 60 := Nat.mul_le_mul hxs (by omega)
  refine spec_l1Many (by omega) (by omega) (by omega) fun t ht => ?_
  exact hR t s3 (hrd3.more (by omega)) ((k1.trans k2).trans k3) (by omega)

theorem impl_Need {t : ByteArray} (ht : t.size ≤ 1000000) {R : Value → Vw → Prop} (hR : R (.int .i64 (needK t : Nat)) σ) : AC Try.prog w0 n_impl_PagesNeed [.string t] σ R := by
  refine ac_impl_PagesNeed ?_
  unfold vc_impl_PagesNeed
  rw [pLenS_s]
  refine impl_pieces (by omega) ?_
  have e : ((t.size : Nat) : Int) + 40 - 1 = ((t.size + 39 : Nat) : Int) := by omega
  have e2 : (((t.size : Nat) : Int) + 40 - 1) / 40 = ((needK t : Nat) : Int) := by unfold needK; omega
  rw [e2]; exact hR

end
end Go.Proofs.Ytlfnfpdipghdiaa

/- Pages that are drawn: by the reference's hand, as far as the laws need it. -/
set_option linter.unusedVariables false
set_option linter.unusedSimpArgs false
set_option maxRecDepth 20000
namespace Go.Proofs.Ytlfnfpdipghdiaa
open Go Go.Av Go.RowKit

section
variable {w0 : World} {σ : Vw}

theorem spec_Need {t : ByteArray} (ht : t.size ≤ 1000000) {R : Value → Vw → Prop} (hR : R (.int .i64 (needK t : Nat)) σ) : AC Try.prog w0 n_spec_PagesNeed [.string t] σ R := by
  refine ac_spec_PagesNeed ?_
  unfold vc_spec_PagesNeed
  have e2 : (((t.size : Nat) : Int) + 40 - 1) / 40 = ((needK t : Nat) : Int) := by unfold needK; omega
  rw [pLenS_s, pBin_add (by omega), pBin_sub (by omega), pBin_quo (by omega), e2]
  exact hR

theorem spec_l32CopyA {es : List Value} {x : Pgs} (h : RPgs (Av.get w0 σ) es x) (hx : x.1.length ≤ 1000000000000) (hy : x.2.length ≤ 1000000000000) {R : Value → Vw → Prop}
    (hR : ∀ u v F G σ', Keeps σ σ' → OAcc w0 t_impl_Page 3 OPg σ' F u x.1 → OAcc w0 t_impl_PageName 3 OPn σ' G v x.2 → (∀ b, b ∈ F → σ b = none) → (∀ b, b ∈ G → σ b = none) → (∀ i, i ∈ F → i ∉ G) → R (.agg ⟨[u, v]⟩) σ') : AC Try.prog w0 n_spec_l32Copy [.agg ⟨es⟩] σ R := by
  refine ac_spec_l32Copy ?_
  unfold vc_spec_l32Copy
  rw [RPgs.two h]
  obtain ⟨u, v, rfl, hu, hv⟩ := h
  simp only [cellOf_agg, List.getD_cons_zero, List.getD_cons_succ]
  show Vclone2 w0 t_impl_Page 3 32 t_impl_PageName 3 32 u v σ (fun a b s => pVal false 1 a (pVal false 1 b (pVal true 2 (.agg ⟨[a, b]⟩) (R (.agg ⟨[a, b]⟩) s))))
  refine clone2 (ok_pg w0) (ok_pn w0) (fun _ _ _ _ h => ⟨rfl, h⟩) (fun _ _ _ _ h => ⟨rfl, h⟩) hu hv hx hy (by omega) (by omega) fun u' F v' G σ' k o1 o2 f1 f2 hd => ?_
  rw [pVal1 (OSl.one' o1.osl), pVal1 (OSl.one' o2.osl), pVal_2 (OSl.one' o1.osl) (OSl.one' o2.osl)]
  exact hR u' v' F G σ' k o1 o2 f1 f2 hd

theorem spec_PagesPut {es : List Value} {x : Pgs} {name text : ByteArray} (h : RPgs (Av.get w0 σ) es x) (hok : OkS x) (hn : name.size ≤ 1000000) (hs : text.size ≤ 1000000) {R : Value → Vw → Prop}
    (hR : ∀ es' x' (c : Int) σ', Keeps σ σ' → RPgs (Av.get w0 σ') es' x' → OkS x' → R (.tuple ⟨[.agg ⟨es'⟩, .int .i64 c]⟩) σ') : AC Try.prog w0 n_spec_PagesPut [.agg ⟨es⟩, .string name, .string text] σ R := by
  refine ac_spec_PagesPut ?_
  unfold vc_spec_PagesPut cs_spec_PagesPut_1
  rw [RPgs.two h]
  have h0 := h
  have h96 := hok.1
  have h16 := hok.2.1
  obtain ⟨u, v, rfl, hu, hv⟩ := h
  simp only [cellOf_agg, List.getD_cons_zero, List.getD_cons_succ]
  refine spec_PagesOk h0 fun s1 k1 => ?_
  rw [pUn_not, pIf_b]
  refine ⟨fun hb => (by rw [pagesOk_iff.2 hok] at hb; cases hb), fun _ => ?_⟩
  -- as it was
  have same : ∀ (c : Int) (s : Vw), Keeps σ s → AC Try.prog w0 n_spec_l32Copy [.agg ⟨[u, v]⟩] s (fun v6 s7 => pVal true 2 v6 (R (.tuple (⟨[.agg (⟨[cellOf v6 0, cellOf v6 1]⟩), .int .i64 c]⟩)) s7)) := fun c s ks => by
    refine spec_l32Copy (mono_pgs ks.le h0) (by omega) (by omega) fun es1 F s2 k2 o1 f1 => ?_
    rw [OPgs.two o1]
    have r1 := (ok_pgs w0).rel _ _ _ _ o1
    obtain ⟨a, b, rfl⟩ := RPgs.pair r1
    simp only [cellOf_agg, List.getD_cons_zero, List.getD_cons_succ]
    exact hR _ x c s2 (ks.trans k2) r1 hok
  -- behind what is let go
  have tail : ∀ (a b : Value) (y : Pgs) (F : List Nat) (s : Vw), nameOk name = true → OPgs w0 s F [a, b] y → OkS y → pnIdx y.2 name = none → Keeps σ s → (∀ i, i ∈ F → σ i = none) →
      pLen b (fun v34 => pBin Try.prog 3 .geq v34 (.int .i64 16) (fun v35 => pIf v35 (AC Try.prog w0 n_spec_l32Copy ([.agg (⟨[u, v]⟩)]) s (fun v36 s37 => pVal true 2 v36 (R (.tuple (⟨[.agg (⟨[cellOf v36 0, cellOf v36 1]⟩), .int .i64 4]⟩)) s37))) (pLenS (.string text) (fun v38 => pBin Try.prog 3 .gtr v38 (.int .i64 3000) (fun v39 => pIf v39 (AC Try.prog w0 n_spec_l32Copy ([.agg (⟨[u, v]⟩)]) s (fun v40 s41 => pVal true 2 v40 (R (.tuple (⟨[.agg (⟨[cellOf v40 0, cellOf v40 1]⟩), .int .i64 5]⟩)) s41))) (AC Try.prog w0 n_spec_PagesNeed [.string text] s (fun v42 s43 => AC Try.prog w0 n_spec_l32Free ([.agg (⟨[a, b]⟩)]) s43 (fun v44 s45 => pBin Try.prog 3 .gtr v42 v44 (fun v46 => pIf v46 (AC Try.prog w0 n_spec_l32Copy ([.agg (⟨[u, v]⟩)]) s45 (fun v47 s48 => pVal true 2 v47 (R (.tuple (⟨[.agg (⟨[cellOf v47 0, cellOf v47 1]⟩), .int .i64 6]⟩)) s48))) (AC Try.prog w0 n_spec_l32Keep ([.agg (⟨[a, b]⟩), .string name, .string text]) s45 (fun v49 s50 => AC Try.prog w0 n_spec_l32Copy [v49] s50 (fun v51 s52 => pVal true 2 v51 (R (.tuple (⟨[.agg (⟨[cellOf v51 0, cellOf v51 1]⟩), .int .i64 0]⟩)) s52)))))))))))))  := by
    intro a b y F s hnm ho hoky hno ks hF
    have hr := (ok_pgs w0).rel _ _ _ _ ho
    have hr0 := hr
    have y96 := hoky.1
    have y16 := hoky.2.1
    obtain ⟨a', b', e, ha, hb⟩ := hr
    simp only [List.cons.injEq, and_true] at e
    obtain ⟨rfl, rfl⟩ := e
    rw [hb.len, pBin_ge, pIf_d]
    refine ⟨fun _ => same 4 s ks, fun h16' => ?_⟩
    rw [pLenS_s, pBin_gt, pIf_d]
    refine ⟨fun _ => same 5 s ks, fun h3000 => ?_⟩
    refine spec_Need (by omega) ?_
    refine spec_Free hr0 (by omega) ?_
    rw [pBin_gt, pIf_d]
    refine ⟨fun _ => same 6 s ks, fun hroom => ?_⟩
    refine spec_l32Keep ho hoky hnm (by omega) (by omega) (by omega) hno fun es2 x2 s2 k2 r2 ok2 => ?_
    have k2' := k2.old ks hF
    refine spec_l32Copy r2 (by have := ok2.1; omega) (by have := ok2.2.1; omega) fun es3 G s3 k3 o3 f3 => ?_
    rw [OPgs.two o3]
    have r3 := (ok_pgs w0).rel _ _ _ _ o3
    obtain ⟨c, d, rfl⟩ := RPgs.pair r3
    simp only [cellOf_agg, List.getD_cons_zero, List.getD_cons_succ]
    exact hR _ x2 0 s3 (k2'.trans k3) r3 ok2
  refine spec_nameOk (by omega) ?_
  rw [pUn_not, pIf_b]
  refine ⟨fun _ => same 2 s1 k1, fun hnm => ?_⟩
  have hnm : nameOk name = true := by simpa using hnm
  refine spec_l32Copy (mono_pgs k1.le h0) (by omega) (by omega) fun es1 F s2 k2 o1 f1 => ?_
  rw [OPgs.two o1]
  have r1 := (ok_pgs w0).rel _ _ _ _ o1
  obtain ⟨a, b, rfl⟩ := RPgs.pair r1
  simp only [cellOf_agg, List.getD_cons_zero, List.getD_cons_succ]
  have hF : ∀ i, i ∈ F → σ i = none := fun i hi => nof k1 (f1 i hi)
  refine spec_l32At r1 ?_
  cases hix : pnIdx x.2 name with
  | none =>
    show pBin Try.prog 3 .geq (.int .i64 (-1)) _ _
    rw [pBin_ge, pIf_d]
    exact ⟨fun h => by omega, fun _ => tail a b x F s2 hnm o1 hok hix (k1.trans k2) hF⟩
  | some j =>
    obtain ⟨n, hj, hnn⟩ := pnIdx_some hix
    show pBin Try.prog 3 .geq (.int .i64 (j : Nat)) _ _
    rw [pBin_ge, pIf_d]
    refine ⟨fun _ => ?_, fun h => by omega⟩
    refine spec_l32DropO o1 hok hj fun es2 F2 s3 k3 o3 f3 => ?_
    have k13 := k3.old (k1.trans k2) hF
    rw [OPgs.two o3]
    obtain ⟨c, d, rfl⟩ := RPgs.pair ((ok_pgs w0).rel _ _ _ _ o3)
    simp only [cellOf_agg, List.getD_cons_zero, List.getD_cons_succ]
    have hgone := drop_gone hok hj
    rw [hnn] at hgone
    refine tail c d _ F2 s3 hnm o3 (drop_ok hok hj) hgone k13 fun i hi => ?_
    rcases f3 i hi with e | e
    · exact hF i e
    · exact nof (k1.trans k2) e

/-- The pages that are all free. -/
def newPs : Nat → List Pg := fun n => List.replicate n zeroPg
theorem new_ok : OkS (newPs 96, []) := by
  refine ⟨by simp [newPs], Nat.zero_le _, fun j n h => by simp at h, by simp [lsOf], fun i p hp => ?_⟩
  have : p = zeroPg := by
    have := List.mem_of_getElem? hp
    exact (List.mem_replicate.1 this).2
  subst this
  refine ⟨?_, fun _ => ⟨rfl, rfl⟩, by decide⟩
  show (false = true) ↔ i ∈ lsOf _ []
  simp [lsOf]
theorem spec_PagesNew {R : Value → Vw → Prop} (hR : ∀ es F σ', Keeps σ σ' → OPgs w0 σ' F es (newPs 96, []) → (∀ i, i ∈ F → σ i = none) → R (.agg ⟨es⟩) σ') : AC Try.prog w0 n_spec_PagesNew [] σ R := by
  refine ac_spec_PagesNew ?_
  unfold vc_spec_PagesNew
  rw [pVal_2 rfl rfl]
  refine loop_rule (m := 96) (fun m l s => ∃ (j : Nat) (v : Value) (F : List Nat), m + j = 96 ∧ Keeps σ s ∧ (∀ i, i ∈ F → σ i = none) ∧ OAcc w0 t_impl_Page 3 OPg s F v (newPs j) ∧ l = [.int .i64 (j : Nat), .slice none 0 0, .slice none 0 0, v, .slice none 0 0]) ?_
    ⟨0, _, [], rfl, Keeps.refl _, by simp, OAcc.nil, rfl⟩
  rintro m l s L ⟨j, v, F, hm, ks, hF, ho, rfl⟩ hL
  simp only [vget, List.getD_cons_zero, List.getD_cons_succ]
  have hl : (newPs j).length = j := by simp [newPs]
  rw [pBin_lt, pIf_d]
  refine ⟨fun hj => ?_, fun hj => ?_⟩
  · rw [pVal1 rfl, pVal_3 rfl rfl rfl]
    refine ho.one (ok_pg w0) (f := []) (y := zeroPg) ⟨rfl, rfl, by show 0 ≤ _; omega, ⟨by decide, by decide⟩⟩ (by simp) (by omega) (by omega) fun v' F' s' k' o' f' => ?_
    rw [pVal1 (OSl.one' o'.osl), pBin_add (by omega)]
    refine hL _ _ (m - 1) (by omega) ⟨j + 1, v', F', by omega, k'.old ks hF, fresh_in ks hF fun i hi => ?_, ?_, rfl⟩
    · rcases f' i hi with e | e | e
      · exact .inl e
      · cases e
      · exact .inr e
    · unfold newPs at o' ⊢
      rw [List.replicate_succ']; exact o'
  · have e : j = 96 := by omega
    subst e
    show pVal true 2 (.agg ⟨[v, .slice none 0 0]⟩) (R (.agg ⟨[v, .slice none 0 0]⟩) s)
    rw [pVal_2 (OSl.one' ho.osl) rfl]
    refine hR _ F s ks ⟨v, _, F, [], rfl, ho.osl, ⟨by simp, by simp, .inl ⟨rfl, rfl, rfl⟩⟩, by simp, ?_⟩ hF
    exact ho.2.1
end
end Go.Proofs.Ytlfnfpdipghdiaa

/- Structs compared by == and !=: where each field is one cell, a number, a text or a bool. -/
set_option linter.unusedVariables false
set_option linter.unusedSimpArgs false
namespace Go.Av
open Go Go.RowKit

section
variable {P : Program}

theorem agg_val {T : Nat} {xs ys : List Value} {r : Bool} {op : BinOp} (hg : P.eqGuardType P.depth T = false) (hr : ∀ w : World, (Op.equalIn 10000 T (.agg ⟨xs⟩) (.agg ⟨ys⟩)).run P w = .ok r w) {v : Value} (hv : (match op with | .eql => some (Value.bool r) | .neq => some (.bool (!r)) | _ => none) = some v) {K : Value → Prop} :
    pBin P T op (.agg ⟨xs⟩) (.agg ⟨ys⟩) K ↔ K v := by
  have hx : P.eqGuardType P.depth T = false ∧ ∃ r : Bool, ∀ w : World, (Op.equalIn 10000 T (.agg ⟨xs⟩) (.agg ⟨ys⟩)).run P w = .ok r w := ⟨hg, r, hr⟩
  have e : Classical.choose hx.2 = r := by
    have := Classical.choose_spec hx.2 default
    rw [hr default] at this
    injection this with h
    exact h.symm
  have ev : abinT P T op (.agg ⟨xs⟩) (.agg ⟨ys⟩) = some v := by
    show aggB P T op ⟨xs⟩ ⟨ys⟩ = _
    unfold aggB
    rw [dif_pos hx, e]
    exact hv
  exact ⟨fun ⟨_, h, hK⟩ => by rw [ev] at h; cases h; exact hK, fun h => ⟨_, ev, h⟩⟩

def kindF (P : Program) (t : Nat) (v : Value) : Bool :=
  match P.underlying t, v with
  | some .bool, .bool _ => true
  | some (.int _), .int _ _ => true
  | some .string, .string _ => true
  | _, _ => false
/-- Each field is one cell, at its place, of a kind that the value has. -/
def okF (P : Program) : List Field → List Value → Nat → Bool
  | [], [], _ => true
  | f :: fs, v :: vs, i => (f.name != "_") && (Nat.beq f.offset i && (kindF P f.type v && okF P fs vs (i + 1)))
  | _, _, _ => false
def cellEq : Value → Value → Bool
  | .bool a, .bool b => a == b
  | .int _ a, .int _ b => a == b
  | .string a, .string b => a.toList == b.toList
  | _, _ => false
def sameK : Value → Value → Prop
  | .bool _, .bool _ => True
  | .int k _, .int k' _ => k = k'
  | .string _, .string _ => True
  | _, _ => False
def allEq : List Value → List Value → Bool
  | [], [] => true
  | u :: us, v :: vs => cellEq u v && allEq us vs
  | _, _ => false
def allK : List Value → List Value → Prop
  | [], [] => True
  | u :: us, v :: vs => sameK u v ∧ allK us vs
  | _, _ => False

theorem run_cell {t d : Nat} {u v : Value} (w : World) (hk : sameK u v) (hu : kindF P t u = true) : P.plainKey t = true ∧ (Op.equalIn (d + 1) t u v).run P w = .ok (cellEq u v) w := by
  unfold kindF at hu
  cases h : P.underlying t with
  | none => rw [h] at hu; cases hu
  | some x =>
    rw [h] at hu
    cases u <;> cases v <;> (try exact hk.elim)
    · cases x <;> (try (simp at hu; done))
      refine ⟨by simp [Program.plainKey, h], ?_⟩
      exact run_equalIn_bool' w d t _ _ h
    · cases x <;> (try (simp at hu; done))
      refine ⟨by simp [Program.plainKey, h], ?_⟩
      have hk : _ = _ := hk
      subst hk
      exact run_equalIn_int w d t _ _ _ _ h
    · cases x <;> (try (simp at hu; done))
      refine ⟨by simp [Program.plainKey, h], ?_⟩
      exact run_equalIn_string w d t _ _ h
theorem run_fields {d : Nat} {xs ys : Array Value} (w : World) : ∀ (fs : List Field) (us vs : List Value) (i : Nat), okF P fs us i = true → allK us vs → (∀ j, j < us.length → xs[i + j]? = us[j]?) → (∀ j, j < vs.length → ys[i + j]? = vs[j]?) → (Op.eqFields (d + 1) xs ys fs).run P w = .ok (allEq us vs) w
  | [], [], [], _, _, _, _, _ => by simp [Op.eqFields, allEq]
  | [], [], _ :: _, _, _, hk, _, _ => hk.elim
  | [], _ :: _, _, _, h, _, _, _ => by simp [okF] at h
  | _ :: _, [], _, _, h, _, _, _ => by simp [okF] at h
  | _ :: _, _ :: _, [], _, _, hk, _, _ => hk.elim
  | f :: fs, u :: us, v :: vs, i, h, hk, hx, hy => by
    unfold okF at h
    simp only [Bool.and_eq_true] at h
    obtain ⟨h1, h2, h3, h4⟩ := h
    have h1 : f.name ≠ "_" := by simpa using h1
    have h2 : f.offset = i := Nat.eq_of_beq_eq_true h2
    obtain ⟨p1, p2⟩ := run_cell (d := d) w hk.1 h3
    have x0 : xs[f.offset]? = some u := by rw [h2]; exact hx 0 (by simp)
    have y0 : ys[f.offset]? = some v := by rw [h2]; exact hy 0 (by simp)
    have ih := run_fields (d := d) (xs := xs) (ys := ys) w fs us vs (i + 1) h4 hk.2 (fun j hj => by have := hx (j + 1) (by simpa using hj); rw [show i + 1 + j = i + (j + 1) by omega]; simpa using this) (fun j hj => by have := hy (j + 1) (by simpa using hj); rw [show i + 1 + j = i + (j + 1) by omega]; simpa using this)
    unfold Op.eqFields
    rw [if_pos h1]
    simp only [Sem.run_bind, run_part_plain w p1 x0, run_part_plain w p1 y0, Result.andThen_ok, p2, Sem.run_ite, Sem.run_pure, ih, allEq]
    cases cellEq u v <;> simp

/-- Structs of plain cells. -/
theorem agg_cells {T : Nat} {xs ys : List Value} {op : BinOp} (ht : P.underlying T = some (.struct (P.fieldsOf T))) (hs : P.stoodInHeld T = false) (hg : P.eqGuardType P.depth T = false) (hf : okF P (P.fieldsOf T).toList xs 0 = true) (hk : allK xs ys) {v : Value} (hv : (match op with | .eql => some (Value.bool (allEq xs ys)) | .neq => some (.bool (!(allEq xs ys))) | _ => none) = some v) {K : Value → Prop} :
    pBin P T op (.agg ⟨xs⟩) (.agg ⟨ys⟩) K ↔ K v := by
  refine agg_val hg (fun w => ?_) hv
  rw [run_equalIn_agg w 9999 T _ _ ht hs]
  exact run_fields (d := 9998) w _ xs ys 0 hf hk (fun j _ => by simp) (fun j _ => by simp)
end
end Go.Av
namespace Go.Proofs.Ytlfnfpdipghdiaa
open Go Go.Av Go.RowKit

theorem list_eq {a b : ByteArray} : (a.toList == b.toList) = decide (a = b) := Go.Av.toList_eq
theorem eq_pg (x y : Pg) : allEq (encPg x) (encPg y) = decide (x = y) := by
  obtain ⟨a, b, c⟩ := x
  obtain ⟨d, e, f⟩ := y
  show (a == d && (b.toList == e.toList && (c == f && true))) = _
  rw [list_eq, Bool.and_true]
  apply Bool.eq_iff_iff.2
  simp
theorem eq_pn (x y : Pn) : allEq (encPn x) (encPn y) = decide (x = y) := by
  obtain ⟨a, b, c⟩ := x
  obtain ⟨d, e, f⟩ := y
  show (a.toList == d.toList && (b == e && (c == f && true))) = _
  rw [list_eq, Bool.and_true]
  apply Bool.eq_iff_iff.2
  simp
theorem pBin_pg {x y : Pg} {K : Value → Prop} : pBin Try.prog t_impl_Page .neq (.agg ⟨encPg x⟩) (.agg ⟨encPg y⟩) K ↔ K (.bool (decide (x ≠ y))) := by
  refine agg_cells (by kernel_rfl) (by kernel_rfl) (by kernel_rfl) (by kernel_rfl) (show allK (encPg x) (encPg y) from ⟨trivial, trivial, rfl, trivial⟩) ?_
  rw [eq_pg]; simp
theorem pBin_pn {x y : Pn} {K : Value → Prop} : pBin Try.prog t_impl_PageName .neq (.agg ⟨encPn x⟩) (.agg ⟨encPn y⟩) K ↔ K (.bool (decide (x ≠ y))) := by
  refine agg_cells (by kernel_rfl) (by kernel_rfl) (by kernel_rfl) (by kernel_rfl) (show allK (encPn x) (encPn y) from ⟨trivial, rfl, rfl, trivial⟩) ?_
  rw [eq_pn]; simp
end Go.Proofs.Ytlfnfpdipghdiaa

/- How a code is opened: a list of bytes. -/
set_option linter.unusedVariables false
set_option linter.unusedSimpArgs false
namespace Go.Proofs.Ytlfnfpdipghdiaa
open Go Go.Av Go.RowKit

theorem open_byteD {H : Type} {enc : TypeId × Value → H} {W : World} {spare : Nat → Bool} (fuel : Nat) (es : List Value) (y : DataW H × List MemPlace) (h : DataW.trod enc Try.prog W 0 spare true fuel t_uint8 es = some y) (hl : es.length = 1) : ∃ x, RU8 (Av.get W σ0) es x := by
  have hT : Try.prog.underlying t_uint8 = some (.int .u8) := by kernel_rfl
  obtain ⟨n, rfl, _, hw⟩ := DataW.trod_int hT h
  have e1 : IntKind.u8.min = 0 := by decide
  have e2 : IntKind.u8.max = 255 := by decide
  simp only [Lit.wf, Bool.and_eq_true, decide_eq_true_eq, e1, e2] at hw
  exact ⟨n.toNat, by rw [Int.toNat_of_nonneg hw.1], by omega⟩
end Go.Proofs.Ytlfnfpdipghdiaa

/- What a draw keeps beside its reader; stores into lists of our own. -/
set_option linter.unusedVariables false
set_option linter.unusedSimpArgs false
set_option maxRecDepth 20000
namespace Go.Proofs.Ytlfnfpdipghdiaa
open Go Go.Av Go.RowKit

section
variable {w0 : World} {σ : Vw}

/-- A field of an element of a list of our own is written. -/
theorem fl_store {α : Type} {n : Nat} {enc : α → List Value} {good : α → Prop} (ok : OOk w0 n (RFl enc good) (OFl enc good)) {F : List Nat} {v : Value} {xs : List α} (h : OSl w0 n (OFl enc good) σ F v xs) {j : Nat} {x x' : α} (hj : xs[j]? = some x) (off : Nat) (ho : off < n) (hl : (enc x).length = n) {y : Value} (hy : y.oneCell' = true) (he : enc x' = (enc x).set off y) (hg : good x') {K : Vw → Prop}
    (hK : ∀ σ', KeepsBut F σ σ' → OSl w0 n (OFl enc good) σ' F v (xs.set j x') → K σ') : pIndexAddr n v (.int .i64 (j : Nat)) fun q => pField off q fun q => pVal false 1 y (pStore q [y] σ K) := by
  obtain ⟨b, o, f, c, A, C, r, hix, hb, hr, hc, hA, hOx, hbF, hf, hput⟩ := h.focus ok hj
  obtain ⟨rfl, rfl, hsz⟩ := hOx
  refine hix _ ?_
  refine field_store hr hc hA (by rw [hl]; exact ho) hy ?_
  refine hK _ (KeepsBut.put hbF) (hput _ _ x' _ put_at rfl ⟨rfl, he.symm, hg⟩ fun i hi hne _ => ?_)
  simp only [Vw.put, hne, if_false]

theorem stayB {s s' : Vw} {b o n : Nat} (h : s' b = s b) : Stay w0 s s' (.pointer (some ⟨b, o, none⟩)) n := fun a g e hc j hj => by
  cases e
  have := hc j hj
  rw [addr_add] at this ⊢
  have e2 : Av.get w0 s' ⟨b, o + j, none⟩ = Av.get w0 s ⟨b, o + j, none⟩ := by simp [Av.get, h]
  rw [e2]; exact this
theorem ldpB {b o off : Nat} {r : Row} {A c C : List Value} {y : Value} {K : Value → (Nat → Value) → Prop} (hb : w0.heap.size ≤ b) (hr : σ b = some r) (hc : r.cells = A ++ (c ++ C)) (hA : A.length = o) (hoff : c[off]? = some y)
    (hK : ∀ g : Nat → Value, g 0 = y → K (.pointer (some ⟨b, o + off, none⟩)) g) : pField off (.pointer (some ⟨b, o, none⟩)) fun q => pLoad w0 1 q σ (K q) := by
  rw [pField_s, addr_add]
  refine ⟨_, fun _ => y, rfl, fun j hj => ?_, hK _ rfl⟩
  have e : j = 0 := by omega
  subst e
  have hlt : off < c.length := (List.getElem?_eq_some_iff.1 hoff).1
  rw [addr_add, get_row hb hr, hc, List.getElem?_append_right (by omega), List.getElem?_append_left (by omega)]
  rw [show o + off + 0 - A.length = off by omega]; exact hoff

theorem step_but {s s' : Vw} {b q : Nat} {F : List Nat} (hrd : RD w0 s b q) (k : KeepsBut F s s') (hbF : b ∉ F) (K : Keeps (σ.del b) (s.del b)) (hF : ∀ i, i ∈ F → (σ.del b) i = none) : RD w0 s' b q ∧ Keeps (σ.del b) (s'.del b) := by
  have hb : s' b = s b := by
    cases hs : s b with
    | none => exact absurd hs hrd.at
    | some r => exact k b r hs hbF
  refine ⟨hrd.keep hb, fun i r hi => ?_⟩
  obtain ⟨e1, e2⟩ := del_some hi
  have e3 := K i r hi
  rw [del_ne e1] at e3 ⊢
  exact k i r e3 fun e => by rw [hF i e] at hi; cases hi


end
end Go.Proofs.Ytlfnfpdipghdiaa

/- Pages that are drawn and spoilt; the laws on them. -/
set_option linter.unusedVariables false
set_option linter.unusedSimpArgs false
set_option maxRecDepth 20000
namespace Go.Proofs.Ytlfnfpdipghdiaa
open Go Go.Av Go.RowKit

theorem ok_data {x : Pgs} (h : OkS x) {i : Nat} {p : Pg} (hi : x.1[i]? = some p) : p.data.size ≤ 40 := by
  have h5 := h.2.2.2.2 i p hi
  cases hu : p.used with
  | false => rw [(h5.2.1 hu).1]; exact Nat.zero_le _
  | true =>
    obtain ⟨n, hn, r, hr, hir⟩ := lsOf_mem.1 (h5.1.1 hu)
    have := ch_small (chS_chain hr) i hir
    rw [dataAt_of hi] at this; exact this
theorem dropP_ok {x : Pgs} (h : OkS x) {name : ByteArray} : OkS (dropP x name).1 := by
  unfold dropP
  rw [if_pos (pagesOk_iff.2 h)]
  split
  · split
    · rename_i hj; exact drop_ok h hj
    · exact h
  · exact h

section
variable {w0 : World} {σ : Vw}

/-- What a draw of pages gives: ok, or any. -/
abbrev OutK (w0 : World) (σ : Vw) (b p : Nat) (R : Value → Vw → Prop) : Prop := ∀ es (x : Pgs) s, RD w0 s b p → Keeps (σ.del b) (s.del b) → RPgs (Av.get w0 (s.del b)) es x → OkS x → R (.agg ⟨es⟩) s
abbrev OutP (w0 : World) (σ : Vw) (b p : Nat) (R : Value → Vw → Prop) : Prop := ∀ es (x : Pgs) s, RD w0 s b p → Keeps (σ.del b) (s.del b) → RPgs (Av.get w0 (s.del b)) es x → (x.1.length ≤ 200 ∧ x.2.length ≤ 200) → R (.agg ⟨es⟩) s

set_option maxHeartbeats 1000000 in
theorem spec_l61Pages {b p : Nat} (h : RD w0 σ b p) (hp : p ≤ 900000) {R : Value → Vw → Prop} (hR : OutK w0 σ b (p + 70) R) : AC Try.prog w0 n_spec_l61Pages [ptr b] σ R := by
  refine ac_spec_l61Pages ?_
  unfold vc_spec_l61Pages
  refine RD.hide h (spec_PagesNew (R := fun w s => ∃ es F, w = .agg ⟨es⟩ ∧ Keeps (σ.del b) s ∧ OPgs w0 s F es (newPs 96, [])) fun es F s k o f => ⟨es, F, rfl, k, o⟩) ?_ fun v s ⟨_, _, _, k, _⟩ => k
  rintro _ s k1 hrd1 ⟨es, F, rfl, _, o⟩
  rw [OPgs.two o]
  have hr1 := (ok_pgs w0).rel _ _ _ _ o
  obtain ⟨a, c, rfl⟩ := RPgs.pair hr1
  simp only [cellOf_agg, List.getD_cons_zero, List.getD_cons_succ]
  refine spec_pick (n := 14) hrd1 (by omega) (by omega) fun j s2 hj hrd2 hd2 _ => ?_
  have k2 : Keeps (s.del b) (s2.del b) := by rw [hd2]; exact Keeps.refl _
  have hsz : ∀ x, x ∈ [(⟨#[97]⟩ : ByteArray), ⟨#[98]⟩, ⟨#[99]⟩, ⟨#[100, 49]⟩, ⟨#[101]⟩, ⟨#[102]⟩, ⟨#[103]⟩, ⟨#[104]⟩] → x.size ≤ 2 := by
    intro x hx
    simp at hx
    rcases hx with rfl | rfl | rfl | rfl | rfl | rfl | rfl | rfl <;> decide
  have hpv : ∀ (x : ByteArray) (A : Prop), pVal false 1 (.string x) A ↔ A := fun x A => pVal1 rfl
  refine loop_rule (m := j) (fun m l s => ∃ (a c : Value) (x : Pgs), RD w0 s b (p + 70 - 5 * m) ∧ m ≤ 13 ∧ Keeps (σ.del b) (s.del b) ∧ RPgs (Av.get w0 (s.del b)) [a, c] x ∧ OkS x ∧ l = [ptr b, .int .i64 (m : Nat), .slice none 0 0, .slice none 0 0, a, c]) ?_
    ⟨a, c, _, hrd2.more (by omega), by omega, k1.trans k2, mono_pgs k2.le hr1, new_ok, rfl⟩
  clear hrd1 hrd2 hr1 o
  rintro m l s L ⟨a, c, x, hrd, hm, ks, hx, hok, rfl⟩ hL
  simp only [vget, List.getD_cons_zero, List.getD_cons_succ]
  rw [pBin_gt, pIf_d]
  refine ⟨fun hpos => ?_, fun hz => ?_⟩
  · simp only [hpv]
    refine of_lit (xs := [(⟨#[97]⟩ : ByteArray), ⟨#[98]⟩, ⟨#[99]⟩, ⟨#[100, 49]⟩, ⟨#[101]⟩, ⟨#[102]⟩, ⟨#[103]⟩, ⟨#[104]⟩]) hrd (by omega) (by simp) (fun x hx => by have := hsz x hx; omega) rfl rfl fun nm s3 hnm hrd3 k3 => ?_
    have hnms := hsz nm hnm
    refine spec_pick (n := 3) hrd3 (by omega) (by omega) fun i s4 hi hrd4 hd4 _ => ?_
    have k4 : Keeps (s3.del b) (s4.del b) := by rw [hd4]; exact Keeps.refl _
    have hx4 := mono_pgs (k3.trans k4).le hx
    have h96 := hok.1
    have h16 := hok.2.1
    rw [pBin_eq, pIf_d]
    refine ⟨fun _ => ?_, fun _ => ?_⟩
    · refine RD.hide hrd4 (spec_PagesDrop hx4 (by omega) (by omega) (R := fun w s => ∃ es F, w = .tuple ⟨[.agg ⟨es⟩, .int .i64 (dropP x nm).2]⟩ ∧ Keeps (s4.del b) s ∧ OPgs w0 s F es (dropP x nm).1) fun es F s k o f => ⟨es, F, rfl, k, o⟩) ?_ fun v s ⟨_, _, _, k, _⟩ => k
      rintro _ s5 k5 hrd5 ⟨es, F, rfl, _, o⟩
      rw [pExtract_s rfl, pExtract_s rfl, OPgs.two o]
      have hr5 := (ok_pgs w0).rel _ _ _ _ o
      obtain ⟨a', c', rfl⟩ := RPgs.pair hr5
      simp only [cellOf_agg, List.getD_cons_zero, List.getD_cons_succ]
      rw [pBin_sub (by omega), show ((m : Nat) : Int) - 1 = ((m - 1 : Nat) : Int) by omega]
      exact hL _ _ (m - 1) (by omega) ⟨a', c', _, hrd5.more (by omega), by omega, ((ks.trans k3).trans k4).trans k5, hr5, dropP_ok hok, rfl⟩
    · refine spec_l61Text hrd4 (by omega) fun t s5 hrd5 k5 ht => ?_
      refine RD.hide hrd5 (spec_PagesPut (mono_pgs k5.le hx4) hok (by omega) (by omega) (R := fun w s => ∃ es y cc, w = .tuple ⟨[.agg ⟨es⟩, .int .i64 cc]⟩ ∧ Keeps (s5.del b) s ∧ RPgs (Av.get w0 s) es y ∧ OkS y) fun es y cc s k o f => ⟨es, y, cc, rfl, k, o, f⟩) ?_ fun v s ⟨_, _, _, _, k, _⟩ => k
      rintro _ s6 k6 hrd6 ⟨es, y, cc, rfl, _, hr6, hok6⟩
      rw [pExtract_s rfl, pExtract_s rfl, RPgs.two hr6]
      obtain ⟨a', c', rfl⟩ := RPgs.pair hr6
      simp only [cellOf_agg, List.getD_cons_zero, List.getD_cons_succ]
      rw [pBin_sub (by omega), show ((m : Nat) : Int) - 1 = ((m - 1 : Nat) : Int) by omega]
      exact hL _ _ (m - 1) (by omega) ⟨a', c', y, hrd6.more (by omega), by omega, (((ks.trans k3).trans k4).trans k5).trans k6, hr6, hok6, rfl⟩
  · show pVal true 2 (.agg ⟨[a, c]⟩) (R (.agg ⟨[a, c]⟩) s)
    rw [RPgs.two hx]
    exact hR _ x s (hrd.more (by omega)) ks hx hok

set_option maxHeartbeats 2000000 in
theorem spec_l61Spoil {b p : Nat} {es : List Value} {x : Pgs} (h : RD w0 σ b p) (hp : p ≤ 900000) (hx : RPgs (Av.get w0 (σ.del b)) es x) (hok : OkS x) {R : Value → Vw → Prop} (hR : OutP w0 σ b (p + 8) R) : AC Try.prog w0 n_spec_l61Spoil [ptr b, .agg ⟨es⟩] σ R := by
  refine ac_spec_l61Spoil ?_
  unfold vc_spec_l61Spoil
  rw [RPgs.two hx]
  have hx0 := hx
  have h96 := hok.1
  have h16 := hok.2.1
  obtain ⟨u, v, rfl, hu, hv⟩ := hx
  simp only [cellOf_agg, List.getD_cons_zero, List.getD_cons_succ]
  refine RD.hide h (spec_l32CopyA hx0 (by omega) (by omega) (R := fun w s => ∃ u v F G, w = .agg ⟨[u, v]⟩ ∧ Keeps (σ.del b) s ∧ OAcc w0 t_impl_Page 3 OPg s F u x.1 ∧ OAcc w0 t_impl_PageName 3 OPn s G v x.2 ∧ (∀ i, i ∈ F → (σ.del b) i = none) ∧ (∀ i, i ∈ G → (σ.del b) i = none) ∧ (∀ i, i ∈ F → i ∉ G)) fun u v F G s k o1 o2 f1 f2 hd => ⟨u, v, F, G, rfl, k, o1, o2, f1, f2, hd⟩) ?_ fun v s ⟨_, _, _, _, _, k, _⟩ => k
  rintro _ s1 k1 hrd1 ⟨u, v, F, G, rfl, _, o1, o2, f1, f2, hd⟩
  rw [pVal_2 (OSl.one' o1.osl) (OSl.one' o2.osl)]
  simp only [cellOf_agg, List.getD_cons_zero, List.getD_cons_succ]
  have hbF : b ∉ F := fun hb => (o1.dom (ok_pg w0) b hb).2 del_at
  have hbG : b ∉ G := fun hb => (o2.dom (ok_pn w0) b hb).2 del_at
  have o1 := o1.frame (σ' := s1) (ok_pg w0) fun i hi => (del_ne fun (e : i = b) => hbF (e ▸ hi)).symm
  have o2 := o2.frame (σ' := s1) (ok_pn w0) fun i hi => (del_ne fun (e : i = b) => hbG (e ▸ hi)).symm
  rw [(o1.osl.rel (ok_pg w0)).len, h96]
  refine spec_pick (n := 96) hrd1 (by omega) (by omega) fun k s2 hk hrd2 hd2 ho2 => ?_
  refine spec_pick (n := 8) hrd2 (by omega) (by omega) fun j s3 hj hrd3 hd3 ho3 => ?_
  have K3 : Keeps (σ.del b) (s3.del b) := by rw [hd3, hd2]; exact k1
  have o1 := (o1.frame (σ' := s2) (ok_pg w0) fun i hi => ho2 i fun e => hbF (e ▸ hi)).frame (σ' := s3) (ok_pg w0) fun i hi => ho3 i fun e => hbF (e ▸ hi)
  have o2 := (o2.frame (σ' := s2) (ok_pn w0) fun i hi => ho2 i fun e => hbG (e ▸ hi)).frame (σ' := s3) (ok_pn w0) fun i hi => ho3 i fun e => hbG (e ▸ hi)
  -- what is handed back
  have fin : ∀ (s' : Vw) (q : Nat) (u' v' : Value) (F' G' : List Nat) (x1 : List Pg) (x2 : List Pn), RD w0 s' b q → q ≤ p + 8 → Keeps (σ.del b) (s'.del b) → OSl w0 3 OPg s' F' u' x1 → OSl w0 3 OPn s' G' v' x2 → b ∉ F' → b ∉ G' → (x1.length ≤ 200 ∧ x2.length ≤ 200) → pVal true 2 (.agg ⟨[u', v']⟩) (R (.agg ⟨[u', v']⟩) s') := by
    intro s' q u' v' F' G' x1 x2 t1 t2 t3 t4 t5 t6 t7 t8
    rw [pVal_2 (OSl.one' t4) (OSl.one' t5)]
    have q1 := t4.frame (σ' := s'.del b) (ok_pg w0) fun i hi => del_ne fun e => t6 (e ▸ hi)
    have q2 := t5.frame (σ' := s'.del b) (ok_pn w0) fun i hi => del_ne fun e => t7 (e ▸ hi)
    exact hR _ (x1, x2) s' (t1.more t2) t3 ⟨u', v', rfl, q1.rel (ok_pg w0), q2.rel (ok_pn w0)⟩ t8
  have hxk := List.getElem?_eq_getElem (show k < x.1.length by omega)
  generalize x.1[k]'(by omega) = pg at hxk
  have hpd := ok_data hok hxk
  have gpg := good_fl hu hxk
  -- a page is written
  have pgw : ∀ (s : Vw) (q : Nat) (off : Nat) (y : Value) (pg' : Pg), off < 3 → RD w0 s b q → q ≤ p + 8 → Keeps (σ.del b) (s.del b) → OSl w0 3 OPg s F u x.1 → OSl w0 3 OPn s G v x.2 → y.oneCell' = true → encPg pg' = (encPg pg).set off y → goodPg pg' →
      pIndexAddr 3 u (.int .i64 (k : Nat)) fun q => pField off q fun q => pVal false 1 y (pStore q [y] s fun s14 => pVal true 2 (.agg ⟨[u, v]⟩) (R (.agg ⟨[u, v]⟩) s14)) := by
    intro s q off y pg' hoff t1 t2 t3 t4 t5 hy he hg
    refine fl_store (ok_pg w0) t4 hxk off hoff rfl hy he hg fun s' k' o' => ?_
    obtain ⟨r1, r2⟩ := step_but t1 k' hbF t3 f1
    refine fin s' q u v F G _ _ r1 t2 r2 o' (t5.frame (ok_pn w0) (k'.at (fun i hi => (t5.dom (ok_pn w0) i hi).2) fun i hi hi' => hd i hi' hi)) hbF hbG ⟨by rw [List.length_set]; omega, by omega⟩
  have rel3 := o1.osl.rel (ok_pg w0)
  rw [pBin_eq, pIf_d]
  refine ⟨fun _ => ?_, fun _ => ?_⟩
  · refine fl_at rel3 hxk 0 (by omega) rfl fun g hg _ => ?_
    rw [hg, pUn_not]
    exact pgw s3 (p + 1 + 1) 0 _ { pg with used := !pg.used } (by omega) hrd3 (by omega) K3 o1.osl o2.osl rfl rfl gpg
  rw [pBin_eq, pIf_d]
  refine ⟨fun _ => ?_, fun _ => ?_⟩
  · refine fl_at rel3 hxk 1 (by omega) rfl fun g hg _ => ?_
    have e1 : (⟨#[120]⟩ : ByteArray).size = 1 := rfl
    rw [hg, pBin_cat (by rw [e1]; omega)]
    exact pgw s3 (p + 1 + 1) 1 _ { pg with data := pg.data ++ ⟨#[120]⟩ } (by omega) hrd3 (by omega) K3 o1.osl o2.osl rfl rfl ⟨by simp only [ByteArray.size_append, e1]; omega, gpg.2⟩
  rw [pBin_eq, pIf_d]
  refine ⟨fun _ => ?_, fun _ => ?_⟩
  · refine spec_pick (n := 8) hrd3 (by omega) (by omega) fun i s4 hi hrd4 hd4 ho4 => ?_
    rw [pBin_sub (by omega)]
    exact pgw s4 (p + 1 + 1 + 1) 2 _ { pg with next := (i : Int) - 2 } (by omega) hrd4 (by omega) (by rw [hd4]; exact K3) (o1.osl.frame (ok_pg w0) fun i hi => ho4 i fun e => hbF (e ▸ hi)) (o2.osl.frame (ok_pn w0) fun i hi => ho4 i fun e => hbG (e ▸ hi)) rfl rfl ⟨gpg.1, by unfold rng; simp only; omega⟩
  rw [pBin_eq, pIf_d]
  refine ⟨fun _ => ?_, fun _ => ?_⟩
  · rw [rel3.len, h96, pBin_sub (by omega)]
    have key := o1.osl
    have r1 := (key.frame (σ' := s3.del b) (ok_pg w0) fun i hi => del_ne fun e => hbF (e ▸ hi)).rel (ok_pg w0)
    have r2 := (o2.osl.frame (σ' := s3.del b) (ok_pn w0) fun i hi => del_ne fun e => hbG (e ▸ hi)).rel (ok_pn w0)
    refine r1.slice (l := 0) (u := 95) rfl rfl (by omega) (by omega) fun v33 r33 => ?_
    rw [pVal1 r33.one, pVal_2 r33.one (OSl.one' o2.osl)]
    refine hR _ (_, x.2) s3 (hrd3.more (by omega)) K3 ⟨v33, v, rfl, r33, r2⟩ ⟨by simp; omega, by show x.2.length ≤ 200; omega⟩
  rw [pBin_eq, pIf_d]
  refine ⟨fun _ => ?_, fun _ => ?_⟩
  · rw [pVal1 rfl, pVal1 rfl, pVal1 rfl]
    have hsz : ∀ x, x ∈ [(⟨#[122, 122]⟩ : ByteArray), ⟨#[]⟩, ⟨#[97]⟩] → x.size ≤ 7 := by
      intro x hx
      simp at hx
      rcases hx with rfl | rfl | rfl <;> decide
    intro n35 g3 g4
    obtain ⟨hne6, hrd6, k6⟩ := hrd3.new (r := ⟨t_string, [.string ⟨#[122, 122]⟩, .string ⟨#[]⟩, .string ⟨#[97]⟩], 3, (0, 0)⟩) g4
    have hnF : n35 ∉ F := fun hi => (o1.dom (ok_pg w0) n35 hi).2 g4
    have hnG : n35 ∉ G := fun hi => (o2.dom (ok_pn w0) n35 hi).2 g4
    refine spec_of hrd6 (by omega) (row_strs (xs := [(⟨#[122, 122]⟩ : ByteArray), ⟨#[]⟩, ⟨#[97]⟩]) (k := 3) g3 (by rw [del_ne hne6]; exact put_at) (fun x hx => by have := hsz x hx; omega) (by simp)) (by simp) fun y s7 hy hrd7 hd7 ho7 => ?_
    have hys := hsz y hy
    refine spec_pick (n := 4) hrd7 (by omega) (by omega) fun i s8 hi hrd8 hd8 ho8 => ?_
    rw [pBin_sub (by omega)]
    refine spec_pick (n := 3) hrd8 (by omega) (by omega) fun m s9 hm hrd9 hd9 ho9 => ?_
    rw [pVal1 rfl, pVal1 rfl, pVal1 rfl, pVal_3 rfl rfl rfl]
    have K9 : Keeps (σ.del b) (s9.del b) := by rw [hd9, hd8, hd7]; exact K3.trans k6
    have fr : ∀ i, i ≠ b → i ≠ n35 → s9 i = s3 i := fun i h1 h2 => by rw [ho9 i h1, ho8 i h1, ho7 i h1, put_ne h2]
    have p1 := o1.osl.frame (σ' := s9) (ok_pg w0) fun i hi => fr i (fun e => hbF (e ▸ hi)) fun e => hnF (e ▸ hi)
    have p2 := o2.frame (σ' := s9) (ok_pn w0) fun i hi => fr i (fun e => hbG (e ▸ hi)) fun e => hnG (e ▸ hi)
    refine p2.one (ok_pn w0) (f := []) (y := ⟨y, (i : Int) - 2, (m : Nat)⟩) ⟨rfl, rfl, by simp only; omega, by unfold rng; simp only; omega, by unfold rng; simp only; omega⟩ (by simp) (by omega) (by omega) fun v' G' s10 k10 o10 f10 => ?_
    obtain ⟨q1, q2⟩ := step_but hrd9 k10 hbG K9 f2
    have p1' := p1.frame (σ' := s10) (ok_pg w0) (k10.at (fun i hi => (p1.dom (ok_pg w0) i hi).2) fun i hi hi' => hd i hi hi')
    rw [pVal1 (OSl.one' o10.osl)]
    refine fin s10 _ u v' F G' _ _ q1 (by omega) q2 p1' o10.osl hbF (fun hb => ?_) ⟨by omega, by simp; omega⟩
    rcases f10 b hb with e | e | e
    · exact hbG e
    · cases e
    · exact hrd9.at e
  have relN := o2.osl.rel (ok_pn w0)
  rw [relN.len, pBin_gt, pIf_d]
  refine ⟨fun hpos => ?_, fun _ => fin s3 _ u v F G _ _ hrd3 (by omega) K3 o1.osl o2.osl hbF hbG ⟨by omega, by omega⟩⟩
  rw [relN.len]
  refine spec_pick (n := x.2.length) hrd3 (by omega) (by omega) fun i s4 hi hrd4 hd4 ho4 => ?_
  refine spec_pick (n := 3) hrd4 (by omega) (by omega) fun m s5 hm hrd5 hd5 ho5 => ?_
  have K5 : Keeps (σ.del b) (s5.del b) := by rw [hd5, hd4]; exact K3
  have fr5 : ∀ i, i ≠ b → s5 i = s3 i := fun i h1 => by rw [ho5 i h1, ho4 i h1]
  have p1 := o1.osl.frame (σ' := s5) (ok_pg w0) fun i hi => fr5 i fun e => hbF (e ▸ hi)
  have p2 := o2.osl.frame (σ' := s5) (ok_pn w0) fun i hi => fr5 i fun e => hbG (e ▸ hi)
  have hxi := List.getElem?_eq_getElem hi
  generalize x.2[i]'hi = pn at hxi
  have gpn := good_fl hv hxi
  have hpz := hok.size hxi
  have pnw : ∀ (s : Vw) (q : Nat) (off : Nat) (y : Value) (pn' : Pn), off < 3 → RD w0 s b q → q ≤ p + 8 → Keeps (σ.del b) (s.del b) → OSl w0 3 OPg s F u x.1 → OSl w0 3 OPn s G v x.2 → y.oneCell' = true → encPn pn' = (encPn pn).set off y → goodPn pn' →
      pIndexAddr 3 v (.int .i64 (i : Nat)) fun q => pField off q fun q => pVal false 1 y (pStore q [y] s fun s14 => pVal true 2 (.agg ⟨[u, v]⟩) (R (.agg ⟨[u, v]⟩) s14)) := by
    intro s q off y pn' hoff t1 t2 t3 t4 t5 hy he hg
    refine fl_store (ok_pn w0) t5 hxi off hoff rfl hy he hg fun s' k' o' => ?_
    obtain ⟨r1, r2⟩ := step_but t1 k' hbG t3 f2
    refine fin s' q u v F G _ _ r1 t2 r2 (t4.frame (ok_pg w0) (k'.at (fun i hi => (t4.dom (ok_pg w0) i hi).2) fun i hi hi' => hd i hi hi')) o' hbF hbG ⟨by omega, by rw [List.length_set]; omega⟩
  rw [pBin_eq, pIf_d]
  refine ⟨fun _ => ?_, fun _ => ?_⟩
  · refine spec_pick (n := 6) hrd5 (by omega) (by omega) fun a s6 ha hrd6 hd6 ho6 => ?_
    rw [pBin_sub (by omega)]
    exact pnw s6 _ 1 _ { pn with first := (a : Int) - 2 } (by omega) hrd6 (by omega) (by rw [hd6]; exact K5) (p1.frame (ok_pg w0) fun i hi => ho6 i fun e => hbF (e ▸ hi)) (p2.frame (ok_pn w0) fun i hi => ho6 i fun e => hbG (e ▸ hi)) rfl rfl ⟨gpn.1, by unfold rng; simp only; omega, gpn.2.2⟩
  rw [pBin_eq, pIf_d]
  refine ⟨fun _ => ?_, fun _ => ?_⟩
  · obtain ⟨bl, o, f, c, A, C, r, hix, hbl, hr, hc, hA, hOx, hblG, hf, hput⟩ := p2.focus (ok_pn w0) hxi
    obtain ⟨rfl, rfl, hgn⟩ := hOx
    refine hix _ ?_
    refine ldpB hbl hr hc hA (y := .int .i64 pn.size) rfl fun g hg => ?_
    refine spec_pick (n := 3) hrd5 (by omega) (by omega) fun a s6 ha hrd6 hd6 ho6 => ?_
    refine ⟨stayB (ho6 bl fun e => hbG (e ▸ hblG)), ?_⟩
    rw [hg, pBin_add (by omega), pBin_sub (by omega)]
    exact pnw s6 _ 2 _ { pn with size := pn.size + (a : Int) - 1 } (by omega) hrd6 (by omega) (by rw [hd6]; exact K5) (p1.frame (ok_pg w0) fun i hi => ho6 i fun e => hbF (e ▸ hi)) (p2.frame (ok_pn w0) fun i hi => ho6 i fun e => hbG (e ▸ hi)) rfl rfl ⟨gpn.1, gpn.2.1, by unfold rng; simp only; omega⟩
  · rw [pVal1 rfl, pVal1 rfl, pVal1 rfl]
    have hsz : ∀ x, x ∈ [(⟨#[]⟩ : ByteArray), ⟨#[122, 122]⟩, ⟨#[65]⟩] → x.size ≤ 7 := by
      intro x hx
      simp at hx
      rcases hx with rfl | rfl | rfl <;> decide
    intro n71 g3 g4
    obtain ⟨hne6, hrd6, k6⟩ := hrd5.new (r := ⟨t_string, [.string ⟨#[]⟩, .string ⟨#[122, 122]⟩, .string ⟨#[65]⟩], 3, (0, 0)⟩) g4
    have hnF : n71 ∉ F := fun hi => (p1.dom (ok_pg w0) n71 hi).2 g4
    have hnG : n71 ∉ G := fun hi => (p2.dom (ok_pn w0) n71 hi).2 g4
    refine spec_of hrd6 (by omega) (row_strs (xs := [(⟨#[]⟩ : ByteArray), ⟨#[122, 122]⟩, ⟨#[65]⟩]) (k := 3) g3 (by rw [del_ne hne6]; exact put_at) (fun x hx => by have := hsz x hx; omega) (by simp)) (by simp) fun y s7 hy hrd7 hd7 ho7 => ?_
    have hys := hsz y hy
    have fr : ∀ i, i ≠ b → i ≠ n71 → s7 i = s5 i := fun i h1 h2 => by rw [ho7 i h1, put_ne h2]
    exact pnw s7 _ 0 _ { pn with name := y } (by omega) hrd7 (by omega) (by rw [hd7]; exact K5.trans k6) (p1.frame (ok_pg w0) fun i hi => fr i (fun e => hbF (e ▸ hi)) fun e => hnF (e ▸ hi)) (p2.frame (ok_pn w0) fun i hi => fr i (fun e => hbG (e ▸ hi)) fun e => hnG (e ▸ hi)) rfl rfl ⟨by simp only; omega, gpn.2⟩

theorem spec_l61AnyPages {b p : Nat} (h : RD w0 σ b p) (hp : p ≤ 800000) {R : Value → Vw → Prop} (hR : OutP w0 σ b (p + 100) R) : AC Try.prog w0 n_spec_l61AnyPages [ptr b] σ R := by
  refine ac_spec_l61AnyPages ?_
  unfold vc_spec_l61AnyPages
  refine spec_l61Pages h (by omega) fun es x s1 hrd1 k1 hx1 hok1 => ?_
  rw [RPgs.two hx1]
  have h96 := hok1.1
  have h16 := hok1.2.1
  obtain ⟨u, v, rfl⟩ := RPgs.pair hx1
  simp only [cellOf_agg, List.getD_cons_zero, List.getD_cons_succ]
  refine spec_pick (n := 20) hrd1 (by omega) (by omega) fun j s2 hj hrd2 hd2 ho2 => ?_
  have k2 : Keeps (s1.del b) (s2.del b) := by rw [hd2]; exact Keeps.refl _
  have K2 := k1.trans k2
  have hx2 := mono_pgs k2.le hx1
  rw [pBin_eq, pIf_d]
  refine ⟨fun _ => ?_, fun _ => ?_⟩
  · refine spec_l61Spoil hrd2 (by omega) hx2 hok1 fun es x' s3 hrd3 k3 hx3 hl3 => ?_
    rw [RPgs.two hx3]
    obtain ⟨a, c, rfl⟩ := RPgs.pair hx3
    simp only [cellOf_agg, List.getD_cons_zero, List.getD_cons_succ]
    exact hR _ x' s3 (hrd3.more (by omega)) (K2.trans k3) hx3 hl3
  rw [pBin_eq, pIf_d]
  refine ⟨fun _ => ?_, fun _ => ?_⟩
  · refine loop_rule (m := 20) (fun m l s => ∃ (i : Nat) (a c : Value) (x : Pgs), m + i = 20 ∧ RD w0 s b (p + 71) ∧ Keeps (σ.del b) (s.del b) ∧ RPgs (Av.get w0 (s.del b)) [a, c] x ∧ OkS x ∧ l = [.int .i64 (i : Nat), .slice none 0 0, .slice none 0 0, a, c]) ?_
      ⟨0, u, v, x, by omega, hrd2, K2, hx2, hok1, rfl⟩
    clear hrd1 hrd2 hx1 hx2 hok1 h96 h16
    rintro m l s L ⟨i, a, c, x, hm, hrd, ks, hx, hok, rfl⟩ hL
    simp only [vget, List.getD_cons_zero, List.getD_cons_succ]
    have h96 := hok.1
    have h16 := hok.2.1
    have hx0 := hx
    obtain ⟨a', c', e, ha, hc⟩ := hx
    simp only [List.cons.injEq, and_true] at e
    obtain ⟨rfl, rfl⟩ := e
    have out : pVal true 2 (.agg ⟨[a, c]⟩) (R (.agg ⟨[a, c]⟩) s) := by
      rw [RPgs.two hx0]
      exact hR _ x s (hrd.more (by omega)) ks hx0 ⟨by omega, by omega⟩
    rw [hc.len, pBin_lt, pIf_d]
    refine ⟨fun _ => ?_, fun _ => out⟩
    rw [pBin_lt, pIf_d]
    refine ⟨fun hi => ?_, fun _ => out⟩
    refine RD.hide hrd (spec_l1Dec_nat i (by omega) (R := fun w t => w = .string (decN i) ∧ Keeps (s.del b) t) fun t k => ⟨rfl, k⟩) ?_ fun v s ⟨_, k⟩ => k
    rintro _ s3 k3 hrd3 ⟨rfl, _⟩
    have hd := (decN_size i).2
    have e1 : (⟨#[110]⟩ : ByteArray).size = 1 := rfl
    rw [pBin_cat (by rw [e1]; omega)]
    refine RD.hide hrd3 (spec_PagesPut (mono_pgs k3.le hx0) hok (by rw [ByteArray.size_append, e1]; omega) (Nat.zero_le _) (R := fun w s => ∃ es y cc, w = .tuple ⟨[.agg ⟨es⟩, .int .i64 cc]⟩ ∧ Keeps (s3.del b) s ∧ RPgs (Av.get w0 s) es y ∧ OkS y) fun es y cc s k o f => ⟨es, y, cc, rfl, k, o, f⟩) ?_ fun v s ⟨_, _, _, _, k, _⟩ => k
    rintro _ s6 k6 hrd6 ⟨es, y, cc, rfl, _, hr6, hok6⟩
    rw [pExtract_s rfl, pExtract_s rfl, RPgs.two hr6]
    obtain ⟨a', c', rfl⟩ := RPgs.pair hr6
    simp only [cellOf_agg, List.getD_cons_zero, List.getD_cons_succ]
    rw [pBin_add (by omega)]
    exact hL _ _ (m - 1) (by omega) ⟨i + 1, a', c', y, by omega, hrd6, (ks.trans k3).trans k6, hr6, hok6, rfl⟩
  rw [pBin_eq, pIf_d]
  refine ⟨fun _ => ?_, fun _ => ?_⟩
  · have e1 : (⟨#[98]⟩ : ByteArray).size = 1 := rfl
    refine spec_l1Many (n := 3000) (by rw [e1]; omega) (by rw [e1]; omega) (by omega) fun t ht => ?_
    rw [e1] at ht
    refine RD.hide hrd2 (spec_PagesPut hx2 hok1 (show (3 : Nat) ≤ _ by omega) (by omega) (R := fun w s => ∃ es y cc, w = .tuple ⟨[.agg ⟨es⟩, .int .i64 cc]⟩ ∧ Keeps (s2.del b) s ∧ RPgs (Av.get w0 s) es y ∧ OkS y) fun es y cc s k o f => ⟨es, y, cc, rfl, k, o, f⟩) ?_ fun v s ⟨_, _, _, _, k, _⟩ => k
    rintro _ s6 k6 hrd6 ⟨es, y, cc, rfl, _, hr6, hok6⟩
    rw [pExtract_s rfl, pExtract_s rfl, RPgs.two hr6]
    obtain ⟨a', c', rfl⟩ := RPgs.pair hr6
    simp only [cellOf_agg, List.getD_cons_zero, List.getD_cons_succ]
    rw [RPgs.two hr6]
    exact hR _ y s6 (hrd6.more (by omega)) (K2.trans k6) hr6 ⟨by have := hok6.1; omega, by have := hok6.2.1; omega⟩
  · rw [RPgs.two hx2]
    exact hR _ x s2 (hrd2.more (by omega)) K2 hx2 ⟨by omega, by omega⟩

theorem spec_DrawPagesFree {u : Value} {bs : List Nat} (h : RSl 1 RU8 (Av.get w0 (fun _ => none)) u bs) {R : Value → Vw → Prop} (hR : ∀ es (x : Pgs) s, RPgs (Av.get w0 s) es x → (x.1.length ≤ 200 ∧ x.2.length ≤ 200) → R (.agg ⟨es⟩) s) : AC Try.prog w0 n_spec_DrawPagesFree [u] σ R := by
  refine ac_spec_DrawPagesFree ?_
  unfold vc_spec_DrawPagesFree
  refine spec_l1Open h fun b s hrd hd hb => ?_
  refine spec_l61AnyPages hrd (by omega) fun es x s1 hrd1 k1 hx hl => ?_
  rw [RPgs.two hx]
  have hx' := mono_pgs del_le hx
  obtain ⟨a, c, rfl⟩ := RPgs.pair hx
  simp only [cellOf_agg, List.getD_cons_zero, List.getD_cons_succ]
  exact hR _ x s1 hx' hl
theorem spec_DrawPagesGet {u : Value} {bs : List Nat} (h : RSl 1 RU8 (Av.get w0 (fun _ => none)) u bs) {R : Value → Vw → Prop} (hR : ∀ es (x : Pgs) (nm : ByteArray) s, RPgs (Av.get w0 s) es x → (x.1.length ≤ 200 ∧ x.2.length ≤ 200) → nm.size ≤ 2 → R (.tuple ⟨[.agg ⟨es⟩, .string nm]⟩) s) : AC Try.prog w0 n_spec_DrawPagesGet [u] σ R := by
  refine ac_spec_DrawPagesGet ?_
  unfold vc_spec_DrawPagesGet
  refine spec_l1Open h fun b s hrd hd hb => ?_
  refine spec_l61AnyPages hrd (by omega) fun es x s1 hrd1 k1 hx hl => ?_
  have hsz : ∀ x, x ∈ [(⟨#[97]⟩ : ByteArray), ⟨#[98]⟩, ⟨#[99]⟩, ⟨#[101]⟩, ⟨#[122, 122]⟩] → x.size ≤ 2 := by
    intro x hx
    simp at hx
    rcases hx with rfl | rfl | rfl | rfl | rfl <;> decide
  rw [pVal1 rfl, pVal1 rfl, pVal1 rfl, pVal1 rfl, pVal1 rfl]
  refine of_lit (xs := [(⟨#[97]⟩ : ByteArray), ⟨#[98]⟩, ⟨#[99]⟩, ⟨#[101]⟩, ⟨#[122, 122]⟩]) hrd1 (by omega) (by simp) (fun x hx => by have := hsz x hx; omega) rfl rfl fun nm s3 hnm hrd3 k3 => ?_
  rw [RPgs.two hx]
  have hx' := mono_pgs (k3.le) hx
  obtain ⟨a, c, rfl⟩ := RPgs.pair hx
  simp only [cellOf_agg, List.getD_cons_zero, List.getD_cons_succ]
  exact hR _ x nm s3 (mono_pgs del_le hx') hl (hsz nm hnm)
theorem spec_DrawPagesDrop {u : Value} {bs : List Nat} (h : RSl 1 RU8 (Av.get w0 (fun _ => none)) u bs) {R : Value → Vw → Prop} (hR : ∀ es (x : Pgs) (nm : ByteArray) s, RPgs (Av.get w0 s) es x → (x.1.length ≤ 200 ∧ x.2.length ≤ 200) → nm.size ≤ 2 → R (.tuple ⟨[.agg ⟨es⟩, .string nm]⟩) s) : AC Try.prog w0 n_spec_DrawPagesDrop [u] σ R := by
  refine ac_spec_DrawPagesDrop ?_
  unfold vc_spec_DrawPagesDrop
  refine spec_DrawPagesGet h fun es x nm s hx hl hn => ?_
  rw [pExtract_s rfl, pExtract_s rfl, RPgs.two hx]
  have hx0 := hx
  obtain ⟨a, c, rfl⟩ := RPgs.pair hx
  simp only [cellOf_agg, List.getD_cons_zero, List.getD_cons_succ]
  exact hR _ x nm s hx0 hl hn

end
end Go.Proofs.Ytlfnfpdipghdiaa

/- The law on pages that are let go, of drawn pages. -/
set_option linter.unusedVariables false
set_option linter.unusedSimpArgs false
set_option maxRecDepth 20000
namespace Go.Proofs.Ytlfnfpdipghdiaa
open Go Go.Av Go.RowKit

section
variable {w0 : World} {σ : Vw}

theorem list_ne_at {α : Type} {xs ys : List α} {j : Nat} {x y : α} (hx : xs[j]? = some x) (hy : ys[j]? = some y) (h : x ≠ y) : xs ≠ ys := fun e => by
  subst e; rw [hx] at hy; cases hy; exact h rfl
theorem list_eq_all {α : Type} {xs ys : List α} (hl : xs.length = ys.length) (h : ∀ i, i < xs.length → xs[i]? = ys[i]?) : xs = ys := by
  apply List.ext_getElem?
  intro i
  rcases Nat.lt_or_ge i xs.length with e | e
  · exact h i e
  · rw [List.getElem?_eq_none e, List.getElem?_eq_none (by omega)]

theorem wxPages {es es' : List Value} {x y : Pgs} (h : RPgs (Av.get w0 σ) es x) (h' : RPgs (Av.get w0 σ) es' y) {R : Value → Vw → Prop} (hR : R (.bool (decide (x = y))) σ) : AC Try.prog w0 n_laws_wxPages [.agg ⟨es⟩, .agg ⟨es'⟩] σ R := by
  refine ac_laws_wxPages ?_
  unfold vc_laws_wxPages cs_laws_wxPages_1
  rw [RPgs.two h, RPgs.two h']
  obtain ⟨u, v, rfl, hu, hv⟩ := h
  obtain ⟨u', v', rfl, hu', hv'⟩ := h'
  simp only [cellOf_agg, List.getD_cons_zero, List.getD_cons_succ]
  have no : x ≠ y → R (.bool false) σ := fun h => by rw [decide_eq_false h] at hR; exact hR
  have hl1 := hu.le
  have hl2 := hv.le
  rw [hu.len, hu'.len, pBin_ne, pIf_d]
  refine ⟨fun h => no fun e => h (by rw [e]), fun h1 => ?_⟩
  rw [hv.len, hv'.len, pBin_ne, pIf_d]
  refine ⟨fun h => no fun e => h (by rw [e]), fun h2 => ?_⟩
  have h1 : x.1.length = y.1.length := by omega
  have h2 : x.2.length = y.2.length := by omega
  refine loop_rule (m := x.1.length) (fun m l s => ∃ j : Nat, m + j = x.1.length ∧ s = σ ∧ (∀ i, i < j → x.1[i]? = y.1[i]?) ∧ l = [.bool false, .int .i64 (j : Nat), u, v, u', v']) ?_ ⟨0, by omega, rfl, fun i h => by omega, rfl⟩
  rintro m l s L ⟨j, hm, rfl, hj, rfl⟩ hL
  simp only [vget, List.getD_cons_zero, List.getD_cons_succ]
  rw [hu.len, pBin_lt, pIf_d]
  refine ⟨fun hlt => ?_, fun hge => ?_⟩
  · have hx := List.getElem?_eq_getElem (show j < x.1.length by omega)
    have hy := List.getElem?_eq_getElem (show j < y.1.length by omega)
    generalize x.1[j]'(by omega) = a at hx
    generalize y.1[j]'(by omega) = c at hy
    refine pg_at hu hx fun g g0 g1 g2 _ => ?_
    refine pg_at hu' hy fun g' g0' g1' g2' _ => ?_
    rw [g0, g1, g2, g0', g1', g2']
    show pBin Try.prog t_impl_Page .neq (.agg ⟨encPg a⟩) (.agg ⟨encPg c⟩) _
    rw [pBin_pg, pIf_d]
    refine ⟨fun hne => no fun e => list_ne_at hx hy hne (by rw [e]), fun he => ?_⟩
    have he : a = c := by simpa using he
    rw [pBin_add (by omega)]
    refine hL _ _ (m - 1) (by omega) ⟨j + 1, by omega, rfl, fun i hi => ?_, rfl⟩
    by_cases e : i = j
    · subst e; rw [hx, hy, he]
    · exact hj i (by omega)
  · have e1 : x.1 = y.1 := list_eq_all h1 fun i hi => hj i (by omega)
    refine loop_rule (m := x.2.length) (fun m l s' => ∃ j : Nat, m + j = x.2.length ∧ s' = s ∧ (∀ i, i < j → x.2[i]? = y.2[i]?) ∧ l = [.bool false, .int .i64 (j : Nat), u, v, u', v']) ?_ ⟨0, by omega, rfl, fun i h => by omega, rfl⟩
    clear hL
    rintro m l s L ⟨j, hm, rfl, hj, rfl⟩ hL
    simp only [vget, List.getD_cons_zero, List.getD_cons_succ]
    rw [hv.len, pBin_lt, pIf_d]
    refine ⟨fun hlt => ?_, fun hge => ?_⟩
    · have hx := List.getElem?_eq_getElem (show j < x.2.length by omega)
      have hy := List.getElem?_eq_getElem (show j < y.2.length by omega)
      generalize x.2[j]'(by omega) = a at hx
      generalize y.2[j]'(by omega) = c at hy
      refine pn_at hv hx fun g g0 g1 g2 _ => ?_
      refine pn_at hv' hy fun g' g0' g1' g2' _ => ?_
      rw [g0, g1, g2, g0', g1', g2']
      show pBin Try.prog t_impl_PageName .neq (.agg ⟨encPn a⟩) (.agg ⟨encPn c⟩) _
      rw [pBin_pn, pIf_d]
      refine ⟨fun hne => no fun e => list_ne_at hx hy hne (by rw [e]), fun he => ?_⟩
      have he : a = c := by simpa using he
      rw [pBin_add (by omega)]
      refine hL _ _ (m - 1) (by omega) ⟨j + 1, by omega, rfl, fun i hi => ?_, rfl⟩
      by_cases e : i = j
      · subst e; rw [hx, hy, he]
      · exact hj i (by omega)
    · have e2 : x.2 = y.2 := list_eq_all h2 fun i hi => hj i (by omega)
      have e3 : x = y := Prod.ext e1 e2
      rw [decide_eq_true e3] at hR
      exact hR

theorem getP_size (x : Pgs) (nm : ByteArray) : (getP x nm).1.size ≤ 3000 := by
  unfold getP
  split
  · rename_i hok
    have hS := pagesOk_iff.1 hok
    split
    · rename_i n hn
      obtain ⟨j, h1, h2⟩ := Option.bind_eq_some_iff.1 hn
      have h3 := (text_size hS h2).1
      have h4 := hS.size h2
      simp only; omega
    · exact Nat.zero_le _
  · exact Nat.zero_le _
theorem pagesFree_le (x : Pgs) : 0 ≤ pagesFree x ∧ pagesFree x ≤ x.1.length := by
  unfold pagesFree
  have := freeN_le x.1
  split <;> omega

/-- The law: what is let go gives all its pages back. -/
theorem law_PagesDropF {u : Value} {bs : List Nat} (h : RSl 1 RU8 (Av.get w0 (fun _ => none)) u bs) {R : Value → Vw → Prop} (hR : ∀ s, R (.bool true) s) : AC Try.prog w0 n_laws_FnPagesDrop [u] σ R := by
  refine ac_laws_FnPagesDrop ?_
  unfold vc_laws_FnPagesDrop
  have hu : RSl 1 RU8 (Av.get w0 σ) u bs := h.mono (Keeps.le fun _ _ h => by cases h) fun _ _ h => h
  rw [hu.len, pBin_gt, pIf_d]
  refine ⟨fun _ => hR _, fun _ => ?_⟩
  refine spec_DrawPagesDrop h fun es x nm s hx hl hnm => ?_
  rw [pExtract_s rfl, pExtract_s rfl, RPgs.two hx]
  have hx0 := hx
  obtain ⟨a, c, rfl⟩ := RPgs.pair hx
  simp only [cellOf_agg, List.getD_cons_zero, List.getD_cons_succ]
  have hdl := dropP_len (x := x) (name := nm)
  have hlaw := drop_law x nm
  have ok := ok_pgs w0
  refine impl_PagesDrop hx0 (by omega) (by omega) fun es1 F1 s1 k1 o1 f1 => ?_
  rw [pExtract_s rfl, pExtract_s rfl, OPgs.two o1]
  have r1 := ok.rel _ _ _ _ o1
  obtain ⟨a1, c1, rfl⟩ := RPgs.pair r1
  simp only [cellOf_agg, List.getD_cons_zero, List.getD_cons_succ]
  refine spec_PagesDrop (mono_pgs k1.le hx0) (by omega) (by omega) fun es2 F2 s2 k2 o2 f2 => ?_
  rw [pExtract_s rfl, pExtract_s rfl, OPgs.two o2]
  have r2 := ok.rel _ _ _ _ o2
  obtain ⟨a2, c2, rfl⟩ := RPgs.pair r2
  simp only [cellOf_agg, List.getD_cons_zero, List.getD_cons_succ]
  have k12 := k1.trans k2
  refine impl_PagesGet (mono_pgs k12.le hx0) fun s3 k3 => ?_
  rw [pExtract_s rfl, pExtract_s rfl, pBin_ne, pIf_d]
  refine ⟨fun h => absurd rfl h, fun _ => ?_⟩
  have r13 := mono_pgs (k2.trans k3).le r1
  refine wxPages r13 (mono_pgs k3.le r2) ?_
  rw [pUn_not, pIf_b]
  refine ⟨fun h => by simp at h, fun _ => ?_⟩
  rw [pBin_ne, pIf_d]
  refine ⟨fun hne => ?_, fun he => ?_⟩
  · rcases hlaw with ⟨_, l2, l3⟩ | ⟨l1, _⟩
    · rw [l2, pUn_not, pIf_b]
      refine ⟨fun _ => ?_, fun h => by simp at h⟩
      rw [pBin_eq, pIf_d]
      refine ⟨fun _ => hR _, fun hn1 => ?_⟩
      have l3 : (dropP x nm).1 = x := by
        rcases l3 with l3 | l3
        · exact absurd l3 hn1
        · exact l3
      refine wxPages r13 (mono_pgs (k12.trans k3).le hx0) ?_
      rw [decide_eq_true l3]
      exact hR _
    · exact absurd l1 hne
  · have he : (dropP x nm).2 = 0 := by simpa using he
    rcases hlaw with ⟨l1, _⟩ | ⟨_, l2, l3, l4, l5⟩
    · exact absurd he l1
    · refine impl_PagesGet r13 fun s4 k4 => ?_
      rw [pExtract_s rfl, pExtract_s rfl, l2, l3, pIf_b]
      refine ⟨fun _ => ?_, fun h => by simp at h⟩
      rw [pUn_not, pIf_b]
      refine ⟨fun _ => ?_, fun h => by simp at h⟩
      refine impl_PagesFree (mono_pgs k4.le r13) (by omega) fun s5 k5 => ?_
      have K3 := k12.trans k3
      have K5 := (K3.trans k4).trans k5
      refine impl_PagesFree (mono_pgs K5.le hx0) (by omega) fun s6 k6 => ?_
      have hg := getP_size x nm
      have hp := pagesFree_le x
      refine impl_Need (by omega) ?_
      have hnk : needK (getP x nm).1 ≤ 80 := by unfold needK; omega
      rw [pBin_add (by omega), pBin_eq, pIf_d]
      refine ⟨fun _ => ?_, fun h => absurd l4 h⟩
      refine impl_PagesOk (mono_pgs ((k4.trans k5).trans k6).le r13) fun s7 k7 => ?_
      rw [l5]
      exact hR _
end
end Go.Proofs.Ytlfnfpdipghdiaa

/- The law FnPagesDrop holds: it returns true, and the input reads as it did. No condition. -/
namespace Go.Proofs.Ytlfnfpdipghdiaa.fnPagesDrop
open Go.ChangeShapes Go.WideShapes Go.ChangeAt Go.RowKit Go.Av
set_option linter.unusedVariables false
set_option linter.unusedSimpArgs false
theorem own : ownKnob Try.prog.godebug = none := by kernel_rfl
theorem laidOut : laidOutB Try.prog = true := by kernel_rfl
set_option maxRecDepth 100000 in
theorem lifted (os : Os) (started : os.Started) (H : Type) (enc : TypeId × Value → H) :
    ReturnsInHanded {} Try.checked os 6 .any (Rows.fnPagesDropSpec.pre6 enc Try.prog Try.f6 Rows.fnPagesDropRow.domain false) (Rows.fnPagesDropSpec.post enc Try.prog Try.f6 false true false false) := by
  refine returnsInHanded_of_change_sized (C := Try.checked) own started (by kernel_rfl) Try.func6
    (ChangeSpec.witness6 (enc := enc) (C := Try.checked) false ⟨#[], #[.slice none 0 0], []⟩ 8 (by kernel_rfl) (by kernel_rfl) (by kernel_rfl) (by kernel_rfl)) ?_
  intro W base args ds gs before hval0 hW hcnd hsz0 _
  have hval : ∀ (j : Nat) t v, Try.f6.params[j]? = some t → args[j]? = some v → Value.okWide Try.prog W .any base t v := hval0
  have hW' := hW
  obtain ⟨p, q, hA0, hV, rfl, hfz, hnd⟩ := hW
  have hA : DataW.TrodAll enc Try.prog W 0 (fun _ => true) true Try.f6.params.toList args.toList ds p := hA0
  rw [Try.params6] at hA hval
  obtain ⟨v0, d0, rfl, rfl, h0⟩ := trodAll_one hA
  obtain ⟨rfl, rfl⟩ := trodVars_none hV
  obtain ⟨A0, len0, cap0, rfl⟩ := okWide_slice (t := 22) (e := 5) (by kernel_rfl) (hval 0 22 v0 rfl rfl)
  have h0k := h0
  obtain ⟨fuel0, hf0⟩ := h0
  clear hA0 hval0 hsz0
  simp only [List.append_nil] at hW'
  have hlt : ∀ x ∈ p, x.block < W.heap.size := fun x hx => by simpa using hW'.lt x hx
  have hargs0 : ∀ (W' : World), Below W.heap.size W W' → DataW.Trod enc Try.prog W' 0 (fun b => decide (b < W.heap.size)) true 22 (.slice A0 len0 cap0) d0 p :=
    fun W' hn => Below.trod laidOut (by kernel_rfl) (of_decide_eq_true (by kernel_rfl)) h0k hn hlt
  obtain ⟨u0, x0, hu0, r0⟩ := open_rsl (t := t_s_uint8) (e := t_uint8) (by kernel_rfl) (by kernel_rfl) open_byteD hf0
  have hu0' : u0 = .slice A0 len0 cap0 := by
    have : [Value.slice A0 len0 cap0] = [u0] := hu0
    cases this; rfl
  subst hu0'
  refine ((law_PagesDropF (R := fun v _ => v = .bool true) r0 (by intros; rfl)).calls).mono fun e W' ⟨v, σ', he, hv, bel⟩ => ?_
  subst he hv
  exact ⟨_, rfl, _, _, _, [], _, [], hW', trodAll_mk1 (shut_bool Try.underlying4 _), trodAll_mk1 (hargs0 W' bel), rfl, bel.frame _, fun h => by cases h⟩
theorem over : Rows.fnPagesDropRow.holds Try.pinned (OpenSpec.ofChange Rows.fnPagesDropSpec) :=
  OpenClaim.holds_of_wide 6 Try.f6 rfl rfl rfl rfl rfl rfl rfl ⟨rfl, rfl, rfl, rfl, rfl⟩ rfl rfl rfl rfl rfl (by kernel_rfl) Try.func6 (by kernel_rfl)
    (of_decide_eq_true (by kernel_rfl)) (by unfold Func.isWrapper; first | (rw [if_pos (by decide +kernel)]; kernel_rfl) | (rw [if_neg (by decide +kernel)]; exact ⟨rfl, rfl⟩))
    (fun os started H enc _ => lifted os started H enc)
theorem proved : Rows.FnPagesDropSaid := over
end Go.Proofs.Ytlfnfpdipghdiaa.fnPagesDrop
namespace Go.Proofs.Ytlfnfpdipghdiaa
/-- The row, under a short name, for the claim. -/
theorem fnPagesDrop_holds : Rows.FnPagesDropSaid := fnPagesDrop.proved
end Go.Proofs.Ytlfnfpdipghdiaa
