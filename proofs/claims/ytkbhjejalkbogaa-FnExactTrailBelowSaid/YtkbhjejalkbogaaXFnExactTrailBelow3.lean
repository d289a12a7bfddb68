/- The law FnExactTrailBelow holds: it returns true, and the input reads as it did. No condition. This is part 3 of 3 of its proof. -/
import Derived.Test.YtkbhjejalkbogaaXFnExactTrailBelow2
import Derived.Shelf.Strconv.Itoa0
import Derived.Shelf.Sort.Plain
import Derived.Shelf.Slices.CompactS
import Derived.Shelf.Slices.Cells
import Derived.Shelf.Slices.In.SortNone
import Derived.Test.YtkbhjejalkbogaaProg
import Derived.Lib.AppendIntMem
import Derived.Lib.Join
import Derived.Lib.SlicesCompact
import Derived.Sort.Walk0
import Derived.Below
import Derived.Test.YtkbhjejalkbogaaRows
import Derived.WalkKit
import Derived.ProofKit
import Derived.OpenShut
import Derived.ShutString
import Derived.ChangeOld
import Derived.Carry
import Derived.SizedLaws

/- A part of a list that is read; slices of texts. -/
set_option linter.unusedVariables false
set_option linter.unusedSimpArgs false
namespace Go.Av
open Go Go.RowKit

section
variable {P : Program} {w0 : World} {σ σ' : Vw} {α : Type}

theorem RSl.slice {n : Nat} {R : (Addr → Option Value) → List Value → α → Prop} {rd : Addr → Option Value} {v : Value} {xs : List α} (h : RSl n R rd v xs) {lo hi : Option Value} {l u : Nat} (hl : boundOf 0 lo = some (l : Int)) (hu : boundOf xs.length hi = some (u : Int)) (hlu : l ≤ u) (hux : u ≤ xs.length) {K : Value → Prop}
    (hK : ∀ v', RSl n R rd v' ((xs.take u).drop l) → K v') : pSlice n v lo hi K := by
  obtain ⟨A, cap, rfl, h2, h3⟩ := h
  refine ⟨A, xs.length, cap, l, u, rfl, hl, hu, by omega, by omega, by omega, hK _ ?_⟩
  have hlen : ((xs.take u).drop l).length = u - l := by rw [List.length_drop, List.length_take]; omega
  simp only [Int.toNat_natCast]
  refine ⟨if cap = l then A else Option.map (fun x => x.add (l * n)) A, cap - l, by rw [hlen], by rw [hlen]; omega, fun j x hj => ?_⟩
  rw [List.getElem?_drop] at hj
  have hlt : l + j < u := by
    rcases Nat.lt_or_ge (l + j) u with h | h
    · exact h
    · rw [List.getElem?_eq_none (by rw [List.length_take]; omega)] at hj; cases hj
  rw [List.getElem?_take_of_lt hlt] at hj
  obtain ⟨a, es, rfl, g1, g2, g3⟩ := h3 _ x hj
  refine ⟨a.add (l * n), es, ?_, g1, fun i hi => ?_, g3⟩
  · rw [if_neg (by omega)]; rfl
  · rw [add_add, ← g2 i hi]
    congr 2
    rw [Nat.add_mul]; omega

/-- A field of an element is read. -/
theorem RSl.atp {n : Nat} {R : (Addr → Option Value) → List Value → α → Prop} {v : Value} {xs : List α} (h : RSl n R (Av.get w0 σ) v xs) {j : Nat} {x : α} (hj : xs[j]? = some x) {K : Value → (Nat → Value) → Prop} (hK : ∀ (p : Value) (g : Nat → Value), R (Av.get w0 σ) (expl g 0 n) x → K p g) :
    pIndexAddr n v (.int .i64 j) fun p => pLoad w0 n p σ (K p) := by
  have h' := h
  obtain ⟨A, cap, rfl, _, h3⟩ := h
  obtain ⟨a, es, rfl, h5, h6, h7⟩ := h3 j x hj
  have hlt : j < xs.length := (List.getElem?_eq_some_iff.1 hj).1
  refine ⟨a, xs.length, cap, .i64, j, rfl, rfl, by omega, by omega, a.add (j * n), fun i => es.getD i undef, rfl, fun i hi => ?_, hK _ _ ?_⟩
  · have := h6 i hi
    have hlt : i < es.length := by omega
    rw [add_add]
    show Av.get w0 σ (a.add (j * n + i)) = _
    rw [this, List.getElem?_eq_getElem hlt]
    simp only [List.getD_eq_getElem?_getD, List.getElem?_eq_getElem hlt, Option.getD_some]
  · have : expl (fun i => es.getD i undef) 0 n = es := by
      apply List.ext_getElem?
      intro i
      by_cases hi : i < n
      · rw [expl_get _ _ _ _ hi, Nat.zero_add, List.getD_eq_getElem?_getD]
        have hlt : i < es.length := by omega
        rw [List.getElem?_eq_getElem hlt]; rfl
      · rw [List.getElem?_eq_none (by rw [length_expl]; omega), List.getElem?_eq_none (by omega)]
    rw [this]; exact h7
theorem RSl.atfp {n : Nat} {R : (Addr → Option Value) → List Value → α → Prop} {v : Value} {xs : List α} (h : RSl n R (Av.get w0 σ) v xs) {j : Nat} {x : α} (hj : xs[j]? = some x) (o : Nat) (ho : o < n) {K : Value → (Nat → Value) → Prop} (hK : ∀ (q : Value) (es : List Value) (g : Nat → Value), R (Av.get w0 σ) es x → es[o]? = some (g 0) → K q g) :
    pIndexAddr n v (.int .i64 j) fun p => pField o p fun q => pLoad w0 1 q σ (K q) := by
  obtain ⟨A, cap, rfl, _, h3⟩ := h
  obtain ⟨a, es, rfl, h5, h6, h7⟩ := h3 j x hj
  have hlt : j < xs.length := (List.getElem?_eq_some_iff.1 hj).1
  refine ⟨a, xs.length, cap, .i64, j, rfl, rfl, by omega, by omega, a.add (j * n), rfl, (a.add (j * n)).add o, fun _ => es.getD o undef, rfl, fun i hi => ?_, hK _ es _ h7 ?_⟩
  · have e : i = 0 := by omega
    subst e
    have := h6 o ho
    rw [add_add, add_add, Nat.add_zero, this, List.getElem?_eq_getElem (by omega)]
    simp only [List.getD_eq_getElem?_getD, List.getElem?_eq_getElem (show o < es.length by omega), Option.getD_some]
  · simp only [List.getD_eq_getElem?_getD, List.getElem?_eq_getElem (show o < es.length by omega), Option.getD_some]

theorem RSl.atf {n : Nat} {R : (Addr → Option Value) → List Value → α → Prop} {v : Value} {xs : List α} (h : RSl n R (Av.get w0 σ) v xs) {j : Nat} {x : α} (hj : xs[j]? = some x) (o : Nat) (ho : o < n) {K : (Nat → Value) → Prop} (hK : ∀ (es : List Value) (g : Nat → Value), R (Av.get w0 σ) es x → es[o]? = some (g 0) → K g) :
    pIndexAddr n v (.int .i64 j) fun p => pField o p fun q => pLoad w0 1 q σ K :=
  h.atfp hj o ho fun q => hK

end
end Go.Av

/- Marks of texts. -/
set_option linter.unusedVariables false
set_option linter.unusedSimpArgs false
namespace Go.Proofs.Ytkbhjejalkbogaa
open Go Go.Av

section
variable {w0 : World} {σ : Vw}

end
end Go.Proofs.Ytkbhjejalkbogaa

/- Rows of our own: cells stored, an element taken out in place, the copy of two lists in any order. -/
set_option linter.unusedVariables false
set_option linter.unusedSimpArgs false
namespace Go.Av
open Go Go.RowKit

section
variable {P : Program} {w0 : World} {σ σ' : Vw} {α γ : Type}

theorem cell_store {b o : Nat} {r : Row} {A c C new : List Value} {K : Vw → Prop} (hr : σ b = some r) (hc : r.cells = A ++ (c ++ C)) (hA : A.length = o) (hl : c.length = new.length)
    (hK : K (σ.put b { r with cells := A ++ (new ++ C) })) : pStore (.pointer (some ⟨b, o, none⟩)) new σ K := by
  refine ⟨b, o, r, rfl, hr, by rw [hc]; simp only [List.length_append]; omega, ?_⟩
  rw [hc, ← hA, setAt_mid A c new C hl]
  exact hK

/-- An element of a list of our own is written, all its cells. -/
theorem OSl.store {n : Nat} {Rel : (Addr → Option Value) → List Value → α → Prop} {O : Vw → List Nat → List Value → α → Prop} (ok : OOk w0 n Rel O) {F : List Nat} {v : Value} {xs : List α} (h : OSl w0 n O σ F v xs) {j : Nat} {x y : α} {new : List Value} (hj : xs[j]? = some x)
    (hO : ∀ f c σ', O σ f c x → O σ' f new y) (hn : new.length = n) {K : Vw → Prop}
    (hK : ∀ σ', KeepsBut F σ σ' → OSl w0 n O σ' F v (xs.set j y) → K σ') : pIndexAddr n v (.int .i64 j) fun p => pStore p new σ K := by
  obtain ⟨b, o, f, c, A, C, r, hix, hb, hr, hc, hA, hOx, hbF, hf, hput⟩ := h.focus ok hj
  refine hix _ ?_
  have hcl := ok.len _ _ _ _ hOx
  refine cell_store hr hc hA (by rw [hcl, hn]) ?_
  exact hK _ (KeepsBut.put hbF) (hput _ new y _ put_at rfl (hO _ _ _ hOx) fun i hi hne _ => by simp [Vw.put, hne])

theorem fresh_in {F F' : List Nat} {σ s : Vw} (k : Keeps σ s) (hF : ∀ i, i ∈ F → σ i = none) (h : ∀ i, i ∈ F' → i ∈ F ∨ s i = none) : ∀ i, i ∈ F' → σ i = none := fun i hi => by
  rcases h i hi with e | e
  · exact hF i e
  · cases hs : σ i with
    | none => rfl
    | some r => rw [k i r hs] at e; cases e
theorem KeepsBut.dom {F : List Nat} {σ σ' : Vw} (k : KeepsBut F σ σ') {i : Nat} (h : σ i ≠ none) (hF : i ∉ F) : σ' i ≠ none := by
  cases hs : σ i with
  | none => exact absurd hs h
  | some r => rw [k i r hs hF]; simp

/-! ### An element is taken out, in place -/
end
end Go.Av

/- Trees: their copy, their comparison. -/
set_option linter.unusedVariables false
set_option linter.unusedSimpArgs false
namespace Go.Proofs.Ytkbhjejalkbogaa
open Go Go.Av

section
variable {w0 : World}

/-- No list in it is too long. -/
def fitT : Nat → Tr → Prop
  | 0, _ => True
  | n + 1, .mk d m t ns ks => ns.length ≤ 1000000000000 ∧ ks.length ≤ 1000000000000 ∧ ∀ k, k ∈ ks → fitT n k
theorem fit_of : ∀ (n : Nat) (x : Tr), szT n x ≤ 1000000000000 → fitT n x
  | 0, _, _ => trivial
  | n + 1, .mk d m t ns ks, h => by
    simp only [szT] at h
    refine ⟨by omega, by omega, fun k hk => fit_of n k ?_⟩
    have := sumBy_mem (f := szT n) hk
    omega

theorem toTree : ∀ (n : Nat) {σ : Vw} {es : List Value} {x : Tr} {R : Value → Vw → Prop}, RT n (Av.get w0 σ) es x → fitT n x → (∀ es' F σ', Keeps σ σ' → OT w0 n σ' F es' x → (∀ b, b ∈ F → σ b = none) → R (.agg ⟨es'⟩) σ') → AC Try.prog w0 n_laws_toTree [.agg ⟨es⟩] σ R
  | 0, _, _, _, _, h, _, _ => h.elim
  | n + 1, σ, es, .mk d md t ns ks, R, h, hf, hR => by
    obtain ⟨u, w, rfl, h2, h3, h4, h5⟩ := h
    obtain ⟨f1, f2, f3⟩ := hf
    refine ac_laws_toTree ?_
    unfold vc_laws_toTree
    rw [pVal_5 rfl rfl rfl h4.one h5.one]
    simp only [cellOf_agg, List.getD_cons_zero, List.getD_cons_succ]
    rw [pVal1 rfl, pVal1 rfl, pVal1 rfl]
    refine toStringS' h4 f1 fun u' F1 s1 k1 o1 n1 => ?_
    rw [pVal1 (OSl.one' o1)]
    refine ac_laws_toTreeS ?_
    have e : ∀ (v : Value) (s : Vw) (R : Value → Vw → Prop), vc_laws_toTreeS w0 v s R = VtoS Try.prog w0 3 t_impl_Tree 5 80 n_laws_toTree [.bool false, .int .i64 0, .string ⟨#[]⟩, .slice none 0 0, .slice none 0 0] v s R := fun v s R => by kernel_rfl
    rw [e]
    refine toS_gen (n := 5) (Rel := RT n) (bytes := 80) rfl (ok_rt w0 n) (fun _ _ _ _ hl h => mono_rt n _ _ _ _ hl h) (fun x hx s es R' _ h hR => toTree n h (f3 x hx) hR) (h5.mono k1.le fun es x => mono_rt n _ _ es x k1.le) (by omega) fun w' F2 s2 k2 o2 n2 => ?_
    rw [pVal1 (OSl.one' o2), pVal_5 rfl rfl rfl (OSl.one' o1) (OSl.one' o2)]
    have o1' := o1.frame (ok_str w0) (σ' := s2) fun b hb => by
      cases hs : s1 b with
      | none => exact absurd hs (o1.dom (ok_str w0) b hb).2
      | some r => exact k2 b r hs
    refine hR _ (F1 ++ F2) s2 (k1.trans k2) ⟨u', w', F1, F2, rfl, h2, h3, o1', o2, rfl, ?_⟩ fun b hb => ?_
    · refine List.nodup_append.2 ⟨o1.2.1, o2.2.1, fun a ha b hb hab => ?_⟩
      subst hab
      exact (o1.dom (ok_str w0) a ha).2 (n2 a hb)
    · rcases List.mem_append.1 hb with h | h
      · exact n1 b h
      · have := n2 b h
        cases hs : σ b with
        | none => rfl
        | some r => rw [k1 b r hs] at this; cases this

theorem eqTree : ∀ (n : Nat) {σ : Vw} {es es' : List Value} {x y : Tr} {R : Value → Vw → Prop}, RT n (Av.get w0 σ) es x → RT n (Av.get w0 σ) es' y → R (.bool (decide (x = y))) σ → AC Try.prog w0 n_laws_eqTree [.agg ⟨es⟩, .agg ⟨es'⟩] σ R
  | 0, _, _, _, _, _, _, h, _, _ => h.elim
  | n + 1, σ, es, es', .mk d md t ns ks, .mk d' md' t' ns' ks', R, h, h', hR => by
    obtain ⟨u, w, rfl, h2, h3, h4, h5⟩ := h
    obtain ⟨u', w', rfl, h2', h3', h4', h5'⟩ := h'
    refine ac_laws_eqTree ?_
    unfold vc_laws_eqTree
    rw [pVal_5 rfl rfl rfl h4.one h5.one, pVal_5 rfl rfl rfl h4'.one h5'.one]
    simp only [cellOf_agg, List.getD_cons_zero, List.getD_cons_succ]
    have no : ¬ (d = d' ∧ md = md' ∧ t = t' ∧ ns = ns' ∧ ks = ks') → R (.bool false) σ := fun hn => by
      have : ¬ (Tr.mk d md t ns ks = Tr.mk d' md' t' ns' ks') := fun e => hn (by cases e; exact ⟨rfl, rfl, rfl, rfl, rfl⟩)
      simpa [this] using hR
    have eb : ∀ K : Value → Prop, pBin Try.prog 4 .neq (.bool d) (.bool d') K ↔ K (.bool !(d == d')) := fun K => pBin_b (by kernel_rfl) rfl
    rw [eb, pIf_b]
    refine ⟨fun h => no fun hh => by simp [hh.1] at h, fun e1 => ?_⟩
    rw [pBin_ne, pIf_d]
    refine ⟨fun h => no fun hh => h hh.2.1, fun e2 => ?_⟩
    rw [pBin_sne, pIf_d]
    refine ⟨fun h => no fun hh => h hh.2.2.1, fun e3 => ?_⟩
    refine eqStringS h4 h4' ?_
    rw [pUn_not, pIf_b]
    refine ⟨fun h => no fun hh => by simp [hh.2.2.2.1] at h, fun e4 => ?_⟩
    refine ac_laws_eqTreeS ?_
    have e : ∀ (v v' : Value) (R : Value → Vw → Prop), vc_laws_eqTreeS w0 v v' σ R = VeqS Try.prog w0 3 5 n_laws_eqTree v v' σ R := fun v v' R => by kernel_rfl
    rw [e]
    refine eqS_gen (fun x _ y es es' R' h h' hR => eqTree n h h' hR) h5 h5' ?_
    rw [pUn_not, pIf_b]
    refine ⟨fun h => no fun hh => by simp [hh.2.2.2.2] at h, fun e5 => ?_⟩
    have : Tr.mk d md t ns ks = Tr.mk d' md' t' ns' ks' := by
      simp at e1 e2 e3 e4 e5
      rw [e1, e2, e3, e4, e5]
    simpa [this] using hR
end
end Go.Proofs.Ytkbhjejalkbogaa

/- Trees: when one is sound. -/
set_option linter.unusedVariables false
set_option linter.unusedSimpArgs false
namespace Go.Proofs.Ytkbhjejalkbogaa
open Go Go.Av

def prevLt (ns : List ByteArray) (j : Nat) (x : ByteArray) : Bool :=
  match j with
  | 0 => true
  | i + 1 => match ns[i]? with
    | some y => strLt y x
    | none => true
noncomputable def nameAt (ns : List ByteArray) (j : Nat) (x : ByteArray) : Bool := nameOk x && prevLt ns j x
def namesP (ns : List ByteArray) : Prop := ∀ (j : Nat) (x : ByteArray), ns[j]? = some x → nameAt ns j x = true
open Classical in
noncomputable def plainB : Tr → Bool
  | .mk d m t ns ks => inB m 0 7 && (decide (ns.length = ks.length) && (if d = true then decide (namesP ns) && decide (t = ⟨#[]⟩) else decide (t.size ≤ 24) && decide (ns.length = 0)))
def allB {α : Type} (p : α → Bool) : List α → Bool
  | [] => true
  | a :: r => p a && allB p r
theorem allB_iff {α : Type} {p : α → Bool} {xs : List α} : allB p xs = true ↔ ∀ (j : Nat) (x : α), xs[j]? = some x → p x = true := by
  induction xs with
  | nil => simp [allB]
  | cons a r ih =>
    simp only [allB, Bool.and_eq_true, ih]
    constructor
    · rintro ⟨h1, h2⟩ j x hj
      cases j with
      | zero => simp at hj; subst hj; exact h1
      | succ j => exact h2 j x (by simpa using hj)
    · intro h
      exact ⟨h 0 a rfl, fun j x hj => h (j + 1) x (by simpa using hj)⟩
theorem allB_bad {α : Type} {p : α → Bool} {xs : List α} {j : Nat} {x : α} (hj : xs[j]? = some x) (h : p x = false) : allB p xs = false := by
  cases hc : allB p xs with
  | false => rfl
  | true => have := allB_iff.1 hc j x hj; rw [h] at this; cases this
noncomputable def soundB : Nat → Tr → Int → Bool
  | 0, _, _ => false
  | n + 1, .mk d m t ns ks, k => plainB (.mk d m t ns ks) && (decide (k ≤ 4) && allB (fun x => soundB n x (k + 1)) ks)

section
variable {w0 : World} {σ : Vw}

theorem pBin_sge {P : Program} {T : Nat} {a b : ByteArray} {K : Value → Prop} : pBin P T .geq (.string a) (.string b) K ↔ K (.bool (!strLt a b)) := pBin_s rfl

theorem spec_Plain {n : Nat} {es : List Value} {x : Tr} {R : Value → Vw → Prop} (h : RT n (Av.get w0 σ) es x) (hR : R (.bool (plainB x)) σ) : AC Try.prog w0 n_spec_l1Plain [.agg ⟨es⟩] σ R := by
  obtain _ | n := n
  · exact h.elim
  obtain ⟨d, m, t, ns, ks⟩ := x
  obtain ⟨u, w, rfl, h2, h3, h4, h5⟩ := h
  refine ac_spec_l1Plain ?_
  unfold vc_spec_l1Plain
  have hl := h4.le
  rw [pVal_5 rfl rfl rfl h4.one h5.one]
  simp only [cellOf_agg, List.getD_cons_zero, List.getD_cons_succ]
  refine spec_In ?_
  rw [pUn_not, pIf_b]
  refine ⟨fun hb => ?_, fun hm => ?_⟩
  · have : plainB (.mk d m t ns ks) = false := by simp at hb; simp [plainB, hb]
    rw [this] at hR; exact hR
  have hm' : inB m 0 7 = true := by simpa using hm
  rw [h4.len, h5.len, pBin_ne, pIf_d]
  refine ⟨fun hne => ?_, fun heq => ?_⟩
  · have : plainB (.mk d m t ns ks) = false := by
      have : ¬ ns.length = ks.length := by omega
      simp [plainB, this]
    rw [this] at hR; exact hR
  have heq' : ns.length = ks.length := by omega
  rw [pUn_not, pIf_b]
  refine ⟨fun hd => ?_, fun hd => ?_⟩
  · have hd' : d = false := by simpa using hd
    subst hd'
    have hp : plainB (.mk false m t ns ks) = (decide (t.size ≤ 24) && decide (ns.length = 0)) := by simp [plainB, hm', heq']
    rw [hp] at hR
    rw [pLenS_s, pBin_le, pIf_d]
    refine ⟨fun ht => ?_, fun ht => ?_⟩
    · rw [h4.len, pBin_eq]
      have e1 : decide (t.size ≤ 24) = true := by simp; omega
      have e2 : decide (ns.length = 0) = decide ((ns.length : Int) = 0) := by congr 1; apply propext; omega
      rw [e1, e2] at hR; exact hR
    · have e1 : decide (t.size ≤ 24) = false := by simp; omega
      rw [e1] at hR; exact hR
  · have hd' : d = true := by simpa using hd
    subst hd'
    have hp : ∀ b, b = plainB (.mk true m t ns ks) → R (.bool b) σ := fun b e => e ▸ hR
    refine loop_rule (m := ns.length) (fun k l s => ∃ j, s = σ ∧ k + j = ns.length ∧ (∀ (i : Nat) (x : ByteArray), i < j → ns[i]? = some x → nameAt ns i x = true) ∧ l = [.bool false, .int .i64 (j : Nat), .bool true, .int .i64 m, .string t, u, w]) ?_ ⟨0, rfl, by omega, fun i x h => by omega, rfl⟩
    rintro k l s L ⟨j, rfl, hk, ht, rfl⟩ hL
    simp only [vget, List.getD_cons_zero, List.getD_cons_succ]
    rw [h4.len, pBin_lt, pIf_d]
    refine ⟨fun hj => ?_, fun hj => ?_⟩
    · have hx := List.getElem?_eq_getElem (show j < ns.length by omega)
      generalize hxj : ns[j] = x at hx
      have bad : nameAt ns j x = false → R (.bool false) s := fun hb => hp false (by
        have : ¬ namesP ns := fun hh => by rw [hh j x hx] at hb; cases hb
        simp [plainB, this])
      have next : nameAt ns j x = true → L [.bool false, .int .i64 ((j : Int) + 1), .bool true, .int .i64 m, .string t, u, w] s := fun hg => hL _ _ (k - 1) (by omega) ⟨j + 1, rfl, by omega, fun i y hi he => by
        by_cases e : i = j
        · subst e; rw [hx] at he; cases he; exact hg
        · exact ht i y (by omega) he, rfl⟩
      refine RSl.at1 h4 hx fun g hg hs => ?_
      rw [hg]
      refine spec_nameOk hs ?_
      rw [pUn_not, pIf_b]
      refine ⟨fun hb => bad (by simp at hb; simp [nameAt, hb]), fun hg => ?_⟩
      have hg' : nameOk x = true := by simpa using hg
      rw [pBin_gt, pIf_d]
      refine ⟨fun hpos => ?_, fun h0 => ?_⟩
      · obtain ⟨i, rfl⟩ : ∃ i, j = i + 1 := ⟨j - 1, by omega⟩
        rw [pBin_sub (by omega)]
        have hy := List.getElem?_eq_getElem (show i < ns.length by omega)
        generalize hyi : ns[i] = y at hy
        rw [show ((i + 1 : Nat) : Int) - 1 = (i : Nat) by omega]
        refine RSl.at1 h4 hy fun g2 hg2 hs2 => ?_
        refine RSl.at1 h4 hx fun g3 hg3 hs3 => ?_
        have hpl : prevLt ns (i + 1) x = strLt y x := by simp [prevLt, hy]
        rw [hg2, hg3, pBin_sge, pIf_b]
        refine ⟨fun hb => bad (by simp at hb; simp [nameAt, hpl, hb]), fun hb => ?_⟩
        rw [pBin_add (by omega)]
        exact next (by simp at hb; simp [nameAt, hg', hpl, hb])
      · have : j = 0 := by omega
        subst this
        rw [pBin_add (by omega)]
        exact next (by simp [nameAt, hg', prevLt])
    · have hj' : j = ns.length := by omega
      subst hj'
      show pBin Try.prog 9 .eql (.string t) (.string ⟨#[]⟩) _
      rw [pBin_seq]
      refine hp _ ?_
      have : namesP ns := fun i x he => ht i x (List.getElem?_eq_some_iff.1 he).1 he
      simp [plainB, hm', heq', this]
end
end Go.Proofs.Ytkbhjejalkbogaa

/- Trees: sound by either reading. -/
set_option linter.unusedVariables false
set_option linter.unusedSimpArgs false
namespace Go.Proofs.Ytkbhjejalkbogaa
open Go Go.Av

section
variable {w0 : World}

theorem spec_Parts : ∀ (n : Nat) {σ : Vw} {es : List Value} {x : Tr} {k : Int} {R : Value → Vw → Prop}, RT n (Av.get w0 σ) es x → (0 ≤ k ∧ k ≤ 5) → R (.bool (soundB n x k)) σ → AC Try.prog w0 n_spec_l1Parts [.agg ⟨es⟩, .int .i64 k] σ R
  | 0, _, _, _, _, _, h, _, _ => h.elim
  | n + 1, σ, es, .mk d m t ns ks, k, R, h, hk, hR => by
    have h0 := h
    obtain ⟨u, w, rfl, h2, h3, h4, h5⟩ := h
    refine ac_spec_l1Parts ?_
    unfold vc_spec_l1Parts
    have hl := h5.le
    rw [pVal_5 rfl rfl rfl h4.one h5.one]
    simp only [cellOf_agg, List.getD_cons_zero, List.getD_cons_succ]
    refine spec_Plain h0 ?_
    rw [pUn_not, pIf_b]
    refine ⟨fun hb => ?_, fun hg => ?_⟩
    · have : soundB (n + 1) (.mk d m t ns ks) k = false := by simp at hb; simp [soundB, hb]
      rw [this] at hR; exact hR
    have hg' : plainB (.mk d m t ns ks) = true := by simpa using hg
    rw [pBin_gt, pIf_d]
    refine ⟨fun hb => ?_, fun hle => ?_⟩
    · have : soundB (n + 1) (.mk d m t ns ks) k = false := by
        have : ¬ k ≤ 4 := by omega
        simp [soundB, this]
      rw [this] at hR; exact hR
    have hle' : k ≤ 4 := by omega
    have hs : soundB (n + 1) (.mk d m t ns ks) k = allB (fun x => soundB n x (k + 1)) ks := by simp [soundB, hg', hle']
    rw [hs] at hR
    refine loop_rule (m := ks.length) (fun c l s => ∃ j, s = σ ∧ c + j = ks.length ∧ (∀ (i : Nat) (x : Tr), i < j → ks[i]? = some x → soundB n x (k + 1) = true) ∧ l = [.int .i64 k, .bool false, .int .i64 (j : Nat), .bool d, .int .i64 m, .string t, u, w]) ?_ ⟨0, rfl, by omega, fun i x h => by omega, rfl⟩
    rintro c l s L ⟨j, rfl, hc, ht, rfl⟩ hL
    simp only [vget, List.getD_cons_zero, List.getD_cons_succ]
    rw [h5.len, pBin_lt, pIf_d]
    refine ⟨fun hj => ?_, fun hj => ?_⟩
    · have hx := List.getElem?_eq_getElem (show j < ks.length by omega)
      generalize hxj : ks[j] = x at hx
      refine h5.at hx fun g hg => ?_
      rw [pBin_add (by omega)]
      refine spec_Parts n (x := x) hg (by omega) ?_
      rw [pUn_not, pIf_b]
      refine ⟨fun hb => ?_, fun hb => ?_⟩
      · rw [allB_bad hx (by simpa using hb)] at hR; exact hR
      · rw [pBin_add (by omega)]
        refine hL _ _ (c - 1) (by omega) ⟨j + 1, rfl, by omega, fun i y hi he => ?_, rfl⟩
        by_cases e : i = j
        · subst e; rw [hx] at he; cases he; simpa using hb
        · exact ht i y (by omega) he
    · have hj' : j = ks.length := by omega
      subst hj'
      rw [allB_iff.2 fun i x he => ht i x (List.getElem?_eq_some_iff.1 he).1 he] at hR
      exact hR
end
end Go.Proofs.Ytkbhjejalkbogaa

/- Trees: sound by the program's own reading. -/
set_option linter.unusedVariables false
set_option linter.unusedSimpArgs false
namespace Go.Proofs.Ytkbhjejalkbogaa
open Go Go.Av

section
variable {w0 : World}

theorem impl_sound : ∀ (n : Nat) {σ : Vw} {es : List Value} {x : Tr} {k : Int} {R : Value → Vw → Prop}, RT n (Av.get w0 σ) es x → (0 ≤ k ∧ k ≤ 5) → R (.bool (soundB n x k)) σ → AC Try.prog w0 n_impl_Tree_sound [.agg ⟨es⟩, .int .i64 k] σ R
  | 0, _, _, _, _, _, h, _, _ => h.elim
  | n + 1, σ, es, .mk d m t ns ks, k, R, h, hk, hR => by
    have h0 := h
    obtain ⟨u, w, rfl, h2, h3, h4, h5⟩ := h
    refine ac_impl_Tree_sound ?_
    unfold vc_impl_Tree_sound
    have hl := h4.le
    rw [pVal_5 rfl rfl rfl h4.one h5.one]
    simp only [cellOf_agg, List.getD_cons_zero, List.getD_cons_succ]
    have no : soundB (n + 1) (.mk d m t ns ks) k = false → R (.bool false) σ := fun e => by rw [e] at hR; exact hR
    refine ac_impl_modeOk ?_
    unfold vc_impl_modeOk
    refine impl_within ?_
    show pUn .not (.bool _) _
    rw [pUn_not, pIf_b]
    refine ⟨fun hb => no (by simp at hb; simp [soundB, plainB, hb]), fun hm => ?_⟩
    have hm' : inB m 0 7 = true := by simpa using hm
    rw [pBin_gt, pIf_d]
    refine ⟨fun hb => no (by have : ¬ k ≤ 4 := by omega
                             simp [soundB, this]), fun hle => ?_⟩
    have hle' : k ≤ 4 := by omega
    rw [h4.len, h5.len, pBin_ne, pIf_d]
    refine ⟨fun hne => no (by have : ¬ ns.length = ks.length := by omega
                              simp [soundB, plainB, this]), fun heq => ?_⟩
    have heq' : ns.length = ks.length := by omega
    rw [pUn_not, pIf_b]
    refine ⟨fun hd => ?_, fun hd => ?_⟩
    · have hd' : d = false := by simpa using hd
      subst hd'
      rw [pLenS_s, pBin_le, pIf_d]
      refine ⟨fun htx => ?_, fun htx => no (by have : ¬ t.size ≤ 24 := by omega
                                               simp [soundB, plainB, this])⟩
      rw [h4.len, pBin_eq]
      have e : soundB (n + 1) (.mk false m t ns ks) k = decide ((ns.length : Int) = 0) := by
        have e1 : t.size ≤ 24 := by omega
        by_cases hz : ns.length = 0
        · have hkz : ks = [] := List.length_eq_zero_iff.1 (by omega)
          have hnz : ns = [] := List.length_eq_zero_iff.1 hz
          subst hkz hnz
          simp [soundB, plainB, hm', hle', e1, allB]
        · have hz' : ¬ ((ns.length : Int) = 0) := by omega
          have hz2 : ¬ (ks.length = 0) := by omega
          simp [soundB, plainB, heq', hz', hz2]
      rw [e] at hR; exact hR
    · have hd' : d = true := by simpa using hd
      subst hd'
      rw [pBin_sne, pIf_d]
      refine ⟨fun htx => no (by simp [soundB, plainB, htx]), fun htx => ?_⟩
      have htx' := Decidable.not_not.1 htx
      rw [h4.len]
      refine loop_rule (m := ns.length) (fun c l s => ∃ j, s = σ ∧ c + j = ns.length ∧ (∀ (i : Nat) (x : ByteArray), i < j → ns[i]? = some x → nameAt ns i x = true) ∧ (∀ (i : Nat) (x : Tr), i < j → ks[i]? = some x → soundB n x (k + 1) = true) ∧ l = [.int .i64 k, .bool false, u, .int .i64 ns.length, .int .i64 (j : Nat), .bool true, .int .i64 m, .string t, u, w]) ?_ ⟨0, rfl, by omega, fun i x h => by omega, fun i x h => by omega, rfl⟩
      rintro c l s L ⟨j, rfl, hc, ht, hkd, rfl⟩ hL
      simp only [vget, List.getD_cons_zero, List.getD_cons_succ]
      rw [pBin_lt, pIf_d]
      refine ⟨fun hj => ?_, fun hj => ?_⟩
      · have hx := List.getElem?_eq_getElem (show j < ns.length by omega)
        generalize hxj : ns[j] = x at hx
        have hkk := List.getElem?_eq_getElem (show j < ks.length by omega)
        generalize hkj : ks[j] = kid at hkk
        have bad : nameAt ns j x = false → R (.bool false) s := fun hb => no (by
          have : ¬ namesP ns := fun hh => by rw [hh j x hx] at hb; cases hb
          simp [soundB, plainB, this])
        have last : nameAt ns j x = true → pIndexAddr 5 w (.int .i64 j) (fun v35 => pLoad w0 5 v35 s (fun g36 => pBin Try.prog 3 .add (.int .i64 k) (.int .i64 1) (fun v37 => AC Try.prog w0 n_impl_Tree_sound [.agg ⟨[g36 0, g36 1, g36 2, g36 3, g36 4]⟩, v37] s (fun v38 s39 => pUn .not v38 (fun v40 => pIf v40 (R (.bool false) s39) (pBin Try.prog 3 .add (.int .i64 j) (.int .i64 1) (fun v41 => L [.int .i64 k, .bool false, u, .int .i64 ns.length, v41, .bool true, .int .i64 m, .string t, u, w] s39))))))) := by
          intro hgood
          refine h5.at hkk fun g hg => ?_
          rw [pBin_add (by omega)]
          refine impl_sound n (x := kid) hg (by omega) ?_
          rw [pUn_not, pIf_b]
          refine ⟨fun hb => no ?_, fun hb => ?_⟩
          · have := allB_bad (p := fun x => soundB n x (k + 1)) hkk (by simpa using hb)
            simp [soundB, this]
          · rw [pBin_add (by omega)]
            refine hL _ _ (c - 1) (by omega) ⟨j + 1, rfl, by omega, fun i y hi he => ?_, fun i y hi he => ?_, rfl⟩
            · by_cases e : i = j
              · subst e; rw [hx] at he; cases he; exact hgood
              · exact ht i y (by omega) he
            · by_cases e : i = j
              · subst e; rw [hkk] at he; cases he; simpa using hb
              · exact hkd i y (by omega) he
        refine RSl.at1 h4 hx fun g hg hs => ?_
        rw [hg]
        refine impl_nameOk hs ?_
        rw [pUn_not, pIf_b]
        refine ⟨fun hb => bad (by simp at hb; simp [nameAt, hb]), fun hg => ?_⟩
        have hg' : nameOk x = true := by simpa using hg
        rw [pBin_gt, pIf_d]
        refine ⟨fun hpos => ?_, fun h0 => ?_⟩
        · obtain ⟨i, rfl⟩ : ∃ i, j = i + 1 := ⟨j - 1, by omega⟩
          rw [pBin_sub (by omega)]
          have hy := List.getElem?_eq_getElem (show i < ns.length by omega)
          generalize hyi : ns[i] = y at hy
          rw [show ((i + 1 : Nat) : Int) - 1 = (i : Nat) by omega]
          refine RSl.at1 h4 hy fun g2 hg2 hs2 => ?_
          have hpl : prevLt ns (i + 1) x = strLt y x := by simp [prevLt, hy]
          rw [hg2, pBin_sge, pIf_b]
          refine ⟨fun hb => bad (by simp at hb; simp [nameAt, hpl, hb]), fun hb => ?_⟩
          exact last (by simp at hb; simp [nameAt, hg', hpl, hb])
        · have : j = 0 := by omega
          subst this
          exact last (by simp [nameAt, hg', prevLt])
      · have hj' : j = ns.length := by omega
        subst hj'
        have e1 : namesP ns := fun i x he => ht i x (List.getElem?_eq_some_iff.1 he).1 he
        have e2 : allB (fun x => soundB n x (k + 1)) ks = true := allB_iff.2 fun i x he => hkd i x (by have := (List.getElem?_eq_some_iff.1 he).1; omega) he
        have e : soundB (n + 1) (.mk true m t ns ks) k = true := by simp [soundB, plainB, hm', heq', e1, htx', hle', e2]
        rw [e] at hR; exact hR
end
end Go.Proofs.Ytkbhjejalkbogaa

/- Trees: how many paths; the laws 'TreeOk' and 'TreeCount', of the functions alone. -/
set_option linter.unusedVariables false
set_option linter.unusedSimpArgs false
namespace Go.Proofs.Ytkbhjejalkbogaa
open Go Go.Av

def cntT : Nat → Tr → Nat
  | 0, _ => 0
  | n + 1, .mk d m t ns ks => ks.length + sumBy (cntT n) ks
theorem sumBy_mono {α : Type} {f g : α → Nat} : ∀ {xs : List α}, (∀ x, x ∈ xs → f x ≤ g x) → sumBy f xs ≤ sumBy g xs
  | [], _ => by simp [sumBy]
  | a :: r, h => by
    have := sumBy_mono (xs := r) fun x hx => h x (List.mem_cons_of_mem _ hx)
    have := h a List.mem_cons_self
    simp only [sumBy]; omega
theorem sumBy_one {α : Type} {f : α → Nat} : ∀ {xs : List α}, sumBy (fun x => f x + 1) xs = sumBy f xs + xs.length
  | [] => by simp [sumBy]
  | a :: r => by have := sumBy_one (f := f) (xs := r); simp only [sumBy, List.length_cons, this]; omega
theorem cnt_le : ∀ (n : Nat) (x : Tr), cntT n x ≤ szT n x
  | 0, _ => by simp [cntT, szT]
  | n + 1, .mk d m t ns ks => by
    have := sumBy_mono (xs := ks) fun x _ => cnt_le n x
    simp only [cntT, szT]; omega

section
variable {w0 : World}

theorem spec_Count : ∀ (n : Nat) {σ : Vw} {es : List Value} {x : Tr} {R : Value → Vw → Prop}, RT n (Av.get w0 σ) es x → cntT n x ≤ 1000000000000 → R (.int .i64 (cntT n x)) σ → AC Try.prog w0 n_spec_l1Count [.agg ⟨es⟩] σ R
  | 0, _, _, _, _, h, _, _ => h.elim
  | n + 1, σ, es, .mk d m t ns ks, R, h, hb, hR => by
    obtain ⟨u, w, rfl, h2, h3, h4, h5⟩ := h
    refine ac_spec_l1Count ?_
    unfold vc_spec_l1Count
    rw [pVal_5 rfl rfl rfl h4.one h5.one]
    simp only [cellOf_agg, List.getD_cons_zero, List.getD_cons_succ]
    simp only [cntT] at hb hR
    rw [h5.len]
    refine loop_rule (m := ks.length) (fun c l s => ∃ j, s = σ ∧ c + j = ks.length ∧ l = [.int .i64 ((ks.length + sumBy (cntT n) (ks.take j) : Nat) : Int), .int .i64 (j : Nat), .bool d, .int .i64 m, .string t, u, w]) ?_ ⟨0, rfl, by omega, by simp [sumBy]⟩
    rintro c l s L ⟨j, rfl, hc, rfl⟩ hL
    simp only [vget, List.getD_cons_zero, List.getD_cons_succ]
    rw [h5.len, pBin_lt, pIf_d]
    refine ⟨fun hj => ?_, fun hj => ?_⟩
    · have hx := List.getElem?_eq_getElem (show j < ks.length by omega)
      generalize hxj : ks[j] = x at hx
      refine h5.at hx fun g hg => ?_
      have ht := sumBy_take (f := cntT n) hx
      have hle := sumBy_le (f := cntT n) (xs := ks) (j + 1)
      refine spec_Count n (x := x) hg (by omega) ?_
      rw [pBin_add (by omega), pBin_add (by omega)]
      refine hL _ _ (c - 1) (by omega) ⟨j + 1, rfl, by omega, ?_⟩
      rw [ht]
      congr 2
      omega
    · have hj' : j = ks.length := by omega
      subst hj'
      rw [List.take_length]
      exact hR

theorem impl_paths : ∀ (n : Nat) {σ : Vw} {es : List Value} {x : Tr} {R : Value → Vw → Prop}, RT n (Av.get w0 σ) es x → cntT n x ≤ 1000000000000 → R (.int .i64 ((cntT n x + 1 : Nat) : Int)) σ → AC Try.prog w0 n_impl_Tree_paths [.agg ⟨es⟩] σ R
  | 0, _, _, _, _, h, _, _ => h.elim
  | n + 1, σ, es, .mk d m t ns ks, R, h, hb, hR => by
    obtain ⟨u, w, rfl, h2, h3, h4, h5⟩ := h
    refine ac_impl_Tree_paths ?_
    unfold vc_impl_Tree_paths
    rw [pVal_5 rfl rfl rfl h4.one h5.one]
    simp only [cellOf_agg, List.getD_cons_zero, List.getD_cons_succ]
    simp only [cntT] at hb hR
    rw [h5.len]
    refine loop_rule (m := ks.length) (fun c l s => ∃ j, s = σ ∧ c + j = ks.length ∧ l = [.int .i64 ((1 + sumBy (fun x => cntT n x + 1) (ks.take j) : Nat) : Int), w, .int .i64 ks.length, .int .i64 (j : Nat)]) ?_ ⟨0, rfl, by omega, by simp [sumBy]⟩
    have hsum := sumBy_one (f := cntT n) (xs := ks)
    rintro c l s L ⟨j, rfl, hc, rfl⟩ hL
    simp only [vget, List.getD_cons_zero, List.getD_cons_succ]
    rw [pBin_lt, pIf_d]
    refine ⟨fun hj => ?_, fun hj => ?_⟩
    · have hx := List.getElem?_eq_getElem (show j < ks.length by omega)
      generalize hxj : ks[j] = x at hx
      refine h5.at hx fun g hg => ?_
      have ht := sumBy_take (f := fun x => cntT n x + 1) hx
      have hle := sumBy_le (f := fun x => cntT n x + 1) (xs := ks) (j + 1)
      have hin : ∀ (A : Prop), A → pVal true 5 (.agg ⟨[g 0, g 1, g 2, g 3, g 4]⟩) A := fun A hA => ⟨⟨_, rfl, rfl, (by
        obtain _ | n := n
        · exact hg.elim
        · obtain ⟨d', m', t', ns', ks'⟩ := x
          obtain ⟨u', w', e, _, _, q4, q5⟩ := hg
          have e' : [g 0, g 1, g 2, g 3, g 4] = [.bool d', .int .i64 m', .string t', u', w'] := e
          rw [e']
          intro c hc
          simp at hc
          rcases hc with rfl | rfl | rfl | rfl | rfl
          · rfl
          · rfl
          · rfl
          · exact q4.one
          · exact q5.one)⟩, hA⟩
      refine hin _ ?_
      refine impl_paths n (x := x) hg (by omega) ?_
      rw [pBin_add (by omega), pBin_add (by omega)]
      refine hL _ _ (c - 1) (by omega) ⟨j + 1, rfl, by omega, ?_⟩
      rw [ht]
      congr 2
      omega
    · have hj' : j = ks.length := by omega
      subst hj'
      rw [List.take_length, hsum]
      show R (.int .i64 _) s
      rw [show ((1 + (sumBy (cntT n) ks + ks.length) : Nat) : Int) = ((ks.length + sumBy (cntT n) ks + 1 : Nat) : Int) by omega]
      exact hR
end
end Go.Proofs.Ytkbhjejalkbogaa

/- Trees: the laws 'TreeOk' and 'TreeCount', of the functions alone. -/
set_option linter.unusedVariables false
set_option linter.unusedSimpArgs false
namespace Go.Proofs.Ytkbhjejalkbogaa
open Go Go.Av

def isDir : Tr → Bool
  | .mk d _ _ _ _ => d
noncomputable def treeOk (n : Nat) (x : Tr) : Bool := isDir x && (soundB n x 0 && decide (cntT n x ≤ 30))
section
variable {w0 : World} {σ : Vw}

theorem RT.five {n : Nat} {rd : Addr → Option Value} {es : List Value} {x : Tr} (h : RT n rd es x) : ∃ a b c d e, es = [a, b, c, d, e] ∧ a = .bool (isDir x) ∧ ∀ A : Prop, pVal true 5 (.agg ⟨es⟩) A ↔ A := by
  obtain _ | n := n
  · exact h.elim
  · obtain ⟨d', m', t', ns', ks'⟩ := x
    obtain ⟨u', w', rfl, _, _, q4, q5⟩ := h
    exact ⟨_, _, _, _, _, rfl, rfl, fun A => pVal_5 rfl rfl rfl q4.one q5.one⟩

theorem spec_TreeOk {n : Nat} {es : List Value} {x : Tr} {R : Value → Vw → Prop} (h : RT n (Av.get w0 σ) es x) (hb : cntT n x ≤ 1000000000000) (hR : R (.bool (treeOk n x)) σ) : AC Try.prog w0 n_spec_TreeOk [.agg ⟨es⟩] σ R := by
  have h0 := h
  obtain ⟨a, b, c, d, e, rfl, rfl, hp⟩ := RT.five h
  refine ac_spec_TreeOk ?_
  unfold vc_spec_TreeOk
  rw [hp]
  simp only [cellOf_agg, List.getD_cons_zero, List.getD_cons_succ]
  rw [pIf_b]
  refine ⟨fun hd => ?_, fun hd => by simpa [treeOk, hd] using hR⟩
  refine spec_Parts n h0 (by omega) ?_
  rw [pIf_b]
  refine ⟨fun hs => ?_, fun hs => by simpa [treeOk, hs] using hR⟩
  refine spec_Count n h0 hb ?_
  rw [pBin_le]
  have : treeOk n x = decide ((cntT n x : Int) ≤ 30) := by
    simp only [treeOk, hd, hs, Bool.true_and]
    congr 1; apply propext; omega
  rw [this] at hR; exact hR

theorem impl_TreeOk {n : Nat} {es : List Value} {x : Tr} {R : Value → Vw → Prop} (h : RT n (Av.get w0 σ) es x) (hb : cntT n x ≤ 1000000000000) (hR : R (.bool (treeOk n x)) σ) : AC Try.prog w0 n_impl_TreeOk [.agg ⟨es⟩] σ R := by
  have h0 := h
  obtain ⟨a, b, c, d, e, rfl, rfl, hp⟩ := RT.five h
  refine ac_impl_TreeOk ?_
  unfold vc_impl_TreeOk
  rw [hp]
  simp only [cellOf_agg, List.getD_cons_zero, List.getD_cons_succ]
  rw [pIf_b]
  refine ⟨fun hd => ?_, fun hd => by simpa [treeOk, hd] using hR⟩
  refine impl_sound n h0 (by omega) ?_
  rw [pIf_b]
  refine ⟨fun hs => ?_, fun hs => by simpa [treeOk, hs] using hR⟩
  refine impl_paths n h0 hb ?_
  rw [pBin_le]
  have : treeOk n x = decide (((cntT n x + 1 : Nat) : Int) ≤ 31) := by
    simp only [treeOk, hd, hs, Bool.true_and]
    congr 1; apply propext; omega
  rw [this] at hR; exact hR

end
end Go.Proofs.Ytkbhjejalkbogaa

/- How a tree is opened that came with the call. -/
set_option linter.unusedVariables false
set_option linter.unusedSimpArgs false
namespace Go.Proofs.Ytkbhjejalkbogaa
open Go Go.Av Go.RowKit

theorem RT_up : ∀ (n : Nat) (rd : Addr → Option Value) (es : List Value) (x : Tr), RT n rd es x → RT (n + 1) rd es x
  | 0, _, _, _, h => h.elim
  | n + 1, rd, es, .mk d m t ns ks, h => by
    obtain ⟨u, w, h1, h2, h3, h4, h5⟩ := h
    exact ⟨u, w, h1, h2, h3, h4, h5.imp fun es x h => RT_up n rd es x h⟩
theorem RT_le {n m : Nat} (h : n ≤ m) {rd : Addr → Option Value} {es : List Value} {x : Tr} (hr : RT n rd es x) : RT m rd es x := by
  obtain ⟨k, rfl⟩ := Nat.exists_eq_add_of_le h
  clear h
  induction k with
  | zero => exact hr
  | succ k ih => exact RT_up _ _ _ _ ih

theorem cut5 {es : List Value} {a b c d e : Value} (hl : es.length = 5) (h0 : (es.drop 0).take 1 = [a]) (h1 : (es.drop 1).take 1 = [b]) (h2 : (es.drop 2).take 1 = [c]) (h3 : (es.drop 3).take 1 = [d]) (h4 : (es.drop 4).take 1 = [e]) : es = [a, b, c, d, e] := by
  match es, hl with
  | [p, q, r, s, t], _ =>
    simp at h0 h1 h2 h3 h4
    subst h0 h1 h2 h3 h4
    rfl

theorem open_tree {H : Type} {enc : TypeId × Value → H} {W : World} {spare : Nat → Bool} : ∀ (fuel : Nat) (es : List Value) (y : DataW H × List MemPlace), DataW.trod enc Try.prog W 0 spare true fuel t_laws_Tree es = some y → es.length = 5 → ∃ x, RT fuel (Av.get W σ0) es x := by
  intro fuel
  induction fuel using Nat.strongRecOn with
  | _ fuel ih =>
    intro es y h hl
    have hT : Try.prog.underlying t_laws_Tree = some (.struct (fsOf Try.prog t_laws_Tree)) := by kernel_rfl
    obtain ⟨f0, y0, l0, h0⟩ := open_field' hT 0 t_bool 0 1 (by kernel_rfl) (by kernel_rfl) h
    obtain ⟨f1, y1, l1, h1⟩ := open_field' hT 1 t_int 1 1 (by kernel_rfl) (by kernel_rfl) h
    obtain ⟨f2, y2, l2, h2⟩ := open_field' hT 2 t_string 2 1 (by kernel_rfl) (by kernel_rfl) h
    obtain ⟨f3, y3, l3, h3⟩ := open_field' hT 3 t_s_string 3 1 (by kernel_rfl) (by kernel_rfl) h
    obtain ⟨f4, y4, l4, h4⟩ := open_field' hT 4 t_s_laws_Tree 4 1 (by kernel_rfl) (by kernel_rfl) h
    obtain ⟨b, hb⟩ := open_bool (by kernel_rfl) h0
    obtain ⟨m, hm, hm2⟩ := open_int (by kernel_rfl) h1
    obtain ⟨t, ht, ht2⟩ := open_str (by kernel_rfl) h2
    obtain ⟨u, ns, hu, hus⟩ := open_rsl (t := t_s_string) (e := t_string) (by kernel_rfl) (by kernel_rfl) (open_rs (by kernel_rfl)) h3
    obtain ⟨w, ks, hw, hws⟩ := open_rsl' (R := RT (fuel - 1)) (t := t_s_laws_Tree) (e := t_laws_Tree) (n := 5) (by kernel_rfl) (by kernel_rfl) (fun m' es' y' hm' ht' hl' => by
      obtain ⟨x, hx⟩ := ih m' (by omega) es' y' ht' hl'
      exact ⟨x, RT_le (by omega) hx⟩) h4
    have e := cut5 hl hb hm ht hu hw
    refine ⟨.mk b m t ns ks, ?_⟩
    obtain ⟨n, rfl⟩ : ∃ n, fuel = n + 1 := ⟨fuel - 1, by omega⟩
    exact ⟨u, w, e, hm2, ht2, hus, hws⟩
end Go.Proofs.Ytkbhjejalkbogaa

/- Entries of a layer: size, copy, comparison, marks. -/
set_option linter.unusedVariables false
set_option linter.unusedSimpArgs false
namespace Go.Proofs.Ytkbhjejalkbogaa
open Go Go.Av

theorem pNotIf {b : Bool} {A B : Prop} : pUn .not (.bool b) (fun v => pIf v A B) ↔ (b = false → A) ∧ (b = true → B) := by
  rw [pUn_not, pIf_b]
  cases b <;> simp

section
variable {w0 : World} {σ : Vw}

end

end Go.Proofs.Ytkbhjejalkbogaa

/- Texts as lists of bytes; what is cut at a byte; decimals. Plain. -/
set_option linter.unusedVariables false
set_option linter.unusedSimpArgs false
namespace Go.Av
open Go Go.RowKit

abbrev bl (s : ByteArray) : List UInt8 := s.data.toList
def ofL (l : List UInt8) : ByteArray := ⟨l.toArray⟩
theorem bl_ofL (l : List UInt8) : bl (ofL l) = l := rfl
theorem bl_inj {a b : ByteArray} (h : bl a = bl b) : a = b := by
  cases a; cases b
  simp only [ByteArray.mk.injEq]
  exact Array.toList_inj.1 h
theorem ofL_bl (s : ByteArray) : ofL (bl s) = s := bl_inj (bl_ofL _)
/-! ### Decimals -/
end Go.Av

/- A contract of the kit's, as one of ours. -/
set_option linter.unusedVariables false
set_option linter.unusedSimpArgs false
namespace Go.Av
open Go Go.RowKit

theorem Aft.below {w0 w w' : World} {σ : Vw} (h : Sat w0 σ w) (k : Below w.heap.size w w') : Aft w0 σ w σ w' := by
  refine ⟨⟨h.bel.trans (k.mono h.bel.size), fun b r hb => ?_⟩, k.size, fun b hb _ => k.block b hb, fun b r hb => .inl (by rw [hb]; simp)⟩
  obtain ⟨h1, cur, hc, h2⟩ := h.row b r hb
  exact ⟨h1, cur, (k.block b (h.lt hb)).trans hc, h2⟩

end Go.Av

/- A disk's rows: the law 'DiskOk', of the functions alone. -/
set_option linter.unusedVariables false
set_option linter.unusedSimpArgs false
namespace Go.Proofs.Ytkbhjejalkbogaa
open Go Go.Av

section
variable {w0 : World} {σ : Vw}

theorem left_neg {n : Int} {t : Nat} : left n t < 0 ↔ n < t := by unfold left; split <;> omega
end
end Go.Proofs.Ytkbhjejalkbogaa

/- Writes of a disk: the law 'DiskWrite', of the functions alone. -/
set_option linter.unusedVariables false
set_option linter.unusedSimpArgs false
namespace Go.Proofs.Ytkbhjejalkbogaa
open Go Go.Av

section
variable {w0 : World} {σ : Vw}

end
end Go.Proofs.Ytkbhjejalkbogaa

/- The law 'DiskWrite', of the functions alone. -/
set_option linter.unusedVariables false
set_option linter.unusedSimpArgs false
namespace Go.Proofs.Ytkbhjejalkbogaa
open Go Go.Av

section
variable {w0 : World} {σ : Vw}

end
end Go.Proofs.Ytkbhjejalkbogaa

/-
  DERIVED: THE SHELF's CONTRACTS AT THIS DUMP, IN PLAIN WORDS (tools/lay-plain.mjs out of 'TryShelf.lean', which tools/lay-shelf.mjs wrote): THE SAME DECLARATIONS UNDER THE SAME NAMES: 'import', 'namespace', 'open', 'def', 'theorem' AND NOTHING ELSE: no command of the shelf's: FOR A HAND-IN. Each laying: the table of numbers ('.._ren') and one theorem, a field a fact of the dump's own or the kernel's comparison; each contract: ONE APPLICATION.
-/
namespace Go.Proofs
open Go.Shelf
def Try.lays190_ren : Go.Shelf.Ren := ⟨fun | 190 => 108 | 125 => 121 | 258 => 120 | 128 => 137 | 129 => 138 | 302 => 128 | 303 => 129 | 304 => 130 | 305 => 131 | 306 => 132 | 307 => 133 | 308 => 134 | 309 => 135 | 310 => 136 | 333 => 140 | 329 => 141 | 330 => 142 | 334 => 143 | 335 => 144 | 336 => 119 | 344 => 145 | n => n, fun | 31 => 23 | 9 => 9 | 3 => 3 | 46 => 134 | 0 => 0 | 51 => 149 | 53 => 151 | 4 => 4 | 183 => 141 | 182 => 140 | 131 => 146 | 5 => 5 | 218 => 153 | 222 => 157 | 228 => 159 | 229 => 160 | n => n, fun | n => n⟩
theorem Try.lays190 : Go.Proofs.Lays.n190 Try.prog Try.lays190_ren := {
  mixed := by kernel_rfl
  f125 := Try.func121.trans (congrArg some (by kernel_rfl))
  f128 := Try.func137.trans (congrArg some (by kernel_rfl))
  f129 := Try.func138.trans (congrArg some (by kernel_rfl))
  f190 := Try.func108.trans (congrArg some (by kernel_rfl))
  f258 := Try.func120.trans (congrArg some (by kernel_rfl))
  f302 := Try.func128.trans (congrArg some (by kernel_rfl))
  f303 := Try.func129.trans (congrArg some (by kernel_rfl))
  f304 := Try.func130.trans (congrArg some (by kernel_rfl))
  f305 := Try.func131.trans (congrArg some (by kernel_rfl))
  f306 := Try.func132.trans (congrArg some (by kernel_rfl))
  f307 := Try.func133.trans (congrArg some (by kernel_rfl))
  f308 := Try.func134.trans (congrArg some (by kernel_rfl))
  f309 := Try.func135.trans (congrArg some (by kernel_rfl))
  f310 := Try.func136.trans (congrArg some (by kernel_rfl))
  f329 := Try.func141.trans (congrArg some (by kernel_rfl))
  f330 := Try.func142.trans (congrArg some (by kernel_rfl))
  f333 := Try.func140.trans (congrArg some (by kernel_rfl))
  f334 := Try.func143.trans (congrArg some (by kernel_rfl))
  f335 := Try.func144.trans (congrArg some (by kernel_rfl))
  f336 := Try.func119.trans (congrArg some (by kernel_rfl))
  f344 := Try.func145.trans (congrArg some (by kernel_rfl))
  t0 := Try.underlying0
  a0 := Try.isAgg0
  z0 := Try.sizeOf0
  v0 := Try.zeroValue0
  t3 := Try.underlying3
  a3 := Try.isAgg3
  z3 := Try.sizeOf3
  v3 := Try.zeroValue3
  t4 := Try.underlying4
  a4 := Try.isAgg4
  z4 := Try.sizeOf4
  v4 := Try.zeroValue4
  t5 := Try.underlying5
  a5 := Try.isAgg5
  z5 := Try.sizeOf5
  v5 := Try.zeroValue5
  t9 := Try.underlying9
  a9 := Try.isAgg9
  z9 := Try.sizeOf9
  v9 := Try.zeroValue9
  t31 := Try.underlying23
  a31 := Try.isAgg23
  z31 := Try.sizeOf23
  v31 := Try.zeroValue23
  t46 := Try.underlying134
  a46 := Try.isAgg134
  z46 := Try.sizeOf134
  v46 := Try.zeroValue134
  t51 := Try.underlying149
  a51 := Try.isAgg149
  z51 := Try.sizeOf149
  v51 := Try.zeroValue149
  t53 := Try.underlying151
  a53 := Try.isAgg151
  z53 := Try.sizeOf151
  v53 := Try.zeroValue151
  t131 := Try.underlying146
  a131 := Try.isAgg146
  z131 := Try.sizeOf146
  v131 := Try.zeroValue146
  t182 := Try.underlying140
  a182 := Try.isAgg140
  z182 := Try.sizeOf140
  v182 := Try.zeroValue140
  t183 := Try.underlying141
  a183 := Try.isAgg141
  z183 := Try.sizeOf141
  v183 := Try.zeroValue141
  t218 := Try.underlying153
  a218 := Try.isAgg153
  z218 := Try.sizeOf153
  v218 := Try.zeroValue153
  t222 := Try.underlying157
  a222 := Try.isAgg157
  z222 := Try.sizeOf157
  v222 := Try.zeroValue157
  t228 := Try.underlying159
  a228 := Try.isAgg159
  z228 := Try.sizeOf159
  v228 := Try.zeroValue159
  t229 := Try.underlying160
  a229 := Try.isAgg160
  z229 := Try.sizeOf160
  v229 := Try.zeroValue160 }
open Go.Sort Go.RowKit in
theorem Try.slices_Sort_string (blk off cap : Nat) (ss : List (List UInt8)) (w : World) (hH : Holds encStr w blk off ss.toArray) (hblk : blk < w.heap.size) (hsz : ss.length < 4611686018427387904) :
    Calls Try.prog 108 #[.slice (some ⟨blk, off, none⟩) ss.length cap] w fun e w' =>
      e = .returned (.tuple #[]) ∧ ∃ n os, w' = grow (putRow encStr (Sort.ahead w n) blk off (ss.mergeSort fun x y => decide (x ≤ y)).toArray) os := Any.slices_Sort_string Try.lays190 blk off cap ss w hH hblk hsz
def Try.lays194_ren : Go.Shelf.Ren := ⟨fun | 194 => 109 | n => n, fun | 31 => 23 | 9 => 9 | 3 => 3 | 4 => 4 | 0 => 0 | n => n, fun | n => n⟩
theorem Try.lays194 : Go.Proofs.Lays.n194 Try.prog Try.lays194_ren := {
  mixed := by kernel_rfl
  f194 := Try.func109.trans (congrArg some (by kernel_rfl))
  t0 := Try.underlying0
  a0 := Try.isAgg0
  z0 := Try.sizeOf0
  v0 := Try.zeroValue0
  t3 := Try.underlying3
  a3 := Try.isAgg3
  z3 := Try.sizeOf3
  v3 := Try.zeroValue3
  t4 := Try.underlying4
  a4 := Try.isAgg4
  z4 := Try.sizeOf4
  v4 := Try.zeroValue4
  t9 := Try.underlying9
  a9 := Try.isAgg9
  z9 := Try.sizeOf9
  v9 := Try.zeroValue9
  t31 := Try.underlying23
  a31 := Try.isAgg23
  z31 := Try.sizeOf23
  v31 := Try.zeroValue23 }
open Go.RowKit Go.Lib Go.Sort in
/-- slices.Compact at []string: "Compact replaces consecutive runs of equal elements with a single copy. This is like the uniq command found on Unix. Compact modifies the contents of the slice s and returns the modified slice, which may have a smaller length. Compact zeroes the elements between the new length and the original length. The result preserves the nilness of s.": IT RETURNS THE SLICE CUT TO 'Lib.compact zs'; ITS CELLS HOLD 'Lib.compact zs', THEN ZERO VALUES up to the old length; all else is as it was, but for the count of draws. IN THE WORDS OF slices.Sort's CONTRACT ('Holds', 'putRow'): so the everyday 'slices.Sort(xs); xs = slices.Compact(xs)' goes from the one contract to the other. It asks 'zs.length ≤ cap' (every slice's: the reslicing 's[:k]' looks at it). Length 0, nil: '.._empty'. (LAID: no walk: one application.) -/
theorem Try.slices_Compact_string (blk off cap : Nat) (zs : List (List UInt8)) (w : World) (hH : Holds encStr w blk off zs.toArray) (hsz : zs.length ≤ 9223372036854775807) (hcap : zs.length ≤ cap) :
    Calls Try.prog 109 #[.slice (some ⟨blk, off, none⟩) zs.length cap] w fun e w' => e = .returned (.slice (some ⟨blk, off, none⟩) (Lib.compact zs).length cap) ∧ ∃ q, w' = putRow encStr (Sort.ahead w q) blk off (Lib.compact zs ++ List.replicate (zs.length - (Lib.compact zs).length) []).toArray := Any.slices_Compact_string Try.lays194 blk off cap zs w hH hsz hcap
open Go.RowKit Go.Lib Go.Sort in
/-- The same at a slice of length 0, a nil one too: it comes back as it is. (LAID: no walk: one application.) -/
theorem Try.slices_Compact_string_empty (a : Option Addr) (cap : Nat) (w : World) :
    Calls Try.prog 109 #[.slice a 0 cap] w fun e w' => e = .returned (.slice a 0 cap) ∧ w' = w := Any.slices_Compact_string_empty Try.lays194 a cap w
open Go.RowKit Go.Sort in
/-- .. and plain. (LAID: no walk: one application.) -/
theorem Try.slices_Sort_string_none (p : Option Addr) (cap : Nat) (w : World) :
    Calls Try.prog 108 #[.slice p 0 cap] w fun e w' => e = .returned (.tuple #[]) ∧ w' = w := Any.slices_Sort_string_none Try.lays190 p cap w
end Go.Proofs

/- Decimals by either hand; how a text is cut into blocks. -/
set_option linter.unusedVariables false
set_option linter.unusedSimpArgs false
namespace Go.Proofs.Ytkbhjejalkbogaa
open Go Go.Av Go.RowKit

section
variable {w0 : World} {σ : Vw}

end
end Go.Proofs.Ytkbhjejalkbogaa

/- Decimals of the tree's own hand; hex. -/
set_option linter.unusedVariables false
set_option linter.unusedSimpArgs false
namespace Go.Proofs.Ytkbhjejalkbogaa
open Go Go.Av Go.RowKit

section
variable {w0 : World} {σ : Vw}

end
end Go.Proofs.Ytkbhjejalkbogaa

/- Paths and trails as texts; the law 'TrailShow'. -/
set_option linter.unusedVariables false
set_option linter.unusedSimpArgs false
namespace Go.Proofs.Ytkbhjejalkbogaa
open Go Go.Av Go.RowKit

section
variable {w0 : World} {σ : Vw}

end
theorem open_mk {H : Type} {enc : TypeId × Value → H} {W : World} {spare : Nat → Bool} (fuel : Nat) (es : List Value) (y : DataW H × List MemPlace) (h : DataW.trod enc Try.prog W 0 spare true fuel t_laws_Mark es = some y) (hl : es.length = 2) : ∃ x, RMk (Av.get W σ0) es x := by
  have hT : Try.prog.underlying t_laws_Mark = some (.struct (fsOf Try.prog t_laws_Mark)) := by kernel_rfl
  obtain ⟨f0, y0, l0, h0⟩ := open_field' hT 0 t_s_string 0 1 (by kernel_rfl) (by kernel_rfl) h
  obtain ⟨f1, y1, l1, h1⟩ := open_field' hT 1 t_bool 1 1 (by kernel_rfl) (by kernel_rfl) h
  obtain ⟨u, ns, hu, hus⟩ := open_rsl (t := t_s_string) (e := t_string) (by kernel_rfl) (by kernel_rfl) (open_rs (by kernel_rfl)) h0
  obtain ⟨b, hb⟩ := open_bool (by kernel_rfl) h1
  match es, hl with
  | [x, z], _ =>
    simp at hu hb
    exact ⟨(ns, b), u, by rw [hu, hb], hus⟩
end Go.Proofs.Ytkbhjejalkbogaa

/- Bytes in rows of our own; hex by the program's hand; a line of a tree. -/
set_option linter.unusedVariables false
set_option linter.unusedSimpArgs false
namespace Go.Proofs.Ytkbhjejalkbogaa
open Go Go.Av Go.RowKit

section
variable {w0 : World} {σ : Vw}

end
end Go.Proofs.Ytkbhjejalkbogaa

/- What is at a path of a tree, by either reading. -/
set_option linter.unusedVariables false
set_option linter.unusedSimpArgs false
namespace Go.Proofs.Ytkbhjejalkbogaa
open Go Go.Av

/-- The first place of a text. -/
def nidx : List ByteArray → ByteArray → Option Nat
  | [], _ => none
  | s :: r, x => if s = x then some 0 else (nidx r x).map (· + 1)
theorem nidx_some {ns : List ByteArray} {x : ByteArray} : ∀ {j : Nat}, nidx ns x = some j → ns[j]? = some x := by
  induction ns with
  | nil => intro j h; simp [nidx] at h
  | cons s r ih =>
    intro j h
    unfold nidx at h
    split at h
    · rename_i e; cases h; simp [e]
    · cases hr : nidx r x with
      | none => rw [hr] at h; cases h
      | some i => rw [hr] at h; cases h; simpa using ih hr
theorem nidx_at {ns : List ByteArray} {x : ByteArray} : ∀ {j : Nat}, ns[j]? = some x → (∀ (i : Nat) (y : ByteArray), i < j → ns[i]? = some y → y ≠ x) → nidx ns x = some j := by
  induction ns with
  | nil => intro j h; simp at h
  | cons s r ih =>
    intro j h hn
    unfold nidx
    cases j with
    | zero => simp at h; rw [if_pos h]
    | succ j =>
      rw [if_neg (hn 0 s (by omega) rfl), ih (by simpa using h) fun i y hi hy => hn (i + 1) y (by omega) (by simpa using hy)]
      rfl
theorem nidx_none {ns : List ByteArray} {x : ByteArray} (h : ∀ (i : Nat) (y : ByteArray), ns[i]? = some y → y ≠ x) : nidx ns x = none := by
  induction ns with
  | nil => rfl
  | cons s r ih =>
    unfold nidx
    rw [if_neg (h 0 s rfl), ih fun i y hy => h (i + 1) y (by simpa using hy)]
    rfl
/-- A place as a number, -1 for none. -/
def placeI : Option Nat → Int
  | some j => j
  | none => -1

/-- Names and parts are as many, all the way down. -/
def wfT : Nat → Tr → Prop
  | 0, _ => True
  | n + 1, .mk d m t ns ks => ns.length = ks.length ∧ ∀ k, k ∈ ks → wfT n k
def kidT : Tr → ByteArray → Option Tr
  | .mk _ _ _ ns ks, x => (nidx ns x).bind fun j => ks[j]?
def atT : Tr → List ByteArray → Option Tr
  | t, [] => some t
  | t, x :: r => (kidT t x).bind fun k => atT k r
def zeroT : Tr := .mk false 0 ⟨#[]⟩ [] []
theorem RT_zero (n : Nat) (rd : Addr → Option Value) : RT (n + 1) rd [.bool false, .int .i64 0, .string ⟨#[]⟩, .slice none 0 0, .slice none 0 0] zeroT :=
  ⟨_, _, rfl, by omega, by show 0 ≤ _; omega, ⟨none, 0, rfl, by simp, fun j x h => by simp at h⟩, ⟨none, 0, rfl, by simp, fun j x h => by simp at h⟩⟩
section
variable {w0 : World} {σ : Vw}

theorem find_names {v : Value} {ns : List ByteArray} {x : ByteArray} (h : RSl 1 RS (Av.get w0 σ) v ns) {R : Value → Vw → Prop} (hR : R (.int .i64 (placeI (nidx ns x))) σ) : AC Try.prog w0 n_slices_Index_string_string [v, .string x] σ R := by
  refine ac_slices_Index_string_string ?_
  unfold vc_slices_Index_string_string
  have hl := h.le
  rw [h.len]
  refine loop_rule (m := ns.length) (fun c l s => ∃ j, s = σ ∧ c + j = ns.length ∧ (∀ (i : Nat) (y : ByteArray), i < j → ns[i]? = some y → y ≠ x) ∧ l = [v, .string x, .int .i64 0, .int .i64 ns.length, .int .i64 (j : Nat)]) ?_ ⟨0, rfl, by omega, fun i y h => by omega, rfl⟩
  rintro c l s L ⟨j, rfl, hc, ht, rfl⟩ hL
  simp only [vget, List.getD_cons_zero, List.getD_cons_succ]
  rw [pBin_lt, pIf_d]
  refine ⟨fun hj => ?_, fun hj => ?_⟩
  · have hx := List.getElem?_eq_getElem (show j < ns.length by omega)
    generalize hxj : ns[j] = y at hx
    refine RSl.at1 h hx fun g hg hs => ?_
    rw [hg, pBin_seq, pIf_d]
    refine ⟨fun he => ?_, fun hne => ?_⟩
    · subst he
      rw [nidx_at hx ht] at hR
      exact hR
    · rw [pBin_add (by omega)]
      refine hL _ _ (c - 1) (by omega) ⟨j + 1, rfl, by omega, fun i z hi hz => ?_, rfl⟩
      by_cases e : i = j
      · subst e; rw [hx] at hz; cases hz; exact fun e => hne e.symm
      · exact ht i z (by omega) hz
  · rw [nidx_none fun i y hy => ht i y (by have := (List.getElem?_eq_some_iff.1 hy).1; omega) hy] at hR
    exact hR

theorem spec_Find {n : Nat} {es : List Value} {d : Bool} {m : Int} {t : ByteArray} {ns : List ByteArray} {ks : List Tr} {x : ByteArray} (h : RT n (Av.get w0 σ) es (.mk d m t ns ks)) {R : Value → Vw → Prop} (hR : R (.int .i64 (placeI (nidx ns x))) σ) : AC Try.prog w0 n_spec_l1Find [.agg ⟨es⟩, .string x] σ R := by
  obtain _ | n := n
  · exact h.elim
  obtain ⟨u, w, rfl, h2, h3, h4, h5⟩ := h
  refine ac_spec_l1Find ?_
  unfold vc_spec_l1Find
  have hl := h4.le
  rw [pVal_5 rfl rfl rfl h4.one h5.one]
  simp only [cellOf_agg, List.getD_cons_zero, List.getD_cons_succ]
  refine loop_rule (m := ns.length) (fun c l s => ∃ j, s = σ ∧ c + j = ns.length ∧ (∀ (i : Nat) (y : ByteArray), i < j → ns[i]? = some y → y ≠ x) ∧ l = [.string x, .int .i64 0, .int .i64 (j : Nat), .bool d, .int .i64 m, .string t, u, w]) ?_ ⟨0, rfl, by omega, fun i y h => by omega, rfl⟩
  rintro c l s L ⟨j, rfl, hc, ht, rfl⟩ hL
  simp only [vget, List.getD_cons_zero, List.getD_cons_succ]
  rw [h4.len, pBin_lt, pIf_d]
  refine ⟨fun hj => ?_, fun hj => ?_⟩
  · have hx := List.getElem?_eq_getElem (show j < ns.length by omega)
    generalize hxj : ns[j] = y at hx
    refine RSl.at1 h4 hx fun g hg hs => ?_
    rw [hg, pBin_seq, pIf_d]
    refine ⟨fun he => ?_, fun hne => ?_⟩
    · subst he
      rw [nidx_at hx ht] at hR
      exact hR
    · rw [pBin_add (by omega)]
      refine hL _ _ (c - 1) (by omega) ⟨j + 1, rfl, by omega, fun i z hi hz => ?_, rfl⟩
      by_cases e : i = j
      · subst e; rw [hx] at hz; cases hz; exact hne
      · exact ht i z (by omega) hz
  · rw [nidx_none fun i y hy => ht i y (by have := (List.getElem?_eq_some_iff.1 hy).1; omega) hy] at hR
    exact hR

/-- What a kid is read as. -/
theorem kid_some {n : Nat} {d : Bool} {m : Int} {t : ByteArray} {ns : List ByteArray} {ks : List Tr} {x : ByteArray} (hw : wfT (n + 1) (.mk d m t ns ks)) {j : Nat} (hj : nidx ns x = some j) : ∃ k, ks[j]? = some k ∧ kidT (.mk d m t ns ks) x = some k ∧ wfT n k := by
  have h1 := nidx_some hj
  have hlt := (List.getElem?_eq_some_iff.1 h1).1
  have hw1 := hw.1
  have hk := List.getElem?_eq_getElem (show j < ks.length by omega)
  refine ⟨_, hk, ?_, hw.2 _ (List.getElem_mem _)⟩
  simp only [kidT, hj, Option.bind_some, hk]

theorem spec_At : ∀ (ps : List ByteArray) {n : Nat} {σ : Vw} {es : List Value} {v : Value} {x : Tr} {R : Value → Vw → Prop}, RT n (Av.get w0 σ) es x → wfT n x → RSl 1 RS (Av.get w0 σ) v ps →
    (∀ es', RT n (Av.get w0 σ) es' ((atT x ps).getD zeroT) → R (.tuple ⟨[.agg ⟨es'⟩, .bool (atT x ps).isSome]⟩) σ) → AC Try.prog w0 n_spec_l1At [.agg ⟨es⟩, v] σ R
  | ps, 0, _, _, _, _, _, h, _, _, _ => h.elim
  | ps, n + 1, σ, es, v, .mk d m t ns ks, R, h, hw, hp, hR => by
    have h0 := h
    obtain ⟨u, w, rfl, h2, h3, h4, h5⟩ := h
    refine ac_spec_l1At ?_
    unfold vc_spec_l1At
    have e5 : ∀ A : Prop, pVal true 5 (.agg ⟨[.bool d, .int .i64 m, .string t, u, w]⟩) A ↔ A := fun A => pVal_5 rfl rfl rfl h4.one h5.one
    rw [e5]
    simp only [cellOf_agg, List.getD_cons_zero, List.getD_cons_succ]
    rw [hp.len, pBin_eq, pIf_d]
    cases ps with
    | nil =>
      refine ⟨fun _ => ?_, fun h => absurd rfl h⟩
      rw [e5]
      exact hR _ h0
    | cons p r =>
      refine ⟨fun h => by simp at h; omega, fun _ => ?_⟩
      refine RSl.at1 (w0 := w0) (σ := σ) hp (j := 0) (x := p) rfl fun g hg hs => ?_
      rw [hg]
      refine spec_Find h0 ?_
      rw [pBin_lt, pIf_d]
      cases hj : nidx ns p with
      | none =>
        refine ⟨fun _ => ?_, fun h => absurd (show (-1 : Int) < 0 by omega) h⟩
        rw [pVal_5 rfl rfl rfl rfl rfl]
        have : atT (.mk d m t ns ks) (p :: r) = none := by simp [atT, kidT, hj]
        rw [this] at hR
        exact hR _ (RT_zero n _)
      | some j =>
        refine ⟨fun h => by simp only [placeI] at h; omega, fun _ => ?_⟩
        obtain ⟨k, hk1, hk2, hk3⟩ := kid_some hw hj
        have hat : atT (.mk d m t ns ks) (p :: r) = atT k r := by simp only [atT, hk2, Option.bind_some]
        rw [hat] at hR
        refine h5.at hk1 fun g8 hg8 => ?_
        refine hp.slice (l := 1) (u := (p :: r).length) rfl rfl (by simp) (Nat.le_refl _) fun v9 hv9 => ?_
        rw [List.take_length, List.drop_one, List.tail_cons] at hv9
        refine spec_At r hg8 hk3 hv9 fun es' he' => ?_
        rw [pExtract_s rfl, pExtract_s rfl]
        have hn : RT (n + 1) (Av.get w0 σ) es' ((atT k r).getD zeroT) := RT_up _ _ _ _ he'
        obtain ⟨a, b, c, d', e, rfl, _, hpv⟩ := RT.five hn
        rw [hpv]
        exact hR _ hn

/-- A pointer to a tree. -/
def PT (n : Nat) (rd : Addr → Option Value) (p : Value) (x : Tr) : Prop := ∃ a es, p = .pointer (some a) ∧ es.length = 5 ∧ (∀ i, i < 5 → rd (a.add i) = es[i]?) ∧ RT n rd es x
theorem PT.mono {n : Nat} {rd rd' : Addr → Option Value} {p : Value} {x : Tr} (h : PT n rd p x) (hl : Le rd rd') : PT n rd' p x := by
  obtain ⟨a, es, h1, h2, h3, h4⟩ := h
  refine ⟨a, es, h1, h2, fun i hi => ?_, mono_rt n _ _ _ _ hl h4⟩
  have := h3 i hi
  rw [List.getElem?_eq_getElem (by omega)] at this ⊢
  exact hl _ _ this
theorem PT.up {n : Nat} {rd : Addr → Option Value} {p : Value} {x : Tr} (h : PT n rd p x) : PT (n + 1) rd p x := by
  obtain ⟨a, es, h1, h2, h3, h4⟩ := h
  exact ⟨a, es, h1, h2, h3, RT_up _ _ _ _ h4⟩
/-- A field behind a pointer is read. -/
theorem PT.ld {n : Nat} {p : Value} {x : Tr} (h : PT n (Av.get w0 σ) p x) (o : Nat) (ho : o < 5) {K : (Nat → Value) → Prop} (hK : ∀ (es : List Value) (g : Nat → Value), RT n (Av.get w0 σ) es x → es[o]? = some (g 0) → K g) : pNil p (pField o p fun q => pLoad w0 1 q σ K) := by
  obtain ⟨a, es, rfl, h5, h6, h7⟩ := h
  rw [pNil_s, pField_s]
  refine ⟨_, fun _ => es.getD o undef, rfl, fun i hi => ?_, hK es _ h7 ?_⟩
  · have e : i = 0 := by omega
    subst e
    have := h6 o ho
    rw [add_add, Nat.add_zero, this, List.getElem?_eq_getElem (by omega)]
    simp only [List.getD_eq_getElem?_getD, List.getElem?_eq_getElem (show o < es.length by omega), Option.getD_some]
  · simp only [List.getD_eq_getElem?_getD, List.getElem?_eq_getElem (show o < es.length by omega), Option.getD_some]
/-- The address of an element. -/
theorem RSl.ptr {n k : Nat} {v : Value} {xs : List Tr} (h : RSl 5 (RT n) (Av.get w0 σ) v xs) {j : Nat} {x : Tr} (hj : xs[j]? = some x) {K : Value → Prop} (hK : ∀ p, PT n (Av.get w0 σ) p x → K p) : pIndexAddr 5 v (.int .i64 j) K := by
  obtain ⟨A, cap, rfl, _, h3⟩ := h
  obtain ⟨a, es, rfl, h5, h6, h7⟩ := h3 j x hj
  have hlt : j < xs.length := (List.getElem?_eq_some_iff.1 hj).1
  refine ⟨a, xs.length, cap, .i64, j, rfl, rfl, by omega, by omega, hK _ ⟨_, es, rfl, h5, fun i hi => ?_, h7⟩⟩
  have := h6 i hi
  rw [Int.toNat_natCast, add_add]; exact this

/-- What is at a name, by pointers: a pointer, or nil. -/
def PO (n : Nat) (rd : Addr → Option Value) (p : Value) : Option Tr → Prop
  | some x => PT n rd p x
  | none => p = .pointer none
theorem PO.mono {n : Nat} {rd rd' : Addr → Option Value} {p : Value} {o : Option Tr} (h : PO n rd p o) (hl : Le rd rd') : PO n rd' p o := by
  cases o with
  | none => exact h
  | some x => exact PT.mono h hl

theorem impl_kid {n : Nat} {p : Value} {x : Tr} {name : ByteArray} {R : Value → Vw → Prop} (h : PT (n + 1) (Av.get w0 σ) p x) (hw : wfT (n + 1) x) (hR : ∀ q, PO n (Av.get w0 σ) q (kidT x name) → R q σ) : AC Try.prog w0 n_p_impl_Tree_kid [p, .string name] σ R := by
  obtain ⟨d, m, t, ns, ks⟩ := x
  refine ac_p_impl_Tree_kid ?_
  unfold vc_p_impl_Tree_kid
  refine h.ld 3 (by omega) fun es g he hg => ?_
  obtain ⟨u, w, rfl, h2, h3, h4, h5⟩ := he
  simp only [List.getElem?_cons_zero, List.getElem?_cons_succ, Option.some.injEq] at hg
  rw [← hg]
  refine find_names h4 ?_
  rw [pBin_lt, pIf_d]
  cases hj : nidx ns name with
  | none =>
    refine ⟨fun _ => hR _ (by simp only [kidT, hj, Option.bind_none]; rfl), fun h => absurd (show (-1 : Int) < 0 by omega) h⟩
  | some j =>
    refine ⟨fun h => by simp only [placeI] at h; omega, fun _ => ?_⟩
    obtain ⟨k, hk1, hk2, hk3⟩ := kid_some hw hj
    have hlt := (List.getElem?_eq_some_iff.1 hk1).1
    refine h.ld 4 (by omega) fun es g he hg => ?_
    obtain ⟨u', w', rfl, h2', h3', h4', h5'⟩ := he
    simp only [List.getElem?_cons_zero, List.getElem?_cons_succ, Option.some.injEq] at hg
    rw [← hg, h5'.len]
    simp only [placeI]
    rw [pBin_ge, pIf_d]
    refine ⟨fun h => by omega, fun _ => ?_⟩
    refine h.ld 4 (by omega) fun es g he hg => ?_
    obtain ⟨u2, w2, rfl, h22, h32, h42, h52⟩ := he
    simp only [List.getElem?_cons_zero, List.getElem?_cons_succ, Option.some.injEq] at hg
    rw [← hg]
    refine RSl.ptr (k := 0) h52 hk1 fun q hq => hR q ?_
    rw [hk2]; exact hq

theorem wf_RT_up : ∀ {n : Nat} {rd : Addr → Option Value} {es : List Value} {x : Tr}, RT n rd es x → wfT n x → wfT (n + 1) x
  | 0, _, _, _, h, _ => h.elim
  | n + 1, rd, es, .mk d m t ns ks, h, hw => by
    obtain ⟨u, w, h1, h2, h3, h4, A, cap, _, _, h5⟩ := h
    refine ⟨hw.1, fun k hk => ?_⟩
    obtain ⟨j, hj⟩ := List.getElem?_of_mem hk
    obtain ⟨a, es', _, _, _, h6⟩ := h5 j k hj
    exact wf_RT_up h6 (hw.2 k hk)

theorem pBin_nil {T : Nat} {p : Option Addr} {K : Value → Prop} (hT : ∃ e, Try.prog.underlying T = some (.pointer e)) : pBin Try.prog T .eql (.pointer p) (.pointer none) K ↔ K (.bool p.isNone) := by
  obtain ⟨e, he⟩ := hT
  have h : abinT Try.prog T .eql (.pointer p) (.pointer none) = some (.bool p.isNone) := by simp only [abinT, he]
  exact ⟨fun ⟨_, h', hK⟩ => by rw [h] at h'; cases h'; exact hK, fun hK => ⟨_, h, hK⟩⟩
theorem ptr_tree : ∃ e, Try.prog.underlying t_p_impl_Tree = some (.pointer e) := ⟨t_impl_Tree, by kernel_rfl⟩

theorem impl_at {n : Nat} {p v : Value} {x : Tr} {ps : List ByteArray} {R : Value → Vw → Prop} (h : PT (n + 1) (Av.get w0 σ) p x) (hw : wfT (n + 1) x) (hp : RSl 1 RS (Av.get w0 σ) v ps) (hR : ∀ q, PO (n + 1) (Av.get w0 σ) q (atT x ps) → R q σ) : AC Try.prog w0 n_p_impl_Tree_at [p, v] σ R := by
  refine ac_p_impl_Tree_at ?_
  unfold vc_p_impl_Tree_at
  have hl := hp.le
  rw [hp.len]
  refine loop_rule (m := ps.length) (fun c l s => ∃ (j : Nat) (q : Value) (y : Tr), s = σ ∧ c + j = ps.length ∧ PT (n + 1) (Av.get w0 σ) q y ∧ wfT (n + 1) y ∧ atT y (ps.drop j) = atT x ps ∧ l = [q, .pointer none, v, .int .i64 ps.length, .int .i64 (j : Nat)]) ?_ ⟨0, p, x, rfl, by omega, h, hw, rfl, rfl⟩
  rintro c l s L ⟨j, q, y, rfl, hc, hq, hy, hat, rfl⟩ hL
  simp only [vget, List.getD_cons_zero, List.getD_cons_succ]
  rw [pBin_lt, pIf_d]
  refine ⟨fun hj => ?_, fun hj => ?_⟩
  · have hx := List.getElem?_eq_getElem (show j < ps.length by omega)
    have hd : ps.drop j = ps[j] :: ps.drop (j + 1) := List.drop_eq_getElem_cons (by omega)
    rw [hd] at hat
    generalize hxj : ps[j] = z at hx hat
    refine RSl.at1 hp hx fun g hg hs => ?_
    rw [hg]
    refine impl_kid hq hy fun q' hq' => ?_
    cases hk : kidT y z with
    | none =>
      rw [hk] at hq'
      obtain rfl : q' = .pointer none := hq'
      rw [pBin_nil ptr_tree]
      rw [pIf_b]
      refine ⟨fun _ => hR _ ?_, fun h => by cases h⟩
      have : atT x ps = none := by rw [← hat]; simp only [atT, hk, Option.bind_none]
      rw [this]; exact rfl
    | some y' =>
      rw [hk] at hq'
      have hq2 : PT n (Av.get w0 s) q' y' := hq'
      obtain ⟨a, es, rfl, r1, r2, r3⟩ := hq2
      rw [pBin_nil ptr_tree]
      rw [pIf_b]
      refine ⟨fun h => (by cases h), fun _ => ?_⟩
      rw [pBin_add (by omega)]
      have hw' : wfT n y' := by
        obtain ⟨d, m, t, ns, ks⟩ := y
        cases hj : nidx ns z with
        | none => simp only [kidT, hj, Option.bind_none] at hk; cases hk
        | some i =>
          obtain ⟨k, _, hk2, hk3⟩ := kid_some hy hj
          rw [hk] at hk2; cases hk2; exact hk3
      refine hL _ _ (c - 1) (by omega) ⟨j + 1, _, y', rfl, by omega, PT.up ⟨a, es, rfl, r1, r2, r3⟩, wf_RT_up r3 hw', ?_, rfl⟩
      rw [← hat]; simp only [atT, hk, Option.bind_some]
  · have hj' : j = ps.length := by omega
    subst hj'
    rw [List.drop_length] at hat
    have : atT x ps = some y := by rw [← hat]; rfl
    refine hR q ?_
    rw [this]; exact hq
end
end Go.Proofs.Ytkbhjejalkbogaa

/- Reading and listing: the functions 'TreeRead' and 'TreeList' by either text. -/
set_option linter.unusedVariables false
set_option linter.unusedSimpArgs false
namespace Go.Proofs.Ytkbhjejalkbogaa
open Go Go.Av

def kidsOf : Tr → List Tr
  | .mk _ _ _ _ ks => ks
def namesOf : Tr → List ByteArray
  | .mk _ _ _ ns _ => ns
def dataOf : Tr → ByteArray
  | .mk _ _ t _ _ => t
def modeOf : Tr → Int
  | .mk _ m _ _ _ => m
theorem kid_mem {x : Tr} {nm : ByteArray} {k : Tr} (h : kidT x nm = some k) : k ∈ kidsOf x := by
  obtain ⟨d, m, t, ns, ks⟩ := x
  simp only [kidT, Option.bind_eq_some_iff] at h
  obtain ⟨j, _, hj⟩ := h
  exact List.mem_of_getElem? hj
section
variable {w0 : World} {σ : Vw}

theorem RT.cells {n : Nat} {rd : Addr → Option Value} {es : List Value} {x : Tr} (h : RT n rd es x) : ∃ u w, es = [.bool (isDir x), .int .i64 (modeOf x), .string (dataOf x), u, w] ∧ (-9223372036854775808 ≤ modeOf x ∧ modeOf x ≤ 9223372036854775807) ∧ (dataOf x).size ≤ 9223372036854775807 ∧ RSl 1 RS rd u (namesOf x) ∧ RSl 5 (RT n) rd w (kidsOf x) ∧ ∀ A : Prop, pVal true 5 (.agg ⟨es⟩) A ↔ A := by
  obtain _ | n := n
  · exact h.elim
  · obtain ⟨d, m, t, ns, ks⟩ := x
    obtain ⟨u, w, rfl, h2, h3, h4, h5⟩ := h
    exact ⟨u, w, rfl, h2, h3, h4, h5.imp fun es x h => RT_up n rd es x h, fun A => pVal_5 rfl rfl rfl h4.one h5.one⟩

/-- A tree that is put into a row of our own. -/
theorem PT.new {n b : Nat} {es : List Value} {x : Tr} (h : RT n (Av.get w0 σ) es x) (hb : w0.heap.size ≤ b) (hn : σ b = none) {ety c : Nat} : PT n (Av.get w0 (σ.put b ⟨ety, es, c, (0, 0)⟩)) (.pointer (some ⟨b, 0, none⟩)) x := by
  have hl : es.length = 5 := by obtain ⟨_, _, _, _, _, rfl, _⟩ := RT.five h; rfl
  refine ⟨_, es, rfl, hl, fun i hi => ?_, mono_rt n _ _ _ _ (Keeps.put hn).le h⟩
  rw [addr_add, get_row hb put_at, Nat.zero_add]
theorem PT.load {n : Nat} {p : Value} {x : Tr} (h : PT n (Av.get w0 σ) p x) {K : (Nat → Value) → Prop} (hK : ∀ g : Nat → Value, RT n (Av.get w0 σ) (expl g 0 5) x → K g) : pLoad w0 5 p σ K := by
  obtain ⟨a, es, rfl, h5, h6, h7⟩ := h
  refine ⟨a, fun i => es.getD i undef, rfl, fun i hi => ?_, hK _ ?_⟩
  · rw [h6 i hi, List.getElem?_eq_getElem (by omega)]
    simp only [List.getD_eq_getElem?_getD, List.getElem?_eq_getElem (show i < es.length by omega), Option.getD_some]
  · have : expl (fun i => es.getD i undef) 0 5 = es := by
      match es, h5 with
      | [a, b, c, d, e], _ => rfl
    rw [this]; exact h7

end
end Go.Proofs.Ytkbhjejalkbogaa

/- A tree as a text: what it is, and by the reference's hand; a line by the program's. -/
set_option linter.unusedVariables false
set_option linter.unusedSimpArgs false
namespace Go.Proofs.Ytkbhjejalkbogaa
open Go Go.Av Go.RowKit

/-- What is sound is short. -/
def shortT : Nat → Tr → Prop
  | 0, _ => False
  | n + 1, .mk d m t ns ks => (0 ≤ m ∧ m ≤ 7) ∧ t.size ≤ 24 ∧ ns.length = ks.length ∧ (∀ x, x ∈ ns → x.size ≤ 5) ∧ ∀ k, k ∈ ks → shortT n k
theorem sound_short : ∀ (n : Nat) (x : Tr) (k : Int), soundB n x k = true → shortT n x
  | 0, _, _, h => by simp [soundB] at h
  | n + 1, .mk d m t ns ks, k, h => by
    simp only [soundB, plainB, Bool.and_eq_true, decide_eq_true_eq, inB] at h
    obtain ⟨⟨h1, h2, h3⟩, _, h4⟩ := h
    refine ⟨h1, ?_, h2, fun x hx => ?_, fun c hc => ?_⟩
    · cases d
      · simp at h3; exact h3.1
      · simp at h3; rw [h3.2]; show 0 ≤ 24; omega
    · cases d
      · simp at h3; rw [h3.2] at hx; cases hx
      · simp at h3
        obtain ⟨j, hj⟩ := List.getElem?_of_mem hx
        have := h3.1 j x hj
        simp only [nameAt, nameOk, Bool.and_eq_true, decide_eq_true_eq, inB] at this
        omega
    · obtain ⟨j, hj⟩ := List.getElem?_of_mem hc
      exact sound_short n c _ (allB_iff.1 h4 j c hj)
section
variable {w0 : World} {σ : Vw}

end
end Go.Proofs.Ytkbhjejalkbogaa

/- What is said of a tree part by part, in order: a list. -/
set_option linter.unusedVariables false
set_option linter.unusedSimpArgs false
namespace Go.Proofs.Ytkbhjejalkbogaa
open Go Go.Av

def linT {α : Type} (f : Nat → List ByteArray → Tr → α) : Nat → List ByteArray → Tr → List α
  | 0, _, _ => []
  | n + 1, ps, .mk d m t ns ks => f (n + 1) ps (.mk d m t ns ks) :: ((ns.zip ks).map fun y => linT f n (ps ++ [y.1]) y.2).flatten
theorem zip_sum {f : Tr → Nat} : ∀ {ns : List ByteArray} {ks : List Tr}, sumBy (fun y : ByteArray × Tr => f y.2 + 1) (ns.zip ks) ≤ ks.length + sumBy f ks
  | [], ks => by simp [sumBy]
  | _ :: _, [] => by simp [sumBy]
  | x :: ns, k :: ks => by
    have := zip_sum (f := f) (ns := ns) (ks := ks)
    simp only [List.zip_cons_cons, sumBy, List.length_cons]; omega
section
variable {w0 : World} {σ : Vw} {α : Type}

theorem none_old {σ s : Vw} (k : Keeps σ s) {i : Nat} (h : s i = none) : σ i = none := by
  cases hs : σ i with
  | none => rfl
  | some r => rw [k i r hs] at h; cases h

/-- One element, in a row of its own. -/
theorem OAcc.single {ety n b : Nat} {Rel : (Addr → Option Value) → List Value → α → Prop} {O : Vw → List Nat → List Value → α → Prop} (ok : OOk w0 n Rel O) {es : List Value} {f : List Nat} {y : α} (hb : w0.heap.size ≤ b) (hn : σ b = none) (hy : O σ f es y) :
    OAcc w0 ety n O (σ.put b ⟨ety, es, es.length, (0, 0)⟩) (b :: f) (.slice (some ⟨b, 0, none⟩) 1 1) [y] := by
  have hf : ∀ i, i ∈ f → i ≠ b := fun i hi e => (ok.dom _ _ _ _ hy i hi).2 (e ▸ hn)
  refine ⟨by simp, List.nodup_cons.2 ⟨fun h => hf b h rfl, ok.nodup _ _ _ _ hy⟩, .inr ⟨b, 1, [es], [f], rfl, by simp, hb, ?_, rfl, rfl, by simp, fun j c x g e1 e2 e3 => ?_⟩⟩
  · rw [put_at, ok.len _ _ _ _ hy]; simp
  · cases j with
    | zero =>
      simp at e1 e2 e3
      subst e1 e2 e3
      exact ok.frame _ _ _ _ _ hy fun i hi => put_ne (hf i hi)
    | succ j => simp at e1

theorem copy_strs {v : Value} {xs : List ByteArray} (h : RSl 1 RS (Av.get w0 σ) v xs) (hl : xs.length ≤ 1000000000) {K : Value → Vw → Prop}
    (hK : ∀ v' F σ', Keeps σ σ' → OStrs w0 σ' F v' xs → (∀ b, b ∈ F → σ b = none) → K v' σ') : pNew w0 t_string [] σ (fun n0 s1 => pAppendS w0 t_string 1 16 (.slice (some (Addr.mk n0 0 none)) 0 0) v s1 (fun v2 s3 => K v2 s3)) := by
  intro b h1 h2
  have kb : Keeps σ (σ.put b ⟨t_string, [], 0, (0, 0)⟩) := Keeps.put h2
  have hb0 : ∀ i, i ∈ [b] → σ i = none := fun i hi => by rw [List.mem_singleton.1 hi]; exact h2
  refine (OAcc.new (w0 := w0) (σ := σ) (ety := t_string) (n := 1) (O := OStr) h1).all (ok_str w0) h kb.le (fun es y hy => ⟨rfl, hy⟩) (by simp; omega) (by omega) fun v' F' σ' k1 o1 f1 => ?_
  exact hK v' F' σ' (k1.old kb hb0) (by simpa using o1.osl) (fresh_in kb hb0 f1)

/-! ### By the reference's hand: a loop over the kids -/
/-- What a function that lists a part and all below does. -/
def Lists (w0 : World) (F ety : Nat) (O : Vw → List Nat → List Value → α → Prop) (f : Nat → List ByteArray → Tr → α) (n : Nat) : Prop :=
  ∀ {s : Vw} {v : Value} {es : List Value} {qs : List ByteArray} {x : Tr} {R : Value → Vw → Prop}, RSl 1 RS (Av.get w0 s) v qs → RT n (Av.get w0 s) es x → shortT n x → cntT n x ≤ 100000 → qs.length + sumS qs + 6 * n ≤ 1000000 →
    (∀ v' G s', Keeps s s' → OAcc w0 ety 5 O s' G v' (linT f n qs x) → (∀ i, i ∈ G → s i = none) → R v' s') → AC Try.prog w0 F [v, .agg ⟨es⟩] s R

/-! ### By the program's hand: a function value that is called part by part -/
/-- A path that is read whatever becomes of the rows of G. -/
def PathIn (w0 : World) (s : Vw) (G : List Nat) (v : Value) (ps : List ByteArray) : Prop := ∀ s', KeepsBut G s s' → RSl 1 RS (Av.get w0 s') v ps
theorem PathIn.next {s s1 : Vw} {G G' : List Nat} {v : Value} {ps : List ByteArray} (h : PathIn w0 s G v ps) (k : KeepsBut G s s1) (hG : ∀ i, i ∈ G' → i ∈ G ∨ s i = none) : PathIn w0 s1 G' v ps :=
  fun s' k' => h s' fun i r hi hn => k' i r (k i r hi hn) fun h => by
    rcases hG i h with h | h
    · exact hn h
    · rw [hi] at h; cases h
/-- A box that holds a list. -/
def CB (w0 : World) (ety : Nat) (O : Vw → List Nat → List Value → α → Prop) (s : Vw) (b : Nat) (G : List Nat) (xs : List α) : Prop :=
  w0.heap.size ≤ b ∧ b ∉ G ∧ ∃ v e2, s b = some ⟨e2, [v], 1, (0, 0)⟩ ∧ OAcc w0 ety 5 O s G v xs
theorem CB.frame {ety b : Nat} {Rel : (Addr → Option Value) → List Value → α → Prop} {O : Vw → List Nat → List Value → α → Prop} (ok : OOk w0 5 Rel O) {s s' : Vw} {G : List Nat} {xs : List α} (h : CB w0 ety O s b G xs) (k : Keeps s s') : CB w0 ety O s' b G xs := by
  obtain ⟨h1, h2, v, e2, h3, h4⟩ := h
  exact ⟨h1, h2, v, e2, k _ _ h3, h4.frame ok (k.but_at fun i hi => (h4.dom ok i hi).2)⟩
theorem CB.dom {ety b : Nat} {Rel : (Addr → Option Value) → List Value → α → Prop} {O : Vw → List Nat → List Value → α → Prop} (ok : OOk w0 5 Rel O) {s : Vw} {G : List Nat} {xs : List α} (h : CB w0 ety O s b G xs) : ∀ i, i ∈ b :: G → s i ≠ none := by
  obtain ⟨h1, h2, v, e2, h3, h4⟩ := h
  intro i hi
  rcases List.mem_cons.1 hi with rfl | hi
  · rw [h3]; simp
  · exact (h4.dom ok i hi).2

end
end Go.Proofs.Ytkbhjejalkbogaa

/- A box into which one more is put; a row that stays. -/
set_option linter.unusedVariables false
set_option linter.unusedSimpArgs false
namespace Go.Proofs.Ytkbhjejalkbogaa
open Go Go.Av

section
variable {w0 : World} {σ : Vw} {α : Type}

end
theorem sumBy_bound {α : Type} {f : α → Nat} {c : Nat} : ∀ {xs : List α}, (∀ x, x ∈ xs → f x ≤ c) → sumBy f xs ≤ c * xs.length
  | [], _ => by simp [sumBy]
  | a :: r, h => by
    have h1 := h a (by simp)
    have h2 := sumBy_bound (xs := r) fun x hx => h x (by simp [hx])
    simp only [sumBy, List.length_cons, Nat.mul_add, Nat.mul_one]; omega
end Go.Proofs.Ytkbhjejalkbogaa

/- Texts in order; two lists of named parts in step. -/
set_option linter.unusedVariables false
set_option linter.unusedSimpArgs false
namespace Go.Proofs.Ytkbhjejalkbogaa
open Go Go.Av

theorem bl_trans : ∀ (a b c : List UInt8), Op.bytesLess a b = true → Op.bytesLess b c = true → Op.bytesLess a c = true
  | _, [], _, h, _ => by simp [Op.bytesLess] at h
  | _, _ :: _, [], _, h => by simp [Op.bytesLess] at h
  | [], _ :: _, _ :: _, _, _ => by simp [Op.bytesLess]
  | x :: r, y :: q, z :: s, h, h' => by
    simp only [Op.bytesLess, Bool.or_eq_true, Bool.and_eq_true, decide_eq_true_eq, beq_iff_eq, UInt8.lt_iff_toNat_lt] at h h' ⊢
    rcases h with h | ⟨rfl, h⟩ <;> rcases h' with h' | ⟨rfl, h'⟩
    · left; omega
    · left; exact h
    · left; exact h'
    · right; exact ⟨rfl, bl_trans r q s h h'⟩
theorem strLt_trans {a b c : ByteArray} (h : strLt a b = true) (h' : strLt b c = true) : strLt a c = true := bl_trans _ _ _ h h'
theorem strLt_ne {a b : ByteArray} (h : strLt a b = true) : a ≠ b := fun e => by rw [e, strLt_irrefl] at h; cases h

def AscS (l : List ByteArray) : Prop := l.Pairwise fun a b => strLt a b = true
theorem asc_unique : ∀ {l l' : List ByteArray}, AscS l → AscS l' → (∀ x, x ∈ l ↔ x ∈ l') → l = l'
  | [], [], _, _, _ => rfl
  | [], y :: q, _, _, h => absurd ((h y).2 List.mem_cons_self) (by simp)
  | x :: r, [], _, _, h => absurd ((h x).1 List.mem_cons_self) (by simp)
  | x :: r, y :: q, h1, h2, h => by
    obtain ⟨a1, a2⟩ := List.pairwise_cons.1 h1
    obtain ⟨b1, b2⟩ := List.pairwise_cons.1 h2
    have e : x = y := by
      rcases List.mem_cons.1 ((h x).1 List.mem_cons_self) with e | hx
      · exact e
      · rcases List.mem_cons.1 ((h y).2 List.mem_cons_self) with e | hy
        · exact e.symm
        · have := strLt_trans (a1 y hy) (b1 x hx)
          rw [strLt_irrefl] at this; cases this
    subst e
    rw [asc_unique a2 b2 fun z => ?_]
    constructor
    · intro hz
      rcases List.mem_cons.1 ((h z).1 (List.mem_cons_of_mem _ hz)) with e | h'
      · exact absurd e.symm (strLt_ne (a1 z hz))
      · exact h'
    · intro hz
      rcases List.mem_cons.1 ((h z).2 (List.mem_cons_of_mem _ hz)) with e | h'
      · exact absurd e.symm (strLt_ne (b1 z hz))
      · exact h'
theorem asc_of : ∀ {l : List ByteArray}, (∀ (j : Nat) (x y : ByteArray), l[j]? = some x → l[j + 1]? = some y → strLt x y = true) → AscS l
  | [], _ => List.Pairwise.nil
  | [a], _ => List.pairwise_singleton _ _
  | a :: b :: r, h => by
    have ih : AscS (b :: r) := asc_of fun j x y hx hy => h (j + 1) x y (by simpa using hx) (by simpa using hy)
    have hab := h 0 a b rfl rfl
    refine List.pairwise_cons.2 ⟨fun z hz => ?_, ih⟩
    rcases List.mem_cons.1 hz with rfl | hz
    · exact hab
    · exact strLt_trans hab ((List.pairwise_cons.1 ih).1 z hz)
theorem asc_names {ns : List ByteArray} (h : namesP ns) : AscS ns := asc_of fun j x y hx hy => by
  have := h (j + 1) y hy
  simp only [nameAt, Bool.and_eq_true] at this
  have h2 := this.2
  simp only [prevLt, hx] at h2
  exact h2

/-! ### Sorted and compacted -/
section
variable {α : Type} [DecidableEq α] [Inhabited α]
theorem compactUpTo_mem (d : Array α) : ∀ (m : Nat), ∀ x, x ∈ Lib.compactUpTo d m ↔ ∃ j, j < m ∧ d[j]! = x
  | 0, x => by simp [Lib.compactUpTo]
  | m + 1, x => by
    rw [Lib.compactUpTo_succ, List.mem_append, compactUpTo_mem d m x]
    constructor
    · rintro (⟨j, hj, e⟩ | h)
      · exact ⟨j, by omega, e⟩
      · split at h
        · simp at h; exact ⟨m, by omega, h.symm⟩
        · cases h
    · rintro ⟨j, hj, e⟩
      by_cases hjm : j = m
      · subst hjm
        by_cases hk : Lib.keeps d j = true
        · rw [if_pos hk]; simp [e]
        · left
          have hk' : ¬ (j = 0 ∨ d[j]! ≠ d[j - 1]!) := by simpa [Lib.keeps] using hk
          have h0 : ¬ j = 0 := fun h => hk' (.inl h)
          have h1 : d[j]! = d[j - 1]! := Decidable.not_not.1 fun h => hk' (.inr h)
          exact ⟨j - 1, by omega, by rw [← h1]; exact e⟩
      · exact .inl ⟨j, by omega, e⟩
theorem compactUpTo_asc {lt : α → α → Prop} (d : Array α) (trans : ∀ a b c, lt a b → lt b c → lt a c) (hle : ∀ i j, i < j → j < d.size → d[i]! = d[j]! ∨ lt d[i]! d[j]!) : ∀ (m : Nat), m ≤ d.size → (Lib.compactUpTo d m).Pairwise lt
  | 0, _ => by simp [Lib.compactUpTo]
  | m + 1, hm => by
    rw [Lib.compactUpTo_succ]
    have ih := compactUpTo_asc d trans hle m (by omega)
    refine List.pairwise_append.2 ⟨ih, by split <;> simp, fun a ha b hb => ?_⟩
    split at hb
    · rename_i hk
      simp at hb
      subst hb
      obtain ⟨j, hj, rfl⟩ := (compactUpTo_mem d m a).1 ha
      have hk' : m = 0 ∨ d[m]! ≠ d[m - 1]! := by simpa [Lib.keeps] using hk
      rcases hk' with h | h
      · omega
      · have h1 : lt d[m - 1]! d[m]! := (hle (m - 1) m (by omega) (by omega)).resolve_left fun e => h e.symm
        by_cases hjm : j = m - 1
        · subst hjm; exact h1
        · rcases hle j (m - 1) (by omega) (by omega) with e | e
          · rw [e]; exact h1
          · exact trans _ _ _ e h1
    · cases hb
end
theorem leL_iff {x y : List UInt8} : decide (x ≤ y) = true ↔ Op.bytesLess y x = false := by
  rw [bytesLess_eq, decide_eq_true_eq, decide_eq_false_iff_not]
  exact Iff.rfl
theorem sorted_str (zs : List (List UInt8)) : (zs.mergeSort fun x y => decide (x ≤ y)).Pairwise (fun a b => a = b ∨ Op.bytesLess a b = true) := by
  have h := List.pairwise_mergeSort (le := fun x y : List UInt8 => decide (x ≤ y)) (fun a b c h1 h2 => by
      rw [leL_iff] at h1 h2 ⊢
      cases h : Op.bytesLess c a with
      | false => rfl
      | true =>
        by_cases e : a = b
        · subst e; rw [h] at h2; cases h2
        · have : Op.bytesLess a b = true := by
            cases h3 : Op.bytesLess a b with
            | true => rfl
            | false => exact absurd (bl_total _ _ h3 h1) e
          rw [bl_trans _ _ _ h this] at h2; cases h2) (fun a b => by
      simp only [Bool.or_eq_true]
      rw [leL_iff, leL_iff]
      cases h : Op.bytesLess b a with
      | false => exact .inl rfl
      | true =>
        refine .inr ?_
        cases h' : Op.bytesLess a b with
        | false => rfl
        | true => have := bl_trans _ _ _ h h'; rw [bl_irrefl] at this; cases this) zs
  refine h.imp fun {a b} hab => ?_
  rw [leL_iff] at hab
  by_cases e : a = b
  · exact .inl e
  · refine .inr ?_
    cases h3 : Op.bytesLess a b with
    | true => rfl
    | false => exact absurd (bl_total _ _ h3 hab) e
def sortU (zs : List (List UInt8)) : List (List UInt8) := Lib.compact (zs.mergeSort fun x y => decide (x ≤ y))
theorem get_bang {l : List (List UInt8)} {j : Nat} (h : j < l.length) : l.toArray[j]! = l[j] := by rw [getElem!_pos _ j (by simpa using h)]; simp
theorem sortU_mem (zs : List (List UInt8)) (x : List UInt8) : x ∈ sortU zs ↔ x ∈ zs := by
  unfold sortU Lib.compact
  rw [compactUpTo_mem]
  have hp := List.mergeSort_perm zs (fun x y => decide (x ≤ y))
  generalize hl : (zs.mergeSort fun x y => decide (x ≤ y)) = l at hp
  rw [← hp.mem_iff]
  constructor
  · rintro ⟨j, hj, rfl⟩; rw [get_bang hj]; exact List.getElem_mem hj
  · intro hx
    obtain ⟨j, hj, rfl⟩ := List.getElem_of_mem hx
    exact ⟨j, hj, get_bang hj⟩
theorem sortU_asc (zs : List (List UInt8)) : (sortU zs).Pairwise (fun a b => Op.bytesLess a b = true) := by
  unfold sortU Lib.compact
  have hs := sorted_str zs
  generalize hl : (zs.mergeSort fun x y => decide (x ≤ y)) = l at hs
  refine compactUpTo_asc l.toArray bl_trans (fun i j hij hj => ?_) l.length (by simp)
  have hj' : j < l.length := by simpa using hj
  rw [get_bang hj', get_bang (show i < l.length by omega)]
  exact List.pairwise_iff_getElem.1 hs i j (by omega) hj' hij

/-! ### In step -/
def lk : List (ByteArray × Tr) → ByteArray → Option Tr
  | [], _ => none
  | (y, s) :: r, x => if y = x then some s else lk r x
theorem lk_none {l : List (ByteArray × Tr)} {x : ByteArray} (h : ∀ y, y ∈ l.map (·.1) → y ≠ x) : lk l x = none := by
  induction l with
  | nil => rfl
  | cons a r ih =>
    obtain ⟨y, s⟩ := a
    rw [lk, if_neg (h y (by simp)), ih fun z hz => h z (by simp at hz ⊢; exact .inr hz)]
theorem lk_zip : ∀ {ns : List ByteArray} {ks : List Tr}, ns.length = ks.length → ∀ x, lk (ns.zip ks) x = (nidx ns x).bind fun j => ks[j]?
  | [], [], _, x => rfl
  | [], _ :: _, h, _ => by simp at h
  | _ :: _, [], h, _ => by simp at h
  | n :: ns, k :: ks, h, x => by
    rw [List.zip_cons_cons, lk, nidx]
    split
    · rfl
    · rw [lk_zip (by simpa using h)]
      cases nidx ns x with
      | none => rfl
      | some j => simp
theorem zip_fst : ∀ {ns : List ByteArray} {ks : List Tr}, ns.length = ks.length → (ns.zip ks).map (·.1) = ns
  | [], [], _ => rfl
  | [], _ :: _, h => by simp at h
  | _ :: _, [], h => by simp at h
  | n :: ns, k :: ks, h => by rw [List.zip_cons_cons, List.map_cons, zip_fst (by simpa using h)]

abbrev Pr := ByteArray × Option Tr × Option Tr
def mrgK : List (ByteArray × Tr) → List (ByteArray × Tr) → List Pr
  | [], xb => xb.map fun y => (y.1, none, some y.2)
  | a :: xa, [] => (a :: xa).map fun y => (y.1, some y.2, none)
  | a :: xa, b :: xb =>
    if strLt a.1 b.1 = true then (a.1, some a.2, none) :: mrgK xa (b :: xb)
    else if strLt b.1 a.1 = true then (b.1, none, some b.2) :: mrgK (a :: xa) xb
    else (a.1, some a.2, some b.2) :: mrgK xa xb
termination_by xa xb => xa.length + xb.length

theorem lk_self : ∀ {l : List (ByteArray × Tr)}, AscS (l.map (·.1)) → ∀ y, y ∈ l → lk l y.1 = some y.2
  | (n, k) :: r, h, y, hy => by
    rw [List.map_cons] at h
    obtain ⟨h1, h2⟩ := List.pairwise_cons.1 h
    rw [lk]
    rcases List.mem_cons.1 hy with rfl | hy
    · rw [if_pos rfl]
    · rw [if_neg (strLt_ne (h1 y.1 (List.mem_map.2 ⟨y, hy, rfl⟩))), lk_self h2 y hy]
theorem mrgK_spec : ∀ (xa xb : List (ByteArray × Tr)), AscS (xa.map (·.1)) → AscS (xb.map (·.1)) →
    AscS ((mrgK xa xb).map (·.1)) ∧ (∀ x, x ∈ (mrgK xa xb).map (·.1) ↔ x ∈ xa.map (·.1) ∨ x ∈ xb.map (·.1)) ∧ ∀ z, z ∈ mrgK xa xb → z.2 = (lk xa z.1, lk xb z.1)
  | [], xb, ha, hb => by
    rw [mrgK]
    have e : ((xb.map fun y => ((y.1, none, some y.2) : Pr)).map (·.1)) = xb.map (·.1) := by simp [Function.comp_def]
    rw [e]
    refine ⟨hb, fun x => by simp, fun z hz => ?_⟩
    obtain ⟨y, hy, rfl⟩ := List.mem_map.1 hz
    simp only [lk, lk_self hb y hy]
  | a :: xa, [], ha, hb => by
    rw [mrgK]
    have e : (((a :: xa).map fun y => ((y.1, some y.2, none) : Pr)).map (·.1)) = (a :: xa).map (·.1) := by simp [Function.comp_def]
    rw [e]
    refine ⟨ha, fun x => by simp, fun z hz => ?_⟩
    obtain ⟨y, hy, rfl⟩ := List.mem_map.1 hz
    simp only [lk_self ha y hy]
    rfl
  | a :: xa, b :: xb, ha, hb => by
    obtain ⟨a1, a2⟩ := List.pairwise_cons.1 ha
    obtain ⟨b1, b2⟩ := List.pairwise_cons.1 hb
    rw [mrgK]
    split
    · rename_i h
      obtain ⟨i1, i2, i3⟩ := mrgK_spec xa (b :: xb) a2 hb
      have hlt : ∀ x, x ∈ (mrgK xa (b :: xb)).map (·.1) → strLt a.1 x = true := fun x hx => by
        rcases (i2 x).1 hx with h' | h'
        · exact a1 x h'
        · rcases List.mem_cons.1 h' with e | h'
          · rw [e]; exact h
          · exact strLt_trans h (b1 x h')
      refine ⟨List.pairwise_cons.2 ⟨hlt, i1⟩, fun x => ?_, fun z hz => ?_⟩
      · simp only [List.map_cons, List.mem_cons] at i2 ⊢
        rw [i2 x]
        constructor
        · rintro (h | h | h | h)
          · exact .inl (.inl h)
          · exact .inl (.inr h)
          · exact .inr (.inl h)
          · exact .inr (.inr h)
        · rintro ((h | h) | (h | h))
          · exact .inl h
          · exact .inr (.inl h)
          · exact .inr (.inr (.inl h))
          · exact .inr (.inr (.inr h))
      · rcases List.mem_cons.1 hz with rfl | hz
        · have e1 : lk (a :: xa) a.1 = some a.2 := lk_self ha a List.mem_cons_self
          have e2 : lk (b :: xb) a.1 = none := lk_none fun y hy => by
            rcases List.mem_cons.1 hy with e | hy
            · rw [e]; exact (strLt_ne h).symm
            · exact (strLt_ne (strLt_trans h (b1 y hy))).symm
          simp only [e1, e2]
        · have hz1 := hlt z.1 (List.mem_map.2 ⟨z, hz, rfl⟩)
          rw [i3 z hz]
          congr 1
          obtain ⟨an, ak⟩ := a
          rw [lk, if_neg (strLt_ne hz1)]
    · rename_i h
      split
      · rename_i h2
        obtain ⟨i1, i2, i3⟩ := mrgK_spec (a :: xa) xb ha b2
        have hlt : ∀ x, x ∈ (mrgK (a :: xa) xb).map (·.1) → strLt b.1 x = true := fun x hx => by
          rcases (i2 x).1 hx with h' | h'
          · rcases List.mem_cons.1 h' with e | h'
            · rw [e]; exact h2
            · exact strLt_trans h2 (a1 x h')
          · exact b1 x h'
        refine ⟨List.pairwise_cons.2 ⟨hlt, i1⟩, fun x => ?_, fun z hz => ?_⟩
        · simp only [List.map_cons, List.mem_cons] at i2 ⊢
          rw [i2 x]
          constructor
          · rintro (h | (h | h) | h)
            · exact .inr (.inl h)
            · exact .inl (.inl h)
            · exact .inl (.inr h)
            · exact .inr (.inr h)
          · rintro ((h | h) | (h | h))
            · exact .inr (.inl (.inl h))
            · exact .inr (.inl (.inr h))
            · exact .inl h
            · exact .inr (.inr h)
        · rcases List.mem_cons.1 hz with rfl | hz
          · have e1 : lk (b :: xb) b.1 = some b.2 := lk_self hb b List.mem_cons_self
            have e2 : lk (a :: xa) b.1 = none := lk_none fun y hy => by
              rcases List.mem_cons.1 hy with e | hy
              · rw [e]; exact (strLt_ne h2).symm
              · exact (strLt_ne (strLt_trans h2 (a1 y hy))).symm
            simp only [e1, e2]
          · have hz1 := hlt z.1 (List.mem_map.2 ⟨z, hz, rfl⟩)
            rw [i3 z hz]
            congr 1
            obtain ⟨bn, bk⟩ := b
            rw [lk, if_neg (strLt_ne hz1)]
      · rename_i h2
        have eab : a.1 = b.1 := strLt_total (by simpa using h) (by simpa using h2)
        obtain ⟨i1, i2, i3⟩ := mrgK_spec xa xb a2 b2
        have hlt : ∀ x, x ∈ (mrgK xa xb).map (·.1) → strLt a.1 x = true := fun x hx => by
          rcases (i2 x).1 hx with h' | h'
          · exact a1 x h'
          · rw [eab]; exact b1 x h'
        refine ⟨List.pairwise_cons.2 ⟨hlt, i1⟩, fun x => ?_, fun z hz => ?_⟩
        · simp only [List.map_cons, List.mem_cons] at i2 ⊢
          rw [i2 x]
          constructor
          · rintro (h | h | h)
            · exact .inl (.inl h)
            · exact .inl (.inr h)
            · exact .inr (.inr h)
          · rintro ((h | h) | (h | h))
            · exact .inl h
            · exact .inr (.inl h)
            · exact .inl (h.trans eab.symm)
            · exact .inr (.inr h)
        · rcases List.mem_cons.1 hz with rfl | hz
          · have e1 : lk (a :: xa) a.1 = some a.2 := lk_self ha a List.mem_cons_self
            have e2 : lk (b :: xb) a.1 = some b.2 := by rw [eab]; exact lk_self hb b List.mem_cons_self
            simp only [e1, e2]
          · have hz1 := hlt z.1 (List.mem_map.2 ⟨z, hz, rfl⟩)
            rw [i3 z hz]
            obtain ⟨an, ak⟩ := a
            obtain ⟨bn, bk⟩ := b
            simp only at eab hz1
            rw [lk, if_neg (strLt_ne hz1), lk, if_neg (by rw [← eab]; exact strLt_ne hz1)]
termination_by xa xb => xa.length + xb.length

/-- By the names of both, ascending. -/
theorem mrgK_names {xa xb : List (ByteArray × Tr)} (ha : AscS (xa.map (·.1))) (hb : AscS (xb.map (·.1))) {L : List ByteArray} (hL : AscS L) (hm : ∀ x, x ∈ L ↔ x ∈ xa.map (·.1) ∨ x ∈ xb.map (·.1)) :
    L.map (fun n => ((n, lk xa n, lk xb n) : Pr)) = mrgK xa xb := by
  obtain ⟨h1, h2, h3⟩ := mrgK_spec xa xb ha hb
  have e : L = (mrgK xa xb).map (·.1) := asc_unique hL h1 fun x => by rw [hm x, h2 x]
  rw [e, List.map_map]
  conv => rhs; rw [← List.map_id (mrgK xa xb)]
  apply List.map_congr_left
  intro z hz
  have := h3 z hz
  obtain ⟨n, p⟩ := z
  simp only [Function.comp_apply, id_eq]
  simp only at this
  rw [this]
theorem sum_left {A B : Option Tr → Nat} (hB : B none = 0) : ∀ l : List (ByteArray × Tr), sumBy (fun z : Pr => A z.2.1 + B z.2.2) (l.map fun y => (y.1, some y.2, none)) = sumBy (fun y => A (some y.2)) l
  | [] => rfl
  | b :: r => by simp only [List.map_cons, sumBy, sum_left hB r, hB]; omega
theorem sum_right {A B : Option Tr → Nat} (hA : A none = 0) : ∀ l : List (ByteArray × Tr), sumBy (fun z : Pr => A z.2.1 + B z.2.2) (l.map fun y => (y.1, none, some y.2)) = sumBy (fun y => B (some y.2)) l
  | [] => rfl
  | b :: r => by simp only [List.map_cons, sumBy, sum_right hA r, hA]; omega
/-- What is summed over both. -/
theorem mrgK_sum {A B : Option Tr → Nat} (hA : A none = 0) (hB : B none = 0) : ∀ (xa xb : List (ByteArray × Tr)), sumBy (fun z : Pr => A z.2.1 + B z.2.2) (mrgK xa xb) = sumBy (fun y => A (some y.2)) xa + sumBy (fun y => B (some y.2)) xb
  | [], xb => by rw [mrgK, sum_right hA]; simp [sumBy]
  | a :: xa, [] => by rw [mrgK, sum_left hB]; simp [sumBy]
  | a :: xa, b :: xb => by
    rw [mrgK]
    split
    · have := mrgK_sum hA hB xa (b :: xb)
      simp only [sumBy, this, hB]; omega
    · split
      · have := mrgK_sum hA hB (a :: xa) xb
        simp only [sumBy, this, hA]; omega
      · have := mrgK_sum hA hB xa xb
        simp only [sumBy, this]; omega
termination_by xa xb => xa.length + xb.length
end Go.Proofs.Ytkbhjejalkbogaa

/- slices.Sort and slices.Compact on texts in rows of our own; the names of either of two parts. -/
set_option linter.unusedVariables false
set_option linter.unusedSimpArgs false
namespace Go.Proofs.Ytkbhjejalkbogaa
open Go Go.Av Go.RowKit Go.Sort

section
variable {w0 : World} {σ : Vw} {α : Type}

theorem put_cells {enc : α → Value} [Inhabited α] {zs ds : List α} {cur : Array Value} (hp : zs.map enc <+: cur.toList) (hl : ds.length = zs.length) : (ds.map enc <+: (putCells enc 0 ds.toArray cur).toList) ∧ (putCells enc 0 ds.toArray cur).size = cur.size := by
  refine ⟨?_, by simp [putCells]⟩
  have hlen := hp.length_le
  simp only [List.length_map, Array.length_toList] at hlen
  rw [List.prefix_iff_getElem?]
  intro i hi
  have hi' : i < ds.length := by simpa using hi
  rw [Array.getElem?_toList]
  simp only [putCells, Array.getElem?_mapIdx]
  rw [Array.getElem?_eq_getElem (by omega), Option.map_some, if_pos ⟨by omega, by simp; omega⟩]
  simp only [Nat.sub_zero, List.getElem_map, Option.some.injEq]
  rw [getElem!_pos _ i (by simpa using hi')]
  simp
theorem put_aft {enc : α → Value} [Inhabited α] {w : World} {b e cap n : Nat} {zs ds : List α} {os : Array Obj} (hw : Sat w0 σ w) (hb : w0.heap.size ≤ b) (hr : σ b = some ⟨e, zs.map enc, cap, (0, 0)⟩) (hl : ds.length = zs.length) :
    Aft w0 σ w (σ.put b ⟨e, ds.map enc, cap, (0, 0)⟩) (Sort.grow (putRow enc (Sort.ahead w n) b 0 ds.toArray) os) := by
  obtain ⟨_, cur, hc, hpre, hcap, _⟩ := hw.row b _ hr
  simp only at hc hpre hcap
  have hlt := hw.lt hr
  obtain ⟨p1, p2⟩ := put_cells (enc := enc) hpre hl
  have hs : (putRow enc (Sort.ahead w n) b 0 ds.toArray).heap.size = w.heap.size := by simp [putRow, mapBlock, Sort.ahead]
  have hk : ∀ k, k < w.heap.size → k ≠ b → (Sort.grow (putRow enc (Sort.ahead w n) b 0 ds.toArray) os).heap[k]? = w.heap[k]? := fun k hk hkb => by
    rw [Sort.heap_grow_old _ _ (by omega)]
    have hkb' : ¬ b = k := fun e => hkb e.symm
    simp [putRow, mapBlock, Sort.ahead, Array.getElem?_modify, hkb']
  have hbk : (Sort.grow (putRow enc (Sort.ahead w n) b 0 ds.toArray) os).heap[b]? = some (.cells (putCells enc 0 ds.toArray cur) e (0, 0)) := by
    rw [Sort.heap_grow_old _ _ (by omega)]
    simp [putRow, mapBlock, Sort.ahead, Array.getElem?_modify, hc, onCells]
  have hsz : w.heap.size ≤ (Sort.grow (putRow enc (Sort.ahead w n) b 0 ds.toArray) os).heap.size := by simp [Sort.grow, hs]
  refine ⟨⟨?_, fun i r hi => ?_⟩, hsz, fun i hi hn => hk i hi (fun e => by rw [e, hr] at hn; cases hn), fun i r hi => ?_⟩
  · refine ⟨hw.bel.os, hw.bel.tape, hw.bel.output, Nat.le_trans hw.bel.size hsz, fun i hi => ?_⟩
    rw [hk i (Nat.lt_of_lt_of_le hi hw.bel.size) (by omega)]
    exact hw.bel.block i hi
  · by_cases e1 : i = b
    · subst e1
      rw [put_at] at hi; cases hi
      exact ⟨hb, _, hbk, p1, by rw [p2]; exact hcap, .inr (Nat.le_refl _)⟩
    · rw [put_ne e1] at hi
      obtain ⟨g1, cur', g2, g3⟩ := hw.row i r hi
      exact ⟨g1, cur', (hk i (hw.lt hi) e1).trans g2, g3⟩
  · by_cases e1 : i = b
    · subst e1; exact .inl (by rw [hr]; simp)
    · rw [put_ne e1] at hi; exact .inl (by rw [hi]; simp)

theorem enc_strs (l : List (List UInt8)) : l.map encStr = (l.map ofL).map Value.string := by rw [List.map_map]; rfl
theorem ofL_bls (l : List ByteArray) : (l.map bl).map ofL = l := by
  rw [List.map_map]
  have : ∀ l : List ByteArray, l.map (ofL ∘ bl) = l := fun l => by
    induction l with
    | nil => rfl
    | cons a r ih => simp only [List.map_cons, Function.comp_apply, ofL_bl, ih]
  exact this l
/-- The row behind a list of texts that may grow. -/
theorem acc_cells {F : List Nat} {v : Value} {xs : List ByteArray} (h : OAcc w0 t_string 1 OStr σ F v xs) : (v = .slice none 0 0 ∧ xs = [] ∧ F = []) ∨
    ∃ b cap, v = .slice (some ⟨b, 0, none⟩) xs.length cap ∧ (xs.length ≤ cap ∧ cap ≤ 9223372036854775807) ∧ w0.heap.size ≤ b ∧ σ b = some ⟨t_string, xs.map Value.string, cap, (0, 0)⟩ ∧ F = [b] ∧ ∀ x, x ∈ xs → x.size ≤ 9223372036854775807 := by
  obtain ⟨h1, h2, h3 | ⟨b, cap, css, Fs, g1, g2, g3, g4, g5, g6, g7, g8⟩⟩ := h
  · exact .inl h3
  · refine .inr ⟨b, cap, g1, g2, g3, ?_, ?_, fun x hx => ?_⟩
    · rw [g4, Nat.mul_one]
      have e : css.flatten = xs.map Value.string := by
        have e2 : css = xs.map fun s => [Value.string s] := by
          apply List.ext_getElem?
          intro j
          rw [List.getElem?_map]
          by_cases hj : j < xs.length
          · have hc := List.getElem?_eq_getElem (show j < css.length by omega)
            have := g8 j _ _ _ hc (List.getElem?_eq_getElem hj) (List.getElem?_eq_getElem (by omega))
            rw [hc, List.getElem?_eq_getElem hj, this.2.1]; rfl
          · rw [List.getElem?_eq_none (by omega), List.getElem?_eq_none (by omega)]; rfl
        rw [e2, ← flat_strs]
      rw [e]
    · rw [g7]
      congr 1
      refine List.eq_nil_iff_forall_not_mem.2 fun i hi => ?_
      obtain ⟨j, f, hf, hif⟩ := mem_flat hi
      have hjl := (List.getElem?_eq_some_iff.1 hf).1
      have := g8 j _ _ f (List.getElem?_eq_getElem (by omega)) (List.getElem?_eq_getElem (by omega)) hf
      rw [this.1] at hif; cases hif
    · obtain ⟨j, hj⟩ := List.getElem?_of_mem hx
      have hjl := (List.getElem?_eq_some_iff.1 hj).1
      exact (g8 j _ x _ (List.getElem?_eq_getElem (by omega)) hj (List.getElem?_eq_getElem (by omega))).2.2

def namesU (xs : List ByteArray) : List ByteArray := (sortU (xs.map bl)).map ofL
theorem namesU_mem (xs : List ByteArray) (x : ByteArray) : x ∈ namesU xs ↔ x ∈ xs := by
  unfold namesU
  constructor
  · intro h
    obtain ⟨l, hl, rfl⟩ := List.mem_map.1 h
    obtain ⟨y, hy, rfl⟩ := List.mem_map.1 ((sortU_mem _ _).1 hl)
    rw [ofL_bl]; exact hy
  · intro h
    exact List.mem_map.2 ⟨bl x, (sortU_mem _ _).2 (List.mem_map.2 ⟨x, h, rfl⟩), ofL_bl x⟩
theorem namesU_asc (xs : List ByteArray) : AscS (namesU xs) := by
  unfold namesU AscS
  rw [List.pairwise_map]
  refine (sortU_asc (xs.map bl)).imp fun {a b} h => ?_
  unfold strLt
  rw [ByteArray.toList_eq, ByteArray.toList_eq]
  exact h

theorem sort_compact {F : List Nat} {v : Value} {xs : List ByteArray} (h : OAcc w0 t_string 1 OStr σ F v xs) (hl : xs.length ≤ 1000000000000) {R : Value → Vw → Prop}
    (hR : ∀ v' σ', KeepsBut F σ σ' → OStrs w0 σ' F v' (namesU xs) → R v' σ') :
    AC Try.prog w0 n_slices_Sort_string_string [v] σ (fun _ s => AC Try.prog w0 n_slices_Compact_string_string [v] s R) := by
  refine ⟨is_slices_Sort_string_string, fun w hw => ?_⟩
  rcases acc_cells h with ⟨rfl, rfl, rfl⟩ | ⟨b, cap, rfl, hc, hb, hr, rfl, hsz⟩
  · refine (Try.slices_Sort_string_none none 0 w).mono ?_
    rintro e w' ⟨rfl, rfl⟩
    refine ⟨_, σ, rfl, ⟨is_slices_Compact_string_string, fun w2 hw2 => ?_⟩, Aft.refl hw⟩
    refine (Try.slices_Compact_string_empty none 0 w2).mono ?_
    rintro e w3 ⟨rfl, rfl⟩
    exact ⟨_, σ, rfl, hR _ _ (KeepsBut.refl _ _) ⟨by simp [namesU, sortU, Lib.compact, Lib.compactUpTo], by simp, .inl ⟨rfl, by simp [namesU, sortU, Lib.compact, Lib.compactUpTo], rfl⟩⟩, Aft.refl hw2⟩
  have e0 : xs.map Value.string = (xs.map bl).map encStr := by rw [enc_strs, ofL_bls]
  have hlz : (xs.map bl).length = xs.length := by simp
  have holds : ∀ {w : World} {s : Vw} {zs : List (List UInt8)}, Sat w0 s w → s b = some ⟨t_string, zs.map encStr, cap, (0, 0)⟩ → Holds encStr w b 0 zs.toArray := fun {w s zs} hw hr => by
    obtain ⟨_, cur, hc, hpre, hcap, _⟩ := hw.row b _ hr
    simp only at hc hpre hcap
    intro j hj
    have hj' : j < zs.length := by simpa using hj
    have hjc : j < cur.size := by have := hpre.length_le; simp at this; omega
    refine ⟨?_, ?_⟩
    · unfold World.cell?
      rw [hc]
      simp only [Option.isSome_none, Bool.false_eq_true, if_false, Nat.zero_add]
      have := hpre.getElem (i := j) (by simpa using hj')
      rw [← Array.getElem?_toList, List.getElem?_eq_getElem (by simpa using hjc), ← this, getElem!_pos _ j hj]
      simp
    · unfold World.frozen?
      rw [hc]
      simp
  rw [e0] at hr
  have h1 := Try.slices_Sort_string b 0 cap (xs.map bl) w (holds hw hr) (hw.lt hr) (by omega)
  rw [hlz] at h1
  refine h1.mono ?_
  rintro e w' ⟨rfl, n, os, rfl⟩
  have hlm : ((xs.map bl).mergeSort fun x y => decide (x ≤ y)).length = (xs.map bl).length := List.length_mergeSort _
  refine ⟨_, _, rfl, ⟨is_slices_Compact_string_string, fun w2 hw2 => ?_⟩, put_aft hw hb hr hlm⟩
  have hmz : ((xs.map bl).mergeSort fun x y => decide (x ≤ y)).length = xs.length := hlm.trans hlz
  have h2 := Try.slices_Compact_string b 0 cap ((xs.map bl).mergeSort fun x y => decide (x ≤ y)) w2 (holds hw2 put_at) (by omega) (by omega)
  rw [hmz] at h2
  refine h2.mono ?_
  rintro e w3 ⟨rfl, q, rfl⟩
  have hsu : Lib.compact ((xs.map bl).mergeSort fun x y => decide (x ≤ y)) = sortU (xs.map bl) := rfl
  have hsl : (sortU (xs.map bl)).length ≤ xs.length := by
    rw [← hsu, ← hmz]
    unfold Lib.compact Lib.compactUpTo
    rw [List.length_map]
    exact Nat.le_trans (List.length_filter_le _ _) (by simp)
  rw [hsu]
  have hln : (sortU (xs.map bl) ++ List.replicate (xs.length - (sortU (xs.map bl)).length) []).length = ((xs.map bl).mergeSort fun x y => decide (x ≤ y)).length := by
    rw [List.length_append, List.length_replicate, hmz]; omega
  have ha := put_aft (os := #[]) (n := q) hw2 hb (put_at (σ := σ) (r := ⟨t_string, ((xs.map bl).mergeSort fun x y => decide (x ≤ y)).map encStr, cap, (0, 0)⟩)) hln
  have eg : ∀ w : World, Sort.grow w #[] = w := fun w => by cases w; simp [Sort.grow]
  rw [eg] at ha
  have hnu : (sortU (xs.map bl)).length = (namesU xs).length := by simp [namesU]
  rw [hnu] at ha ⊢
  refine ⟨_, _, rfl, hR _ _ (fun i r hi hF => ?_) ?_, ha⟩
  · have : i ≠ b := fun e => hF (by simp [e])
    rw [put_ne this, put_ne this]; exact hi
  · refine ⟨by omega, by simp, .inr ⟨b, 0, cap, _, [], (List.replicate (xs.length - (namesU xs).length) []).map encStr, (namesU xs).map fun s => [Value.string s], List.replicate (namesU xs).length [], rfl, ⟨by omega, hc.2⟩, hb, put_at, ?_, rfl, by simp, by simp, by simp, fun j c x f e1 e2 e3 => ?_⟩⟩
    · simp only [List.nil_append]
      rw [List.map_append, ← flat_strs, enc_strs]; rfl
    · rw [List.getElem?_map, e2] at e1
      cases e1
      rw [List.getElem?_replicate] at e3
      split at e3
      · cases e3
        exact ⟨rfl, rfl, hsz x ((namesU_mem xs x).1 (List.mem_of_getElem? e2))⟩
      · cases e3

theorem ext_stay {s s' : Vw} {v : Value} {n : Nat} (h : Ext s s') : Stay w0 s s' v n := fun a g _ hc j hj => Ext.le h _ _ (hc j hj)
/-- A field behind a pointer is read; its address. -/
theorem PT.ldp {n : Nat} {p : Value} {x : Tr} (h : PT n (Av.get w0 σ) p x) (o : Nat) (ho : o < 5) {K : Value → (Nat → Value) → Prop} (hK : ∀ (q : Value) (es : List Value) (g : Nat → Value), RT n (Av.get w0 σ) es x → es[o]? = some (g 0) → K q g) : pNil p (pField o p fun q => pLoad w0 1 q σ (K q)) := by
  obtain ⟨a, es, rfl, h5, h6, h7⟩ := h
  rw [pNil_s, pField_s]
  refine ⟨_, fun _ => es.getD o undef, rfl, fun i hi => ?_, hK _ es _ h7 ?_⟩
  · have e : i = 0 := by omega
    subst e
    have := h6 o ho
    rw [add_add, Nat.add_zero, this, List.getElem?_eq_getElem (by omega)]
    simp only [List.getD_eq_getElem?_getD, List.getElem?_eq_getElem (show o < es.length by omega), Option.getD_some]
  · simp only [List.getD_eq_getElem?_getD, List.getElem?_eq_getElem (show o < es.length by omega), Option.getD_some]

theorem impl_either {n m : Nat} {p q : Value} {x y : Tr} (h : PT n (Av.get w0 σ) p x) (h' : PT m (Av.get w0 σ) q y) (hl : (namesOf x).length ≤ 1000000 ∧ (namesOf y).length ≤ 1000000) {R : Value → Vw → Prop}
    (hR : ∀ v F σ', Keeps σ σ' → OStrs w0 σ' F v (namesU (namesOf x ++ namesOf y)) → (∀ i, i ∈ F → σ i = none) → R v σ') : AC Try.prog w0 n_impl_either [p, q] σ R := by
  refine ac_impl_either ?_
  unfold vc_impl_either
  refine h.ldp 3 (by omega) fun qa es g he hg => ?_
  obtain ⟨u, w, rfl, _, _, h4, _, _⟩ := he.cells
  simp only [List.getElem?_cons_zero, List.getElem?_cons_succ, Option.some.injEq] at hg
  refine h'.ldp 3 (by omega) fun qb es' g' he' hg' => ?_
  obtain ⟨u', w', rfl, _, _, h4', _, _⟩ := he'.cells
  simp only [List.getElem?_cons_zero, List.getElem?_cons_succ, Option.some.injEq] at hg'
  intro b hb1 hb2
  have kb : Keeps σ (σ.put b ⟨t_string, [], 0, (0, 0)⟩) := Keeps.put hb2
  have hb0 : ∀ i, i ∈ [b] → σ i = none := fun i hi => by rw [List.mem_singleton.1 hi]; exact hb2
  refine ⟨kb.stay, kb.stay, ?_⟩
  rw [← hg]
  refine (OAcc.new (w0 := w0) (σ := σ) (ety := t_string) (n := 1) (O := OStr) hb1).allX (ok_str w0) h4 kb.le (fun es y hy => ⟨rfl, hy⟩) (by simp; omega) (by omega) fun v1 F1 s1 x1 k1 o1 f1 => ?_
  rw [List.nil_append] at o1
  refine ⟨ext_stay x1, ?_⟩
  have K1 := k1.old kb hb0
  have hF1 := fresh_in kb hb0 f1
  rw [← hg']
  refine o1.all (ok_str w0) h4' K1.le (fun es y hy => ⟨rfl, hy⟩) (by omega) (by omega) fun v2 F2 s2 k2 o2 f2 => ?_
  have K2 := k2.old K1 hF1
  have hF2 := fresh_in K1 hF1 f2
  refine sort_compact o2 (by rw [List.length_append]; omega) fun v3 s3 k3 o3 => ?_
  exact hR v3 F2 s3 (k3.old K2 hF2) o3 hF2
end
end Go.Proofs.Ytkbhjejalkbogaa

/- What becomes of a part, with all below: what it is; by the reference's hand. -/
set_option linter.unusedVariables false
set_option linter.unusedSimpArgs false
set_option maxRecDepth 20000
namespace Go.Proofs.Ytkbhjejalkbogaa
open Go Go.Av

def partsOf (x : Tr) : List (ByteArray × Tr) := (namesOf x).zip (kidsOf x)
def cntO (n : Nat) : Option Tr → Nat
  | none => 0
  | some x => cntT n x + 1
section
variable {w0 : World} {σ : Vw}

theorem mrgK_nil (l : List (ByteArray × Tr)) : mrgK l [] = l.map fun y => (y.1, some y.2, none) := by cases l <;> simp [mrgK]
end
end Go.Proofs.Ytkbhjejalkbogaa

/- What becomes of a part, with all below: by the program's hand. -/
set_option linter.unusedVariables false
set_option linter.unusedSimpArgs false
set_option maxRecDepth 20000
namespace Go.Proofs.Ytkbhjejalkbogaa
open Go Go.Av

/-- The names ascend, all the way down. -/
def ascT : Nat → Tr → Prop
  | 0, _ => True
  | n + 1, .mk d m t ns ks => AscS ns ∧ ∀ k, k ∈ ks → ascT n k
theorem sound_asc : ∀ (m n : Nat) (x : Tr) (k : Int), soundB n x k = true → ascT m x
  | 0, _, _, _, _ => trivial
  | m + 1, 0, x, k, h => by simp [soundB] at h
  | m + 1, n + 1, .mk d mo t ns ks, k, h => by
    simp only [soundB, plainB, Bool.and_eq_true, decide_eq_true_eq] at h
    refine ⟨?_, fun c hc => ?_⟩
    · cases d
      · have := h.1.2.2
        simp at this
        rw [this.2]; exact List.Pairwise.nil
      · have := h.1.2.2
        simp at this
        exact asc_names this.1
    · obtain ⟨j, hj⟩ := List.getElem?_of_mem hc
      exact sound_asc m n c _ (allB_iff.1 h.2.2 j c hj)
theorem sound_down5 : ∀ (m n : Nat) (x : Tr) (k : Int), soundB n x k = true → 5 ≤ k + (m : Int) → (∀ rd es, RT n rd es x → RT m rd es x) ∧ shortT m x ∧ cntT m x ≤ cntT n x
  | m, 0, x, k, h, _ => by simp [soundB] at h
  | 0, n + 1, .mk d mo t ns ks, k, h, hk => by
    simp only [soundB, Bool.and_eq_true, decide_eq_true_eq] at h
    exact absurd h.2.1 (by omega)
  | m + 1, n + 1, .mk d mo t ns ks, k, h, hk => by
    have hs := sound_short (n + 1) _ k h
    simp only [soundB, Bool.and_eq_true, decide_eq_true_eq] at h
    have ih : ∀ y, y ∈ ks → (∀ rd es, RT n rd es y → RT m rd es y) ∧ shortT m y ∧ cntT m y ≤ cntT n y := fun y hy => by
      obtain ⟨j, hj⟩ := List.getElem?_of_mem hy
      exact sound_down5 m n y (k + 1) (allB_iff.1 h.2.2 j y hj) (by omega)
    refine ⟨fun rd es hr => ?_, ⟨hs.1, hs.2.1, hs.2.2.1, hs.2.2.2.1, fun y hy => (ih y hy).2.1⟩, ?_⟩
    · obtain ⟨u, w, h1, h2, h3, h4, A, cap, e1, e2, e3⟩ := hr
      refine ⟨u, w, h1, h2, h3, h4, A, cap, e1, e2, fun j y hj => ?_⟩
      obtain ⟨a, es', q1, q2, q3, q4⟩ := e3 j y hj
      exact ⟨a, es', q1, q2, q3, (ih y (List.mem_of_getElem? hj)).1 _ _ q4⟩
    · have := sumBy_mono (f := cntT m) (g := cntT n) (xs := ks) fun y hy => (ih y hy).2.2
      show ks.length + sumBy (cntT m) ks ≤ ks.length + sumBy (cntT n) ks
      omega
theorem short_wf : ∀ (n : Nat) (x : Tr), shortT n x → wfT n x
  | 0, _, _ => trivial
  | n + 1, .mk d m t ns ks, h => ⟨h.2.2.1, fun k hk => short_wf n k (h.2.2.2.2 k hk)⟩
theorem nidx_mem : ∀ {ns : List ByteArray} {x : ByteArray}, x ∈ ns → ∃ j, nidx ns x = some j
  | s :: r, x, h => by
    unfold nidx
    by_cases e : s = x
    · exact ⟨0, if_pos e⟩
    · obtain ⟨j, hj⟩ := nidx_mem ((List.mem_cons.1 h).resolve_left fun h => e h.symm)
      exact ⟨j + 1, by rw [if_neg e, hj]; rfl⟩
theorem kid_lk {n : Nat} {x : Tr} (h : shortT n x) (nm : ByteArray) : kidT x nm = lk (partsOf x) nm := by
  obtain _ | n := n
  · exact h.elim
  obtain ⟨d, m, t, ns, ks⟩ := x
  exact (lk_zip h.2.2.1 nm).symm
theorem part_names {n : Nat} {x : Tr} (h : shortT n x) : (partsOf x).map (·.1) = namesOf x := by
  obtain _ | n := n
  · exact h.elim
  obtain ⟨d, m, t, ns, ks⟩ := x
  exact zip_fst h.2.2.1

section
variable {w0 : World} {σ : Vw}

/-- What is asked of a part, if it is there. -/
def fineO (n : Nat) (o : Option Tr) : Prop := ∀ x, o = some x → shortT n x ∧ cntT n x ≤ 100000 ∧ ascT n x

theorem names_len {n : Nat} {x : Tr} (h : shortT n x) (hc : cntT n x ≤ 100000) : (namesOf x).length ≤ 100000 := by
  obtain _ | n := n
  · exact h.elim
  obtain ⟨d, m, t, ns, ks⟩ := x
  have e1 : cntT (n + 1) (.mk d m t ns ks) = ks.length + sumBy (cntT n) ks := rfl
  have := h.2.2.1
  show ns.length ≤ _
  omega
theorem kid_fine {n : Nat} {x : Tr} (h : fineO (n + 1) (some x)) (nm : ByteArray) : fineO n (kidT x nm) := by
  intro k hk
  obtain ⟨h1, h2, h3⟩ := h x rfl
  have hm := kid_mem hk
  obtain ⟨d, m, t, ns, ks⟩ := x
  have hm' : k ∈ ks := hm
  have e1 : cntT (n + 1) (.mk d m t ns ks) = ks.length + sumBy (cntT n) ks := rfl
  have := sumBy_mem (f := cntT n) hm'
  exact ⟨h1.2.2.2.2 k hm', by omega, h3.2 k hm'⟩
theorem kid_there {n : Nat} {x : Tr} (h : shortT n x) {nm : ByteArray} (hm : nm ∈ namesOf x) : kidT x nm ≠ none := by
  obtain _ | n := n
  · exact h.elim
  obtain ⟨d, m, t, ns, ks⟩ := x
  obtain ⟨j, hj⟩ := nidx_mem (show nm ∈ ns from hm)
  obtain ⟨k, _, hk, _⟩ := kid_some (short_wf (n + 1) _ h) hj
  rw [hk]; simp

end
end Go.Proofs.Ytkbhjejalkbogaa

/- Marks of trees. -/
set_option linter.unusedVariables false
set_option linter.unusedSimpArgs false
namespace Go.Proofs.Ytkbhjejalkbogaa
open Go Go.Av

section
variable {w0 : World} {σ : Vw}

end
end Go.Proofs.Ytkbhjejalkbogaa

/- 'DiffWalk': two trees in step, by either hand; the law. -/
set_option linter.unusedVariables false
set_option linter.unusedSimpArgs false
set_option maxRecDepth 20000
namespace Go.Proofs.Ytkbhjejalkbogaa
open Go Go.Av

/-- What a sound tree is. -/
theorem ok_fine {n : Nat} {x : Tr} (h : treeOk n x = true) : (∀ rd es, RT n rd es x → RT 5 rd es x) ∧ shortT 5 x ∧ cntT 5 x ≤ 30 ∧ ascT 5 x := by
  have h0 := h
  simp only [treeOk, Bool.and_eq_true, decide_eq_true_eq] at h
  obtain ⟨h1, h2, h3⟩ := sound_down5 5 n x 0 h.2.1 (by omega)
  exact ⟨h1, h2, by omega, sound_asc 5 n x 0 h.2.1⟩

section
variable {w0 : World} {σ : Vw}

end
end Go.Proofs.Ytkbhjejalkbogaa

/- Marks put in their order; the deepest of them made coarser: the pure part of 'TrailAdd'. -/
set_option linter.unusedVariables false
set_option linter.unusedSimpArgs false
namespace Go.Proofs.Ytkbhjejalkbogaa
open Go Go.Av

/-! ### The order of paths -/
theorem lexLt_irrefl : ∀ a : List ByteArray, lexLt a a = false
  | [] => rfl
  | a :: r => by simp [lexLt, lexLt_irrefl r]
theorem lexLt_trans : ∀ {a b c : List ByteArray}, lexLt a b = true → lexLt b c = true → lexLt a c = true
  | _, [], _, h, _ => by simp [lexLt] at h
  | _, _ :: _, [], _, h => by simp [lexLt] at h
  | [], _ :: _, _ :: _, _, _ => by simp [lexLt]
  | x :: a, y :: b, z :: c, h, h' => by
    simp only [lexLt] at h h' ⊢
    by_cases e : x = y
    · subst e
      rw [if_pos rfl] at h
      by_cases e2 : x = z
      · subst e2; rw [if_pos rfl] at h' ⊢; exact lexLt_trans h h'
      · rw [if_neg e2] at h' ⊢; exact h'
    · rw [if_neg e] at h
      by_cases e2 : y = z
      · subst e2; rw [if_neg e]; exact h
      · rw [if_neg e2] at h'
        have h3 := strLt_trans h h'
        rw [if_neg (strLt_ne h3)]; exact h3
theorem lexLt_total : ∀ {a b : List ByteArray}, lexLt a b = false → lexLt b a = false → a = b
  | [], [], _, _ => rfl
  | [], _ :: _, h, _ => by simp [lexLt] at h
  | _ :: _, [], _, h => by simp [lexLt] at h
  | x :: a, y :: b, h, h' => by
    simp only [lexLt] at h h'
    by_cases e : x = y
    · subst e
      rw [if_pos rfl] at h h'
      rw [lexLt_total h h']
    · rw [if_neg e] at h
      rw [if_neg fun h => e h.symm] at h'
      exact absurd (strLt_total h h') e

/-! ### What lies within what -/
theorem within_iff {b a : List ByteArray} : within b a = true ↔ a <+: b := by
  unfold within
  rw [decide_eq_true_iff, List.prefix_iff_eq_take]
  constructor
  · rintro ⟨_, h⟩; exact h.symm
  · intro h; exact ⟨by have := congrArg List.length h; rw [List.length_take] at this; omega, h.symm⟩
theorem within_self (a : List ByteArray) : within a a = true := within_iff.2 (List.prefix_refl a)
theorem lt_app : ∀ (a c : List ByteArray), c ≠ [] → lexLt a (a ++ c) = true
  | [], [], h => absurd rfl h
  | [], _ :: _, _ => rfl
  | x :: a, c, h => by
    rw [List.cons_append]
    simp only [lexLt, if_true]
    exact lt_app a c h
theorem within_lt {a b : List ByteArray} (h : within b a = true) : a = b ∨ lexLt a b = true := by
  obtain ⟨c, rfl⟩ := within_iff.1 h
  by_cases e : c = []
  · left; rw [e]; simp
  · exact .inr (lt_app a c e)

/-! ### A mark put in -/
def insF (m : Mk) : List Mk → List Mk
  | [] => [m]
  | x :: r => if lexLt m.1 x.1 = true then m :: x :: r else x :: insF m r
def keepM (m x : Mk) : Bool := !(m.2 && within x.1 m.1)
def markedB (l : List Mk) (p : List ByteArray) : Bool := underB l p || l.any fun x => decide (x.1 = p)
def putM (l : List Mk) (m : Mk) : List Mk := if (underB l m.1 || (!m.2 && markedB l m.1)) = true then l else insF m (l.filter (keepM m))
def AscM (l : List Mk) : Prop := l.Pairwise fun a b => lexLt a.1 b.1 = true
def NoUn (l : List Mk) : Prop := ∀ x, x ∈ l → ∀ y, y ∈ l → x.2 = true → within y.1 x.1 = true → x = y
theorem ins_mem {m x : Mk} : ∀ {l : List Mk}, x ∈ insF m l ↔ x = m ∨ x ∈ l
  | [] => by simp [insF]
  | y :: r => by
    simp only [insF]
    split
    · simp
    · simp only [List.mem_cons, ins_mem (l := r)]
      constructor
      · rintro (h | h | h)
        · exact .inr (.inl h)
        · exact .inl h
        · exact .inr (.inr h)
      · rintro (h | h | h)
        · exact .inr (.inl h)
        · exact .inl h
        · exact .inr (.inr h)
theorem ins_asc {m : Mk} : ∀ {l : List Mk}, AscM l → (∀ x, x ∈ l → x.1 ≠ m.1) → AscM (insF m l)
  | [], _, _ => by simp [insF, AscM]
  | y :: r, h, hn => by
    have h1 := List.pairwise_cons.1 h
    simp only [insF]
    by_cases c : lexLt m.1 y.1 = true
    · rw [if_pos c]
      refine List.pairwise_cons.2 ⟨fun x hx => ?_, h⟩
      rcases List.mem_cons.1 hx with e | e
      · rw [e]; exact c
      · exact lexLt_trans c (h1.1 x e)
    · rw [if_neg c]
      refine List.pairwise_cons.2 ⟨fun x hx => ?_, ins_asc h1.2 fun x hx => hn x (List.mem_cons_of_mem _ hx)⟩
      rcases ins_mem.1 hx with e | e
      · rw [e]
        cases c2 : lexLt y.1 m.1 with
        | true => rfl
        | false => exact absurd (lexLt_total c2 (by simpa using c)) (hn y List.mem_cons_self)
      · exact h1.1 x e
theorem keep_sub {m : Mk} {l : List Mk} : ∀ x, x ∈ l.filter (keepM m) → x ∈ l := fun x hx => (List.mem_filter.1 hx).1
/-- What a trail keeps. -/
def TrP (l : List Mk) : Prop := AscM l ∧ NoUn l
theorem put_un {l : List Mk} {m : Mk} (h : ¬ (underB l m.1 || (!m.2 && markedB l m.1)) = true) : underB l m.1 = false ∧ (m.2 = false → ∀ x, x ∈ l → x.1 ≠ m.1) := by
  simp only [Bool.or_eq_true, not_or] at h
  refine ⟨by simpa using h.1, fun hm x hx e => h.2 ?_⟩
  simp only [hm, Bool.not_false, Bool.true_and, markedB, Bool.or_eq_true, List.any_eq_true]
  exact .inr ⟨x, hx, by simp [e]⟩
theorem TrP.put {l : List Mk} {m : Mk} (h : TrP l) : TrP (putM l m) := by
  unfold putM
  split
  · exact h
  · rename_i hc
    obtain ⟨hu, hs⟩ := put_un hc
    refine ⟨ins_asc (h.1.sublist List.filter_sublist) fun x hx => ?_, fun x hx y hy h2 hw => ?_⟩
    · obtain ⟨x1, x2⟩ := List.mem_filter.1 hx
      cases hm : m.2 with
      | false => exact hs hm x x1
      | true =>
        intro e
        simp [keepM, hm, e, within_self] at x2
    · rcases ins_mem.1 hx with e | e <;> rcases ins_mem.1 hy with e' | e'
      · rw [e, e']
      · exfalso
        rw [e] at h2 hw
        have := (List.mem_filter.1 e').2
        simp [keepM, h2, hw] at this
      · exfalso
        rw [e'] at hw
        obtain ⟨j, hj⟩ := List.getElem?_of_mem (keep_sub x e)
        rw [under_hit hj h2 hw] at hu; cases hu
      · exact h.2 x (keep_sub x e) y (keep_sub y e') h2 hw
/-! ### The deepest of the marks -/
def lenAt (l : List Mk) (j : Nat) : Nat := match l[j]? with
  | some x => x.1.length
  | none => 0
def bestTo (l : List Mk) : Nat → Nat
  | 0 => 0
  | k + 1 => if lenAt l (bestTo l k) ≤ lenAt l k then k else bestTo l k
def bestM (l : List Mk) : Mk := (l[bestTo l l.length]?).getD ([], false)
def upM (x : Mk) : Mk := (x.1.take (x.1.length - 1), true)
def coarseM (l : List Mk) : List Mk := putM l (upM (bestM l))
/-- Coarser and coarser, till it is not too long. -/
inductive Lp : List Mk → List Mk → Prop
  | stop {l : List Mk} (h : l.length ≤ 6) : Lp l l
  | step {l r : List Mk} (h : 6 < l.length) (h' : Lp (coarseM l) r) : Lp l r
theorem trail_TrP {l : List Mk} (h : trailOk l = true) : TrP l ∧ l.length ≤ 6 ∧ ∀ x, x ∈ l → markOkB x = true := by
  unfold trailOk at h
  simp only [Bool.and_eq_true, decide_eq_true_iff] at h
  obtain ⟨hg, hl⟩ := h
  have each : ∀ (j : Nat) (x : Mk), l[j]? = some x → markOkB x = true ∧ afterB l j x = true ∧ underB (l.take j) x.1 = false := fun j x hx => by
    have := hg j x hx
    simp only [goodAt, Bool.and_eq_true] at this
    exact ⟨this.1, this.2.1, by simpa using this.2.2⟩
  have asc : AscM l := by
    have : ∀ (j : Nat) (x y : Mk), l[j]? = some x → l[j + 1]? = some y → lexLt x.1 y.1 = true := fun j x y hx hy => by
      have := (each (j + 1) y hy).2.1
      simpa [afterB, hx] using this
    clear hg hl each
    induction l with
    | nil => exact List.Pairwise.nil
    | cons a r ih =>
      have ih' := ih fun j x y hx hy => this (j + 1) x y (by simpa using hx) (by simpa using hy)
      refine List.pairwise_cons.2 ⟨fun z hz => ?_, ih'⟩
      cases r with
      | nil => cases hz
      | cons b r =>
        have hab := this 0 a b rfl rfl
        rcases List.mem_cons.1 hz with e | e
        · rw [e]; exact hab
        · exact lexLt_trans hab ((List.pairwise_cons.1 ih').1 z e)
  refine ⟨⟨asc, fun x hx y hy h2 hw => ?_⟩, by omega, fun x hx => ?_⟩
  · obtain ⟨i, hi⟩ := List.getElem?_of_mem hx
    obtain ⟨j, hj⟩ := List.getElem?_of_mem hy
    by_cases e : i = j
    · subst e; rw [hi] at hj; cases hj; rfl
    · exfalso
      obtain ⟨a1, a2⟩ := List.getElem?_eq_some_iff.1 hi
      obtain ⟨b1, b2⟩ := List.getElem?_eq_some_iff.1 hj
      by_cases hij : i < j
      · have h1 := (each j y hj).2.2
        rw [under_hit (j := i) (x := x) (by rw [List.getElem?_take_of_lt hij]; exact hi) h2 hw] at h1
        cases h1
      · have h1 := List.pairwise_iff_getElem.1 asc j i b1 a1 (by omega)
        rw [a2, b2] at h1
        rcases within_lt hw with e' | e'
        · rw [e', lexLt_irrefl] at h1; cases h1
        · have := lexLt_trans h1 e'
          rw [lexLt_irrefl] at this; cases this
  · obtain ⟨i, hi⟩ := List.getElem?_of_mem hx
    exact (each i x hi).1
end Go.Proofs.Ytkbhjejalkbogaa

/- The laws 'TreeRead' and 'TreeList', of the functions alone. -/
set_option linter.unusedVariables false
set_option linter.unusedSimpArgs false
namespace Go.Proofs.Ytkbhjejalkbogaa
open Go Go.Av

section
variable {w0 : World} {σ : Vw}

end
end Go.Proofs.Ytkbhjejalkbogaa

/- 'TreeAt': copies of trees by either hand; marks of trees that are results; the law. -/
set_option linter.unusedVariables false
set_option linter.unusedSimpArgs false
namespace Go.Proofs.Ytkbhjejalkbogaa
open Go Go.Av

theorem sumBy_congr {α : Type} {f g : α → Nat} : ∀ {xs : List α}, (∀ x, x ∈ xs → f x = g x) → sumBy f xs = sumBy g xs
  | [], _ => rfl
  | x :: xs, h => by simp only [sumBy]; rw [h x (by simp), sumBy_congr fun y hy => h y (by simp [hy])]
section
variable {w0 : World} {σ : Vw}

end
end Go.Proofs.Ytkbhjejalkbogaa

/- Marks of marks. -/
set_option linter.unusedVariables false
set_option linter.unusedSimpArgs false
namespace Go.Proofs.Ytkbhjejalkbogaa
open Go Go.Av

section
variable {w0 : World} {σ : Vw}

/-! ### Marks of marks -/
end
end Go.Proofs.Ytkbhjejalkbogaa

/- Calls; marks of marks; the trail of a call by either hand; the law 'TrailOf'. -/
set_option linter.unusedVariables false
set_option linter.unusedSimpArgs false
namespace Go.Proofs.Ytkbhjejalkbogaa
open Go Go.Av

/-- A call: its kind, its path, where to, a number, bytes. -/
abbrev Cl := Int × List ByteArray × List ByteArray × Int × ByteArray
abbrev i64r (n : Int) : Prop := -9223372036854775808 ≤ n ∧ n ≤ 9223372036854775807
def RCl (rd : Addr → Option Value) (es : List Value) (c : Cl) : Prop := ∃ u w, es = [.int .i64 c.1, u, w, .int .i64 c.2.2.2.1, .string c.2.2.2.2] ∧ RSl 1 RS rd u c.2.1 ∧ RSl 1 RS rd w c.2.2.1 ∧ i64r c.1 ∧ i64r c.2.2.2.1 ∧ c.2.2.2.2.size ≤ 9223372036854775807
section
variable {w0 : World} {σ : Vw}

theorem RCl.five {rd : Addr → Option Value} {es : List Value} {x : Cl} (h : RCl rd es x) {A : Prop} : pVal true 5 (.agg ⟨es⟩) A ↔ A := by
  obtain ⟨u, w, rfl, h2, h3, _⟩ := h; exact pVal_5 rfl h2.one h3.one rfl rfl
end

end Go.Proofs.Ytkbhjejalkbogaa

/- Marks: what is under, what is marked, by either hand; the sort of marks of which only the last stands wrong. -/
set_option linter.unusedVariables false
set_option linter.unusedSimpArgs false
namespace Go.Proofs.Ytkbhjejalkbogaa
open Go Go.Av

section
variable {w0 : World} {σ : Vw}

/-! ### The sort -/
end
end Go.Proofs.Ytkbhjejalkbogaa

/- How many paths there are in either of two parts; whether all that differs is marked; what a trail leads to: the pure part. -/
set_option linter.unusedVariables false
set_option linter.unusedSimpArgs false
set_option maxRecDepth 20000
namespace Go.Proofs.Ytkbhjejalkbogaa
open Go Go.Av

theorem ins_ascS {l : List ByteArray} {k : Nat} {x : ByteArray} (h : AscS l) (h1 : ∀ z, z ∈ l.take k → strLt z x = true) (h2 : ∀ z, l[k]? = some z → strLt x z = true) : AscS (l.take k ++ x :: l.drop k) := by
  have hd : ∀ z, z ∈ l.drop k → strLt x z = true := fun z hz => by
    by_cases hk : k < l.length
    · rw [List.drop_eq_getElem_cons hk] at hz
      have hx := h2 _ (List.getElem?_eq_getElem hk)
      rcases List.mem_cons.1 hz with e | hz
      · rw [e]; exact hx
      · have hp : AscS (l.drop k) := List.Pairwise.sublist (List.drop_sublist k l) h
        rw [List.drop_eq_getElem_cons hk] at hp
        exact strLt_trans hx ((List.pairwise_cons.1 hp).1 z hz)
    · rw [List.drop_of_length_le (by omega)] at hz; cases hz
  refine List.pairwise_append.2 ⟨List.Pairwise.sublist (List.take_sublist k l) h, List.pairwise_cons.2 ⟨hd, List.Pairwise.sublist (List.drop_sublist k l) h⟩, fun a ha b hb => ?_⟩
  rcases List.mem_cons.1 hb with e | hb
  · rw [e]; exact h1 a ha
  · exact strLt_trans (h1 a ha) (hd b hb)

theorem mrgK_mem : ∀ (xa xb : List (ByteArray × Tr)) (z : Pr), z ∈ mrgK xa xb → ((∃ k, z.2.1 = some k ∧ (z.1, k) ∈ xa) ∧ (z.2.2 = none ∨ ∃ k n, z.2.2 = some k ∧ (n, k) ∈ xb)) ∨ (z.2.1 = none ∧ ∃ k, z.2.2 = some k ∧ (z.1, k) ∈ xb)
  | [], xb, z, h => by
    rw [mrgK] at h
    obtain ⟨y, hy, rfl⟩ := List.mem_map.1 h
    exact .inr ⟨rfl, y.2, rfl, hy⟩
  | a :: xa, [], z, h => by
    rw [mrgK] at h
    obtain ⟨y, hy, rfl⟩ := List.mem_map.1 h
    exact .inl ⟨⟨y.2, rfl, hy⟩, .inl rfl⟩
  | a :: xa, b :: xb, z, h => by
    rw [mrgK] at h
    split at h
    · rcases List.mem_cons.1 h with rfl | h
      · exact .inl ⟨⟨a.2, rfl, List.mem_cons_self⟩, .inl rfl⟩
      · rcases mrgK_mem xa (b :: xb) z h with ⟨⟨k, h1, h2⟩, h3⟩ | h3
        · exact .inl ⟨⟨k, h1, List.mem_cons_of_mem _ h2⟩, h3⟩
        · exact .inr h3
    · split at h
      · rcases List.mem_cons.1 h with rfl | h
        · exact .inr ⟨rfl, b.2, rfl, List.mem_cons_self⟩
        · rcases mrgK_mem (a :: xa) xb z h with ⟨h1, h3 | ⟨k, n, h2, h3⟩⟩ | ⟨h1, k, h2, h3⟩
          · exact .inl ⟨h1, .inl h3⟩
          · exact .inl ⟨h1, .inr ⟨k, n, h2, List.mem_cons_of_mem _ h3⟩⟩
          · exact .inr ⟨h1, k, h2, List.mem_cons_of_mem _ h3⟩
      · rcases List.mem_cons.1 h with rfl | h
        · exact .inl ⟨⟨a.2, rfl, List.mem_cons_self⟩, .inr ⟨b.2, b.1, rfl, List.mem_cons_self⟩⟩
        · rcases mrgK_mem xa xb z h with ⟨⟨k, h1, h2⟩, h3 | ⟨k', n, h3, h4⟩⟩ | ⟨h1, k, h2, h3⟩
          · exact .inl ⟨⟨k, h1, List.mem_cons_of_mem _ h2⟩, .inl h3⟩
          · exact .inl ⟨⟨k, h1, List.mem_cons_of_mem _ h2⟩, .inr ⟨k', n, h3, List.mem_cons_of_mem _ h4⟩⟩
          · exact .inr ⟨h1, k, h2, List.mem_cons_of_mem _ h3⟩
termination_by xa xb => xa.length + xb.length

/-- How many paths there are in either of two parts, of which either may not be there. -/
noncomputable def unT : Nat → Option Tr → Option Tr → Nat
  | 0, _, _ => 0
  | _ + 1, none, none => 0
  | n + 1, none, some b => cntT (n + 1) b + 1
  | n + 1, some a, none => cntT (n + 1) a + 1
  | n + 1, some a, some b => 1 + sumBy (fun z : Pr => unT n z.2.1 z.2.2) (mrgK (partsOf a) (partsOf b))
/-- The same of parts that are there. -/
noncomputable def unS : Nat → Tr → Tr → Nat
  | 0, _, _ => 0
  | n + 1, a, b => 1 + sumBy (fun z : Pr => unS n (z.2.1.getD zeroT) (z.2.2.getD zeroT)) (mrgK (partsOf a) (partsOf b))

theorem unT_le : ∀ (n : Nat) (a b : Option Tr), unT n a b ≤ cntO n a + cntO n b
  | 0, _, _ => by simp [unT]
  | _ + 1, none, none => by simp [unT]
  | n + 1, none, some b => by simp [unT, cntO]
  | n + 1, some a, none => by simp [unT, cntO]
  | n + 1, some a, some b => by
    have h3 : sumBy (fun z : Pr => unT n z.2.1 z.2.2) (mrgK (partsOf a) (partsOf b)) ≤ sumBy (fun z : Pr => cntO n z.2.1 + cntO n z.2.2) (mrgK (partsOf a) (partsOf b)) := sumBy_mono fun z _ => unT_le n _ _
    rw [mrgK_sum (A := cntO n) (B := cntO n) rfl rfl] at h3
    obtain ⟨d, m, t, ns, ks⟩ := a
    obtain ⟨d', m', t', ns', ks'⟩ := b
    have h4 := zip_sum (f := cntT n) (ns := ns) (ks := ks)
    have h5 := zip_sum (f := cntT n) (ns := ns') (ks := ks')
    have e1 : cntT (n + 1) (.mk d m t ns ks) = ks.length + sumBy (cntT n) ks := rfl
    have e2 : cntT (n + 1) (.mk d' m' t' ns' ks') = ks'.length + sumBy (cntT n) ks' := rfl
    simp only [unT, cntO, partsOf, namesOf, kidsOf] at h3 ⊢
    omega

/-- What is asked of a part. -/
def fineT (n : Nat) (x : Tr) : Prop := shortT n x ∧ cntT n x ≤ 100000 ∧ ascT n x
theorem fine_zero (n : Nat) : fineT (n + 1) zeroT := ⟨⟨by omega, by show 0 ≤ _; omega, rfl, fun x h => (by cases h), fun x h => (by cases h)⟩, by show 0 ≤ _; omega, List.Pairwise.nil, fun x h => (by cases h)⟩
theorem fine_getD {n : Nat} {o : Option Tr} (h : fineO (n + 1) o) : fineT (n + 1) (o.getD zeroT) := by
  cases o with
  | none => exact fine_zero n
  | some x => exact h x rfl
theorem parts_kid {x : Tr} {nm : ByteArray} {k : Tr} (h : (nm, k) ∈ partsOf x) : k ∈ kidsOf x ∧ nm ∈ namesOf x := by
  unfold partsOf at h
  exact ⟨(List.of_mem_zip h).2, (List.of_mem_zip h).1⟩
theorem fine_kid {n : Nat} {x k : Tr} (h : fineT (n + 1) x) (hk : k ∈ kidsOf x) : fineT n k := by
  obtain ⟨h1, h2, h3⟩ := h
  obtain ⟨d, m, t, ns, ks⟩ := x
  have hk : k ∈ ks := hk
  have e1 : cntT (n + 1) (.mk d m t ns ks) = ks.length + sumBy (cntT n) ks := rfl
  have := sumBy_mem (f := cntT n) hk
  exact ⟨h1.2.2.2.2 k hk, by omega, h3.2 k hk⟩
theorem mrgK_nil' (l : List (ByteArray × Tr)) : mrgK [] l = l.map fun y => (y.1, none, some y.2) := by rw [mrgK]
theorem zip_sum' {f : Tr → Nat} : ∀ {ns : List ByteArray} {ks : List Tr}, ns.length = ks.length → sumBy (fun y : ByteArray × Tr => f y.2 + 1) (ns.zip ks) = ks.length + sumBy f ks
  | [], [], _ => rfl
  | [], _ :: _, h => by simp at h
  | _ :: _, [], h => by simp at h
  | n :: ns, k :: ks, h => by
    simp only [List.zip_cons_cons, sumBy, zip_sum' (f := f) (show ns.length = ks.length by simpa using h), List.length_cons]; omega
theorem sumBy_map' {α β : Type} {f : β → Nat} {g : α → β} : ∀ {l : List α}, sumBy f (l.map g) = sumBy (fun x => f (g x)) l
  | [] => rfl
  | a :: r => by simp only [List.map_cons, sumBy, sumBy_map' (l := r)]
theorem parts_zero : partsOf zeroT = [] := rfl
theorem unS_eq : ∀ (n : Nat) (a b : Option Tr), ¬ (a = none ∧ b = none) → fineO n a → fineO n b → unS n (a.getD zeroT) (b.getD zeroT) = unT n a b
  | 0, none, none, h, _, _ => absurd ⟨rfl, rfl⟩ h
  | 0, some x, _, _, h, _ => ((h x rfl).1).elim
  | 0, none, some x, _, _, h => ((h x rfl).1).elim
  | n + 1, none, none, h, _, _ => absurd ⟨rfl, rfl⟩ h
  | n + 1, none, some b, _, _, hb => by
    have hb' := hb b rfl
    have h1 : ∀ k, k ∈ kidsOf b → unS n zeroT k = cntT n k + 1 := fun k hk => by
      have hf := fine_kid hb' hk
      have := unS_eq n none (some k) (by simp) (fun x h => by cases h) (fun x h => by cases h; exact hf)
      simp only [Option.getD_none, Option.getD_some] at this
      rw [this]
      cases n with
      | zero => exact hf.1.elim
      | succ n => rfl
    show 1 + sumBy _ (mrgK (partsOf zeroT) (partsOf b)) = cntT (n + 1) b + 1
    have hcg : sumBy (fun y : ByteArray × Tr => unS n zeroT y.2) (partsOf b) = sumBy (fun y => cntT n y.2 + 1) (partsOf b) := sumBy_congr fun y hy => h1 y.2 (parts_kid (x := b) hy).1
    rw [parts_zero, mrgK_nil', sumBy_map']
    show 1 + sumBy (fun y : ByteArray × Tr => unS n zeroT y.2) (partsOf b) = _
    rw [hcg]
    obtain ⟨d, m, t, ns, ks⟩ := b
    have := zip_sum' (f := cntT n) (ns := ns) (ks := ks) hb'.1.2.2.1
    show 1 + sumBy _ (ns.zip ks) = (ks.length + sumBy (cntT n) ks) + 1
    omega
  | n + 1, some a, none, _, ha, _ => by
    have ha' := ha a rfl
    have h1 : ∀ k, k ∈ kidsOf a → unS n k zeroT = cntT n k + 1 := fun k hk => by
      have hf := fine_kid ha' hk
      have := unS_eq n (some k) none (by simp) (fun x h => by cases h; exact hf) (fun x h => by cases h)
      simp only [Option.getD_none, Option.getD_some] at this
      rw [this]
      cases n with
      | zero => exact hf.1.elim
      | succ n => rfl
    show 1 + sumBy _ (mrgK (partsOf a) (partsOf zeroT)) = cntT (n + 1) a + 1
    have hcg : sumBy (fun y : ByteArray × Tr => unS n y.2 zeroT) (partsOf a) = sumBy (fun y => cntT n y.2 + 1) (partsOf a) := sumBy_congr fun y hy => h1 y.2 (parts_kid (x := a) hy).1
    rw [parts_zero, mrgK_nil, sumBy_map']
    show 1 + sumBy (fun y : ByteArray × Tr => unS n y.2 zeroT) (partsOf a) = _
    rw [hcg]
    obtain ⟨d, m, t, ns, ks⟩ := a
    have := zip_sum' (f := cntT n) (ns := ns) (ks := ks) ha'.1.2.2.1
    show 1 + sumBy _ (ns.zip ks) = (ks.length + sumBy (cntT n) ks) + 1
    omega
  | n + 1, some a, some b, _, ha, hb => by
    show 1 + sumBy _ (mrgK (partsOf a) (partsOf b)) = 1 + sumBy _ (mrgK (partsOf a) (partsOf b))
    rw [sumBy_congr (g := fun z : Pr => unT n z.2.1 z.2.2) fun z hz => ?_]
    have ha' := ha a rfl
    have hb' := hb b rfl
    rcases mrgK_mem _ _ z hz with ⟨⟨k, h1, h2⟩, h3⟩ | ⟨h1, k, h2, h3⟩
    · refine unS_eq n z.2.1 z.2.2 (by rw [h1]; simp) (fun x hx => by rw [h1] at hx; cases hx; exact fine_kid ha' (parts_kid h2).1) fun x hx => ?_
      rcases h3 with h3 | ⟨k', nm, h3, h4⟩
      · rw [h3] at hx; cases hx
      · rw [h3] at hx; cases hx; exact fine_kid hb' (parts_kid h4).1
    · exact unS_eq n z.2.1 z.2.2 (by rw [h2]; simp) (fun x hx => by rw [h1] at hx; cases hx) fun x hx => by rw [h2] at hx; cases hx; exact fine_kid hb' (parts_kid h3).1

def leadsB (ms : List Mk) (ps : List ByteArray) : Bool := ms.any fun m => within m.1 ps
/-- At how many paths one looks. -/
noncomputable def lookN : Nat → List Mk → List ByteArray → Option Tr → Option Tr → Nat
  | 0, _, _, _, _ => 0
  | _ + 1, _, _, none, none => 0
  | n + 1, _, _, none, some b => cntT (n + 1) b + 1
  | _ + 1, _, _, some _, none => 1
  | n + 1, ms, ps, some a, some b =>
    if isDir a = isDir b then
      if underB ms ps = true then unT (n + 1) (some a) (some b)
      else 1 + sumBy (fun z : Pr => if leadsB ms (ps ++ [z.1]) = true then lookN n ms (ps ++ [z.1]) z.2.1 z.2.2 else 0) (mrgK (partsOf a) (partsOf b))
    else cntT (n + 1) b + 1

end Go.Proofs.Ytkbhjejalkbogaa

/- The names of either of two parts, put in one by one; how many paths there are in either: by either hand. -/
set_option linter.unusedVariables false
set_option linter.unusedSimpArgs false
set_option maxRecDepth 20000
namespace Go.Proofs.Ytkbhjejalkbogaa
open Go Go.Av

theorem fine_asc {n : Nat} {x : Tr} (h : fineT (n + 1) x) : AscS (namesOf x) := by
  obtain ⟨d, m, t, ns, ks⟩ := x
  exact h.2.2.1
theorem fine_len {n : Nat} {x : Tr} (h : fineT n x) : (namesOf x).length ≤ 100000 := names_len h.1 h.2.1
theorem mrg_kids {n m : Nat} {x y : Tr} (hx : fineT (n + 1) x) (hy : fineT (m + 1) y) : mrgK (partsOf x) (partsOf y) = (namesU (namesOf x ++ namesOf y)).map fun nm => ((nm, kidT x nm, kidT y nm) : Pr) := by
  rw [← mrgK_names (xa := partsOf x) (xb := partsOf y) (by rw [part_names hx.1]; exact fine_asc hx) (by rw [part_names hy.1]; exact fine_asc hy) (namesU_asc (namesOf x ++ namesOf y)) (fun z => by rw [namesU_mem, part_names hx.1, part_names hy.1, List.mem_append])]
  refine List.map_congr_left fun nm _ => ?_
  rw [kid_lk hx.1, kid_lk hy.1]
theorem mrgK_len : ∀ (xa xb : List (ByteArray × Tr)), (mrgK xa xb).length ≤ xa.length + xb.length
  | [], xb => by rw [mrgK]; simp
  | a :: xa, [] => by rw [mrgK]; simp
  | a :: xa, b :: xb => by
    rw [mrgK]
    split
    · have := mrgK_len xa (b :: xb); simp only [List.length_cons] at this ⊢; omega
    · split
      · have := mrgK_len (a :: xa) xb; simp only [List.length_cons] at this ⊢; omega
      · have := mrgK_len xa xb; simp only [List.length_cons] at this ⊢; omega
termination_by xa xb => xa.length + xb.length
theorem names_both {n m : Nat} {x y : Tr} (hx : fineT (n + 1) x) (hy : fineT (m + 1) y) : (namesU (namesOf x ++ namesOf y)).length ≤ 200000 := by
  have h1 := congrArg List.length (mrg_kids hx hy)
  have h2 := mrgK_len (partsOf x) (partsOf y)
  have h3 := fine_len hx
  have h4 := fine_len hy
  rw [List.length_map] at h1
  have e1 : (partsOf x).length ≤ (namesOf x).length := by unfold partsOf; rw [List.length_zip]; omega
  have e2 : (partsOf y).length ≤ (namesOf y).length := by unfold partsOf; rw [List.length_zip]; omega
  omega
/-- A part is read no deeper than it is. -/
theorem RT_short : ∀ (n m : Nat) (rd : Addr → Option Value) (es : List Value) (x : Tr), RT m rd es x → shortT n x → RT n rd es x
  | 0, _, _, _, _, _, h => h.elim
  | n + 1, 0, _, _, _, h, _ => h.elim
  | n + 1, m + 1, rd, es, .mk d mo t ns ks, h, hs => by
    obtain ⟨u, w, h1, h2, h3, h4, A, cap, e1, e2, e3⟩ := h
    refine ⟨u, w, h1, h2, h3, h4, A, cap, e1, e2, fun j y hj => ?_⟩
    obtain ⟨a, es', q1, q2, q3, q4⟩ := e3 j y hj
    exact ⟨a, es', q1, q2, q3, RT_short n m rd es' y q4 (hs.2.2.2.2 y (List.mem_of_getElem? hj))⟩

section
variable {w0 : World} {σ : Vw}

theorem spec_l12Names {n m : Nat} {es es' : List Value} {x y : Tr} (h : RT n (Av.get w0 σ) es x) (h' : RT m (Av.get w0 σ) es' y) (ha : AscS (namesOf x)) (hb : AscS (namesOf y)) (hl : (namesOf x).length ≤ 1000000 ∧ (namesOf y).length ≤ 1000000) {R : Value → Vw → Prop}
    (hR : ∀ v F σ', Keeps σ σ' → OStrs w0 σ' F v (namesU (namesOf x ++ namesOf y)) → (∀ i, i ∈ F → σ i = none) → R v σ') : AC Try.prog w0 n_spec_l12Names [.agg ⟨es⟩, .agg ⟨es'⟩] σ R := by
  obtain ⟨u, w, rfl, _, _, h4, _, hp⟩ := h.cells
  obtain ⟨u', w', rfl, _, _, h4', _, hp'⟩ := h'.cells
  refine ac_spec_l12Names ?_
  unfold vc_spec_l12Names
  rw [hp, hp']
  simp only [cellOf_agg, List.getD_cons_zero, List.getD_cons_succ]
  generalize namesOf x = ns at *
  generalize namesOf y = ns' at *
  refine copy_strs h4 (by omega) fun v1 F1 s1 k1 o1 f1 => ?_
  refine loop_rule (m := ns'.length) (fun c l st => ∃ (i : Nat) (v : Value) (F : List Nat) (L : List ByteArray), c + i = ns'.length ∧ Keeps σ st ∧ (∀ j, j ∈ F → σ j = none) ∧ OStrs w0 st F v L ∧ AscS L ∧ (∀ z, z ∈ L ↔ z ∈ ns ∨ z ∈ ns'.take i) ∧ L.length ≤ ns.length + i ∧
      l = [v, .int .i64 (i : Nat), .bool (isDir y), .int .i64 (modeOf y), .string (dataOf y), u', w']) ?_
    ⟨0, v1, F1, ns, by omega, k1, f1, o1, ha, fun z => by simp, by omega, rfl⟩
  rintro c l st L5 ⟨i, v, F, L, hc, ks, hF, ho, hasc, hmem, hll, rfl⟩ hL
  simp only [vget, List.getD_cons_zero, List.getD_cons_succ]
  have hu' := h4'.mono ks.le fun _ _ h => h
  have hov := ho.rel (ok_str w0)
  rw [hu'.len, pBin_lt, pIf_d]
  refine ⟨fun hi => ?_, fun hi => ?_⟩
  · have hyi := List.getElem?_eq_getElem (show i < ns'.length by omega)
    generalize ns'[i]'(by omega) = nm at hyi
    have htk : ns'.take (i + 1) = ns'.take i ++ [nm] := by rw [List.take_add_one, hyi]; rfl
    have INS : ∀ k : Nat, k ≤ L.length → (∀ z, z ∈ L.take k → strLt z nm = true) → (∀ z, L[k]? = some z → strLt nm z = true) →
        pSlice 1 v none (some (.int .i64 (k : Nat))) (fun v25 => pIndexAddr 1 u' (.int .i64 (i : Nat)) (fun v26 => pLoad w0 1 v26 st (fun g27 => pVal false 1 (g27 0) (pSlice 1 v (some (.int .i64 (k : Nat))) none (fun v28 => pNew w0 t_string [] st (fun n29 s30 => (Stay w0 st s30 v26 1) ∧ (pAppendS w0 t_string 1 16 (.slice (some (Addr.mk n29 0 none)) 0 0) v25 s30 (fun v31 s32 => (Stay w0 s30 s32 v26 1) ∧ ((allOne [g27 0]) ∧ (pAppend w0 t_string 1 16 v31 1 [g27 0] s32 (fun v33 s34 => pAppendS w0 t_string 1 16 v33 v28 s34 (fun v35 s36 => pBin Try.prog 3 .add (.int .i64 (i : Nat)) (.int .i64 1) (fun v37 => L5 [v35, v37, .bool (isDir y), .int .i64 (modeOf y), .string (dataOf y), u', w'] s36))))))))))))) := by
      intro k hk h1 h2
      refine RSl.take hov hk fun va hva => ?_
      refine RSl.atp hu' hyi fun p g hg => ?_
      obtain ⟨hg, hgs⟩ := hg
      simp only [expl, List.cons.injEq, and_true] at hg
      rw [hg, pVal1 rfl]
      refine RSl.slice hov (l := k) (u := L.length) rfl rfl hk (Nat.le_refl _) fun vb hvb => ?_
      rw [List.take_length] at hvb
      intro b hb1 hb2
      have kb : Keeps st (st.put b ⟨t_string, [], 0, (0, 0)⟩) := Keeps.put hb2
      have hb0 : ∀ i, i ∈ [b] → st i = none := fun i hi => by rw [List.mem_singleton.1 hi]; exact hb2
      refine ⟨kb.stay, ?_⟩
      refine (OAcc.new (w0 := w0) (σ := st) (ety := t_string) (n := 1) (O := OStr) hb1).allX (ok_str w0) hva kb.le (fun es y hy => ⟨rfl, hy⟩) (by simp; omega) (by omega) fun v1 F1 s1 x1 k1 o1 f1 => ?_
      rw [List.nil_append] at o1
      refine ⟨ext_stay x1, ?_⟩
      have K1 := k1.old kb hb0
      have hF1 := fresh_in kb hb0 f1
      refine o1.one (ok_str w0) (f := []) (y := nm) ⟨rfl, rfl, hgs⟩ (fun i hi => by cases hi) (by rw [List.length_take]; omega) (by omega) fun v2 F2 s2 k2 o2 f2 => ?_
      have K2 := k2.old K1 hF1
      have hF2 : ∀ i, i ∈ F2 → st i = none := fresh_in K1 hF1 fun i hi => by
        rcases f2 i hi with e | e | e
        · exact .inl e
        · cases e
        · exact .inr e
      refine o2.all (ok_str w0) hvb K2.le (fun es y hy => ⟨rfl, hy⟩) (by simp only [List.length_append, List.length_take, List.length_drop, List.length_cons, List.length_nil]; omega) (by omega) fun v3 F3 s3 k3 o3 f3 => ?_
      have K3 := k3.old K2 hF2
      have hF3 := fresh_in K2 hF2 f3
      rw [pBin_add (by omega)]
      have eL : L.take k ++ [nm] ++ L.drop k = L.take k ++ nm :: L.drop k := by simp
      rw [eL] at o3
      refine hL _ _ (c - 1) (by omega) ⟨i + 1, v3, F3, _, by omega, ks.trans K3, fun j hj => none_old ks (hF3 j hj), o3.osl, ins_ascS hasc h1 h2, fun z => ?_, ?_, by simp⟩
      · rw [htk]
        have := hmem z
        have hsp : z ∈ L ↔ z ∈ L.take k ∨ z ∈ L.drop k := by
          conv => lhs; rw [← List.take_append_drop k L]
          exact List.mem_append
        simp only [List.mem_append, List.mem_cons, List.mem_singleton, List.not_mem_nil, or_false]
        constructor
        · rintro (h | h | h)
          · rcases this.1 (hsp.2 (.inl h)) with e | e
            · exact .inl e
            · exact .inr (.inl e)
          · exact .inr (.inr h)
          · rcases this.1 (hsp.2 (.inr h)) with e | e
            · exact .inl e
            · exact .inr (.inl e)
        · rintro (h | h | h)
          · rcases hsp.1 (this.2 (.inl h)) with e | e
            · exact .inl e
            · exact .inr (.inr e)
          · rcases hsp.1 (this.2 (.inr h)) with e | e
            · exact .inl e
            · exact .inr (.inr e)
          · exact .inr (.inl h)
      · simp only [List.length_append, List.length_take, List.length_cons, List.length_drop]; omega
    refine loop_rule (m := L.length) (fun c2 l2 st2 => ∃ (k : Nat), c2 + k = L.length ∧ st2 = st ∧ (∀ z, z ∈ L.take k → strLt z nm = true) ∧ l2 = [v, .int .i64 (i : Nat), .int .i64 (k : Nat), .bool (isDir y), .int .i64 (modeOf y), .string (dataOf y), u', w']) ?_
      ⟨0, by omega, rfl, by simp, rfl⟩
    rintro c2 l2 st2 L9 ⟨k, hc2, rfl, hlt, rfl⟩ hL9
    simp only [vget, List.getD_cons_zero, List.getD_cons_succ]
    rw [hov.len, pBin_lt, pIf_d]
    refine ⟨fun hk => ?_, fun hk => ?_⟩
    · have hzk := List.getElem?_eq_getElem (show k < L.length by omega)
      generalize L[k]'(by omega) = zk at hzk
      refine RSl.at1 hov hzk fun g hg hgs => ?_
      refine RSl.at1 hu' hyi fun g' hg' hgs' => ?_
      rw [hg, hg', pBin_slt, pIf_b]
      refine ⟨fun hls => ?_, fun hnl => ?_⟩
      · rw [pBin_add (by omega)]
        refine hL9 _ _ (c2 - 1) (by omega) ⟨k + 1, by omega, rfl, fun z hz => ?_, by simp⟩
        rw [List.take_add_one, hzk] at hz
        rcases List.mem_append.1 hz with e | e
        · exact hlt z e
        · rw [Option.toList_some, List.mem_singleton] at e; rw [e]; exact hls
      · show pLen v _
        rw [hov.len, pBin_eq, pIf_d]
        refine ⟨fun he => by omega, fun _ => ?_⟩
        refine RSl.at1 hov hzk fun g hg hgs => ?_
        refine RSl.at1 hu' hyi fun g' hg' hgs' => ?_
        rw [hg, hg', pBin_sne, pIf_d]
        refine ⟨fun hne => ?_, fun heq => ?_⟩
        · refine INS k (by omega) hlt fun z hz => ?_
          rw [hzk] at hz; cases hz
          cases hs : strLt nm zk with
          | true => rfl
          | false => exact absurd (strLt_total hnl hs) hne
        · have heq := Decidable.not_not.1 heq
          subst heq
          rw [pBin_add (by omega)]
          refine hL _ _ (c - 1) (by omega) ⟨i + 1, v, F, L, by omega, ks, hF, ho, hasc, fun z => ?_, by omega, by simp⟩
          rw [htk, hmem z, List.mem_append, List.mem_singleton]
          refine ⟨fun h => ?_, fun h => ?_⟩
          · rcases h with e | e
            · exact .inl e
            · exact .inr (.inl e)
          · rcases h with e | e | e
            · exact .inl e
            · exact .inr e
            · rw [e]; exact (hmem zk).1 (List.mem_of_getElem? hzk)
    · show pLen v _
      have e : k = L.length := by omega
      rw [hov.len, pBin_eq, pIf_d]
      refine ⟨fun _ => ?_, fun he => absurd (by omega) he⟩
      exact INS k (by omega) hlt fun z hz => by rw [List.getElem?_eq_none (by omega)] at hz; cases hz
  · have e : i = ns'.length := by omega
    subst e
    rw [List.take_length] at hmem
    have : L = namesU (ns ++ ns') := asc_unique hasc (namesU_asc _) fun z => by rw [hmem z, namesU_mem, List.mem_append]
    subst this
    exact hR v F st ks ho hF

theorem spec_l12Kid {n : Nat} {es : List Value} {x : Tr} {nm : ByteArray} (h : RT (n + 1) (Av.get w0 σ) es x) (hx : fineT (n + 1) x) (hs : nm.size ≤ 9223372036854775807) {R : Value → Vw → Prop}
    (hR : ∀ es' s, Keeps σ s → RT (n + 1) (Av.get w0 s) es' ((kidT x nm).getD zeroT) → R (.tuple ⟨[.agg ⟨es'⟩, .bool (kidT x nm).isSome]⟩) s) : AC Try.prog w0 n_spec_l12Kid [.agg ⟨es⟩, .string nm] σ R := by
  have h0 := h
  obtain ⟨u, w, rfl, _, _, _, _, hp⟩ := h.cells
  refine ac_spec_l12Kid ?_
  unfold vc_spec_l12Kid
  rw [hp, pVal1 rfl]
  simp only [cellOf_agg, List.getD_cons_zero, List.getD_cons_succ]
  intro b hb1 hb2
  have kb : Keeps σ (σ.put b ⟨t_string, [.string nm], 1, (0, 0)⟩) := Keeps.put hb2
  have hv : RSl 1 RS (Av.get w0 (σ.put b ⟨t_string, [.string nm], 1, (0, 0)⟩)) (.slice (some ⟨b, 0, none⟩) 1 1) [nm] := by
    refine ⟨some ⟨b, 0, none⟩, 1, rfl, by simp, fun j z hj => ?_⟩
    have hj0 : j = 0 := by have := (List.getElem?_eq_some_iff.1 hj).1; simp at this; exact this
    subst hj0
    cases hj
    refine ⟨_, [.string nm], rfl, rfl, fun i hi => ?_, rfl, hs⟩
    have e : i = 0 := by omega
    subst e
    rw [addr_add, get_row hb1 put_at]
  have hat : atT x [nm] = kidT x nm := by
    unfold atT
    cases e : kidT x nm with
    | none => rfl
    | some k => simp [atT]
  refine spec_At [nm] (mono_rt _ _ _ _ _ kb.le h0) (short_wf _ _ hx.1) hv fun es' hes => ?_
  rw [hat] at hes ⊢
  rw [pExtract_s rfl, pExtract_s rfl]
  have hes0 := hes
  obtain ⟨u2, w2, rfl, _, _, _, _, hp2⟩ := hes.cells
  rw [hp2]
  simp only [cellOf_agg, List.getD_cons_zero, List.getD_cons_succ]
  exact hR _ _ kb hes0
theorem kid_fineT {n : Nat} {x : Tr} (h : fineT (n + 1) x) (nm : ByteArray) : fineO n (kidT x nm) := fun k hk => fine_kid h (kid_mem hk)
theorem kid_level {n : Nat} {x : Tr} (h : fineT (n + 1) x) {nm : ByteArray} (hm : nm ∈ namesOf x) : n ≠ 0 := fun e => by
  subst e
  have hne := kid_there h.1 hm
  cases hk : kidT x nm with
  | none => exact hne hk
  | some k => exact (fine_kid h (kid_mem hk)).1

theorem spec_Union : ∀ (n : Nat) {σ : Vw} {es es' : List Value} {x y : Tr} {R : Value → Vw → Prop}, RT n (Av.get w0 σ) es x → RT n (Av.get w0 σ) es' y → fineT n x → fineT n y → (∀ s, Keeps σ s → R (.int .i64 (unS n x y : Nat)) s) → AC Try.prog w0 n_spec_l12Union [.agg ⟨es⟩, .agg ⟨es'⟩] σ R := by
  intro n
  induction n with
  | zero => intro σ es es' x y R h; exact h.elim
  | succ n ih =>
    intro σ es es' x y R h h' hx hy hR
    have h0 := h
    have h0' := h'
    obtain ⟨u, w, rfl, _, _, _, _, hp⟩ := h.cells
    obtain ⟨u', w', rfl, _, _, _, _, hp'⟩ := h'.cells
    refine ac_spec_l12Union ?_
    unfold vc_spec_l12Union
    rw [hp, hp']
    simp only [cellOf_agg, List.getD_cons_zero, List.getD_cons_succ]
    have hl1 := fine_len hx
    have hl2 := fine_len hy
    have hun := unT_le (n + 1) (some x) (some y)
    have hune := unS_eq (n + 1) (some x) (some y) (by simp) (fun z hz => by cases hz; exact hx) (fun z hz => by cases hz; exact hy)
    simp only [Option.getD_some] at hune
    have hc1 := hx.2.1
    have hc2 := hy.2.1
    simp only [cntO] at hun
    have hsum : unS (n + 1) x y = 1 + sumBy (fun nm => unS n ((kidT x nm).getD zeroT) ((kidT y nm).getD zeroT)) (namesU (namesOf x ++ namesOf y)) := by
      show 1 + sumBy _ (mrgK (partsOf x) (partsOf y)) = _
      rw [mrg_kids hx hy, sumBy_map']
    have hLm : ∀ z, z ∈ namesU (namesOf x ++ namesOf y) → z ∈ namesOf x ∨ z ∈ namesOf y := fun z hz => by rw [namesU_mem, List.mem_append] at hz; exact hz
    have hLl := names_both hx hy
    refine spec_l12Names h0 h0' (fine_asc hx) (fine_asc hy) (by omega) fun nv F s1 k1 on fn => ?_
    generalize namesU (namesOf x ++ namesOf y) = L at *
    generalize hW : (fun nm => unS n ((kidT x nm).getD zeroT) ((kidT y nm).getD zeroT)) = W at hsum
    refine loop_rule (m := L.length) (fun c l st => ∃ j : Nat, c + j = L.length ∧ Keeps σ st ∧ OStrs w0 st F nv L ∧
        l = [.int .i64 ((1 + sumBy W (L.take j) : Nat) : Int), nv, .int .i64 (j : Nat), .bool (isDir x), .int .i64 (modeOf x), .string (dataOf x), u, w, .bool (isDir y), .int .i64 (modeOf y), .string (dataOf y), u', w']) ?_
      ⟨0, by omega, k1, on, by simp [sumBy]⟩
    rintro c l st L' ⟨j, hcj, ks, hon, rfl⟩ hL'
    simp only [vget, List.getD_cons_zero, List.getD_cons_succ]
    have onr := hon.rel (ok_str w0)
    rw [onr.len, pBin_lt, pIf_d]
    refine ⟨fun hj => ?_, fun hj => ?_⟩
    · have hnm := List.getElem?_eq_getElem (show j < L.length by omega)
      generalize L[j]'(by omega) = nm at hnm
      have hmem := hLm nm (List.mem_of_getElem? hnm)
      have hn0 : n ≠ 0 := by
        rcases hmem with hm | hm
        · exact kid_level hx hm
        · exact kid_level hy hm
      obtain ⟨n', rfl⟩ := Nat.exists_eq_succ_of_ne_zero hn0
      refine RSl.at1 onr hnm fun g hg hgs => ?_
      rw [hg]
      refine spec_l12Kid (mono_rt _ _ _ _ _ ks.le h0) hx hgs fun e1 s2 k2 r1 => ?_
      have r10 := r1
      obtain ⟨u2, w2, rfl, _, _, _, _, hp2⟩ := r1.cells
      rw [pExtract_s rfl, pExtract_s rfl, hp2]
      refine RSl.at1 (onr.mono k2.le fun _ _ h => h) hnm fun g' hg' _ => ?_
      rw [hg']
      refine spec_l12Kid (mono_rt _ _ _ _ _ (ks.trans k2).le h0') hy hgs fun e2 s3 k3 r2 => ?_
      have r20 := r2
      obtain ⟨u3, w3, rfl, _, _, _, _, hp3⟩ := r2.cells
      rw [pExtract_s rfl, pExtract_s rfl, hp3]
      simp only [cellOf_agg, List.getD_cons_zero, List.getD_cons_succ]
      have f1 := fine_getD (kid_fineT hx nm)
      have f2 := fine_getD (kid_fineT hy nm)
      refine ih (RT_short _ _ _ _ _ (mono_rt _ _ _ _ _ k3.le r10) f1.1) (RT_short _ _ _ _ _ r20 f2.1) f1 f2 fun s4 k4 => ?_
      have hW1 : unS (n' + 1) ((kidT x nm).getD zeroT) ((kidT y nm).getD zeroT) = W nm := by rw [← hW]
      rw [hW1]
      have hst := sumBy_take (f := W) hnm
      have hsl := sumBy_le (f := W) (xs := L) (j + 1)
      rw [pBin_add (by omega), pBin_add (by omega)]
      have K := (k2.trans k3).trans k4
      refine hL' _ _ (c - 1) (by omega) ⟨j + 1, by omega, ks.trans K, hon.frame (ok_str w0) (K.but_at fun i hi => (hon.dom (ok_str w0) i hi).2), ?_⟩
      rw [hst]
      congr 2
      omega
    · have e : j = L.length := by omega
      subst e
      rw [List.take_length]
      show R (.int .i64 ((1 + sumBy W L : Nat) : Int)) st
      rw [← hsum]
      exact hR st ks
end
end Go.Proofs.Ytkbhjejalkbogaa

/- Marks put in and made coarser by the reference's hand. -/
set_option linter.unusedVariables false
set_option linter.unusedSimpArgs false
namespace Go.Proofs.Ytkbhjejalkbogaa
open Go Go.Av

section
variable {w0 : World} {σ : Vw}

end
end Go.Proofs.Ytkbhjejalkbogaa

/- The trail to which a mark is added, by the reference's hand. -/
set_option linter.unusedVariables false
set_option linter.unusedSimpArgs false
namespace Go.Proofs.Ytkbhjejalkbogaa
open Go Go.Av

section
variable {w0 : World} {σ : Vw}

end
end Go.Proofs.Ytkbhjejalkbogaa

/- The trail to which a mark is added, by the program's hand. -/
set_option linter.unusedVariables false
set_option linter.unusedSimpArgs false
namespace Go.Proofs.Ytkbhjejalkbogaa
open Go Go.Av

section
variable {w0 : World} {σ : Vw}

end
end Go.Proofs.Ytkbhjejalkbogaa

/- The law 'TrailAdd', of the functions alone. -/
set_option linter.unusedVariables false
set_option linter.unusedSimpArgs false
namespace Go.Proofs.Ytkbhjejalkbogaa
open Go Go.Av

section
variable {w0 : World} {σ : Vw}

end
end Go.Proofs.Ytkbhjejalkbogaa

/- How many paths there are in either of two parts, by the program's hand; 'TrailBelow' and its law. -/
set_option linter.unusedVariables false
set_option linter.unusedSimpArgs false
set_option maxRecDepth 20000
namespace Go.Proofs.Ytkbhjejalkbogaa
open Go Go.Av

theorem short_up : ∀ {n : Nat} {x : Tr}, shortT n x → shortT (n + 1) x
  | 0, _, h => h.elim
  | n + 1, .mk d m t ns ks, h => ⟨h.1, h.2.1, h.2.2.1, h.2.2.2.1, fun k hk => short_up (h.2.2.2.2 k hk)⟩
theorem cnt_up : ∀ {n : Nat} {x : Tr}, shortT n x → cntT (n + 1) x = cntT n x
  | 0, _, h => h.elim
  | n + 1, .mk d m t ns ks, h => by
    show ks.length + sumBy (cntT (n + 1)) ks = ks.length + sumBy (cntT n) ks
    rw [sumBy_congr fun k hk => cnt_up (h.2.2.2.2 k hk)]
theorem asc_up : ∀ {n : Nat} {x : Tr}, shortT n x → ascT n x → ascT (n + 1) x
  | 0, _, h, _ => h.elim
  | n + 1, .mk d m t ns ks, h, ha => ⟨ha.1, fun k hk => asc_up (h.2.2.2.2 k hk) (ha.2 k hk)⟩
theorem fine_up {n : Nat} {x : Tr} (h : fineT n x) : fineT (n + 1) x := ⟨short_up h.1, by rw [cnt_up h.1]; exact h.2.1, asc_up h.1 h.2.2⟩
theorem fine_at : ∀ (ps : List ByteArray) {n : Nat} {x y : Tr}, fineT n x → atT x ps = some y → fineT n y
  | [], _, x, y, h, e => by
    have : some x = some y := by cases x; exact e
    cases this; exact h
  | p :: r, 0, x, y, h, e => h.1.elim
  | p :: r, n + 1, x, y, h, e => by
    obtain ⟨d, m, t, ns, ks⟩ := x
    unfold atT at e
    cases hk : kidT (.mk d m t ns ks) p with
    | none => rw [hk] at e; simp at e
    | some k =>
      rw [hk] at e
      simp only [Option.bind_some] at e
      exact fine_up (fine_at r (fine_kid h (kid_mem hk)) e)
noncomputable def belowM (x y : Tr) (ms : List Mk) : Nat := sumBy (fun m : Mk => if m.2 = true then unT 5 (atT x m.1) (atT y m.1) else 0) ms
noncomputable def belowX (n m : Nat) (x y : Tr) (ms : List Mk) : Nat := if (treeOk n x = true ∧ treeOk m y = true) ∧ trailOk ms = true then belowM x y ms else 0
theorem at_cnt : ∀ (ps : List ByteArray) {n : Nat} {x y : Tr}, fineT n x → atT x ps = some y → cntT n y ≤ cntT n x
  | [], _, x, y, h, e => by
    have : some x = some y := by cases x; exact e
    cases this; exact Nat.le_refl _
  | p :: r, 0, x, y, h, e => h.1.elim
  | p :: r, n + 1, x, y, h, e => by
    obtain ⟨d, m, t, ns, ks⟩ := x
    unfold atT at e
    cases hk : kidT (.mk d m t ns ks) p with
    | none => rw [hk] at e; simp at e
    | some k =>
      rw [hk] at e
      simp only [Option.bind_some] at e
      have hf := fine_kid h (kid_mem hk)
      have h1 := at_cnt r hf e
      have h2 := fine_at r hf e
      rw [cnt_up h2.1]
      have h3 := sumBy_mem (f := cntT n) (show k ∈ ks from kid_mem hk)
      show _ ≤ ks.length + sumBy (cntT n) ks
      omega
theorem at_cntO {n : Nat} {x : Tr} (h : fineT n x) (ps : List ByteArray) : cntO n (atT x ps) ≤ cntT n x + 1 := by
  cases e : atT x ps with
  | none => exact Nat.zero_le _
  | some y => have := at_cnt ps h e; simp only [cntO]; omega
theorem at_fineO {n : Nat} {x : Tr} (h : fineT n x) (ps : List ByteArray) : fineO n (atT x ps) := fun y e => fine_at ps h e
section
variable {w0 : World} {σ : Vw}

theorem impl_both : ∀ (n : Nat) {σ : Vw} {p q : Value} {a b : Option Tr} {R : Value → Vw → Prop}, PO n (Av.get w0 σ) p a → PO n (Av.get w0 σ) q b → fineO n a → fineO n b → (∀ s, Keeps σ s → R (.int .i64 (unT n a b : Nat)) s) → AC Try.prog w0 n_impl_both [p, q] σ R := by
  intro n
  induction n with
  | zero =>
    intro σ p q a b R ha hb _ _ hR
    cases a with
    | some x => obtain ⟨_, _, _, _, _, h⟩ := ha; exact h.elim
    | none => cases b with
      | some x => obtain ⟨_, _, _, _, _, h⟩ := hb; exact h.elim
      | none =>
        obtain rfl : p = .pointer none := ha
        obtain rfl : q = .pointer none := hb
        refine ac_impl_both ?_
        unfold vc_impl_both
        rw [pBin_nil ptr_tree, pIf_b]
        refine ⟨fun _ => ?_, fun h => by cases h⟩
        rw [pBin_nil ptr_tree, pIf_b]
        exact ⟨fun _ => hR _ (Keeps.refl _), fun h => by cases h⟩
  | succ n ih =>
    intro σ p q a b R ha hb hfa hfb hR
    refine ac_impl_both ?_
    unfold vc_impl_both
    have hun := unT_le (n + 1) a b
    cases a with
    | none =>
      obtain rfl : p = .pointer none := ha
      rw [pBin_nil ptr_tree, pIf_b]
      refine ⟨fun _ => ?_, fun h => by cases h⟩
      cases b with
      | none =>
        obtain rfl : q = .pointer none := hb
        rw [pBin_nil ptr_tree, pIf_b]
        exact ⟨fun _ => hR _ (Keeps.refl _), fun h => by cases h⟩
      | some y =>
        obtain ⟨f1, f2, f3⟩ := hfb y rfl
        have hb' := hb
        obtain ⟨ad, es, rfl, _⟩ := hb'
        rw [pBin_nil ptr_tree, pIf_b]
        refine ⟨fun h => (by cases h), fun _ => ?_⟩
        rw [pBin_nil ptr_tree, pIf_b]
        refine ⟨fun _ => ?_, fun h => by cases h⟩
        rw [pNil_s]
        refine PT.load hb fun g hg => ?_
        refine impl_paths (n + 1) hg (by omega) ?_
        exact hR _ (Keeps.refl _)
    | some x =>
      obtain ⟨a1, a2, a3⟩ := hfa x rfl
      have ha' := ha
      obtain ⟨ad, es, rfl, _⟩ := ha'
      rw [pBin_nil ptr_tree, pIf_b]
      refine ⟨fun h => (by cases h), fun _ => ?_⟩
      rw [pBin_nil ptr_tree, pIf_b]
      refine ⟨fun h => (by cases h), fun _ => ?_⟩
      cases b with
      | none =>
        obtain rfl : q = .pointer none := hb
        rw [pBin_nil ptr_tree, pIf_b]
        refine ⟨fun _ => ?_, fun h => by cases h⟩
        rw [pNil_s]
        refine PT.load ha fun g hg => ?_
        refine impl_paths (n + 1) hg (by omega) ?_
        exact hR _ (Keeps.refl _)
      | some y =>
        obtain ⟨b1, b2, b3⟩ := hfb y rfl
        have hb' := hb
        obtain ⟨bd, es', rfl, _⟩ := hb'
        have ha : PT (n + 1) (Av.get w0 σ) (.pointer (some ad)) x := ha
        have hb : PT (n + 1) (Av.get w0 σ) (.pointer (some bd)) y := hb
        rw [pBin_nil ptr_tree, pIf_b]
        refine ⟨fun h => (by cases h), fun _ => ?_⟩
        have hx : fineT (n + 1) x := ⟨a1, a2, a3⟩
        have hy : fineT (n + 1) y := ⟨b1, b2, b3⟩
        have hl1 := fine_len hx
        have hl2 := fine_len hy
        simp only [cntO] at hun
        have hsum : unT (n + 1) (some x) (some y) = 1 + sumBy (fun nm => unT n (kidT x nm) (kidT y nm)) (namesU (namesOf x ++ namesOf y)) := by
          show 1 + sumBy _ (mrgK (partsOf x) (partsOf y)) = _
          rw [mrg_kids hx hy, sumBy_map']
        have hLl := names_both hx hy
        refine impl_either ha hb (by omega) fun nv F s1 k1 on fn => ?_
        rw [(on.rel (ok_str w0)).len]
        generalize namesU (namesOf x ++ namesOf y) = L at *
        generalize hW : (fun nm => unT n (kidT x nm) (kidT y nm)) = W at hsum
        refine loop_rule (m := L.length) (fun c l st => ∃ j : Nat, c + j = L.length ∧ Keeps σ st ∧ OStrs w0 st F nv L ∧
            l = [.pointer (some ad), .pointer (some bd), .int .i64 ((1 + sumBy W (L.take j) : Nat) : Int), nv, .int .i64 (L.length : Nat), .int .i64 (j : Nat)]) ?_
          ⟨0, by omega, k1, on, by simp [sumBy]⟩
        rintro c l st L' ⟨j, hcj, ks, hon, rfl⟩ hL'
        simp only [vget, List.getD_cons_zero, List.getD_cons_succ]
        have onr := hon.rel (ok_str w0)
        rw [pBin_lt, pIf_d]
        refine ⟨fun hj => ?_, fun hj => ?_⟩
        · have hnm := List.getElem?_eq_getElem (show j < L.length by omega)
          generalize L[j]'(by omega) = nm at hnm
          refine RSl.at1 onr hnm fun g hg hgs => ?_
          rw [hg]
          refine impl_kid (ha.mono ks.le) (short_wf _ _ a1) fun qa hqa => ?_
          refine impl_kid (hb.mono ks.le) (short_wf _ _ b1) fun qb hqb => ?_
          refine ih hqa hqb (kid_fine hfa nm) (kid_fine hfb nm) fun s4 k4 => ?_
          have hW1 : unT n (kidT x nm) (kidT y nm) = W nm := by rw [← hW]
          rw [hW1]
          have hst := sumBy_take (f := W) hnm
          have hsl := sumBy_le (f := W) (xs := L) (j + 1)
          rw [pBin_add (by omega), pBin_add (by omega)]
          refine hL' _ _ (c - 1) (by omega) ⟨j + 1, by omega, ks.trans k4, hon.frame (ok_str w0) (k4.but_at fun i hi => (hon.dom (ok_str w0) i hi).2), ?_⟩
          rw [hst]
          congr 4
          omega
        · have e : j = L.length := by omega
          subst e
          rw [List.take_length]
          show R (.int .i64 ((1 + sumBy W L : Nat) : Int)) st
          rw [← hsum]
          exact hR st ks

theorem below_take {x y : Tr} {ms : List Mk} (hx : fineT 5 x) (hy : fineT 5 y) (cx : cntT 5 x ≤ 30) (cy : cntT 5 y ≤ 30) (j : Nat) : belowM x y (ms.take j) ≤ 62 * j := by
  have := sumBy_bound (f := fun m : Mk => if m.2 = true then unT 5 (atT x m.1) (atT y m.1) else 0) (c := 62) (xs := ms.take j) fun m _ => by
    have h1 := unT_le 5 (atT x m.1) (atT y m.1)
    have h2 := at_cntO hx m.1
    have h3 := at_cntO hy m.1
    split <;> omega
  have hl : (ms.take j).length ≤ j := by rw [List.length_take]; omega
  exact Nat.le_trans this (Nat.mul_le_mul_left _ hl)
theorem below_step {x y : Tr} {ms : List Mk} {j : Nat} {m : Mk} (hj : ms[j]? = some m) : belowM x y (ms.take (j + 1)) = belowM x y (ms.take j) + (if m.2 = true then unT 5 (atT x m.1) (atT y m.1) else 0) := sumBy_take hj
theorem ok_fineT {n : Nat} {x : Tr} (h : treeOk n x = true) : (∀ rd es, RT n rd es x → RT 5 rd es x) ∧ fineT 5 x ∧ cntT 5 x ≤ 30 := by
  obtain ⟨d1, x1, c1, a1⟩ := ok_fine h
  exact ⟨d1, ⟨x1, by omega, a1⟩, c1⟩

theorem spec_TrailBelow {n m : Nat} {es es' : List Value} {v : Value} {x y : Tr} {ms : List Mk} (h : RT n (Av.get w0 σ) es x) (h' : RT m (Av.get w0 σ) es' y) (hv : RSl 2 RMk (Av.get w0 σ) v ms) (hb : cntT n x ≤ 1000000000000) (hb' : cntT m y ≤ 1000000000000) {R : Value → Vw → Prop}
    (hR : ∀ s, Keeps σ s → R (.int .i64 (belowX n m x y ms : Nat)) s) : AC Try.prog w0 n_spec_TrailBelow [.agg ⟨es⟩, .agg ⟨es'⟩, v] σ R := by
  have h0 := h
  have h0' := h'
  obtain ⟨u, w, rfl, _, _, _, _, hp⟩ := h.cells
  obtain ⟨u', w', rfl, _, _, _, _, hp'⟩ := h'.cells
  refine ac_spec_TrailBelow ?_
  unfold vc_spec_TrailBelow
  rw [hp, hp']
  simp only [cellOf_agg, List.getD_cons_zero, List.getD_cons_succ]
  have no : ¬ ((treeOk n x = true ∧ treeOk m y = true) ∧ trailOk ms = true) → R (.int .i64 0) σ := fun hno => by
    have := hR σ (Keeps.refl _)
    rw [belowX, if_neg hno] at this; exact this
  refine spec_TreeOk h0 hb (pNotIf.2 ⟨fun hno => no (by rw [hno]; simp), fun hok => ?_⟩)
  refine spec_TreeOk h0' hb' (pNotIf.2 ⟨fun hno => no (by rw [hno]; simp), fun hok' => ?_⟩)
  refine spec_TrailOk hv (pNotIf.2 ⟨fun hno => no (by rw [hno]; simp), fun hmk => ?_⟩)
  obtain ⟨d1, x1, c1⟩ := ok_fineT hok
  obtain ⟨d2, x2, c2⟩ := ok_fineT hok'
  have hl := hv.le
  have hm6 := (trail_TrP hmk).2.1
  have hfin : R (.int .i64 (belowM x y ms : Nat)) = R (.int .i64 (belowX n m x y ms : Nat)) := by rw [belowX, if_pos ⟨⟨hok, hok'⟩, hmk⟩]
  refine loop_rule (m := ms.length) (fun c l st => ∃ j : Nat, c + j = ms.length ∧ Keeps σ st ∧
      l = [v, .int .i64 (belowM x y (ms.take j) : Nat), .int .i64 (j : Nat), .bool (isDir x), .int .i64 (modeOf x), .string (dataOf x), u, w, .bool (isDir y), .int .i64 (modeOf y), .string (dataOf y), u', w']) ?_
    ⟨0, by omega, Keeps.refl _, by simp [belowM, sumBy]⟩
  rintro c l st L ⟨j, hcj, ks, rfl⟩ hL
  simp only [vget, List.getD_cons_zero, List.getD_cons_succ]
  have hv' := hv.mono ks.le fun _ _ => mono_mk ks.le
  rw [hv'.len, pBin_lt, pIf_d]
  refine ⟨fun hj => ?_, fun hj => ?_⟩
  · have hmj := List.getElem?_eq_getElem (show j < ms.length by omega)
    generalize ms[j]'(by omega) = mk at hmj
    have hbt := below_take (ms := ms) x1 x2 c1 c2 (j + 1)
    have hst := below_step (x := x) (y := y) hmj
    rw [hst] at hbt
    refine RSl.atf hv' hmj 0 (by omega) fun e1 g1 r1 q1 => ?_
    obtain ⟨uu, rfl, ru⟩ := r1
    simp only [List.getElem?_cons_zero, Option.some.injEq] at q1
    rw [← q1]
    refine spec_At mk.1 (mono_rt _ _ _ _ _ ks.le (d1 _ _ h0)) (short_wf _ _ x1.1) ru fun ea hea => ?_
    have hea0 := hea
    obtain ⟨ua, wa, rfl, _, _, _, _, hpa⟩ := hea.cells
    rw [pExtract_s rfl, pExtract_s rfl, hpa]
    refine RSl.atf hv' hmj 0 (by omega) fun e2 g2 r2 q2 => ?_
    obtain ⟨uu2, rfl, ru2⟩ := r2
    simp only [List.getElem?_cons_zero, Option.some.injEq] at q2
    rw [← q2]
    refine spec_At mk.1 (mono_rt _ _ _ _ _ ks.le (d2 _ _ h0')) (short_wf _ _ x2.1) ru2 fun eb heb => ?_
    have heb0 := heb
    obtain ⟨ub, wb, rfl, _, _, _, _, hpb⟩ := heb.cells
    rw [pExtract_s rfl, pExtract_s rfl, hpb]
    refine RSl.atf hv' hmj 1 (by omega) fun e3 g3 r3 q3 => ?_
    obtain ⟨uu3, rfl, ru3⟩ := r3
    simp only [List.getElem?_cons_zero, List.getElem?_cons_succ, Option.some.injEq] at q3
    rw [← q3, pIf_b]
    have skip : (if mk.2 = true then unT 5 (atT x mk.1) (atT y mk.1) else 0) = 0 → ∀ s, Keeps σ s → L [v, .int .i64 (belowM x y (ms.take j) : Nat), .int .i64 ((j : Nat) + 1), .bool (isDir x), .int .i64 (modeOf x), .string (dataOf x), u, w, .bool (isDir y), .int .i64 (modeOf y), .string (dataOf y), u', w'] s := fun h0 s hs => hL _ _ (c - 1) (by omega) ⟨j + 1, by omega, hs, by rw [hst, h0]; simp⟩
    refine ⟨fun hsub => ?_, fun hsub => ?_⟩
    · rw [if_pos hsub] at hst hbt
      have fa := at_fineO x1 mk.1
      have fb := at_fineO x2 mk.1
      have UN : ¬ (atT x mk.1 = none ∧ atT y mk.1 = none) → AC Try.prog w0 n_spec_l12Union ([.agg (⟨[.bool (isDir ((atT x mk.1).getD zeroT)), .int .i64 (modeOf ((atT x mk.1).getD zeroT)), .string (dataOf ((atT x mk.1).getD zeroT)), ua, wa]⟩), .agg (⟨[.bool (isDir ((atT y mk.1).getD zeroT)), .int .i64 (modeOf ((atT y mk.1).getD zeroT)), .string (dataOf ((atT y mk.1).getD zeroT)), ub, wb]⟩)]) st
          (fun v31 s32 => pBin Try.prog 3 .add (.int .i64 (belowM x y (ms.take j) : Nat)) v31 (fun v33 => pBin Try.prog 3 .add (.int .i64 (j : Nat)) (.int .i64 1) (fun v34 => L [v, v33, v34, .bool (isDir x), .int .i64 (modeOf x), .string (dataOf x), u, w, .bool (isDir y), .int .i64 (modeOf y), .string (dataOf y), u', w'] s32))) := fun hne => by
        refine spec_Union 5 hea0 heb0 (fine_getD (n := 4) fa) (fine_getD (n := 4) fb) fun s3 k3 => ?_
        rw [unS_eq 5 _ _ hne fa fb, pBin_add (by omega), pBin_add (by omega)]
        refine hL _ _ (c - 1) (by omega) ⟨j + 1, by omega, ks.trans k3, ?_⟩
        rw [hst]
        simp
      simp only [cellOf_agg, List.getD_cons_zero, List.getD_cons_succ]
      rw [pIf_b]
      refine ⟨fun ha => UN fun h => by rw [h.1] at ha; simp at ha, fun ha => ?_⟩
      rw [pIf_b]
      refine ⟨fun hb2 => UN fun h => by rw [h.2] at hb2; simp at hb2, fun hb2 => ?_⟩
      rw [pBin_add (by omega)]
      refine skip ?_ st ks
      rw [if_pos hsub]
      have e1 : atT x mk.1 = none := by cases e : atT x mk.1 with
        | none => rfl
        | some z => rw [e] at ha; simp at ha
      have e2 : atT y mk.1 = none := by cases e : atT y mk.1 with
        | none => rfl
        | some z => rw [e] at hb2; simp at hb2
      rw [e1, e2]; rfl
    · rw [pBin_add (by omega)]
      exact skip (by rw [if_neg (by rw [hsub]; simp)]) st ks
  · have e : j = ms.length := by omega
    subst e
    show R (.int .i64 (belowM x y (ms.take ms.length) : Nat)) st
    rw [List.take_length]
    have := hR st ks
    rw [belowX, if_pos ⟨⟨hok, hok'⟩, hmk⟩] at this
    exact this

theorem PT_of {n : Nat} {s : Vw} {p : Value} {z : Tr} (hd : ∀ rd es, RT n rd es z → RT 5 rd es z) (hp : PT n (Av.get w0 s) p z) : PT 5 (Av.get w0 s) p z := by
  obtain ⟨ad, es, q1, q2, q3, q4⟩ := hp
  exact ⟨ad, es, q1, q2, q3, hd _ _ q4⟩

theorem impl_TrailBelow {n m : Nat} {es es' : List Value} {v : Value} {x y : Tr} {ms : List Mk} (h : RT n (Av.get w0 σ) es x) (h' : RT m (Av.get w0 σ) es' y) (hv : RSl 2 RMk (Av.get w0 σ) v ms) (hb : cntT n x ≤ 1000000000000) (hb' : cntT m y ≤ 1000000000000) {R : Value → Vw → Prop}
    (hR : ∀ s, Keeps σ s → R (.int .i64 (belowX n m x y ms : Nat)) s) : AC Try.prog w0 n_impl_TrailBelow [.agg ⟨es⟩, .agg ⟨es'⟩, v] σ R := by
  have h0 := h
  have h0' := h'
  obtain ⟨e0, e1, e2, e3, e4, rfl, _, hpv⟩ := RT.five h
  obtain ⟨e0', e1', e2', e3', e4', rfl, _, hpv'⟩ := RT.five h'
  refine ac_impl_TrailBelow ?_
  unfold vc_impl_TrailBelow
  rw [hpv]
  simp only [cellOf_agg, List.getD_cons_zero, List.getD_cons_succ]
  intro a ha1 ha2
  have k1 : Keeps σ (σ.put a ⟨t_impl_Tree, [e0, e1, e2, e3, e4], 5, (0, 0)⟩) := Keeps.put ha2
  have p1 := PT.new (ety := t_impl_Tree) (c := 5) h0 ha1 ha2
  rw [hpv']
  intro b hb1 hb2
  have k2 := Keeps.put (r := ⟨t_impl_Tree, [e0', e1', e2', e3', e4'], 5, (0, 0)⟩) hb2
  have p2 := PT.new (ety := t_impl_Tree) (c := 5) (mono_rt _ _ _ _ _ k1.le h0') hb1 hb2
  have p1' := p1.mono k2.le
  have K2 := k1.trans k2
  generalize hs : Vw.put _ b _ = s at k2 p2 p1' K2
  clear hs
  have no : ¬ ((treeOk n x = true ∧ treeOk m y = true) ∧ trailOk ms = true) → R (.int .i64 0) s := fun hno => by
    have := hR s K2
    rw [belowX, if_neg hno] at this; exact this
  refine PT.load p1' fun g hg => ?_
  refine impl_TreeOk hg hb (pNotIf.2 ⟨fun hno => no (by rw [hno]; simp), fun hok => ?_⟩)
  refine PT.load p2 fun g' hg' => ?_
  refine impl_TreeOk hg' hb' (pNotIf.2 ⟨fun hno => no (by rw [hno]; simp), fun hok' => ?_⟩)
  have hvs := hv.mono K2.le fun _ _ => mono_mk K2.le
  refine impl_TrailOk hvs (pNotIf.2 ⟨fun hno => no (by rw [hno]; simp), fun hmk => ?_⟩)
  obtain ⟨d1, x1, c1⟩ := ok_fineT hok
  obtain ⟨d2, x2, c2⟩ := ok_fineT hok'
  have hl := hv.le
  have hm6 := (trail_TrP hmk).2.1
  have P1 := PT_of d1 p1'
  have P2 := PT_of d2 p2
  rw [hvs.len]
  refine loop_rule (m := ms.length) (fun c l st => ∃ j : Nat, c + j = ms.length ∧ Keeps s st ∧
      l = [.pointer (some ⟨a, 0, none⟩), .pointer (some ⟨b, 0, none⟩), .int .i64 (belowM x y (ms.take j) : Nat), v, .int .i64 (ms.length : Nat), .int .i64 (j : Nat)]) ?_
    ⟨0, by omega, Keeps.refl _, by simp [belowM, sumBy]⟩
  rintro c l st L ⟨j, hcj, ks, rfl⟩ hL
  simp only [vget, List.getD_cons_zero, List.getD_cons_succ]
  rw [pBin_lt, pIf_d]
  refine ⟨fun hj => ?_, fun hj => ?_⟩
  · have hmj := List.getElem?_eq_getElem (show j < ms.length by omega)
    generalize ms[j]'(by omega) = mk at hmj
    have hbt := below_take (ms := ms) x1 x2 c1 c2 (j + 1)
    have hst := below_step (x := x) (y := y) hmj
    rw [hst] at hbt
    refine RSl.at (hvs.mono ks.le fun _ _ => mono_mk ks.le) hmj fun g hg => ?_
    obtain ⟨uu, hgu, ru⟩ := hg
    simp only [expl, List.cons.injEq, and_true] at hgu
    rw [hgu.1, hgu.2, pVal_2 ru.one rfl, pIf_b]
    refine ⟨fun hsub => ?_, fun hsub => ?_⟩
    · rw [if_pos hsub] at hst hbt
      refine impl_at (n := 4) (P1.mono ks.le) (short_wf _ _ x1.1) ru fun qa hqa => ?_
      refine impl_at (n := 4) (P2.mono ks.le) (short_wf _ _ x2.1) ru fun qb hqb => ?_
      refine impl_both 5 hqa hqb (at_fineO x1 mk.1) (at_fineO x2 mk.1) fun s3 k3 => ?_
      rw [pBin_add (by omega), pBin_add (by omega)]
      refine hL _ _ (c - 1) (by omega) ⟨j + 1, by omega, ks.trans k3, ?_⟩
      rw [hst]; simp
    · rw [pBin_add (by omega)]
      refine hL _ _ (c - 1) (by omega) ⟨j + 1, by omega, ks, ?_⟩
      rw [hst, if_neg (by rw [hsub]; simp)]; simp
  · have e : j = ms.length := by omega
    subst e
    show R (.int .i64 (belowM x y (ms.take ms.length) : Nat)) st
    rw [List.take_length]
    have := hR st (K2.trans ks)
    rw [belowX, if_pos ⟨⟨hok, hok'⟩, hmk⟩] at this
    exact this

/-- What the laws that take two trees and a trail have in common. -/
theorem law_TrailBelow {n m : Nat} {es es' : List Value} {v : Value} {x y : Tr} {ms : List Mk} (h : RT n (Av.get w0 σ) es x) (h' : RT m (Av.get w0 σ) es' y) (hv : RSl 2 RMk (Av.get w0 σ) v ms) {R : Value → Vw → Prop} (hR : ∀ σ', R (.bool true) σ') :
    AC Try.prog w0 n_laws_FnExactTrailBelow [.agg ⟨es⟩, .agg ⟨es'⟩, v] σ R := by
  have h0 := h
  have h0' := h'
  obtain ⟨e0, e1, e2, e3, e4, rfl, _, hpv⟩ := RT.five h
  obtain ⟨e0', e1', e2', e3', e4', rfl, _, hpv'⟩ := RT.five h'
  refine ac_laws_FnExactTrailBelow ?_
  unfold vc_laws_FnExactTrailBelow
  rw [hpv, hpv']
  simp only [cellOf_agg, List.getD_cons_zero, List.getD_cons_succ]
  refine szTree n h0 (by omega) ?_
  rw [pBin_lt, pIf_d]
  refine ⟨fun _ => hR _, fun hlow => ?_⟩
  rw [Av.left_neg] at hlow
  rw [Av.left_in (by omega)]
  refine szTree m h0' (by omega) ?_
  rw [pBin_lt, pIf_d]
  refine ⟨fun _ => hR _, fun hlow' => ?_⟩
  rw [Av.left_neg] at hlow'
  rw [Av.left_in (by omega)]
  refine szMarkS hv (by omega) ?_
  rw [pBin_lt, pIf_d]
  refine ⟨fun _ => hR _, fun hb2 => ?_⟩
  rw [Av.left_neg] at hb2
  have hsz : szT n x ≤ 1048576 := by omega
  have hsz' : szT m y ≤ 1048576 := by omega
  have hfit := fit_of n x (by omega)
  have hfit' := fit_of m y (by omega)
  have hcnt : cntT n x ≤ 1000000000000 := Nat.le_trans (cnt_le n x) (by omega)
  have hcnt' : cntT m y ≤ 1000000000000 := Nat.le_trans (cnt_le m y) (by omega)
  have hlen : ms.length ≤ 1000000000000 := by omega
  have heach : ∀ x, x ∈ ms → x.1.length ≤ 1000000000000 := fun x hx => by
    have := sumBy_mem (f := szMk) hx
    unfold szMk at this hb2
    omega
  have ok := ok_rt w0 n
  have ok' := ok_rt w0 m
  have okm := ok_mk w0
  refine toTree n h0 hfit fun es1 F1 s1 k1 o1 f1 => ?_
  refine toTree m (mono_rt m _ _ _ _ k1.le h0') hfit' fun es1' F1' s2 k2 o1' f1' => ?_
  have K2 := k1.trans k2
  refine toMarkS (hv.mono K2.le fun _ _ => mono_mk K2.le) hlen heach fun v1 G1 s3 k3 p1 g1 => ?_
  have K3 := K2.trans k3
  refine spec_TrailBelow (mono_rt n _ _ _ _ (k2.trans k3).le (ok.rel _ _ _ _ o1)) (mono_rt m _ _ _ _ k3.le (ok'.rel _ _ _ _ o1')) (p1.rel okm) hcnt hcnt' fun s4 k4 => ?_
  have K4 := K3.trans k4
  refine toTree n (mono_rt n _ _ _ _ K4.le h0) hfit fun es2 F2 s5 k5 o2 f2 => ?_
  have r2 := ok.rel _ _ _ _ o2
  obtain ⟨a2, b2, c2, d2, g2, rfl, q2, hp2⟩ := RT.five r2
  rw [hp2]
  simp only [cellOf_agg, List.getD_cons_zero, List.getD_cons_succ]
  have K5 := K4.trans k5
  refine toTree m (mono_rt m _ _ _ _ K5.le h0') hfit' fun es2' F2' s6 k6 o2' f2' => ?_
  have r2' := ok'.rel _ _ _ _ o2'
  obtain ⟨a2', b2', c2', d2', g2', rfl, q2', hp2'⟩ := RT.five r2'
  rw [hp2']
  simp only [cellOf_agg, List.getD_cons_zero, List.getD_cons_succ]
  have K6 := K5.trans k6
  refine toMarkS (hv.mono K6.le fun _ _ => mono_mk K6.le) hlen heach fun v2 G2 s7 k7 p2 g2 => ?_
  have K7 := K6.trans k7
  refine impl_TrailBelow (mono_rt n _ _ _ _ (k6.trans k7).le r2) (mono_rt m _ _ _ _ k7.le r2') (p2.rel okm) hcnt hcnt' fun s8 k8 => ?_
  have K8 := K7.trans k8
  rw [pBin_ne, pIf_d]
  refine ⟨fun h => absurd rfl h, fun _ => ?_⟩
  refine toTree n (mono_rt n _ _ _ _ K8.le h0) hfit fun es3 F3 s9 k9 o3 f3 => ?_
  refine eqTree n (mono_rt n _ _ _ _ (((k6.trans k7).trans k8).trans k9).le r2) (ok.rel _ _ _ _ o3) ?_
  rw [pUn_not, pIf_b]
  refine ⟨fun h => by simp at h, fun _ => ?_⟩
  have K9 := K8.trans k9
  refine toTree m (mono_rt m _ _ _ _ K9.le h0') hfit' fun es3' F3' s10 k10 o3' f3' => ?_
  refine eqTree m (mono_rt m _ _ _ _ (((k7.trans k8).trans k9).trans k10).le r2') (ok'.rel _ _ _ _ o3') ?_
  rw [pUn_not, pIf_b]
  refine ⟨fun h => by simp at h, fun _ => ?_⟩
  have K10 := K9.trans k10
  refine toMarkS (hv.mono K10.le fun _ _ => mono_mk K10.le) hlen heach fun v3 G3 s11 k11 p3 g3 => ?_
  have kk := ((k8.trans k9).trans k10).trans k11
  refine eqMarkS ((p2.rel okm).mono kk.le fun _ _ => mono_mk kk.le) (p3.rel okm) ?_
  rw [pUn_not, pIf_b]
  exact ⟨fun h => by simp at h, fun _ => hR _⟩
end
end Go.Proofs.Ytkbhjejalkbogaa

/- The law FnExactTrailBelow holds: it returns true, and the input reads as it did. No condition. -/
namespace Go.Proofs.Ytkbhjejalkbogaa.fnExactTrailBelow
open Go.ChangeShapes Go.WideShapes Go.ChangeAt Go.RowKit Go.Av
set_option linter.unusedVariables false
set_option linter.unusedSimpArgs false
theorem own : ownKnob Try.prog.godebug = none := by kernel_rfl
theorem laidOut : laidOutB Try.prog = true := by kernel_rfl
set_option maxRecDepth 100000 in
theorem lifted (os : Os) (started : os.Started) (H : Type) (enc : TypeId × Value → H) :
    ReturnsInHanded {} Try.checked os 4 .any (Rows.fnExactTrailBelowSpec.pre6 enc Try.prog Try.f4 Rows.fnExactTrailBelowRow.domain false) (Rows.fnExactTrailBelowSpec.post enc Try.prog Try.f4 false true false false) := by
  refine returnsInHanded_of_change_sized (C := Try.checked) own started (by kernel_rfl) Try.func4
    (ChangeSpec.witness6 (enc := enc) (C := Try.checked) false ⟨#[], #[.agg #[.bool false, .int .i64 0, .string ⟨#[]⟩, .slice none 0 0, .slice none 0 0], .agg #[.bool false, .int .i64 0, .string ⟨#[]⟩, .slice none 0 0, .slice none 0 0], .slice none 0 0], []⟩ 8 (by kernel_rfl) (by kernel_rfl) (by kernel_rfl) (by kernel_rfl)) ?_
  intro W base args ds gs before hval0 hW hcnd hsz0 _
  have hval : ∀ (j : Nat) t v, Try.f4.params[j]? = some t → args[j]? = some v → Value.okWide Try.prog W .any base t v := hval0
  have hW' := hW
  obtain ⟨p, q, hA0, hV, rfl, hfz, hnd⟩ := hW
  have hA : DataW.TrodAll enc Try.prog W 0 (fun _ => true) true Try.f4.params.toList args.toList ds p := hA0
  rw [Try.params4] at hA hval
  obtain ⟨v0, v1, v2, d0, d1, d2, p0, p1, p2, rfl, rfl, hpp, h0, h1, h2⟩ := trodAll_three hA
  obtain ⟨rfl, rfl⟩ := trodVars_none hV
  have hT0 : Try.prog.underlying 46 = some (.struct (fsOf Try.prog 46)) := by kernel_rfl
  obtain ⟨c0, rfl, hc0⟩ := okWide_struct hT0 (hval 0 46 v0 rfl rfl)
  have hT1 : Try.prog.underlying 46 = some (.struct (fsOf Try.prog 46)) := by kernel_rfl
  obtain ⟨c1, rfl, hc1⟩ := okWide_struct hT1 (hval 1 46 v1 rfl rfl)
  obtain ⟨A2, len2, cap2, rfl⟩ := okWide_slice (t := 47) (e := 79) (by kernel_rfl) (hval 2 47 v2 rfl rfl)
  have h0k := h0
  obtain ⟨fuel0, hf0⟩ := h0
  have h1k := h1
  obtain ⟨fuel1, hf1⟩ := h1
  have h2k := h2
  obtain ⟨fuel2, hf2⟩ := h2
  clear hA0 hval0 hsz0
  simp only [List.append_nil] at hW'
  have hlt : ∀ x ∈ p, x.block < W.heap.size := fun x hx => by simpa using hW'.lt x hx
  have hargs0 : ∀ (W' : World), Below W.heap.size W W' → DataW.Trod enc Try.prog W' 0 (fun b => decide (b < W.heap.size)) true 46 (.agg c0) d0 p0 :=
    fun W' hn => Below.trod laidOut (by kernel_rfl) (of_decide_eq_true (by kernel_rfl)) h0k hn (fun x hx => hlt x (by rw [hpp]; simp [hx]))
  have hargs1 : ∀ (W' : World), Below W.heap.size W W' → DataW.Trod enc Try.prog W' 0 (fun b => decide (b < W.heap.size)) true 46 (.agg c1) d1 p1 :=
    fun W' hn => Below.trod laidOut (by kernel_rfl) (of_decide_eq_true (by kernel_rfl)) h1k hn (fun x hx => hlt x (by rw [hpp]; simp [hx]))
  have hargs2 : ∀ (W' : World), Below W.heap.size W W' → DataW.Trod enc Try.prog W' 0 (fun b => decide (b < W.heap.size)) true 47 (.slice A2 len2 cap2) d2 p2 :=
    fun W' hn => Below.trod laidOut (by kernel_rfl) (of_decide_eq_true (by kernel_rfl)) h2k hn (fun x hx => hlt x (by rw [hpp]; simp [hx]))
  have hl0 : c0.toList.length = 5 := by rw [Array.length_toList, hc0]; kernel_rfl
  obtain ⟨x0, r0⟩ := open_tree fuel0 c0.toList _ hf0 hl0
  have hl1 : c1.toList.length = 5 := by rw [Array.length_toList, hc1]; kernel_rfl
  obtain ⟨x1, r1⟩ := open_tree fuel1 c1.toList _ hf1 hl1
  obtain ⟨u2, x2, hu2, r2⟩ := open_rsl (t := t_s_laws_Mark) (e := t_laws_Mark) (by kernel_rfl) (by kernel_rfl) open_mk hf2
  have hu2' : u2 = .slice A2 len2 cap2 := by
    have : [Value.slice A2 len2 cap2] = [u2] := hu2
    cases this; rfl
  subst hu2'
  refine ((law_TrailBelow (R := fun v _ => v = .bool true) r0 r1 r2 (by intros; rfl)).calls).mono fun e W' ⟨v, σ', he, hv, bel⟩ => ?_
  subst he hv
  have hW'' := hW'
  rw [hpp] at hW''
  simp only [List.append_assoc] at hW''
  exact ⟨_, rfl, _, _, _, [], _, [], hW'', trodAll_mk1 (shut_bool Try.underlying4 _), trodAll_mk3 (hargs0 W' bel) (hargs1 W' bel) (hargs2 W' bel), rfl, bel.frame _, fun h => by cases h⟩
theorem over : Rows.fnExactTrailBelowRow.holds Try.pinned (OpenSpec.ofChange Rows.fnExactTrailBelowSpec) :=
  OpenClaim.holds_of_wide 4 Try.f4 rfl rfl rfl rfl rfl rfl rfl ⟨rfl, rfl, rfl, rfl, rfl⟩ rfl rfl rfl rfl rfl (by kernel_rfl) Try.func4 (by kernel_rfl)
    (of_decide_eq_true (by kernel_rfl)) (by unfold Func.isWrapper; first | (rw [if_pos (by decide +kernel)]; kernel_rfl) | (rw [if_neg (by decide +kernel)]; exact ⟨rfl, rfl⟩))
    (fun os started H enc _ => lifted os started H enc)
theorem proved : Rows.FnExactTrailBelowSaid := over
end Go.Proofs.Ytkbhjejalkbogaa.fnExactTrailBelow
namespace Go.Proofs.Ytkbhjejalkbogaa
/-- The row, under a short name, for the claim. -/
theorem fnExactTrailBelow_holds : Rows.FnExactTrailBelowSaid := fnExactTrailBelow.proved
end Go.Proofs.Ytkbhjejalkbogaa
