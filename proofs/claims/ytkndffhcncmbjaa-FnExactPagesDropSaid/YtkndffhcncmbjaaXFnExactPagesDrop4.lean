/- The law FnExactPagesDrop holds: it returns true, and the input reads as it did. No condition. This is part 4 of 4 of its proof. -/
import Derived.Test.YtkndffhcncmbjaaXFnExactPagesDrop3
import Derived.Test.YtkndffhcncmbjaaRows
import Derived.WalkKit
import Derived.ProofKit
import Derived.OpenShut
import Derived.ShutString
import Derived.ChangeOld
import Derived.Below
import Derived.Carry
import Derived.SizedLaws

/- The law 'TrailOk', of the functions alone. -/
set_option linter.unusedVariables false
set_option linter.unusedSimpArgs false
namespace Go.Proofs.Ytkndffhcncmbjaa
open Go Go.Av

section
variable {w0 : World} {σ : Vw}

theorem sumBy_mem {α : Type} {f : α → Nat} : ∀ {xs : List α} {x : α}, x ∈ xs → f x ≤ sumBy f xs
  | a :: r, x, h => by
    simp only [sumBy]
    rcases List.mem_cons.1 h with e | e
    · subst e; omega
    · have := sumBy_mem (f := f) e; omega

end
end Go.Proofs.Ytkndffhcncmbjaa

/- Trees: what is read of one; their size, their copy, their comparison. -/
set_option linter.unusedVariables false
set_option linter.unusedSimpArgs false
namespace Go.Proofs.Ytkndffhcncmbjaa
open Go Go.Av

inductive Tr where
  | mk (dir : Bool) (mode : Int) (text : ByteArray) (names : List ByteArray) (kids : List Tr)
noncomputable instance : DecidableEq Tr := fun _ _ => Classical.propDecidable _

/-- What is read: n bounds the depth. -/
def RT : Nat → (Addr → Option Value) → List Value → Tr → Prop
  | 0, _, _, _ => False
  | n + 1, rd, es, .mk d m t ns ks => ∃ u w, es = [.bool d, .int .i64 m, .string t, u, w] ∧ (-9223372036854775808 ≤ m ∧ m ≤ 9223372036854775807) ∧ t.size ≤ 9223372036854775807 ∧ RSl 1 RS rd u ns ∧ RSl 5 (RT n) rd w ks
def OT (w0 : World) : Nat → Vw → List Nat → List Value → Tr → Prop
  | 0, _, _, _, _ => False
  | n + 1, σ, F, es, .mk d m t ns ks => ∃ u w F1 F2, es = [.bool d, .int .i64 m, .string t, u, w] ∧ (-9223372036854775808 ≤ m ∧ m ≤ 9223372036854775807) ∧ t.size ≤ 9223372036854775807 ∧ OStrs w0 σ F1 u ns ∧ OSl w0 5 (OT w0 n) σ F2 w ks ∧ F = F1 ++ F2 ∧ F.Nodup
def szT : Nat → Tr → Nat
  | 0, _ => 0
  | n + 1, .mk d m t ns ks => t.size + (ns.length + sumS ns) + (ks.length + sumBy (szT n) ks)

theorem mono_rt : ∀ (n : Nat) (rd rd' : Addr → Option Value) (es : List Value) (x : Tr), Le rd rd' → RT n rd es x → RT n rd' es x
  | 0, _, _, _, _, _, h => h
  | n + 1, rd, rd', es, .mk d m t ns ks, hl, h => by
    obtain ⟨u, w, h1, h2, h3, h4, h5⟩ := h
    exact ⟨u, w, h1, h2, h3, h4.mono hl fun _ _ h => h, h5.mono hl fun es x => mono_rt n _ _ es x hl⟩

section
variable {w0 : World} {σ : Vw}

theorem ok_rt (w0 : World) : ∀ n, OOk w0 5 (RT n) (OT w0 n)
  | 0 => ⟨fun _ _ _ _ h => h.elim, fun _ _ _ _ _ h => h.elim, fun _ _ _ _ h => h.elim, fun _ _ _ _ h => h.elim, fun _ _ _ _ h => h.elim, fun _ _ _ _ h => h.elim⟩
  | n + 1 => by
    have ih := ok_rt w0 n
    refine ⟨?_, ?_, ?_, ?_, ?_, ?_⟩
    · rintro σ F es ⟨d, m, t, ns, ks⟩ ⟨u, w, F1, F2, h1, h2, h3, h4, h5, h6, h7⟩
      exact ⟨u, w, h1, h2, h3, h4.rel (ok_str w0), h5.rel ih⟩
    · rintro σ σ' F es ⟨d, m, t, ns, ks⟩ ⟨u, w, F1, F2, h1, h2, h3, h4, h5, h6, h7⟩ hF
      subst h6
      exact ⟨u, w, F1, F2, h1, h2, h3, h4.frame (ok_str w0) fun b hb => hF b (List.mem_append_left _ hb), h5.frame ih fun b hb => hF b (List.mem_append_right _ hb), rfl, h7⟩
    · rintro σ F es ⟨d, m, t, ns, ks⟩ ⟨u, w, F1, F2, h1, h2, h3, h4, h5, h6, h7⟩ b hb
      subst h6
      rcases List.mem_append.1 hb with h | h
      · exact h4.dom (ok_str w0) b h
      · exact h5.dom ih b h
    · rintro σ F es ⟨d, m, t, ns, ks⟩ ⟨u, w, F1, F2, h1, h2, h3, h4, h5, h6, h7⟩; exact h7
    · rintro σ F es ⟨d, m, t, ns, ks⟩ ⟨u, w, F1, F2, rfl, h2, h3, h4, h5, h6, h7⟩; rfl
    · rintro σ F es ⟨d, m, t, ns, ks⟩ ⟨u, w, F1, F2, rfl, h2, h3, h4, h5, h6, h7⟩ c hc
      simp at hc
      rcases hc with rfl | rfl | rfl | rfl | rfl
      · rfl
      · rfl
      · rfl
      · exact OSl.one' h4
      · exact OSl.one' h5

theorem pVal_5 {a b c d e : Value} {A : Prop} (h1 : a.oneCell' = true) (h2 : b.oneCell' = true) (h3 : c.oneCell' = true) (h4 : d.oneCell' = true) (h5 : e.oneCell' = true) : pVal true 5 (.agg ⟨[a, b, c, d, e]⟩) A ↔ A := pValN rfl (by simp [h1, h2, h3, h4, h5])

end
end Go.Proofs.Ytkndffhcncmbjaa

/- Trees: their copy, their comparison. -/
set_option linter.unusedVariables false
set_option linter.unusedSimpArgs false
namespace Go.Proofs.Ytkndffhcncmbjaa
open Go Go.Av

section
variable {w0 : World}

/-- No list in it is too long. -/
def fitT : Nat → Tr → Prop
  | 0, _ => True
  | n + 1, .mk d m t ns ks => ns.length ≤ 1000000000000 ∧ ks.length ≤ 1000000000000 ∧ ∀ k, k ∈ ks → fitT n k
theorem fit_of : ∀ (n : Nat) (x : Tr), szT n x ≤ 1000000000000 → fitT n x
  | 0, _, _ => trivial
  | n + 1, .mk d m t ns ks, h => by
    simp only [szT] at h
    refine ⟨by omega, by omega, fun k hk => fit_of n k ?_⟩
    have := sumBy_mem (f := szT n) hk
    omega

end
end Go.Proofs.Ytkndffhcncmbjaa

/- Trees: when one is sound. -/
set_option linter.unusedVariables false
set_option linter.unusedSimpArgs false
namespace Go.Proofs.Ytkndffhcncmbjaa
open Go Go.Av

def prevLt (ns : List ByteArray) (j : Nat) (x : ByteArray) : Bool :=
  match j with
  | 0 => true
  | i + 1 => match ns[i]? with
    | some y => strLt y x
    | none => true
noncomputable def nameAt (ns : List ByteArray) (j : Nat) (x : ByteArray) : Bool := nameOk x && prevLt ns j x
def namesP (ns : List ByteArray) : Prop := ∀ (j : Nat) (x : ByteArray), ns[j]? = some x → nameAt ns j x = true
open Classical in
noncomputable def plainB : Tr → Bool
  | .mk d m t ns ks => inB m 0 7 && (decide (ns.length = ks.length) && (if d = true then decide (namesP ns) && decide (t = ⟨#[]⟩) else decide (t.size ≤ 24) && decide (ns.length = 0)))
def allB {α : Type} (p : α → Bool) : List α → Bool
  | [] => true
  | a :: r => p a && allB p r
theorem allB_iff {α : Type} {p : α → Bool} {xs : List α} : allB p xs = true ↔ ∀ (j : Nat) (x : α), xs[j]? = some x → p x = true := by
  induction xs with
  | nil => simp [allB]
  | cons a r ih =>
    simp only [allB, Bool.and_eq_true, ih]
    constructor
    · rintro ⟨h1, h2⟩ j x hj
      cases j with
      | zero => simp at hj; subst hj; exact h1
      | succ j => exact h2 j x (by simpa using hj)
    · intro h
      exact ⟨h 0 a rfl, fun j x hj => h (j + 1) x (by simpa using hj)⟩
theorem allB_bad {α : Type} {p : α → Bool} {xs : List α} {j : Nat} {x : α} (hj : xs[j]? = some x) (h : p x = false) : allB p xs = false := by
  cases hc : allB p xs with
  | false => rfl
  | true => have := allB_iff.1 hc j x hj; rw [h] at this; cases this
noncomputable def soundB : Nat → Tr → Int → Bool
  | 0, _, _ => false
  | n + 1, .mk d m t ns ks, k => plainB (.mk d m t ns ks) && (decide (k ≤ 4) && allB (fun x => soundB n x (k + 1)) ks)

section
variable {w0 : World} {σ : Vw}

theorem pBin_sge {P : Program} {T : Nat} {a b : ByteArray} {K : Value → Prop} : pBin P T .geq (.string a) (.string b) K ↔ K (.bool (!strLt a b)) := pBin_s rfl

end
end Go.Proofs.Ytkndffhcncmbjaa

/- Pages: when they are ok, by either reading, and that both say the same. -/
set_option linter.unusedVariables false
set_option linter.unusedSimpArgs false
namespace Go.Proofs.Ytkndffhcncmbjaa
open Go Go.Av

def prevN (ns : List Pn) (j : Nat) (n : Pn) : Bool :=
  match j with
  | 0 => true
  | i + 1 => match ns[i]? with
    | some y => strLt y.name n.name
    | none => true
/-- A name is in its place. -/
def pnAt (ns : List Pn) (j : Nat) (n : Pn) : Prop := nameOk n.name = true ∧ prevN ns j n = true ∧ inB n.size 0 3000 = true
/-- All pages of the first names. -/
noncomputable def lsOf (c : Pn → Option (List Nat)) (ns : List Pn) : List Nat := (ns.map fun n => (c n).getD []).flatten
def OkS (x : Pgs) : Prop := x.1.length = 96 ∧ x.2.length ≤ 16 ∧ (∀ (j : Nat) (n : Pn), x.2[j]? = some n → pnAt x.2 j n ∧ -1 ≤ n.first ∧ (chS x.1 n).isSome = true) ∧ (lsOf (chS x.1) x.2).Nodup ∧
  ∀ (i : Nat) (p : Pg), x.1[i]? = some p → (p.used = true ↔ i ∈ lsOf (chS x.1) x.2) ∧ (p.used = false → p.data = ⟨#[]⟩ ∧ p.next = -1) ∧ -1 ≤ p.next
def OkI (x : Pgs) : Prop := x.1.length = 96 ∧ x.2.length ≤ 16 ∧ (∀ (j : Nat) (n : Pn), x.2[j]? = some n → pnAt x.2 j n ∧ (chI x.1 n).isSome = true) ∧ (lsOf (chI x.1) x.2).Nodup ∧
  ∀ (i : Nat) (p : Pg), x.1[i]? = some p → i ∉ lsOf (chI x.1) x.2 → p.used = false ∧ p.data = ⟨#[]⟩ ∧ p.next = -1
open Classical in
noncomputable def pagesOk (x : Pgs) : Bool := decide (OkS x)

theorem ch_used {e : Int → Prop} {ps : List Pg} : ∀ {r : List Nat} {a l : Int}, Ch e ps r a l → ∀ i, i ∈ r → ∃ p, ps[i]? = some p ∧ p.used = true
  | [], _, _, _, i, hi => by cases hi
  | j :: r, a, l, h, i, hi => by
    obtain ⟨h1, h2, p, h3, h4, h5, h6⟩ := h
    rcases List.mem_cons.1 hi with e | e
    · rw [e]; exact ⟨p, h3, h4⟩
    · exact ch_used h6 i e
/-- What follows in a chain that ends with -1. -/
theorem ch_next {ps : List Pg} : ∀ {r : List Nat} {a l : Int}, Ch (fun a => a = -1) ps r a l → -1 ≤ a ∧ ∀ i, i ∈ r → ∀ p, ps[i]? = some p → -1 ≤ p.next
  | [], a, _, h => ⟨by have : a = -1 := h.1; omega, fun i hi => by cases hi⟩
  | j :: r, a, l, h => by
    obtain ⟨h1, h2, p, h3, h4, h5, h6⟩ := h
    have := ch_next h6
    refine ⟨by omega, fun i hi q hq => ?_⟩
    rcases List.mem_cons.1 hi with e | e
    · rw [e, h3] at hq; cases hq; exact this.1
    · exact this.2 i e q hq
theorem ch_weak {ps : List Pg} : ∀ {r : List Nat} {a l : Int}, Ch (fun a => a = -1) ps r a l → Ch (fun a => a < 0) ps r a l
  | [], a, _, h => ⟨by have : a = -1 := h.1; omega, h.2⟩
  | j :: r, a, l, h => by
    obtain ⟨h1, h2, p, h3, h4, h5, h6⟩ := h
    exact ⟨h1, h2, p, h3, h4, h5, ch_weak h6⟩
theorem ch_strong {ps : List Pg} (hp : ∀ (i : Nat) (p : Pg), ps[i]? = some p → -1 ≤ p.next) : ∀ {r : List Nat} {a l : Int}, -1 ≤ a → Ch (fun a => a < 0) ps r a l → Ch (fun a => a = -1) ps r a l
  | [], a, _, ha, h => ⟨by have : a < 0 := h.1; show a = -1; omega, h.2⟩
  | j :: r, a, l, ha, h => by
    obtain ⟨h1, h2, p, h3, h4, h5, h6⟩ := h
    exact ⟨h1, h2, p, h3, h4, h5, ch_strong hp (hp j p h3) h6⟩

theorem chS_of_chI {ps : List Pg} {n : Pn} {r : List Nat} (h : chI ps n = some r) : chS ps n = some r := by
  obtain ⟨h1, h2⟩ := chOf_spec h
  exact chOf_some (fun a h => h) (ch_weak h1) trivial

theorem lsOf_mem {c : Pn → Option (List Nat)} {ns : List Pn} {i : Nat} : i ∈ lsOf c ns ↔ ∃ n, n ∈ ns ∧ ∃ r, c n = some r ∧ i ∈ r := by
  unfold lsOf
  rw [List.mem_flatten]
  constructor
  · rintro ⟨l, hl, hi⟩
    obtain ⟨n, hn, rfl⟩ := List.mem_map.1 hl
    cases hc : c n with
    | none => rw [hc] at hi; simp at hi
    | some r => rw [hc] at hi; exact ⟨n, hn, r, hc, hi⟩
  · rintro ⟨n, hn, r, hc, hi⟩
    exact ⟨r, List.mem_map.2 ⟨n, hn, by rw [hc]; rfl⟩, hi⟩
theorem lsOf_congr {c d : Pn → Option (List Nat)} {ns : List Pn} (h : ∀ n, n ∈ ns → c n = d n) : lsOf c ns = lsOf d ns := by
  unfold lsOf
  congr 1
  exact List.map_congr_left fun n hn => by rw [h n hn]

theorem ok_same (x : Pgs) : OkS x ↔ OkI x := by
  constructor
  · rintro ⟨h1, h2, h3, h4, h5⟩
    have e : ∀ n, n ∈ x.2 → chI x.1 n = chS x.1 n := fun n hn => by
      obtain ⟨j, hj⟩ := List.getElem?_of_mem hn
      obtain ⟨_, h6, h7⟩ := h3 j n hj
      obtain ⟨r, hr⟩ := Option.isSome_iff_exists.1 h7
      rw [hr]
      refine chOf_some (fun a (h : a = -1) => by omega) (ch_strong (fun i p hp => (h5 i p hp).2.2) h6 (chOf_spec hr).1) ?_
      have hs : List.Sublist ((chS x.1 n).getD []) (lsOf (chS x.1) x.2) := by
        unfold lsOf
        exact List.sublist_flatten_of_mem (List.mem_map.2 ⟨n, hn, rfl⟩)
      rw [hr] at hs
      exact hs.nodup h4
    have el := lsOf_congr e
    refine ⟨h1, h2, fun j n hj => ⟨(h3 j n hj).1, by rw [e n (List.mem_of_getElem? hj)]; exact (h3 j n hj).2.2⟩, by rw [el]; exact h4, fun i p hp hi => ?_⟩
    rw [el] at hi
    obtain ⟨g1, g2, g3⟩ := h5 i p hp
    have hu : p.used = false := by
      cases hc : p.used with
      | false => rfl
      | true => exact absurd (g1.1 hc) hi
    exact ⟨hu, g2 hu⟩
  · rintro ⟨h1, h2, h3, h4, h5⟩
    have e : ∀ n, n ∈ x.2 → chS x.1 n = chI x.1 n := fun n hn => by
      obtain ⟨j, hj⟩ := List.getElem?_of_mem hn
      obtain ⟨r, hr⟩ := Option.isSome_iff_exists.1 (h3 j n hj).2
      rw [chS_of_chI hr, hr]
    have el := lsOf_congr e
    refine ⟨h1, h2, fun j n hj => ?_, by rw [el]; exact h4, fun i p hp => ?_⟩
    · obtain ⟨h6, h7⟩ := h3 j n hj
      obtain ⟨r, hr⟩ := Option.isSome_iff_exists.1 h7
      exact ⟨h6, (ch_next (chOf_spec hr).1).1, by rw [e n (List.mem_of_getElem? hj)]; exact h7⟩
    · rw [el]
      by_cases hi : i ∈ lsOf (chI x.1) x.2
      · obtain ⟨n, hn, r, hr, hir⟩ := lsOf_mem.1 hi
        have hc := (chOf_spec hr).1
        obtain ⟨q, hq, hu⟩ := ch_used hc i hir
        rw [hp] at hq; cases hq
        refine ⟨⟨fun _ => hi, fun _ => hu⟩, fun h => (by rw [hu] at h; cases h), (ch_next hc).2 i hir p hp⟩
      · obtain ⟨g1, g2, g3⟩ := h5 i p hp hi
        exact ⟨⟨fun h => (by rw [g1] at h; cases h), fun h => absurd h hi⟩, fun _ => ⟨g2, g3⟩, by omega⟩

theorem lsOf_take {c : Pn → Option (List Nat)} {ns : List Pn} {j : Nat} {n : Pn} (hj : ns[j]? = some n) : lsOf c (ns.take (j + 1)) = lsOf c (ns.take j) ++ (c n).getD [] := by
  unfold lsOf
  rw [List.take_add_one, hj, Option.toList_some, List.map_append, List.flatten_append]
  simp
theorem lsOf_pre {c : Pn → Option (List Nat)} {ns : List Pn} {j : Nat} (h : (lsOf c ns).Nodup) : (lsOf c (ns.take j)).Nodup := by
  have e : lsOf c ns = lsOf c (ns.take j) ++ lsOf c (ns.drop j) := by
    unfold lsOf
    rw [← List.flatten_append, ← List.map_append, List.take_append_drop]
  rw [e] at h
  exact (List.nodup_append.1 h).1

section
variable {w0 : World} {σ : Vw}

/-- Which places are in a list. -/
def inL (m : Nat) (l : List Nat) : List Bool := (List.range m).map fun i => decide (i ∈ l)
theorem inL_get {m i : Nat} {l : List Nat} (h : i < m) : (inL m l)[i]? = some (decide (i ∈ l)) := by
  unfold inL
  rw [List.getElem?_map, List.getElem?_range h]; rfl
theorem inL_set {m i : Nat} {l : List Nat} (h : i < m) : (inL m l).set i true = inL m (l ++ [i]) := by
  apply List.ext_getElem?
  intro k
  by_cases hk : k < m
  · by_cases e : i = k
    · subst e
      rw [List.getElem?_set_self (by simp [inL, h]), inL_get h]
      simp
    · rw [List.getElem?_set_ne e, inL_get hk, inL_get hk]
      congr 1
      simp only [List.mem_append, List.mem_singleton]
      have : ¬ k = i := fun h => e h.symm
      simp [this]
  · rw [List.getElem?_eq_none (by simp [inL]; omega), List.getElem?_eq_none (by simp [inL]; omega)]

theorem bool_store {F : List Nat} {v : Value} {xs : List Bool} (h : OSl w0 1 OBo σ F v xs) {j : Nat} {x y : Bool} (hj : xs[j]? = some x) {K : Vw → Prop}
    (hK : ∀ σ', KeepsBut F σ σ' → OSl w0 1 OBo σ' F v (xs.set j y) → K σ') : pIndexAddr 1 v (.int .i64 j) fun p => pVal false 1 (.bool y) (pStore p [.bool y] σ K) := by
  obtain ⟨b, o, f, c, A, C, r, hix, hb, hr, hc, hA, hOx, hbF, hf, hput⟩ := h.focus (ok_bo w0) hj
  obtain ⟨rfl, rfl, hsz⟩ := hOx
  refine hix _ ?_
  refine elem_store hr hc hA rfl ?_
  exact hK _ (KeepsBut.put hbF) (hput _ [.bool y] y _ put_at rfl ⟨rfl, rfl, trivial⟩ fun i hi hne _ => by simp [Vw.put, hne])
theorem bool_at {v : Value} {xs : List Bool} (h : RSl 1 RBo (Av.get w0 σ) v xs) {j : Nat} {x : Bool} (hj : xs[j]? = some x) {K : (Nat → Value) → Prop} (hK : ∀ g : Nat → Value, g 0 = .bool x → K g) : pIndexAddr 1 v (.int .i64 j) fun p => pLoad w0 1 p σ K := by
  refine h.at hj fun g hg => ?_
  obtain ⟨hg, _⟩ := hg
  simp only [expl, encB, List.cons.injEq, and_true] at hg
  exact hK g hg
theorem n_at {v : Value} {xs : List Nat} (h : RSl 1 RN (Av.get w0 σ) v xs) {j : Nat} {x : Nat} (hj : xs[j]? = some x) {K : (Nat → Value) → Prop} (hK : ∀ g : Nat → Value, g 0 = .int .i64 x → K g) : pIndexAddr 1 v (.int .i64 j) fun p => pLoad w0 1 p σ K := by
  refine h.at hj fun g hg => ?_
  obtain ⟨hg, _⟩ := hg
  simp only [expl, encN, List.cons.injEq, and_true] at hg
  exact hK g hg
theorem pn_at {v : Value} {xs : List Pn} (h : RSl 3 RPn (Av.get w0 σ) v xs) {j : Nat} {x : Pn} (hj : xs[j]? = some x) {K : (Nat → Value) → Prop} (hK : ∀ g : Nat → Value, g 0 = .string x.name → g 1 = .int .i64 x.first → g 2 = .int .i64 x.size → goodPn x → K g) : pIndexAddr 3 v (.int .i64 j) fun p => pLoad w0 3 p σ K := by
  refine h.at hj fun g hg => ?_
  obtain ⟨hg, hgood⟩ := hg
  simp only [expl, encPn, List.cons.injEq, and_true] at hg
  exact hK g hg.1 hg.2.1 hg.2.2 hgood
theorem pg_at {v : Value} {xs : List Pg} (h : RSl 3 RPg (Av.get w0 σ) v xs) {j : Nat} {x : Pg} (hj : xs[j]? = some x) {K : (Nat → Value) → Prop} (hK : ∀ g : Nat → Value, g 0 = .bool x.used → g 1 = .string x.data → g 2 = .int .i64 x.next → goodPg x → K g) : pIndexAddr 3 v (.int .i64 j) fun p => pLoad w0 3 p σ K := by
  refine h.at hj fun g hg => ?_
  obtain ⟨hg, hgood⟩ := hg
  simp only [expl, encPg, List.cons.injEq, and_true] at hg
  exact hK g hg.1 hg.2.1 hg.2.2 hgood
end
end Go.Proofs.Ytkndffhcncmbjaa

/- Pages: 'PagesOk' by the reference. -/
set_option linter.unusedVariables false
set_option linter.unusedSimpArgs false
namespace Go.Proofs.Ytkndffhcncmbjaa
open Go Go.Av

section
variable {w0 : World} {σ : Vw}

theorem pagesOk_no {x : Pgs} (h : ¬ OkS x) : pagesOk x = false := by simp [pagesOk, h]
theorem pagesOk_yes {x : Pgs} (h : OkS x) : pagesOk x = true := by simp [pagesOk, h]

theorem ch_lt {e : Int → Prop} {ps : List Pg} {r : List Nat} {a l : Int} (h : Ch e ps r a l) {i : Nat} (hi : i ∈ r) : i < ps.length := by
  obtain ⟨p, hp, _⟩ := ch_used h i hi
  exact (List.getElem?_eq_some_iff.1 hp).1

/-- Bools, all false, in a row that was made. -/
theorem made_bools {b ety : Nat} (hb : w0.heap.size ≤ b) (hn : σ b = none) : OSl w0 1 OBo (σ.put b ⟨ety, (List.replicate 96 [Value.bool false]).flatten, 96, (0, 0)⟩) [b] (.slice (some ⟨b, 0, none⟩) 96 96) (inL 96 []) := by
  have hl : (inL 96 []).length = 96 := by simp [inL]
  refine ⟨by omega, by simp, .inr ⟨b, 0, 96, _, [], [], List.replicate 96 [.bool false], List.replicate 96 [], by rw [hl], by omega, hb, put_at, by simp, rfl, by rw [hl]; simp, by rw [hl]; simp, by simp, ?_⟩⟩
  intro j c x f e1 e2 e3
  have hj : j < 96 := by rw [← hl]; exact (List.getElem?_eq_some_iff.1 e2).1
  rw [inL_get hj] at e2
  rw [List.getElem?_replicate, if_pos hj] at e1 e3
  cases e1; cases e2; cases e3
  exact ⟨rfl, by simp [encB], trivial⟩

theorem spec_PagesOk {es : List Value} {x : Pgs} (h : RPgs (Av.get w0 σ) es x) {R : Value → Vw → Prop} (hR : ∀ σ', Keeps σ σ' → R (.bool (pagesOk x)) σ') : AC Try.prog w0 n_spec_PagesOk [.agg ⟨es⟩] σ R := by
  have hh := h
  refine ac_spec_PagesOk ?_
  unfold vc_spec_PagesOk
  rw [h.two]
  obtain ⟨u, w, rfl, hu, hw⟩ := h
  simp only [cellOf_agg, List.getD_cons_zero, List.getD_cons_succ]
  have no : ¬ OkS x → ∀ s, Keeps σ s → R (.bool false) s := fun hn s hk => by have := hR s hk; rw [pagesOk_no hn] at this; exact this
  rw [hu.len, pBin_ne, pIf_d]
  refine ⟨fun hne => no (fun hk => hne (by rw [hk.1]; rfl)) σ (Keeps.refl σ), fun heq => ?_⟩
  have h96 : x.1.length = 96 := by omega
  rw [hw.len, pBin_gt, pIf_d]
  refine ⟨fun hgt => no (fun hk => by have := hk.2.1; omega) σ (Keeps.refl σ), fun hle => ?_⟩
  have h16 : x.2.length ≤ 16 := by omega
  refine pMake_s (m := 96) (by omega) (by omega) fun b ety h1 h2 => ?_
  have o0 := made_bools (ety := ety) h1 h2
  have hF0 : ∀ i, i ∈ [b] → σ i = none := fun i hi => by rw [List.mem_singleton.1 hi]; exact h2
  refine loop_rule (m := x.2.length) (fun c l s => ∃ j : Nat, c + j = x.2.length ∧ Keeps σ s ∧ (∀ (i : Nat) (n : Pn), i < j → x.2[i]? = some n → pnAt x.2 i n ∧ -1 ≤ n.first ∧ (chS x.1 n).isSome = true) ∧ (lsOf (chS x.1) (x.2.take j)).Nodup ∧
    OSl w0 1 OBo s [b] (.slice (some ⟨b, 0, none⟩) 96 96) (inL 96 (lsOf (chS x.1) (x.2.take j))) ∧ l = [.bool false, .slice (some ⟨b, 0, none⟩) 96 96, .int .i64 (j : Nat), u, w]) ?_
    ⟨0, by omega, Keeps.put h2, fun i n h => by omega, by simp [lsOf], by simpa [lsOf] using o0, rfl⟩
  rintro c l s L ⟨j, hc, hk, hdone, hnd, os, rfl⟩ hL
  simp only [vget, List.getD_cons_zero, List.getD_cons_succ]
  have hws := hw.mono hk.le fun _ _ h => h
  rw [hws.len, pBin_lt, pIf_d]
  refine ⟨fun hj => ?_, fun hj => ?_⟩
  · have hx := List.getElem?_eq_getElem (show j < x.2.length by omega)
    generalize hxj : x.2[j]'(by omega) = n at hx
    refine pn_at hws hx fun g hg0 hg1 hg2 hgood => ?_
    rw [hg0, hg1, hg2, pVal_3 rfl rfl rfl]
    refine spec_nameOk hgood.1 ?_
    rw [pUn_not, pIf_b]
    refine ⟨fun hb => no (fun hk => by have := (hk.2.2.1 j n hx).1.1; rw [this] at hb; cases hb) s hk, fun hb => ?_⟩
    have hname : nameOk n.name = true := by simpa using hb
    rw [pBin_gt, pIf_d]
    refine ⟨fun hpos => ?ca, fun h0 => ?cb⟩
    case' ca =>
      obtain ⟨i, hi⟩ : ∃ i, j = i + 1 := ⟨j - 1, by omega⟩
      rw [pBin_sub (by omega), show ((j : Nat) : Int) - 1 = (i : Nat) by omega]
      have hy := List.getElem?_eq_getElem (show i < x.2.length by omega)
      generalize hyi : x.2[i]'(by omega) = y at hy
      refine fl_at hws hy 0 (by omega) rfl fun g2 hg2' hgood2 => ?_
      have hpv : prevN x.2 j n = strLt y.name n.name := by rw [hi]; simp [prevN, hy]
      rw [hg2', pBin_sge, pIf_b]
      refine ⟨fun hb => no (fun hk => by have := (hk.2.2.1 j n hx).1.2.1; rw [hpv] at this; rw [this] at hb; cases hb) s hk, fun hb => ?_⟩
      have hprev : prevN x.2 j n = true := by rw [hpv]; simpa using hb
    case' cb =>
      have hj0 : j = 0 := by omega
      have hprev : prevN x.2 j n = true := by rw [hj0]; rfl
    all_goals
      refine spec_In ?_
      rw [pUn_not, pIf_b]
      refine ⟨fun hb => no (fun hk => by have := (hk.2.2.1 j n hx).1.2.2; rw [this] at hb; cases hb) s hk, fun hb => ?_⟩
      have hin : inB n.size 0 3000 = true := by simpa using hb
      have hin' : 0 ≤ n.size ∧ n.size ≤ 3000 := by simpa [inB] using hin
      rw [pBin_lt, pIf_d]
      refine ⟨fun hb => no (fun hk => by have := (hk.2.2.1 j n hx).2.1; omega) s hk, fun hfirst => ?_⟩
      refine spec_Chain (mono_pgs hk.le hh) hgood h96 hin' fun v F s1 k1 ov fv => ?_
      rw [pExtract_s rfl, pExtract_s rfl, pUn_not, pIf_b]
      refine ⟨fun hb => no (fun hk => by have := (hk.2.2.1 j n hx).2.2; rw [this] at hb; cases hb) s1 (hk.trans k1), fun hb => ?_⟩
      have hsome : (chS x.1 n).isSome = true := by simpa using hb
      obtain ⟨r, hr⟩ := Option.isSome_iff_exists.1 hsome
      have ov' : OSl w0 1 ON s1 F v r := by
        rcases ov with h | h
        · rw [hr] at h; exact h
        · rw [hr] at h; cases h
      have hch := (chOf_spec hr).1
      have hlt := lsOf_take (c := chS x.1) hx
      rw [hr, Option.getD_some] at hlt
      have os1 := os.frame (ok_bo w0) (k1.but_at fun i hi => (os.dom (ok_bo w0) i hi).2)
      have hFb : ∀ i, i ∈ F → i ∉ [b] := fun i hi hi' => (os.dom (ok_bo w0) i hi').2 (fv i hi)
      refine loop_rule (m := r.length) (fun c' l' s' => ∃ k : Nat, c' + k = r.length ∧ KeepsBut [b] s1 s' ∧ (lsOf (chS x.1) (x.2.take j) ++ r.take k).Nodup ∧ OSl w0 1 OBo s' [b] (.slice (some ⟨b, 0, none⟩) 96 96) (inL 96 (lsOf (chS x.1) (x.2.take j) ++ r.take k)) ∧
        l' = [.bool false, .slice (some ⟨b, 0, none⟩) 96 96, .int .i64 (j : Nat), v, .int .i64 (k : Nat), u, w]) ?_ ⟨0, by omega, KeepsBut.refl _ _, by simpa using hnd, by simpa using os1, rfl⟩
      rintro c' l' s' L' ⟨k, hc', kb, hnd', os', rfl⟩ hL'
      simp only [vget, List.getD_cons_zero, List.getD_cons_succ]
      have hks' : Keeps σ s' := kb.old (hk.trans k1) hF0
      have ov2 := ov'.frame (ok_n w0) (kb.at (fun i hi => (ov'.dom (ok_n w0) i hi).2) hFb)
      have rv := ov2.rel (ok_n w0)
      have rl := ov'.1
      rw [rv.len, pBin_lt, pIf_d]
      refine ⟨fun hkl => ?_, fun hkl => ?_⟩
      · have hrk := List.getElem?_eq_getElem (show k < r.length by omega)
        generalize hrki : r[k]'(by omega) = p at hrk
        have hp96 : p < 96 := by rw [← h96]; exact ch_lt hch (List.mem_of_getElem? hrk)
        refine n_at rv hrk fun g hg => ?_
        rw [hg]
        refine bool_at (os'.rel (ok_bo w0)) (inL_get hp96) fun g' hg' => ?_
        rw [hg', pIf_d]
        have htk : r.take (k + 1) = r.take k ++ [p] := by rw [List.take_add_one, hrk]; rfl
        refine ⟨fun hm => no (fun hk => ?_) s' hks', fun hm => ?_⟩
        · have hn2 := lsOf_pre (j := j + 1) hk.2.2.2.1
          rw [hlt] at hn2
          have e : r = r.take (k + 1) ++ r.drop (k + 1) := (List.take_append_drop _ _).symm
          rw [e, htk] at hn2
          rw [show ∀ (A B C D : List Nat), A ++ (B ++ C ++ D) = (A ++ B) ++ (C ++ D) by intros; simp] at hn2
          exact (List.nodup_append.1 hn2).2.2 p hm p (by simp) rfl
        · refine n_at rv hrk fun g hg => ?_
          rw [hg]
          refine bool_store os' (inL_get hp96) fun s2 k2 o2 => ?_
          rw [pBin_add (by omega)]
          rw [inL_set hp96, List.append_assoc, ← htk] at o2
          refine hL' _ _ (c' - 1) (by omega) ⟨k + 1, by omega, kb.trans k2, ?_, o2, rfl⟩
          rw [htk, ← List.append_assoc]
          exact List.nodup_append.2 ⟨hnd', by simp, fun a ha d hd e => by rw [List.mem_singleton.1 hd] at e; exact hm (e ▸ ha)⟩
      · have hkr : k = r.length := by omega
        subst hkr
        rw [List.take_length, ← hlt] at hnd' os'
        show pBin Try.prog 3 .add _ _ _
        rw [pBin_add (by omega)]
        refine hL _ _ (c - 1) (by omega) ⟨j + 1, by omega, hks', fun i m hi he => ?_, hnd', os', rfl⟩
        by_cases e : i = j
        · subst e
          rw [hx] at he; cases he
          exact ⟨⟨hname, hprev, hin⟩, by omega, hsome⟩
        · exact hdone i m (by omega) he
  · have hjl : j = x.2.length := by omega
    subst hjl
    rw [List.take_length] at hnd os
    show pLoop _ _ _ _
    have ob := os.rel (ok_bo w0)
    refine loop_rule (m := 96) (fun c' l' s' => ∃ k : Nat, c' + k = 96 ∧ s' = s ∧ (∀ (i : Nat) (p : Pg), i < k → x.1[i]? = some p → (p.used = true ↔ i ∈ lsOf (chS x.1) x.2) ∧ (p.used = false → p.data = ⟨#[]⟩ ∧ p.next = -1) ∧ -1 ≤ p.next) ∧
      l' = [.bool false, .slice (some ⟨b, 0, none⟩) 96 96, .int .i64 (k : Nat), u, w]) ?_ ⟨0, by omega, rfl, fun i p h => by omega, rfl⟩
    rintro c' l' s' L' ⟨k, hc', rfl, hd, rfl⟩ hL'
    simp only [vget, List.getD_cons_zero, List.getD_cons_succ]
    have hus := hu.mono hk.le fun _ _ h => h
    rw [hus.len, h96, pBin_lt, pIf_d]
    refine ⟨fun hk96 => ?_, fun hk96 => ?_⟩
    · have hx := List.getElem?_eq_getElem (show k < x.1.length by omega)
      generalize hxk : x.1[k]'(by omega) = p at hx
      refine pg_at hus hx fun g hg0 hg1 hg2 hgood => ?_
      rw [hg0, hg1, hg2, pVal_3 rfl rfl rfl]
      refine bool_at ob (inL_get (show k < 96 by omega)) fun g' hg' => ?_
      rw [hg', pBin_b (v := .bool (!(p.used == decide (k ∈ lsOf (chS x.1) x.2)))) (by kernel_rfl) rfl, pIf_b]
      refine ⟨fun hb => no (fun hk => ?_) s' (by assumption), fun hb => ?_⟩
      · have := (hk.2.2.2.2 k p hx).1
        cases hu : p.used with
        | true => rw [hu] at this hb; simp [this.1 rfl] at hb
        | false =>
          rw [hu] at this hb
          have hn : k ∉ lsOf (chS x.1) x.2 := fun h => by have := this.2 h; cases this
          simp [hn] at hb
      have hiff : p.used = true ↔ k ∈ lsOf (chS x.1) x.2 := by
        have e : p.used = decide (k ∈ lsOf (chS x.1) x.2) := by simpa using hb
        rw [e]; simp
      have next : (p.used = false → p.data = ⟨#[]⟩ ∧ p.next = -1) → pBin Try.prog 3 .lss (.int .i64 p.next) (.int .i64 (-1)) (fun v98 => pIf v98 (R (.bool false) s') (pBin Try.prog 3 .add (.int .i64 (k : Nat)) (.int .i64 1) (fun v99 => L' [.bool false, .slice (some ⟨b, 0, none⟩) 96 96, v99, u, w] s'))) := fun hz => by
        rw [pBin_lt, pIf_d]
        refine ⟨fun hlt => no (fun hk => by have := (hk.2.2.2.2 k p hx).2.2; omega) s' (by assumption), fun hge => ?_⟩
        rw [pBin_add (by omega)]
        refine hL' _ _ (c' - 1) (by omega) ⟨k + 1, by omega, rfl, fun i q hi hq => ?_, rfl⟩
        by_cases e : i = k
        · subst e; rw [hx] at hq; cases hq
          exact ⟨hiff, hz, by omega⟩
        · exact hd i q (by omega) hq
      rw [pUn_not, pIf_b]
      refine ⟨fun hb2 => ?_, fun hb2 => next fun h => by rw [h] at hb2; cases hb2⟩
      have hu0 : p.used = false := by simpa using hb2
      rw [pBin_sne, pIf_d]
      refine ⟨fun hne => no (fun hk => hne ((hk.2.2.2.2 k p hx).2.1 hu0).1) s' (by assumption), fun heq => ?_⟩
      rw [pBin_ne, pIf_d]
      refine ⟨fun hne => no (fun hk => hne ((hk.2.2.2.2 k p hx).2.1 hu0).2) s' (by assumption), fun heq2 => ?_⟩
      exact next fun _ => ⟨Decidable.not_not.1 heq, Decidable.not_not.1 heq2⟩
    · have := hR s' (by assumption)
      rw [pagesOk_yes ⟨h96, h16, fun i n he => hdone i n (List.getElem?_eq_some_iff.1 he).1 he, hnd, fun i p hp => hd i p (by have := (List.getElem?_eq_some_iff.1 hp).1; omega) hp⟩] at this
      exact this
end
end Go.Proofs.Ytkndffhcncmbjaa

/- Pages: 'PagesOk' by the program's own text; how many are free. -/
set_option linter.unusedVariables false
set_option linter.unusedSimpArgs false
namespace Go.Proofs.Ytkndffhcncmbjaa
open Go Go.Av

section
variable {w0 : World} {σ : Vw}

theorem arr_idx {b : Nat} {i : Nat} {K : Value → Prop} (h : pIndexAddr 1 (.slice (some ⟨b, 0, none⟩) 96 96) (.int .i64 i) K) : pIndexArr 96 1 (.pointer (some ⟨b, 0, none⟩)) (.int .i64 i) K := by
  obtain ⟨a, len, cap, k, n, h1, h2, h3, h4, h5⟩ := h
  cases h1; cases h2
  exact ⟨_, _, _, rfl, rfl, h3, h4, h5⟩

theorem impl_PagesOk {es : List Value} {x : Pgs} (h : RPgs (Av.get w0 σ) es x) {R : Value → Vw → Prop} (hR : ∀ σ', Keeps σ σ' → R (.bool (pagesOk x)) σ') : AC Try.prog w0 n_impl_PagesOk [.agg ⟨es⟩] σ R := by
  have hh := h
  refine ac_impl_PagesOk ?_
  unfold vc_impl_PagesOk
  rw [h.two]
  obtain ⟨u, w, rfl, hu, hw⟩ := h
  simp only [cellOf_agg, List.getD_cons_zero, List.getD_cons_succ]
  classical
  rw [show pagesOk x = decide (OkI x) by unfold pagesOk; exact decide_eq_decide.2 (ok_same x)] at hR
  have no : ¬ OkI x → ∀ s, Keeps σ s → R (.bool false) s := fun hn s hk => by have := hR s hk; simpa [hn] using this
  rw [hu.len, pBin_ne, pIf_d]
  refine ⟨fun hne => no (fun hk => hne (by rw [hk.1]; rfl)) σ (Keeps.refl σ), fun heq => ?_⟩
  have h96 : x.1.length = 96 := by omega
  rw [hw.len, pBin_gt, pIf_d]
  refine ⟨fun hgt => no (fun hk => by have := hk.2.1; omega) σ (Keeps.refl σ), fun hle => ?_⟩
  have h16 : x.2.length ≤ 16 := by omega
  intro b h1 h2
  show pVal true 96 (.agg ⟨List.replicate 96 (.bool false)⟩) (pStore _ (List.replicate 96 (.bool false)) _ _)
  rw [pValN (by simp) (fun c hc => by rw [List.eq_of_mem_replicate hc]; rfl)]
  refine ⟨b, 0, ⟨t_a96_bool, List.replicate 96 (.bool false), 96, (0, 0)⟩, rfl, put_at, by simp, ?_⟩
  have e1 := setAt_mid [] (List.replicate 96 (Value.bool false)) (List.replicate 96 (Value.bool false)) [] rfl
  simp only [List.nil_append, List.append_nil, List.length_nil] at e1
  have e2 : (σ.put b ⟨t_a96_bool, List.replicate 96 (.bool false), 96, (0, 0)⟩).put b ⟨t_a96_bool, setAt (List.replicate 96 (.bool false)) 0 (List.replicate 96 (.bool false)), 96, (0, 0)⟩ = σ.put b ⟨t_a96_bool, (List.replicate 96 [Value.bool false]).flatten, 96, (0, 0)⟩ := by
    rw [put_put, e1]; rfl
  have o0 := made_bools (ety := t_a96_bool) h1 h2
  rw [← e2] at o0
  have k0 : Keeps σ ((σ.put b ⟨t_a96_bool, List.replicate 96 (.bool false), 96, (0, 0)⟩).put b ⟨t_a96_bool, setAt (List.replicate 96 (.bool false)) 0 (List.replicate 96 (.bool false)), 96, (0, 0)⟩) := by rw [e2]; exact Keeps.put h2
  clear e1 e2
  show pLen w _
  rw [hw.len]
  have hF0 : ∀ i, i ∈ [b] → σ i = none := fun i hi => by rw [List.mem_singleton.1 hi]; exact h2
  refine loop_rule (m := x.2.length) (fun c l s => ∃ j : Nat, c + j = x.2.length ∧ Keeps σ s ∧ (∀ (i : Nat) (n : Pn), i < j → x.2[i]? = some n → pnAt x.2 i n ∧ (chI x.1 n).isSome = true) ∧ (lsOf (chI x.1) (x.2.take j)).Nodup ∧
    OSl w0 1 OBo s [b] (.slice (some ⟨b, 0, none⟩) 96 96) (inL 96 (lsOf (chI x.1) (x.2.take j))) ∧ l = [.bool false, .pointer (some ⟨b, 0, none⟩), w, .int .i64 x.2.length, .int .i64 (j : Nat), u, w]) ?_
    ⟨0, by omega, k0, fun i n h => by omega, by simp [lsOf], by simpa [lsOf] using o0, rfl⟩
  rintro c l s L ⟨j, hc, hk, hdone, hnd, os, rfl⟩ hL
  simp only [vget, List.getD_cons_zero, List.getD_cons_succ]
  have hws := hw.mono hk.le fun _ _ h => h
  rw [pBin_lt, pIf_d]
  refine ⟨fun hj => ?_, fun hj => ?_⟩
  · have hx := List.getElem?_eq_getElem (show j < x.2.length by omega)
    generalize hxj : x.2[j]'(by omega) = n at hx
    refine pn_at hws hx fun g hg0 hg1 hg2 hgood => ?_
    rw [hg0, hg1, hg2, pVal_3 rfl rfl rfl]
    refine impl_nameOk hgood.1 ?_
    rw [pUn_not, pIf_b]
    refine ⟨fun hb => no (fun hk => by have := (hk.2.2.1 j n hx).1.1; rw [this] at hb; cases hb) s hk, fun hb => ?_⟩
    have hname : nameOk n.name = true := by simpa using hb
    rw [pBin_gt, pIf_d]
    refine ⟨fun hpos => ?ca, fun h0 => ?cb⟩
    case' ca =>
      obtain ⟨i, hi⟩ : ∃ i, j = i + 1 := ⟨j - 1, by omega⟩
      rw [pBin_sub (by omega), show ((j : Nat) : Int) - 1 = (i : Nat) by omega]
      have hy := List.getElem?_eq_getElem (show i < x.2.length by omega)
      generalize hyi : x.2[i]'(by omega) = y at hy
      refine fl_at hws hy 0 (by omega) rfl fun g2 hg2' hgood2 => ?_
      have hpv : prevN x.2 j n = strLt y.name n.name := by rw [hi]; simp [prevN, hy]
      rw [hg2', pBin_sge, pIf_b]
      refine ⟨fun hb => no (fun hk => by have := (hk.2.2.1 j n hx).1.2.1; rw [hpv] at this; rw [this] at hb; cases hb) s hk, fun hb => ?_⟩
      have hprev : prevN x.2 j n = true := by rw [hpv]; simpa using hb
    case' cb =>
      have hj0 : j = 0 := by omega
      have hprev : prevN x.2 j n = true := by rw [hj0]; rfl
    all_goals
      refine impl_within ?_
      rw [pUn_not, pIf_b]
      refine ⟨fun hb => no (fun hk => by have := (hk.2.2.1 j n hx).1.2.2; rw [this] at hb; cases hb) s hk, fun hb => ?_⟩
      have hin : inB n.size 0 3000 = true := by simpa using hb
      have hin' : 0 ≤ n.size ∧ n.size ≤ 3000 := by simpa [inB] using hin
      refine impl_Chain (mono_pgs hk.le hh) hgood h96 hin' fun v F s1 k1 ov fv => ?_
      rw [pExtract_s rfl, pExtract_s rfl, pUn_not, pIf_b]
      refine ⟨fun hb => no (fun hk => by have := (hk.2.2.1 j n hx).2; rw [this] at hb; cases hb) s1 (hk.trans k1), fun hb => ?_⟩
      have hsome : (chI x.1 n).isSome = true := by simpa using hb
      obtain ⟨r, hr⟩ := Option.isSome_iff_exists.1 hsome
      have ov' : OSl w0 1 ON s1 F v r := by
        rcases ov with h | h
        · rw [hr] at h; exact h
        · rw [hr] at h; cases h
      have hch := (chOf_spec hr).1
      have hlt := lsOf_take (c := chI x.1) hx
      rw [hr, Option.getD_some] at hlt
      have os1 := os.frame (ok_bo w0) (k1.but_at fun i hi => (os.dom (ok_bo w0) i hi).2)
      have hFb : ∀ i, i ∈ F → i ∉ [b] := fun i hi hi' => (os.dom (ok_bo w0) i hi').2 (fv i hi)
      rw [(ov'.rel (ok_n w0)).len]
      refine loop_rule (m := r.length) (fun c' l' s' => ∃ k : Nat, c' + k = r.length ∧ KeepsBut [b] s1 s' ∧ (lsOf (chI x.1) (x.2.take j) ++ r.take k).Nodup ∧ OSl w0 1 OBo s' [b] (.slice (some ⟨b, 0, none⟩) 96 96) (inL 96 (lsOf (chI x.1) (x.2.take j) ++ r.take k)) ∧
        l' = [.bool false, .pointer (some ⟨b, 0, none⟩), w, .int .i64 x.2.length, .int .i64 (j : Nat), v, .int .i64 r.length, .int .i64 (k : Nat), u, w]) ?_ ⟨0, by omega, KeepsBut.refl _ _, by simpa using hnd, by simpa using os1, rfl⟩
      rintro c' l' s' L' ⟨k, hc', kb, hnd', os', rfl⟩ hL'
      simp only [vget, List.getD_cons_zero, List.getD_cons_succ]
      have hks' : Keeps σ s' := kb.old (hk.trans k1) hF0
      have ov2 := ov'.frame (ok_n w0) (kb.at (fun i hi => (ov'.dom (ok_n w0) i hi).2) hFb)
      have rv := ov2.rel (ok_n w0)
      have rl := ov'.1
      rw [pBin_lt, pIf_d]
      refine ⟨fun hkl => ?_, fun hkl => ?_⟩
      · have hrk := List.getElem?_eq_getElem (show k < r.length by omega)
        generalize hrki : r[k]'(by omega) = p at hrk
        have hp96 : p < 96 := by rw [← h96]; exact ch_lt hch (List.mem_of_getElem? hrk)
        refine n_at rv hrk fun g hg => ?_
        rw [hg]
        refine arr_idx ?_
        refine bool_at (os'.rel (ok_bo w0)) (inL_get hp96) fun g' hg' => ?_
        rw [hg', pIf_d]
        have htk : r.take (k + 1) = r.take k ++ [p] := by rw [List.take_add_one, hrk]; rfl
        refine ⟨fun hm => no (fun hk => ?_) s' hks', fun hm => ?_⟩
        · have hn2 := lsOf_pre (j := j + 1) hk.2.2.2.1
          rw [hlt] at hn2
          have e : r = r.take (k + 1) ++ r.drop (k + 1) := (List.take_append_drop _ _).symm
          rw [e, htk] at hn2
          rw [show ∀ (A B C D : List Nat), A ++ (B ++ C ++ D) = (A ++ B) ++ (C ++ D) by intros; simp] at hn2
          exact (List.nodup_append.1 hn2).2.2 p hm p (by simp) rfl
        · refine arr_idx ?_
          refine bool_store os' (inL_get hp96) fun s2 k2 o2 => ?_
          rw [pBin_add (by omega)]
          rw [inL_set hp96, List.append_assoc, ← htk] at o2
          refine hL' _ _ (c' - 1) (by omega) ⟨k + 1, by omega, kb.trans k2, ?_, o2, rfl⟩
          rw [htk, ← List.append_assoc]
          exact List.nodup_append.2 ⟨hnd', by simp, fun a ha d hd e => by rw [List.mem_singleton.1 hd] at e; exact hm (e ▸ ha)⟩
      · have hkr : k = r.length := by omega
        subst hkr
        rw [List.take_length, ← hlt] at hnd' os'
        show pBin Try.prog 3 .add _ _ _
        rw [pBin_add (by omega)]
        refine hL _ _ (c - 1) (by omega) ⟨j + 1, by omega, hks', fun i m hi he => ?_, hnd', os', rfl⟩
        by_cases e : i = j
        · subst e
          rw [hx] at he; cases he
          exact ⟨⟨hname, hprev, hin⟩, hsome⟩
        · exact hdone i m (by omega) he
  · have hjl : j = x.2.length := by omega
    subst hjl
    rw [List.take_length] at hnd os
    show pLen u _
    have hus0 := hu.mono hk.le fun _ _ h => h
    rw [hus0.len, h96]
    have ob := os.rel (ok_bo w0)
    refine loop_rule (m := 96) (fun c' l' s' => ∃ k : Nat, c' + k = 96 ∧ s' = s ∧ (∀ (i : Nat) (p : Pg), i < k → x.1[i]? = some p → i ∉ lsOf (chI x.1) x.2 → p.used = false ∧ p.data = ⟨#[]⟩ ∧ p.next = -1) ∧
      l' = [.bool false, .pointer (some ⟨b, 0, none⟩), u, .int .i64 96, .int .i64 (k : Nat)]) ?_ ⟨0, by omega, rfl, fun i p h => by omega, rfl⟩
    rintro c' l' s' L' ⟨k, hc', rfl, hd, rfl⟩ hL'
    simp only [vget, List.getD_cons_zero, List.getD_cons_succ]
    have hus := hu.mono hk.le fun _ _ h => h
    rw [pBin_lt, pIf_d]
    refine ⟨fun hk96 => ?_, fun hk96 => ?_⟩
    · have hx := List.getElem?_eq_getElem (show k < x.1.length by omega)
      generalize hxk : x.1[k]'(by omega) = p at hx
      refine pg_at hus hx fun g hg0 hg1 hg2 hgood => ?_
      rw [hg0, hg1, hg2, pVal_3 rfl rfl rfl]
      refine arr_idx ?_
      refine bool_at ob (inL_get (show k < 96 by omega)) fun g' hg' => ?_
      have next : (k ∉ lsOf (chI x.1) x.2 → p.used = false ∧ p.data = ⟨#[]⟩ ∧ p.next = -1) → pBin Try.prog 3 .add (.int .i64 (k : Nat)) (.int .i64 1) (fun v99 => L' [.bool false, .pointer (some ⟨b, 0, none⟩), u, .int .i64 96, v99] s') := fun hz => by
        rw [pBin_add (by omega)]
        refine hL' _ _ (c' - 1) (by omega) ⟨k + 1, by omega, rfl, fun i q hi hq => ?_, rfl⟩
        by_cases e : i = k
        · subst e; rw [hx] at hq; cases hq
          exact hz
        · exact hd i q (by omega) hq
      rw [hg', pUn_not, pIf_b]
      refine ⟨fun hb => ?_, fun hb => next fun hn => by simp [hn] at hb⟩
      have hni : k ∉ lsOf (chI x.1) x.2 := by simpa using hb
      rw [pIf_b]
      refine ⟨fun hu => no (fun hk => by rw [(hk.2.2.2.2 k p hx hni).1] at hu; cases hu) s' (by assumption), fun hu => ?_⟩
      rw [pBin_sne, pIf_d]
      refine ⟨fun hne => no (fun hk => hne (hk.2.2.2.2 k p hx hni).2.1) s' (by assumption), fun heq => ?_⟩
      rw [pBin_ne, pIf_d]
      refine ⟨fun hne => no (fun hk => hne (hk.2.2.2.2 k p hx hni).2.2) s' (by assumption), fun heq2 => ?_⟩
      exact next fun _ => ⟨hu, Decidable.not_not.1 heq, Decidable.not_not.1 heq2⟩
    · have := hR s' (by assumption)
      have hok : OkI x := ⟨h96, h16, fun i n he => hdone i n (List.getElem?_eq_some_iff.1 he).1 he, hnd, fun i p hp => hd i p (by have := (List.getElem?_eq_some_iff.1 hp).1; omega) hp⟩
      simpa [hok] using this

/-- How many pages are free. -/
def freeN (ps : List Pg) : Nat := sumBy (fun p => if p.used = true then 0 else 1) ps
theorem freeN_le (ps : List Pg) : freeN ps ≤ ps.length := by
  induction ps with
  | nil => simp [freeN, sumBy]
  | cons a r ih => unfold freeN at *; simp only [sumBy, List.length_cons]; split <;> omega

theorem spec_Free {es : List Value} {x : Pgs} (h : RPgs (Av.get w0 σ) es x) (hl : x.1.length ≤ 1000000000000) {R : Value → Vw → Prop} (hR : R (.int .i64 (freeN x.1 : Nat)) σ) : AC Try.prog w0 n_spec_l32Free [.agg ⟨es⟩] σ R := by
  refine ac_spec_l32Free ?_
  unfold vc_spec_l32Free
  rw [h.two]
  obtain ⟨u, w, rfl, hu, hw⟩ := h
  simp only [cellOf_agg, List.getD_cons_zero, List.getD_cons_succ]
  have hle := freeN_le x.1
  refine loop_rule (m := x.1.length) (fun c l s => ∃ j : Nat, s = σ ∧ c + j = x.1.length ∧ l = [.int .i64 (freeN (x.1.take j) : Nat), .int .i64 (j : Nat), u, w]) ?_ ⟨0, rfl, by omega, by simp [freeN, sumBy]⟩
  rintro c l s L ⟨j, rfl, hc, rfl⟩ hL
  simp only [vget, List.getD_cons_zero, List.getD_cons_succ]
  rw [hu.len, pBin_lt, pIf_d]
  refine ⟨fun hj => ?_, fun hj => ?_⟩
  · have hx := List.getElem?_eq_getElem (show j < x.1.length by omega)
    generalize hxj : x.1[j]'(by omega) = p at hx
    have ht : freeN (x.1.take (j + 1)) = freeN (x.1.take j) + (if p.used = true then 0 else 1) := sumBy_take (f := fun p : Pg => if p.used = true then 0 else 1) hx
    have h2 := freeN_le (x.1.take j)
    rw [List.length_take] at h2
    refine fl_at hu hx 0 (by omega) rfl fun g hg hgood => ?_
    rw [hg, pUn_not, pIf_b]
    refine ⟨fun hb => ?_, fun hb => ?_⟩
    · have hf : p.used = false := by simpa using hb
      rw [pBin_add (by omega), pBin_add (by omega)]
      refine hL _ _ (c - 1) (by omega) ⟨j + 1, rfl, by omega, ?_⟩
      rw [ht, hf]; rfl
    · have hf : p.used = true := by simpa using hb
      rw [pBin_add (by omega)]
      refine hL _ _ (c - 1) (by omega) ⟨j + 1, rfl, by omega, ?_⟩
      rw [ht, hf]; rfl
  · have hj' : j = x.1.length := by omega
    subst hj'
    rw [List.take_length]
    exact hR

theorem impl_Free {es : List Value} {x : Pgs} (h : RPgs (Av.get w0 σ) es x) (hl : x.1.length ≤ 1000000000000) {R : Value → Vw → Prop} (hR : R (.int .i64 (freeN x.1 : Nat)) σ) : AC Try.prog w0 n_impl_Pages_free [.agg ⟨es⟩] σ R := by
  refine ac_impl_Pages_free ?_
  unfold vc_impl_Pages_free
  rw [h.two]
  obtain ⟨u, w, rfl, hu, hw⟩ := h
  simp only [cellOf_agg, List.getD_cons_zero, List.getD_cons_succ]
  have hle := freeN_le x.1
  rw [hu.len]
  refine loop_rule (m := x.1.length) (fun c l s => ∃ j : Nat, s = σ ∧ c + j = x.1.length ∧ l = [.int .i64 (freeN (x.1.take j) : Nat), u, .int .i64 x.1.length, .int .i64 (j : Nat)]) ?_ ⟨0, rfl, by omega, by simp [freeN, sumBy]⟩
  rintro c l s L ⟨j, rfl, hc, rfl⟩ hL
  simp only [vget, List.getD_cons_zero, List.getD_cons_succ]
  rw [pBin_lt, pIf_d]
  refine ⟨fun hj => ?_, fun hj => ?_⟩
  · have hx := List.getElem?_eq_getElem (show j < x.1.length by omega)
    generalize hxj : x.1[j]'(by omega) = p at hx
    have ht : freeN (x.1.take (j + 1)) = freeN (x.1.take j) + (if p.used = true then 0 else 1) := sumBy_take (f := fun p : Pg => if p.used = true then 0 else 1) hx
    have h2 := freeN_le (x.1.take j)
    rw [List.length_take] at h2
    refine pg_at hu hx fun g hg0 hg1 hg2 hgood => ?_
    rw [hg0, hg1, hg2, pVal_3 rfl rfl rfl, pUn_not, pIf_b]
    refine ⟨fun hb => ?_, fun hb => ?_⟩
    · have hf : p.used = false := by simpa using hb
      rw [pBin_add (by omega), pBin_add (by omega)]
      refine hL _ _ (c - 1) (by omega) ⟨j + 1, rfl, by omega, ?_⟩
      rw [ht, hf]; rfl
    · have hf : p.used = true := by simpa using hb
      rw [pBin_add (by omega)]
      refine hL _ _ (c - 1) (by omega) ⟨j + 1, rfl, by omega, ?_⟩
      rw [ht, hf]; rfl
  · have hj' : j = x.1.length := by omega
    subst hj'
    rw [List.take_length]
    exact hR
end
end Go.Proofs.Ytkndffhcncmbjaa

/- Pages: size, copy, comparison; the laws 'PagesOk' and 'PagesFree', of the functions alone; how pages are opened. -/
set_option linter.unusedVariables false
set_option linter.unusedSimpArgs false
namespace Go.Proofs.Ytkndffhcncmbjaa
open Go Go.Av Go.RowKit

def szPg (x : Pg) : Nat := x.data.size
def szPn (x : Pn) : Nat := x.name.size
def szPgs (x : Pgs) : Nat := (x.1.length + sumBy szPg x.1) + (x.2.length + sumBy szPn x.2)

section
variable {w0 : World} {σ : Vw}

theorem szPage {es : List Value} {x : Pg} {m : Int} {R : Value → Vw → Prop} (h : RPg (Av.get w0 σ) es x) (hm : 0 ≤ m ∧ m ≤ 9223372036854775807) (hR : R (.int .i64 (Av.left m (szPg x))) σ) : AC Try.prog w0 n_laws_szPage [.agg ⟨es⟩, .int .i64 m] σ R := by
  obtain ⟨rfl, hg⟩ := h
  refine ac_laws_szPage ?_
  unfold vc_laws_szPage
  rw [pg_three]
  show pLenS (.string x.data) _
  have := hg.1
  unfold szPg at hR
  rw [pLenS_s, pBin_sub (by omega), pBin_lt, pIf_d]
  refine ⟨fun hlt => ?_, fun hge => ?_⟩
  · rw [Av.left_low (by omega)] at hR; exact hR
  · rw [Av.left_in (by omega)] at hR; exact hR
theorem szPageName {es : List Value} {x : Pn} {m : Int} {R : Value → Vw → Prop} (h : RPn (Av.get w0 σ) es x) (hm : 0 ≤ m ∧ m ≤ 9223372036854775807) (hR : R (.int .i64 (Av.left m (szPn x))) σ) : AC Try.prog w0 n_laws_szPageName [.agg ⟨es⟩, .int .i64 m] σ R := by
  obtain ⟨rfl, hg⟩ := h
  refine ac_laws_szPageName ?_
  unfold vc_laws_szPageName
  rw [pn_three]
  show pLenS (.string x.name) _
  have := hg.1
  unfold szPn at hR
  rw [pLenS_s, pBin_sub (by omega), pBin_lt, pIf_d]
  refine ⟨fun hlt => ?_, fun hge => ?_⟩
  · rw [Av.left_low (by omega)] at hR; exact hR
  · rw [Av.left_in (by omega)] at hR; exact hR
theorem szPageS {v : Value} {xs : List Pg} {m : Int} (h : RSl 3 RPg (Av.get w0 σ) v xs) (hm : 0 ≤ m ∧ m ≤ 9223372036854775807) {R : Value → Vw → Prop} (hR : R (.int .i64 (Av.left m (xs.length + sumBy szPg xs))) σ) : AC Try.prog w0 n_laws_szPageS [v, .int .i64 m] σ R := by
  refine ac_laws_szPageS ?_
  have e : vc_laws_szPageS w0 v (.int .i64 m) σ R = VszS Try.prog w0 3 3 n_laws_szPage v (.int .i64 m) σ R := by kernel_rfl
  rw [e]
  exact szS_gen (sz := szPg) (fun x _ es m R' h hm hR => szPage h hm hR) h hm hR
theorem szPageNameS {v : Value} {xs : List Pn} {m : Int} (h : RSl 3 RPn (Av.get w0 σ) v xs) (hm : 0 ≤ m ∧ m ≤ 9223372036854775807) {R : Value → Vw → Prop} (hR : R (.int .i64 (Av.left m (xs.length + sumBy szPn xs))) σ) : AC Try.prog w0 n_laws_szPageNameS [v, .int .i64 m] σ R := by
  refine ac_laws_szPageNameS ?_
  have e : vc_laws_szPageNameS w0 v (.int .i64 m) σ R = VszS Try.prog w0 3 3 n_laws_szPageName v (.int .i64 m) σ R := by kernel_rfl
  rw [e]
  exact szS_gen (sz := szPn) (fun x _ es m R' h hm hR => szPageName h hm hR) h hm hR
theorem szPages {es : List Value} {x : Pgs} {m : Int} {R : Value → Vw → Prop} (h : RPgs (Av.get w0 σ) es x) (hm : 0 ≤ m ∧ m ≤ 9223372036854775807) (hR : R (.int .i64 (Av.left m (szPgs x))) σ) : AC Try.prog w0 n_laws_szPages [.agg ⟨es⟩, .int .i64 m] σ R := by
  refine ac_laws_szPages ?_
  unfold vc_laws_szPages
  rw [h.two]
  obtain ⟨u, w, rfl, hu, hw⟩ := h
  simp only [cellOf_agg, List.getD_cons_zero, List.getD_cons_succ]
  have hsz : szPgs x = (x.1.length + sumBy szPg x.1) + (x.2.length + sumBy szPn x.2) := rfl
  refine szPageS hu hm ?_
  rw [pBin_lt, pIf_d]
  refine ⟨fun hlt => ?_, fun hge => ?_⟩
  · rw [Av.left_neg] at hlt
    rw [Av.left_low (by omega)] at hR; exact hR
  rw [Av.left_neg] at hge
  rw [Av.left_in (by omega)]
  refine szPageNameS hw (by omega) ?_
  rw [pBin_lt, pIf_d]
  refine ⟨fun hlt => ?_, fun hge2 => ?_⟩
  · rw [Av.left_neg] at hlt
    rw [Av.left_low (by omega)] at hR; exact hR
  rw [Av.left_neg] at hge2
  rw [Av.left_in (by omega)]
  rw [Av.left_in (by omega)] at hR
  rw [show m - ((x.1.length + sumBy szPg x.1 : Nat) : Int) - ((x.2.length + sumBy szPn x.2 : Nat) : Int) = m - ((szPgs x : Nat) : Int) by omega]
  exact hR

theorem toPage {es : List Value} {x : Pg} {R : Value → Vw → Prop} (h : RPg (Av.get w0 σ) es x) (hR : ∀ es' F σ', Keeps σ σ' → OPg σ' F es' x → (∀ b, b ∈ F → σ b = none) → R (.agg ⟨es'⟩) σ') : AC Try.prog w0 n_laws_toPage [.agg ⟨es⟩] σ R := by
  obtain ⟨rfl, hg⟩ := h
  refine ac_laws_toPage ?_
  unfold vc_laws_toPage
  rw [pg_three]
  simp only [cellOf_agg, encPg, List.getD_cons_zero, List.getD_cons_succ]
  rw [pVal1 rfl, pVal1 rfl, pVal1 rfl, pVal_3 rfl rfl rfl]
  exact hR _ [] σ (Keeps.refl σ) ⟨rfl, rfl, hg⟩ (by simp)
theorem toPageName {es : List Value} {x : Pn} {R : Value → Vw → Prop} (h : RPn (Av.get w0 σ) es x) (hR : ∀ es' F σ', Keeps σ σ' → OPn σ' F es' x → (∀ b, b ∈ F → σ b = none) → R (.agg ⟨es'⟩) σ') : AC Try.prog w0 n_laws_toPageName [.agg ⟨es⟩] σ R := by
  obtain ⟨rfl, hg⟩ := h
  refine ac_laws_toPageName ?_
  unfold vc_laws_toPageName
  rw [pn_three]
  simp only [cellOf_agg, encPn, List.getD_cons_zero, List.getD_cons_succ]
  rw [pVal1 rfl, pVal1 rfl, pVal1 rfl, pVal_3 rfl rfl rfl]
  exact hR _ [] σ (Keeps.refl σ) ⟨rfl, rfl, hg⟩ (by simp)
theorem toPageS {v : Value} {xs : List Pg} (h : RSl 3 RPg (Av.get w0 σ) v xs) (hl : xs.length ≤ 1000000000000) {R : Value → Vw → Prop}
    (hR : ∀ v' F σ', Keeps σ σ' → OSl w0 3 OPg σ' F v' xs → (∀ b, b ∈ F → σ b = none) → R v' σ') : AC Try.prog w0 n_laws_toPageS [v] σ R := by
  refine ac_laws_toPageS ?_
  have e : vc_laws_toPageS w0 v σ R = VtoS Try.prog w0 3 t_impl_Page 3 32 n_laws_toPage [.bool false, .string ⟨#[]⟩, .int .i64 0] v σ R := by kernel_rfl
  rw [e]
  exact toS_gen (n := 3) (Rel := RPg) (bytes := 32) rfl (ok_pg w0) (fun _ _ _ _ hl h => h) (fun x hx s es R' _ h hR => toPage h hR) h (by omega) hR
theorem toPageNameS {v : Value} {xs : List Pn} (h : RSl 3 RPn (Av.get w0 σ) v xs) (hl : xs.length ≤ 1000000000000) {R : Value → Vw → Prop}
    (hR : ∀ v' F σ', Keeps σ σ' → OSl w0 3 OPn σ' F v' xs → (∀ b, b ∈ F → σ b = none) → R v' σ') : AC Try.prog w0 n_laws_toPageNameS [v] σ R := by
  refine ac_laws_toPageNameS ?_
  have e : vc_laws_toPageNameS w0 v σ R = VtoS Try.prog w0 3 t_impl_PageName 3 32 n_laws_toPageName [.string ⟨#[]⟩, .int .i64 0, .int .i64 0] v σ R := by kernel_rfl
  rw [e]
  exact toS_gen (n := 3) (Rel := RPn) (bytes := 32) rfl (ok_pn w0) (fun _ _ _ _ hl h => h) (fun x hx s es R' _ h hR => toPageName h hR) h (by omega) hR

theorem ok_pgs (w0 : World) : OOk w0 2 RPgs (OPgs w0) := by
  refine ⟨?_, ?_, ?_, ?_, ?_, ?_⟩
  · rintro σ F es x ⟨u, v, F1, F2, h1, h2, h3, h4, h5⟩; exact ⟨u, v, h1, h2.rel (ok_pg w0), h3.rel (ok_pn w0)⟩
  · rintro σ σ' F es x ⟨u, v, F1, F2, h1, h2, h3, rfl, h5⟩ hF
    exact ⟨u, v, F1, F2, h1, h2.frame (ok_pg w0) fun b hb => hF b (List.mem_append_left _ hb), h3.frame (ok_pn w0) fun b hb => hF b (List.mem_append_right _ hb), rfl, h5⟩
  · rintro σ F es x ⟨u, v, F1, F2, h1, h2, h3, rfl, h5⟩ b hb
    rcases List.mem_append.1 hb with h | h
    · exact h2.dom (ok_pg w0) b h
    · exact h3.dom (ok_pn w0) b h
  · rintro σ F es x ⟨u, v, F1, F2, h1, h2, h3, h4, h5⟩; exact h5
  · rintro σ F es x ⟨u, v, F1, F2, rfl, h2, h3, h4, h5⟩; rfl
  · rintro σ F es x ⟨u, v, F1, F2, rfl, h2, h3, h4, h5⟩ c hc
    simp at hc
    rcases hc with rfl | rfl
    · exact OSl.one' h2
    · exact OSl.one' h3

theorem toPages {es : List Value} {x : Pgs} {R : Value → Vw → Prop} (h : RPgs (Av.get w0 σ) es x) (hl : x.1.length ≤ 1000000000000) (hl2 : x.2.length ≤ 1000000000000) (hR : ∀ es' F σ', Keeps σ σ' → OPgs w0 σ' F es' x → (∀ b, b ∈ F → σ b = none) → R (.agg ⟨es'⟩) σ') : AC Try.prog w0 n_laws_toPages [.agg ⟨es⟩] σ R := by
  refine ac_laws_toPages ?_
  unfold vc_laws_toPages
  rw [h.two]
  obtain ⟨u, w, rfl, hu, hw⟩ := h
  simp only [cellOf_agg, List.getD_cons_zero, List.getD_cons_succ]
  refine toPageS hu hl fun u' F1 s1 k1 o1 f1 => ?_
  rw [pVal1 (OSl.one' o1)]
  refine toPageNameS (hw.mono k1.le fun _ _ h => h) hl2 fun w' F2 s2 k2 o2 f2 => ?_
  rw [pVal1 (OSl.one' o2), pVal_2 (OSl.one' o1) (OSl.one' o2)]
  have o1' := o1.frame (ok_pg w0) (k2.but_at fun b hb => (o1.dom (ok_pg w0) b hb).2)
  refine hR _ (F1 ++ F2) s2 (k1.trans k2) ⟨u', w', F1, F2, rfl, o1', o2, rfl, ?_⟩ fun b hb => ?_
  · exact List.nodup_append.2 ⟨o1.2.1, o2.2.1, fun a ha b hb e => (o1.dom (ok_pg w0) a ha).2 (f2 a (e ▸ hb))⟩
  · rcases List.mem_append.1 hb with h | h
    · exact f1 b h
    · cases hs : σ b with
      | none => rfl
      | some r => have := f2 b h; rw [k1 b r hs] at this; cases this

theorem eqPage {es es' : List Value} {x y : Pg} {R : Value → Vw → Prop} (h : RPg (Av.get w0 σ) es x) (h' : RPg (Av.get w0 σ) es' y) (hR : R (.bool (decide (x = y))) σ) : AC Try.prog w0 n_laws_eqPage [.agg ⟨es⟩, .agg ⟨es'⟩] σ R := by
  obtain ⟨rfl, hg⟩ := h
  obtain ⟨rfl, hg'⟩ := h'
  refine ac_laws_eqPage ?_
  unfold vc_laws_eqPage
  rw [pg_three, pg_three]
  obtain ⟨a, p, q⟩ := x
  obtain ⟨b, p', q'⟩ := y
  simp only [encPg, cellOf_agg, List.getD_cons_zero, List.getD_cons_succ]
  have no : ¬ (a = b ∧ p = p' ∧ q = q') → R (.bool false) σ := fun hn => by
    have : ¬ (Pg.mk a p q = Pg.mk b p' q') := fun e => hn (by cases e; exact ⟨rfl, rfl, rfl⟩)
    simpa [this] using hR
  rw [pBin_b (v := .bool (!(a == b))) (by kernel_rfl) rfl, pIf_b]
  refine ⟨fun h => no fun e => by simp [e.1] at h, fun e1 => ?_⟩
  rw [pBin_sne, pIf_d]
  refine ⟨fun h => no fun e => h e.2.1, fun e2 => ?_⟩
  rw [pBin_ne, pIf_d]
  refine ⟨fun h => no fun e => h e.2.2, fun e3 => ?_⟩
  have h1 : a = b := by simpa using e1
  have h2 := Decidable.not_not.1 e2
  have h3 := Decidable.not_not.1 e3
  subst h1 h2 h3
  simpa using hR
theorem eqPageName {es es' : List Value} {x y : Pn} {R : Value → Vw → Prop} (h : RPn (Av.get w0 σ) es x) (h' : RPn (Av.get w0 σ) es' y) (hR : R (.bool (decide (x = y))) σ) : AC Try.prog w0 n_laws_eqPageName [.agg ⟨es⟩, .agg ⟨es'⟩] σ R := by
  obtain ⟨rfl, hg⟩ := h
  obtain ⟨rfl, hg'⟩ := h'
  refine ac_laws_eqPageName ?_
  unfold vc_laws_eqPageName
  rw [pn_three, pn_three]
  obtain ⟨a, p, q⟩ := x
  obtain ⟨b, p', q'⟩ := y
  simp only [encPn, cellOf_agg, List.getD_cons_zero, List.getD_cons_succ]
  have no : ¬ (a = b ∧ p = p' ∧ q = q') → R (.bool false) σ := fun hn => by
    have : ¬ (Pn.mk a p q = Pn.mk b p' q') := fun e => hn (by cases e; exact ⟨rfl, rfl, rfl⟩)
    simpa [this] using hR
  rw [pBin_sne, pIf_d]
  refine ⟨fun h => no fun e => h e.1, fun e1 => ?_⟩
  rw [pBin_ne, pIf_d]
  refine ⟨fun h => no fun e => h e.2.1, fun e2 => ?_⟩
  rw [pBin_ne, pIf_d]
  refine ⟨fun h => no fun e => h e.2.2, fun e3 => ?_⟩
  have h1 := Decidable.not_not.1 e1
  have h2 := Decidable.not_not.1 e2
  have h3 := Decidable.not_not.1 e3
  subst h1 h2 h3
  simpa using hR
theorem eqPageS {v v' : Value} {xs ys : List Pg} (h : RSl 3 RPg (Av.get w0 σ) v xs) (h' : RSl 3 RPg (Av.get w0 σ) v' ys) {R : Value → Vw → Prop} (hR : R (.bool (decide (xs = ys))) σ) : AC Try.prog w0 n_laws_eqPageS [v, v'] σ R := by
  refine ac_laws_eqPageS ?_
  have e : vc_laws_eqPageS w0 v v' σ R = VeqS Try.prog w0 3 3 n_laws_eqPage v v' σ R := by kernel_rfl
  rw [e]
  exact eqS_gen (fun x _ y es es' R' h h' hR => eqPage h h' hR) h h' hR
theorem eqPageNameS {v v' : Value} {xs ys : List Pn} (h : RSl 3 RPn (Av.get w0 σ) v xs) (h' : RSl 3 RPn (Av.get w0 σ) v' ys) {R : Value → Vw → Prop} (hR : R (.bool (decide (xs = ys))) σ) : AC Try.prog w0 n_laws_eqPageNameS [v, v'] σ R := by
  refine ac_laws_eqPageNameS ?_
  have e : vc_laws_eqPageNameS w0 v v' σ R = VeqS Try.prog w0 3 3 n_laws_eqPageName v v' σ R := by kernel_rfl
  rw [e]
  exact eqS_gen (fun x _ y es es' R' h h' hR => eqPageName h h' hR) h h' hR
theorem eqPages {es es' : List Value} {x y : Pgs} {R : Value → Vw → Prop} (h : RPgs (Av.get w0 σ) es x) (h' : RPgs (Av.get w0 σ) es' y) (hR : R (.bool (decide (x = y))) σ) : AC Try.prog w0 n_laws_eqPages [.agg ⟨es⟩, .agg ⟨es'⟩] σ R := by
  refine ac_laws_eqPages ?_
  unfold vc_laws_eqPages
  rw [h.two, h'.two]
  obtain ⟨u, w, rfl, hu, hw⟩ := h
  obtain ⟨u', w', rfl, hu', hw'⟩ := h'
  simp only [cellOf_agg, List.getD_cons_zero, List.getD_cons_succ]
  obtain ⟨a, b⟩ := x
  obtain ⟨c, d⟩ := y
  refine eqPageS hu hu' ?_
  rw [pUn_not, pIf_b]
  by_cases e1 : a = c
  · subst e1
    refine ⟨fun h => by simp at h, fun _ => ?_⟩
    refine eqPageNameS hw hw' ?_
    rw [pUn_not, pIf_b]
    by_cases e2 : b = d
    · subst e2; simpa using hR
    · simpa [e2] using hR
  · simpa [e1] using hR
end

theorem open_page {H : Type} {enc : TypeId × Value → H} {W : World} {spare : Nat → Bool} (fuel : Nat) (es : List Value) (y : DataW H × List MemPlace) (h : DataW.trod enc Try.prog W 0 spare true fuel t_laws_Page es = some y) (hl : es.length = 3) : ∃ x, RPg (Av.get W σ0) es x := by
  have hT : Try.prog.underlying t_laws_Page = some (.struct (fsOf Try.prog t_laws_Page)) := by kernel_rfl
  obtain ⟨f0, y0, l0, h0⟩ := open_field' hT 0 t_bool 0 1 (by kernel_rfl) (by kernel_rfl) h
  obtain ⟨f1, y1, l1, h1⟩ := open_field' hT 1 t_string 1 1 (by kernel_rfl) (by kernel_rfl) h
  obtain ⟨f2, y2, l2, h2⟩ := open_field' hT 2 t_int 2 1 (by kernel_rfl) (by kernel_rfl) h
  obtain ⟨b, hb⟩ := open_bool (by kernel_rfl) h0
  obtain ⟨t, ht, ht2⟩ := open_str (by kernel_rfl) h1
  obtain ⟨m, hm, hm2⟩ := open_int (by kernel_rfl) h2
  refine ⟨⟨b, t, m⟩, ?_, ht2, hm2⟩
  match es, hl with
  | [p, q, r], _ =>
    simp at hb ht hm
    subst hb ht hm
    rfl
theorem open_pagename {H : Type} {enc : TypeId × Value → H} {W : World} {spare : Nat → Bool} (fuel : Nat) (es : List Value) (y : DataW H × List MemPlace) (h : DataW.trod enc Try.prog W 0 spare true fuel t_laws_PageName es = some y) (hl : es.length = 3) : ∃ x, RPn (Av.get W σ0) es x := by
  have hT : Try.prog.underlying t_laws_PageName = some (.struct (fsOf Try.prog t_laws_PageName)) := by kernel_rfl
  obtain ⟨f0, y0, l0, h0⟩ := open_field' hT 0 t_string 0 1 (by kernel_rfl) (by kernel_rfl) h
  obtain ⟨f1, y1, l1, h1⟩ := open_field' hT 1 t_int 1 1 (by kernel_rfl) (by kernel_rfl) h
  obtain ⟨f2, y2, l2, h2⟩ := open_field' hT 2 t_int 2 1 (by kernel_rfl) (by kernel_rfl) h
  obtain ⟨t, ht, ht2⟩ := open_str (by kernel_rfl) h0
  obtain ⟨m, hm, hm2⟩ := open_int (by kernel_rfl) h1
  obtain ⟨k, hk, hk2⟩ := open_int (by kernel_rfl) h2
  refine ⟨⟨t, m, k⟩, ?_, ht2, hm2, hk2⟩
  match es, hl with
  | [p, q, r], _ =>
    simp at ht hm hk
    subst ht hm hk
    rfl
theorem open_pages {H : Type} {enc : TypeId × Value → H} {W : World} {spare : Nat → Bool} (fuel : Nat) (es : List Value) (y : DataW H × List MemPlace) (h : DataW.trod enc Try.prog W 0 spare true fuel t_laws_Pages es = some y) (hl : es.length = 2) : ∃ x, RPgs (Av.get W σ0) es x := by
  have hT : Try.prog.underlying t_laws_Pages = some (.struct (fsOf Try.prog t_laws_Pages)) := by kernel_rfl
  obtain ⟨f0, y0, l0, h0⟩ := open_field' hT 0 t_s_laws_Page 0 1 (by kernel_rfl) (by kernel_rfl) h
  obtain ⟨f1, y1, l1, h1⟩ := open_field' hT 1 t_s_laws_PageName 1 1 (by kernel_rfl) (by kernel_rfl) h
  obtain ⟨u, ps, hu, hus⟩ := open_rsl (t := t_s_laws_Page) (e := t_laws_Page) (n := 3) (R := RPg) (by kernel_rfl) (by kernel_rfl) open_page h0
  obtain ⟨v, ns, hv, hvs⟩ := open_rsl (t := t_s_laws_PageName) (e := t_laws_PageName) (n := 3) (R := RPn) (by kernel_rfl) (by kernel_rfl) open_pagename h1
  refine ⟨(ps, ns), u, v, ?_, hus, hvs⟩
  match es, hl with
  | [p, q], _ =>
    simp at hu hv
    subst hu hv
    rfl
end Go.Proofs.Ytkndffhcncmbjaa

/- The laws 'PagesOk' and 'PagesFree', of the functions alone. -/
set_option linter.unusedVariables false
set_option linter.unusedSimpArgs false
namespace Go.Proofs.Ytkndffhcncmbjaa
open Go Go.Av

section
variable {w0 : World} {σ : Vw}

noncomputable def pagesFree (x : Pgs) : Int := if pagesOk x = true then freeN x.1 else 0

theorem RPgs.pair {rd : Addr → Option Value} {es : List Value} {x : Pgs} (h : RPgs rd es x) : ∃ a b, es = [a, b] := by
  obtain ⟨u, v, rfl, _⟩ := h
  exact ⟨u, v, rfl⟩

theorem spec_PagesFree {es : List Value} {x : Pgs} (h : RPgs (Av.get w0 σ) es x) (hl : x.1.length ≤ 1000000000000) {R : Value → Vw → Prop} (hR : ∀ σ', Keeps σ σ' → R (.int .i64 (pagesFree x)) σ') : AC Try.prog w0 n_spec_PagesFree [.agg ⟨es⟩] σ R := by
  have h0 := h
  refine ac_spec_PagesFree ?_
  unfold vc_spec_PagesFree
  rw [h.two]
  obtain ⟨a, b, rfl⟩ := h.pair
  simp only [cellOf_agg, List.getD_cons_zero, List.getD_cons_succ]
  refine spec_PagesOk h0 fun s1 k1 => ?_
  have hR1 := hR s1 k1
  rw [pUn_not, pIf_b]
  refine ⟨fun hn => by simp at hn; simpa [pagesFree, hn] using hR1, fun hn => ?_⟩
  refine spec_Free (mono_pgs k1.le h0) hl ?_
  simp at hn
  simpa [pagesFree, hn] using hR1
theorem impl_PagesFree {es : List Value} {x : Pgs} (h : RPgs (Av.get w0 σ) es x) (hl : x.1.length ≤ 1000000000000) {R : Value → Vw → Prop} (hR : ∀ σ', Keeps σ σ' → R (.int .i64 (pagesFree x)) σ') : AC Try.prog w0 n_impl_PagesFree [.agg ⟨es⟩] σ R := by
  have h0 := h
  refine ac_impl_PagesFree ?_
  unfold vc_impl_PagesFree
  rw [h.two]
  obtain ⟨a, b, rfl⟩ := h.pair
  simp only [cellOf_agg, List.getD_cons_zero, List.getD_cons_succ]
  refine impl_PagesOk h0 fun s1 k1 => ?_
  have hR1 := hR s1 k1
  rw [pUn_not, pIf_b]
  refine ⟨fun hn => by simp at hn; simpa [pagesFree, hn] using hR1, fun hn => ?_⟩
  refine impl_Free (mono_pgs k1.le h0) hl ?_
  simp at hn
  simpa [pagesFree, hn] using hR1

end
end Go.Proofs.Ytkndffhcncmbjaa

/- The text of a name: 'PagesGet', by either reading. -/
set_option linter.unusedVariables false
set_option linter.unusedSimpArgs false
namespace Go.Proofs.Ytkndffhcncmbjaa
open Go Go.Av

def pnIdx : List Pn → ByteArray → Option Nat
  | [], _ => none
  | n :: r, x => if n.name = x then some 0 else (pnIdx r x).map (· + 1)
theorem pnIdx_some {ns : List Pn} {x : ByteArray} : ∀ {j : Nat}, pnIdx ns x = some j → ∃ n, ns[j]? = some n ∧ n.name = x := by
  induction ns with
  | nil => intro j h; simp [pnIdx] at h
  | cons s r ih =>
    intro j h
    unfold pnIdx at h
    split at h
    · rename_i e; cases h; exact ⟨s, rfl, e⟩
    · cases hr : pnIdx r x with
      | none => rw [hr] at h; cases h
      | some i => rw [hr] at h; cases h; simpa using ih hr
theorem pnIdx_at {ns : List Pn} {x : ByteArray} : ∀ {j : Nat} {n : Pn}, ns[j]? = some n → n.name = x → (∀ (i : Nat) (y : Pn), i < j → ns[i]? = some y → y.name ≠ x) → pnIdx ns x = some j := by
  induction ns with
  | nil => intro j n h; simp at h
  | cons s r ih =>
    intro j n h hx hn
    unfold pnIdx
    cases j with
    | zero => simp at h; subst h; rw [if_pos hx]
    | succ j =>
      rw [if_neg (hn 0 s (by omega) rfl), ih (by simpa using h) hx fun i y hi hy => hn (i + 1) y (by omega) (by simpa using hy)]
      rfl
theorem pnIdx_none {ns : List Pn} {x : ByteArray} (h : ∀ (i : Nat) (y : Pn), ns[i]? = some y → y.name ≠ x) : pnIdx ns x = none := by
  induction ns with
  | nil => rfl
  | cons s r ih =>
    unfold pnIdx
    rw [if_neg (h 0 s rfl), ih fun i y hy => h (i + 1) y (by simpa using hy)]
    rfl

/-- A place as a number, -1 for none. -/
def plI : Option Nat → Int
  | some j => j
  | none => -1
/-- What lies in a page. -/
def dataAt (ps : List Pg) (i : Nat) : ByteArray := match ps[i]? with | some p => p.data | none => ⟨#[]⟩
def catD (ps : List Pg) (l : List Nat) : ByteArray := l.foldl (fun s i => s ++ dataAt ps i) ⟨#[]⟩
theorem catD_take {ps : List Pg} {l : List Nat} {j i : Nat} (hj : l[j]? = some i) : catD ps (l.take (j + 1)) = catD ps (l.take j) ++ dataAt ps i := foldl_take hj
theorem ch_size {e : Int → Prop} {ps : List Pg} : ∀ {r : List Nat} {a l : Int}, Ch e ps r a l → ∀ (s : ByteArray), ((r.foldl (fun s i => s ++ dataAt ps i) s).size : Int) = s.size + l
  | [], a, l, h, s => by have := h.2; simp [this]
  | i :: r, a, l, ⟨h1, h2, p, h3, h4, h5, h6⟩, s => by
    rw [List.foldl_cons, ch_size h6, ByteArray.size_append]
    have : dataAt ps i = p.data := by simp [dataAt, h3]
    rw [this]; omega
theorem ch_small {e : Int → Prop} {ps : List Pg} : ∀ {r : List Nat} {a l : Int}, Ch e ps r a l → ∀ i, i ∈ r → (dataAt ps i).size ≤ 40
  | [], a, l, h, i, hi => by cases hi
  | k :: r, a, l, ⟨h1, h2, p, h3, h4, h5, h6⟩, i, hi => by
    rcases List.mem_cons.1 hi with e | e
    · subst e
      have : dataAt ps i = p.data := by simp [dataAt, h3]
      rw [this]; omega
    · exact ch_small h6 i e
theorem catD_le {ps : List Pg} : ∀ {l : List Nat}, (∀ i, i ∈ l → (dataAt ps i).size ≤ 40) → (catD ps l).size ≤ 40 * l.length := by
  intro l
  suffices ∀ s : ByteArray, (∀ i, i ∈ l → (dataAt ps i).size ≤ 40) → (l.foldl (fun s i => s ++ dataAt ps i) s).size ≤ s.size + 40 * l.length by
    intro h
    have h2 := this ⟨#[]⟩ h
    have e : (⟨#[]⟩ : ByteArray).size = 0 := rfl
    rw [e, Nat.zero_add] at h2
    exact h2
  induction l with
  | nil => intro s _; simp
  | cons a r ih =>
    intro s h
    rw [List.foldl_cons]
    have := ih (s ++ dataAt ps a) fun i hi => h i (List.mem_cons_of_mem _ hi)
    rw [ByteArray.size_append] at this
    have h2 := h a List.mem_cons_self
    simp only [List.length_cons]
    omega

theorem chS_chain {ps : List Pg} {n : Pn} {r : List Nat} (h : chS ps n = some r) : Ch (fun a => a < 0) ps r n.first n.size := (chOf_spec h).1
/-- What a name's text is. -/
noncomputable def textOf (x : Pgs) (n : Pn) : ByteArray := catD x.1 ((chS x.1 n).getD [])
noncomputable def getP (x : Pgs) (name : ByteArray) : ByteArray × Bool :=
  if pagesOk x = true then match (pnIdx x.2 name).bind (x.2[·]?) with
    | some n => (textOf x n, true)
    | none => (⟨#[]⟩, false)
  else (⟨#[]⟩, false)

theorem OkS.chI {x : Pgs} (h : OkS x) {j : Nat} {n : Pn} (hj : x.2[j]? = some n) : ∃ r, chI x.1 n = some r ∧ chS x.1 n = some r := by
  have h' := (ok_same x).1 h
  obtain ⟨r, hr⟩ := Option.isSome_iff_exists.1 (h'.2.2.1 j n hj).2
  exact ⟨r, hr, chS_of_chI hr⟩
theorem pagesOk_iff {x : Pgs} : pagesOk x = true ↔ OkS x := by simp [pagesOk]
theorem OkS.size {x : Pgs} (h : OkS x) {j : Nat} {n : Pn} (hj : x.2[j]? = some n) : 0 ≤ n.size ∧ n.size ≤ 3000 := by
  have := ((h.2.2.1 j n hj).1).2.2
  simpa [inB] using this

section
variable {w0 : World} {σ : Vw}

theorem RSl.elem {α : Type} {n : Nat} {R : (Addr → Option Value) → List Value → α → Prop} {rd : Addr → Option Value} {v : Value} {xs : List α} (h : RSl n R rd v xs) {j : Nat} {x : α} (hj : xs[j]? = some x) : ∃ es, R rd es x := by
  obtain ⟨A, cap, _, _, h3⟩ := h
  obtain ⟨a, es, _, _, _, h⟩ := h3 j x hj
  exact ⟨es, h⟩
theorem good_fl {α : Type} {n : Nat} {enc : α → List Value} {good : α → Prop} {rd : Addr → Option Value} {v : Value} {xs : List α} (h : RSl n (RFl enc good) rd v xs) {j : Nat} {x : α} (hj : xs[j]? = some x) : good x := by
  obtain ⟨es, h⟩ := RSl.elem h hj
  exact h.2

theorem spec_l32At {es : List Value} {x : Pgs} {name : ByteArray} (h : RPgs (Av.get w0 σ) es x) {R : Value → Vw → Prop} (hR : R (.int .i64 (plI (pnIdx x.2 name))) σ) : AC Try.prog w0 n_spec_l32At [.agg ⟨es⟩, .string name] σ R := by
  refine ac_spec_l32At ?_
  unfold vc_spec_l32At
  rw [RPgs.two h]
  obtain ⟨u, v, rfl, hu, hv⟩ := h
  have hl := hv.le
  simp only [cellOf_agg, List.getD_cons_zero, List.getD_cons_succ]
  refine loop_rule (m := x.2.length) (fun c l s => ∃ j, s = σ ∧ c + j = x.2.length ∧ (∀ (i : Nat) (y : Pn), i < j → x.2[i]? = some y → y.name ≠ name) ∧ l = [.string name, .int .i64 0, .int .i64 (j : Nat), u, v]) ?_ ⟨0, rfl, by omega, fun i y h => by omega, rfl⟩
  rintro c l s L ⟨j, rfl, hc, ht, rfl⟩ hL
  simp only [vget, List.getD_cons_zero, List.getD_cons_succ]
  rw [hv.len, pBin_lt, pIf_d]
  refine ⟨fun hj => ?_, fun hj => ?_⟩
  · have hx := List.getElem?_eq_getElem (show j < x.2.length by omega)
    generalize hxj : x.2[j]'(by omega) = n at hx
    refine fl_at hv hx 0 (by omega) rfl fun g hg hgood => ?_
    rw [hg, pBin_seq, pIf_d]
    refine ⟨fun he => ?_, fun hne => ?_⟩
    · rw [pnIdx_at hx he ht] at hR
      exact hR
    · rw [pBin_add (by omega)]
      refine hL _ _ (c - 1) (by omega) ⟨j + 1, rfl, by omega, fun i z hi hz => ?_, rfl⟩
      by_cases e : i = j
      · subst e; rw [hx] at hz; cases hz; exact hne
      · exact ht i z (by omega) hz
  · rw [pnIdx_none fun i y hy => ht i y (by have := (List.getElem?_eq_some_iff.1 hy).1; omega) hy] at hR
    exact hR

theorem impl_find {es : List Value} {x : Pgs} {name : ByteArray} (h : RPgs (Av.get w0 σ) es x) {R : Value → Vw → Prop} (hR : ∀ σ', Keeps σ σ' → R (.int .i64 (plI (pnIdx x.2 name))) σ') : AC Try.prog w0 n_impl_Pages_find [.agg ⟨es⟩, .string name] σ R := by
  refine ac_impl_Pages_find ?_
  unfold vc_impl_Pages_find
  rw [RPgs.two h, pVal1 rfl]
  obtain ⟨u, v, rfl, hu, hv⟩ := h
  have hl := hv.le
  simp only [cellOf_agg, List.getD_cons_zero, List.getD_cons_succ]
  intro b h1 h2
  have k1 : Keeps σ (σ.put b ⟨9, [.string name], 1, (0, 0)⟩) := Keeps.put h2
  have hb : (σ.put b ⟨9, [.string name], 1, (0, 0)⟩) b = some ⟨9, [.string name], 1, (0, 0)⟩ := put_at
  have hR := hR _ k1
  have hv := hv.mono k1.le fun _ _ h => h
  show AC _ _ _ _ (σ.put b ⟨9, [.string name], 1, (0, 0)⟩) _
  generalize σ.put b ⟨9, [.string name], 1, (0, 0)⟩ = s1 at *
  refine ac_slices_IndexFunc_impl_PageName_impl_PageName ?_
  unfold vc_slices_IndexFunc_impl_PageName_impl_PageName
  rw [hv.len]
  refine loop_rule (m := x.2.length) (fun c l s => ∃ j, s = s1 ∧ c + j = x.2.length ∧ (∀ (i : Nat) (y : Pn), i < j → x.2[i]? = some y → y.name ≠ name) ∧ l = [v, .func (.func n_impl_Pages_find_c1) ⟨[]⟩ ⟨[.pointer (some ⟨b, 0, none⟩)]⟩, .int .i64 0, .int .i64 x.2.length, .int .i64 (j : Nat)]) ?_ ⟨0, rfl, by omega, fun i y h => by omega, rfl⟩
  rintro c l s L ⟨j, rfl, hc, ht, rfl⟩ hL
  simp only [vget, List.getD_cons_zero, List.getD_cons_succ]
  rw [pBin_lt, pIf_d]
  refine ⟨fun hj => ?_, fun hj => ?_⟩
  · have hx := List.getElem?_eq_getElem (show j < x.2.length by omega)
    generalize hxj : x.2[j]'(by omega) = n at hx
    refine pn_at hv hx fun g g0 g1 g2 hgood => ?_
    rw [g0, g1, g2]
    refine ⟨_, _, _, rfl, ?_⟩
    show AC Try.prog w0 n_impl_Pages_find_c1 [.agg ⟨encPn n⟩, .pointer (some ⟨b, 0, none⟩)] s _
    refine ac_impl_Pages_find_c1 ?_
    unfold vc_impl_Pages_find_c1
    rw [pn_three]
    refine pLoad_row (A := []) (c := [.string name]) (C := []) h1 hb rfl rfl rfl fun g hg => ?_
    simp only [expl, List.cons.injEq, and_true] at hg
    show pBin Try.prog 9 .eql (.string n.name) _ _
    rw [hg, pBin_seq]
    show pIf (.bool _) _ _
    rw [pIf_d]
    refine ⟨fun he => ?_, fun hne => ?_⟩
    · rw [pnIdx_at hx he ht] at hR
      exact hR
    · rw [pBin_add (by omega)]
      refine hL _ _ (c - 1) (by omega) ⟨j + 1, rfl, by omega, fun i z hi hz => ?_, rfl⟩
      by_cases e : i = j
      · subst e; rw [hx] at hz; cases hz; exact hne
      · exact ht i z (by omega) hz
  · rw [pnIdx_none fun i y hy => ht i y (by have := (List.getElem?_eq_some_iff.1 hy).1; omega) hy] at hR
    exact hR

theorem dataAt_of {ps : List Pg} {i : Nat} {p : Pg} (h : ps[i]? = some p) : dataAt ps i = p.data := by simp [dataAt, h]

theorem spec_l32Text {es : List Value} {x : Pgs} {j : Nat} {n : Pn} (h : RPgs (Av.get w0 σ) es x) (hok : OkS x) (hj : x.2[j]? = some n) {R : Value → Vw → Prop} (hR : ∀ σ', Keeps σ σ' → R (.string (textOf x n)) σ') : AC Try.prog w0 n_spec_l32Text [.agg ⟨es⟩, .int .i64 (j : Nat)] σ R := by
  refine ac_spec_l32Text ?_
  unfold vc_spec_l32Text
  rw [RPgs.two h]
  obtain ⟨u, v, rfl, hu, hv⟩ := h
  simp only [cellOf_agg, List.getD_cons_zero, List.getD_cons_succ]
  have hg := good_fl hv hj
  refine pn_at hv hj fun g g0 g1 g2 _ => ?_
  rw [g0, g1, g2]
  refine spec_Chain (n := n) (x := x) ⟨u, v, rfl, hu, hv⟩ hg hok.1 (hok.size hj) fun c F σ' hk ho hF => ?_
  obtain ⟨r, hcI, hcS⟩ := hok.chI hj
  have htx : textOf x n = catD x.1 r := by simp [textOf, hcS]
  rw [htx] at hR
  rw [hcS] at ho ⊢
  have ho : OSl w0 1 ON σ' F c r := by simpa using ho
  have hc := ho.rel (ok_n w0)
  have hlc := hc.le
  rw [pExtract_s rfl, pExtract_s rfl]
  have hch := chS_chain hcS
  have hsm := ch_small hch
  have hlt : ∀ i, i ∈ r → i < x.1.length := fun i hi => ch_lt hch hi
  have hu' := hu.mono hk.le fun _ _ h => h
  have hrl : r.length ≤ 1000000 := by
    have h1 := (ok_same x).1 hok
    have hnd : r.Nodup := by
      have := (chOf_spec hcI).2
      exact this
    have := nodup_len _ _ hnd hlt
    rw [hok.1] at this; omega
  refine loop_rule (m := r.length) (fun k l s => ∃ i, s = σ' ∧ k + i = r.length ∧ l = [c, .string (catD x.1 (r.take i)), .int .i64 (i : Nat), u, v]) ?_ ⟨0, rfl, by omega, rfl⟩
  rintro k l s L ⟨i, rfl, hki, rfl⟩ hL
  simp only [vget, List.getD_cons_zero, List.getD_cons_succ]
  rw [hc.len, pBin_lt, pIf_d]
  refine ⟨fun hi => ?_, fun hi => ?_⟩
  · have hx := List.getElem?_eq_getElem (show i < r.length by omega)
    generalize hxi : r[i]'(by omega) = q at hx
    have hq := hlt q (List.mem_of_getElem? hx)
    have hp := List.getElem?_eq_getElem hq
    generalize hpq : x.1[q] = p at hp
    refine n_at hc hx fun g hg => ?_
    rw [hg]
    refine fl_at hu' hp 1 (by omega) rfl fun g hg hgood => ?_
    have hsz := catD_le (ps := x.1) (l := r.take i) fun y hy => hsm y (List.mem_of_mem_take hy)
    have h40 := hsm q (List.mem_of_getElem? hx)
    rw [dataAt_of hp] at h40
    rw [List.length_take] at hsz
    rw [hg, pBin_cat (by omega), pBin_add (by omega)]
    refine hL _ _ (k - 1) (by omega) ⟨i + 1, rfl, by omega, ?_⟩
    rw [catD_take hx, dataAt_of hp]; simp
  · have e : i = r.length := by omega
    subst e
    rw [List.take_length]
    exact hR _ hk

theorem impl_get {es : List Value} {x : Pgs} {name : ByteArray} (h : RPgs (Av.get w0 σ) es x) (hok : OkS x) {R : Value → Vw → Prop}
    (hR : ∀ σ', Keeps σ σ' → R (.tuple ⟨[.string (getP x name).1, .bool (getP x name).2]⟩) σ') : AC Try.prog w0 n_impl_Pages_get [.agg ⟨es⟩, .string name] σ R := by
  refine ac_impl_Pages_get ?_
  unfold vc_impl_Pages_get
  rw [RPgs.two h]
  have h0 := h
  obtain ⟨u, v, rfl, hu, hv⟩ := h
  simp only [cellOf_agg, List.getD_cons_zero, List.getD_cons_succ]
  refine impl_find h0 fun s1 k1 => ?_
  cases hix : pnIdx x.2 name with
  | none =>
    have e : getP x name = (⟨#[]⟩, false) := by simp [getP, pagesOk_iff.2 hok, hix]
    rw [e] at hR
    show pBin Try.prog 3 .lss (.int .i64 (-1)) _ _
    rw [pBin_lt, pIf_d]
    exact ⟨fun _ => hR s1 k1, fun h => by omega⟩
  | some j =>
    obtain ⟨n, hj, _⟩ := pnIdx_some hix
    have e : getP x name = (textOf x n, true) := by simp [getP, pagesOk_iff.2 hok, hix, hj]
    rw [e] at hR
    show pBin Try.prog 3 .lss (.int .i64 (j : Nat)) _ _
    rw [pBin_lt, pIf_d]
    refine ⟨fun h => by omega, fun _ => ?_⟩
    have hv1 := hv.mono k1.le fun _ _ h => h
    have hu1 := hu.mono k1.le fun _ _ h => h
    have hg := good_fl hv hj
    refine pn_at hv1 hj fun g g0 g1 g2 _ => ?_
    rw [g0, g1, g2]
    refine impl_Chain (n := n) (x := x) ⟨u, v, rfl, hu1, hv1⟩ hg hok.1 (hok.size hj) fun c F σ' hk ho hF => ?_
    obtain ⟨r, hcI, hcS⟩ := hok.chI hj
    have htx : textOf x n = catD x.1 r := by simp [textOf, hcS]
    rw [htx] at hR
    rw [hcI] at ho ⊢
    have ho : OSl w0 1 ON σ' F c r := by simpa using ho
    have hc := ho.rel (ok_n w0)
    have hlc := hc.le
    rw [pExtract_s rfl, pExtract_s rfl, hc.len]
    have hch := chS_chain hcS
    have hsm := ch_small hch
    have hlt : ∀ i, i ∈ r → i < x.1.length := fun i hi => ch_lt hch hi
    have hu' := hu1.mono hk.le fun _ _ h => h
    have hrl : r.length ≤ 1000000 := by
      have hnd : r.Nodup := (chOf_spec hcI).2
      have := nodup_len _ _ hnd hlt
      rw [hok.1] at this; omega
    refine loop_rule (m := r.length) (fun k l s => ∃ i, s = σ' ∧ k + i = r.length ∧ l = [.string (catD x.1 (r.take i)), c, .int .i64 r.length, .int .i64 (i : Nat), u, v]) ?_ ⟨0, rfl, by omega, rfl⟩
    rintro k l s L ⟨i, rfl, hki, rfl⟩ hL
    simp only [vget, List.getD_cons_zero, List.getD_cons_succ]
    rw [pBin_lt, pIf_d]
    refine ⟨fun hi => ?_, fun hi => ?_⟩
    · have hx := List.getElem?_eq_getElem (show i < r.length by omega)
      generalize hxi : r[i]'(by omega) = q at hx
      have hq := hlt q (List.mem_of_getElem? hx)
      have hp := List.getElem?_eq_getElem hq
      generalize hpq : x.1[q] = p at hp
      refine n_at hc hx fun g hg => ?_
      rw [hg]
      refine fl_at hu' hp 1 (by omega) rfl fun g hg hgood => ?_
      have hsz := catD_le (ps := x.1) (l := r.take i) fun y hy => hsm y (List.mem_of_mem_take hy)
      have h40 := hsm q (List.mem_of_getElem? hx)
      rw [dataAt_of hp] at h40
      rw [List.length_take] at hsz
      rw [hg, pBin_cat (by omega), pBin_add (by omega)]
      refine hL _ _ (k - 1) (by omega) ⟨i + 1, rfl, by omega, ?_⟩
      rw [catD_take hx, dataAt_of hp]; simp
    · have e : i = r.length := by omega
      subst e
      rw [List.take_length]
      exact hR _ (k1.trans hk)

theorem spec_PagesGet {es : List Value} {x : Pgs} {name : ByteArray} (h : RPgs (Av.get w0 σ) es x) {R : Value → Vw → Prop}
    (hR : ∀ σ', Keeps σ σ' → R (.tuple ⟨[.string (getP x name).1, .bool (getP x name).2]⟩) σ') : AC Try.prog w0 n_spec_PagesGet [.agg ⟨es⟩, .string name] σ R := by
  refine ac_spec_PagesGet ?_
  unfold vc_spec_PagesGet
  rw [RPgs.two h]
  have h0 := h
  obtain ⟨u, v, rfl, hu, hv⟩ := h
  simp only [cellOf_agg, List.getD_cons_zero, List.getD_cons_succ]
  refine spec_PagesOk h0 fun s1 k1 => ?_
  rw [pUn_not, pIf_b]
  refine ⟨fun hn => ?_, fun hn => ?_⟩
  · have e : getP x name = (⟨#[]⟩, false) := by simp at hn; simp [getP, hn]
    rw [e] at hR; exact hR s1 k1
  have hok : OkS x := pagesOk_iff.1 (by simpa using hn)
  have h1 := mono_pgs k1.le h0
  refine spec_l32At h1 ?_
  cases hix : pnIdx x.2 name with
  | none =>
    have e : getP x name = (⟨#[]⟩, false) := by simp [getP, pagesOk_iff.2 hok, hix]
    rw [e] at hR
    show pBin Try.prog 3 .lss (.int .i64 (-1)) _ _
    rw [pBin_lt, pIf_d]
    exact ⟨fun _ => hR s1 k1, fun h => by omega⟩
  | some j =>
    obtain ⟨n, hj, _⟩ := pnIdx_some hix
    have e : getP x name = (textOf x n, true) := by simp [getP, pagesOk_iff.2 hok, hix, hj]
    rw [e] at hR
    show pBin Try.prog 3 .lss (.int .i64 (j : Nat)) _ _
    rw [pBin_lt, pIf_d]
    refine ⟨fun h => by omega, fun _ => ?_⟩
    refine spec_l32At h1 ?_
    rw [hix]
    exact spec_l32Text h1 hok hj fun s2 k2 => hR s2 (k1.trans k2)

theorem impl_PagesGet {es : List Value} {x : Pgs} {name : ByteArray} (h : RPgs (Av.get w0 σ) es x) {R : Value → Vw → Prop}
    (hR : ∀ σ', Keeps σ σ' → R (.tuple ⟨[.string (getP x name).1, .bool (getP x name).2]⟩) σ') : AC Try.prog w0 n_impl_PagesGet [.agg ⟨es⟩, .string name] σ R := by
  refine ac_impl_PagesGet ?_
  unfold vc_impl_PagesGet
  rw [RPgs.two h]
  have h0 := h
  obtain ⟨u, v, rfl, hu, hv⟩ := h
  simp only [cellOf_agg, List.getD_cons_zero, List.getD_cons_succ]
  refine impl_PagesOk h0 fun s1 k1 => ?_
  rw [pUn_not, pIf_b]
  refine ⟨fun hn => ?_, fun hn => ?_⟩
  · have e : getP x name = (⟨#[]⟩, false) := by simp at hn; simp [getP, hn]
    rw [e] at hR; exact hR s1 k1
  have hok : OkS x := pagesOk_iff.1 (by simpa using hn)
  refine impl_get (mono_pgs k1.le h0) hok fun s2 k2 => ?_
  rw [pExtract_s rfl, pExtract_s rfl]
  exact hR s2 (k1.trans k2)

theorem law_PagesGet {es : List Value} {x : Pgs} {name : ByteArray} (h : RPgs (Av.get w0 σ) es x) (hs : name.size ≤ 9223372036854775807) {R : Value → Vw → Prop} (hR : ∀ σ', R (.bool true) σ') : AC Try.prog w0 n_laws_FnExactPagesGet [.agg ⟨es⟩, .string name] σ R := by
  refine ac_laws_FnExactPagesGet ?_
  unfold vc_laws_FnExactPagesGet
  rw [RPgs.two h]
  have h0 := h
  obtain ⟨u, v, rfl, hu, hv⟩ := h
  simp only [cellOf_agg, List.getD_cons_zero, List.getD_cons_succ]
  rw [pLenS_s, pBin_gt, pIf_d]
  refine ⟨fun _ => hR _, fun hn => ?_⟩
  refine szPages h0 (by omega) ?_
  rw [pBin_lt, pIf_d]
  refine ⟨fun _ => hR _, fun hb => ?_⟩
  rw [Av.left_neg] at hb
  have hsz : szPgs x ≤ 1048576 := by omega
  have hl1 : x.1.length ≤ 1000000000000 := by unfold szPgs at hsz; omega
  have hl2 : x.2.length ≤ 1000000000000 := by unfold szPgs at hsz; omega
  refine toPages h0 hl1 hl2 fun es1 F1 s1 k1 o1 f1 => ?_
  refine spec_PagesGet ((ok_pgs w0).rel _ _ _ _ o1) fun s2 k2 => ?_
  rw [pExtract_s rfl, pExtract_s rfl]
  have k12 := k1.trans k2
  refine toPages (mono_pgs k12.le h0) hl1 hl2 fun es2 F2 s3 k3 o2 f2 => ?_
  have r2 := (ok_pgs w0).rel _ _ _ _ o2
  rw [RPgs.two r2]
  obtain ⟨a, b, rfl⟩ := RPgs.pair r2
  simp only [cellOf_agg, List.getD_cons_zero, List.getD_cons_succ]
  refine impl_PagesGet r2 fun s4 k4 => ?_
  rw [pExtract_s rfl, pExtract_s rfl, pBin_sne, pIf_d]
  refine ⟨fun h => absurd rfl h, fun _ => ?_⟩
  rw [pBin_b (v := .bool false) (by kernel_rfl) (by simp), pIf_b]
  refine ⟨nofun, fun _ => ?_⟩
  have k34 := (k12.trans k3).trans k4
  refine toPages (mono_pgs k34.le h0) hl1 hl2 fun es3 F3 s5 k5 o3 f3 => ?_
  refine eqPages (mono_pgs (k4.trans k5).le r2) ((ok_pgs w0).rel _ _ _ _ o3) ?_
  rw [pUn_not, pIf_b]
  exact ⟨fun h => by simp at h, fun _ => hR _⟩
end
end Go.Proofs.Ytkndffhcncmbjaa

/- Rows of our own: cells stored, an element taken out in place, the copy of two lists in any order. -/
set_option linter.unusedVariables false
set_option linter.unusedSimpArgs false
namespace Go.Av
open Go Go.RowKit

section
variable {P : Program} {w0 : World} {σ σ' : Vw} {α γ : Type}

theorem cell_store {b o : Nat} {r : Row} {A c C new : List Value} {K : Vw → Prop} (hr : σ b = some r) (hc : r.cells = A ++ (c ++ C)) (hA : A.length = o) (hl : c.length = new.length)
    (hK : K (σ.put b { r with cells := A ++ (new ++ C) })) : pStore (.pointer (some ⟨b, o, none⟩)) new σ K := by
  refine ⟨b, o, r, rfl, hr, by rw [hc]; simp only [List.length_append]; omega, ?_⟩
  rw [hc, ← hA, setAt_mid A c new C hl]
  exact hK

/-- An element of a list of our own is written, all its cells. -/
theorem OSl.store {n : Nat} {Rel : (Addr → Option Value) → List Value → α → Prop} {O : Vw → List Nat → List Value → α → Prop} (ok : OOk w0 n Rel O) {F : List Nat} {v : Value} {xs : List α} (h : OSl w0 n O σ F v xs) {j : Nat} {x y : α} {new : List Value} (hj : xs[j]? = some x)
    (hO : ∀ f c σ', O σ f c x → O σ' f new y) (hn : new.length = n) {K : Vw → Prop}
    (hK : ∀ σ', KeepsBut F σ σ' → OSl w0 n O σ' F v (xs.set j y) → K σ') : pIndexAddr n v (.int .i64 j) fun p => pStore p new σ K := by
  obtain ⟨b, o, f, c, A, C, r, hix, hb, hr, hc, hA, hOx, hbF, hf, hput⟩ := h.focus ok hj
  refine hix _ ?_
  have hcl := ok.len _ _ _ _ hOx
  refine cell_store hr hc hA (by rw [hcl, hn]) ?_
  exact hK _ (KeepsBut.put hbF) (hput _ new y _ put_at rfl (hO _ _ _ hOx) fun i hi hne _ => by simp [Vw.put, hne])

def Vclone2 (w0 : World) (e1 n1 b1 e2 n2 b2 : Nat) (u v : Value) (σ : Vw) (K : Value → Value → Vw → Prop) : Prop :=
  (pNew w0 e1 [] σ (fun x0 s1 => (pAppendS w0 e1 n1 b1 (.slice (some (Addr.mk x0 0 none)) 0 0) u s1 (fun v2 s3 => pNew w0 e2 [] s3 (fun x4 s5 => pAppendS w0 e2 n2 b2 (.slice (some (Addr.mk x4 0 none)) 0 0) v s5 (fun v6 s7 => K v2 v6 s7)))) ∧
    (pNew w0 e2 [] s1 (fun x8 s9 => pAppendS w0 e1 n1 b1 (.slice (some (Addr.mk x0 0 none)) 0 0) u s9 (fun v10 s11 => pAppendS w0 e2 n2 b2 (.slice (some (Addr.mk x8 0 none)) 0 0) v s11 (fun v12 s13 => K v10 v12 s13)))))) ∧
  (pNew w0 e2 [] σ (fun x14 s15 => pNew w0 e1 [] s15 (fun x16 s17 => pAppendS w0 e1 n1 b1 (.slice (some (Addr.mk x16 0 none)) 0 0) u s17 (fun v18 s19 => pAppendS w0 e2 n2 b2 (.slice (some (Addr.mk x14 0 none)) 0 0) v s19 (fun v20 s21 => K v18 v20 s21)))))

theorem fresh_in {F F' : List Nat} {σ s s' : Vw} (k : Keeps σ s) (hF : ∀ i, i ∈ F → σ i = none) (h : ∀ i, i ∈ F' → i ∈ F ∨ s i = none) : ∀ i, i ∈ F' → σ i = none := fun i hi => by
  rcases h i hi with e | e
  · exact hF i e
  · cases hs : σ i with
    | none => rfl
    | some r => rw [k i r hs] at e; cases e
theorem KeepsBut.dom {F : List Nat} {σ σ' : Vw} (k : KeepsBut F σ σ') {i : Nat} (h : σ i ≠ none) (hF : i ∉ F) : σ' i ≠ none := by
  cases hs : σ i with
  | none => exact absurd hs h
  | some r => rw [k i r hs hF]; simp

theorem clone2 {e1 n1 b1 e2 n2 b2 : Nat} {R1 : (Addr → Option Value) → List Value → α → Prop} {O1 : Vw → List Nat → List Value → α → Prop} {R2 : (Addr → Option Value) → List Value → γ → Prop} {O2 : Vw → List Nat → List Value → γ → Prop}
    (ok1 : OOk w0 n1 R1 O1) (ok2 : OOk w0 n2 R2 O2) (hO1 : ∀ rd s es y, R1 rd es y → O1 s [] es y) (hO2 : ∀ rd s es y, R2 rd es y → O2 s [] es y) {u v : Value} {xs : List α} {ys : List γ}
    (hu : RSl n1 R1 (Av.get w0 σ) u xs) (hv : RSl n2 R2 (Av.get w0 σ) v ys) (hx : xs.length ≤ 1000000000000) (hy : ys.length ≤ 1000000000000) (hb1 : b1 ≤ 140) (hb2 : b2 ≤ 140) {K : Value → Value → Vw → Prop}
    (hK : ∀ u' F v' G σ', Keeps σ σ' → OAcc w0 e1 n1 O1 σ' F u' xs → OAcc w0 e2 n2 O2 σ' G v' ys → (∀ i, i ∈ F → σ i = none) → (∀ i, i ∈ G → σ i = none) → (∀ i, i ∈ F → i ∉ G) → K u' v' σ') : Vclone2 w0 e1 n1 b1 e2 n2 b2 u v σ K := by
  have nof : ∀ {σ s : Vw} {i : Nat}, Keeps σ s → s i = none → σ i = none := fun {σ s i} k hi => by
    cases hs : σ i with
    | none => rfl
    | some r => rw [k i r hs] at hi; cases hi
  refine ⟨fun x0 h1 h2 => ⟨?_, fun x8 h3 h4 => ?_⟩, fun x14 h1 h2 x16 h3 h4 => ?_⟩
  · have k0 : Keeps σ (σ.put x0 ⟨e1, [], 0, (0, 0)⟩) := Keeps.put h2
    refine OAcc.allX (F := [x0]) ok1 (OAcc.new h1) hu k0.le (hO1 _ _) (by simpa using hx) hb1 fun u' F s ex k1 o1 f1 x4 h3 h4 => ?_
    have hF0 : ∀ i, i ∈ [x0] → σ i = none := fun i hi => by rw [List.mem_singleton.1 hi]; exact h2
    have hF := fresh_in k0 hF0 f1 (s' := s)
    have k1' := k1.old k0 hF0
    have k2 : Keeps s (s.put x4 ⟨e2, [], 0, (0, 0)⟩) := Keeps.put h4
    have o1' := o1.frame ok1 (k2.but_at fun b hb => (o1.dom ok1 b hb).2)
    refine OAcc.allX (F := [x4]) ok2 (OAcc.new h3) hv (k1'.trans k2).le (hO2 _ _) (by simpa using hy) hb2 fun v' G s' ex k3 o2 f2 => ?_
    have hG0 : ∀ i, i ∈ [x4] → s i = none := fun i hi => by rw [List.mem_singleton.1 hi]; exact h4
    have hG := fresh_in k2 hG0 f2 (s' := s')
    have k3' := k3.old k2 hG0
    have o1'' := o1.frame ok1 (k3'.but_at fun b hb => (o1.dom ok1 b hb).2)
    refine hK u' F v' G s' (k1'.trans k3') (by simpa using o1'') (by simpa using o2) hF (fun i hi => nof k1' (hG i hi)) fun i hi hi' => (o1.dom ok1 i hi).2 (hG i hi')
  · have k0 : Keeps σ (σ.put x0 ⟨e1, [], 0, (0, 0)⟩) := Keeps.put h2
    have k1 : Keeps (σ.put x0 ⟨e1, [], 0, (0, 0)⟩) ((σ.put x0 ⟨e1, [], 0, (0, 0)⟩).put x8 ⟨e2, [], 0, (0, 0)⟩) := Keeps.put h4
    have a1 : OAcc w0 e1 n1 O1 (σ.put x0 ⟨e1, [], 0, (0, 0)⟩) [x0] (.slice (some ⟨x0, 0, none⟩) 0 0) [] := OAcc.new h1
    have a1' := a1.frame ok1 (k1.but_at fun b hb => (a1.dom ok1 b hb).2)
    have a2 : OAcc w0 e2 n2 O2 ((σ.put x0 ⟨e1, [], 0, (0, 0)⟩).put x8 ⟨e2, [], 0, (0, 0)⟩) [x8] (.slice (some ⟨x8, 0, none⟩) 0 0) [] := OAcc.new h3
    have hF0 : ∀ i, i ∈ [x0] → σ i = none := fun i hi => by rw [List.mem_singleton.1 hi]; exact h2
    have hG0 : ∀ i, i ∈ [x8] → σ i = none := fun i hi => by rw [List.mem_singleton.1 hi]; exact nof k0 h4
    have hne : x8 ≠ x0 := fun e => by rw [e, put_at] at h4; cases h4
    have k01 := k0.trans k1
    refine OAcc.allX (F := [x0]) ok1 a1' hu k01.le (hO1 _ _) (by simpa using hx) hb1 fun u' F s ex k2 o1 f1 => ?_
    have hF := fresh_in k01 hF0 f1 (s' := s)
    have k2' := k2.old k01 hF0
    have a2' := a2.frame ok2 (k2.at (fun b hb => (a2.dom ok2 b hb).2) fun b hb hb' => hne ((List.mem_singleton.1 hb).symm.trans (List.mem_singleton.1 hb')))
    have hFG : x8 ∉ F := fun hi => by
      rcases f1 _ hi with e | e
      · exact hne (List.mem_singleton.1 e)
      · rw [put_at] at e; cases e
    refine OAcc.allX (F := [x8]) ok2 a2' hv k2'.le (hO2 _ _) (by simpa using hy) hb2 fun v' G s' ex k3 o2 f2 => ?_
    have o1' := o1.frame ok1 (k3.at (fun b hb => (o1.dom ok1 b hb).2) fun b hb hb' => hFG ((List.mem_singleton.1 hb') ▸ hb))
    refine hK u' F v' G s' (k3.old k2' hG0) (by simpa using o1') (by simpa using o2) hF (fresh_in k2' hG0 f2 (s' := s')) fun i hi hi' => ?_
    rcases f2 i hi' with e | e
    · exact hFG ((List.mem_singleton.1 e) ▸ hi)
    · exact (o1.dom ok1 i hi).2 e
  · have k0 : Keeps σ (σ.put x14 ⟨e2, [], 0, (0, 0)⟩) := Keeps.put h2
    have k1 : Keeps (σ.put x14 ⟨e2, [], 0, (0, 0)⟩) ((σ.put x14 ⟨e2, [], 0, (0, 0)⟩).put x16 ⟨e1, [], 0, (0, 0)⟩) := Keeps.put h4
    have a2 : OAcc w0 e2 n2 O2 (σ.put x14 ⟨e2, [], 0, (0, 0)⟩) [x14] (.slice (some ⟨x14, 0, none⟩) 0 0) [] := OAcc.new h1
    have a2' := a2.frame ok2 (k1.but_at fun b hb => (a2.dom ok2 b hb).2)
    have a1 : OAcc w0 e1 n1 O1 ((σ.put x14 ⟨e2, [], 0, (0, 0)⟩).put x16 ⟨e1, [], 0, (0, 0)⟩) [x16] (.slice (some ⟨x16, 0, none⟩) 0 0) [] := OAcc.new h3
    have hG0 : ∀ i, i ∈ [x14] → σ i = none := fun i hi => by rw [List.mem_singleton.1 hi]; exact h2
    have hF0 : ∀ i, i ∈ [x16] → σ i = none := fun i hi => by rw [List.mem_singleton.1 hi]; exact nof k0 h4
    have hne : x16 ≠ x14 := fun e => by rw [e, put_at] at h4; cases h4
    have k01 := k0.trans k1
    refine OAcc.allX (F := [x16]) ok1 a1 hu k01.le (hO1 _ _) (by simpa using hx) hb1 fun u' F s ex k2 o1 f1 => ?_
    have hF := fresh_in k01 hF0 f1 (s' := s)
    have k2' := k2.old k01 hF0
    have a2'' := a2'.frame ok2 (k2.at (fun b hb => (a2'.dom ok2 b hb).2) fun b hb hb' => hne ((List.mem_singleton.1 hb').symm.trans (List.mem_singleton.1 hb)))
    have hFG : x14 ∉ F := fun hi => by
      rcases f1 _ hi with e | e
      · exact hne (List.mem_singleton.1 e).symm
      · exact absurd e (a2'.dom ok2 x14 (List.mem_singleton.2 rfl)).2
    refine OAcc.allX (F := [x14]) ok2 a2'' hv k2'.le (hO2 _ _) (by simpa using hy) hb2 fun v' G s' ex k3 o2 f2 => ?_
    have o1' := o1.frame ok1 (k3.at (fun b hb => (o1.dom ok1 b hb).2) fun b hb hb' => hFG ((List.mem_singleton.1 hb') ▸ hb))
    refine hK u' F v' G s' (k3.old k2' hG0) (by simpa using o1') (by simpa using o2) hF (fresh_in k2' hG0 f2 (s' := s')) fun i hi hi' => ?_
    rcases f2 i hi' with e | e
    · exact hFG ((List.mem_singleton.1 e) ▸ hi)
    · exact (o1.dom ok1 i hi).2 e

/-! ### An element is taken out, in place -/
def VDel (P : Program) (w0 : World) (T ety n bytes : Nat) (z : List Value) (a0 a1 a2 : Value) (σ : Vw) (R : Value → Vw → Prop) : Prop :=
  pLen a0 (fun v0 => pSlice3 n a0 (some a1) (some a2) (some v0) (fun v1 => pBin P T .eql a1 a2 (fun v2 => pIf v2 (R a0 σ) (pLen a0 (fun v3 => pSlice n a0 none (some a1) (fun v4 => pSlice n a0 (some a2) none (fun v5 => pAppendS w0 ety n bytes v4 v5 σ (fun v6 s7 => pLen v6 (fun v8 => pSlice n v6 (some v8) (some v3) (fun v9 => pClear n z v9 s7 (fun s10 => R v6 s10)))))))))))

theorem del_row {T ety n bytes b off cap j : Nat} {z : List Value} {r : Row} {pre post : List Value} {css : List (List Value)} (hz : z.length = n) (hz1 : ∀ c, c ∈ z → c.oneCell' = true) (hb : w0.heap.size ≤ b) (hr : σ b = some r) (hc : r.cells = pre ++ (css.flatten ++ post)) (hpre : pre.length = off)
    (hn : ∀ c, c ∈ css → c.length = n) (h1 : ∀ c, c ∈ css → ∀ u, u ∈ c → u.oneCell' = true) (hn0 : 0 < n) (hcap : css.length ≤ cap ∧ cap ≤ 9223372036854775807) (hj : j < css.length) {R : Value → Vw → Prop}
    (hR : R (.slice (some ⟨b, off, none⟩) (css.length - 1) cap) (σ.put b { r with cells := pre ++ ((css.take j ++ css.drop (j + 1)).flatten ++ (z ++ post)) })) :
    VDel P w0 T ety n bytes z (.slice (some ⟨b, off, none⟩) css.length cap) (.int .i64 (j : Nat)) (.int .i64 ((j : Int) + 1)) σ R := by
  obtain ⟨m, hm⟩ : ∃ m, css.length = j + 1 + m := ⟨css.length - (j + 1), by omega⟩
  have hcj := List.getElem?_eq_getElem hj
  have htl : ∀ c, c ∈ css.take j → c.length = n := fun c hc => hn c (List.mem_of_mem_take hc)
  have hdl : ∀ c, c ∈ css.drop (j + 1) → c.length = n := fun c hc => hn c (List.mem_of_mem_drop hc)
  have hfl := split_at hcj
  have hcl := hn _ (List.getElem_mem hj)
  have htlen : (css.take j).flatten.length = j * n := by rw [flat_len _ htl, List.length_take, Nat.min_eq_left (by omega)]
  have hdlen : (css.drop (j + 1)).flatten.length = m * n := by rw [flat_len _ hdl, List.length_drop]; congr 1; omega
  unfold VDel
  rw [pLen_s]
  refine ⟨some ⟨b, off, none⟩, css.length, cap, (j : Int), (j : Int) + 1, (css.length : Int), rfl, rfl, rfl, rfl, rfl, rfl, by omega, by omega, by omega, by omega, ?_⟩
  rw [pBin_eq, pIf_d]
  refine ⟨fun h => by omega, fun _ => ?_⟩
  rw [pLen_s]
  refine ⟨some ⟨b, off, none⟩, css.length, cap, 0, (j : Int), rfl, rfl, rfl, by omega, by omega, by omega, ?_⟩
  refine ⟨some ⟨b, off, none⟩, css.length, cap, (j : Int) + 1, (css.length : Int), rfl, rfl, rfl, by omega, by omega, by omega, ?_⟩
  have e0 : (if cap = (0 : Int).toNat then some (Addr.mk b off none) else (some (Addr.mk b off none)).map (·.add ((0 : Int).toNat * n))) = some (Addr.mk b off none) := by
    split
    · rfl
    · simp [Addr.add]
  rw [e0]
  simp only [Int.toNat_natCast, Int.toNat_zero, Nat.sub_zero]
  have ej : ((j : Int) + 1).toNat = j + 1 := by omega
  rw [ej]
  have hcells : r.cells = (pre ++ (css.take j).flatten) ++ ((css[j] ++ (css.drop (j + 1)).flatten) ++ post) := by rw [hc, hfl]; simp
  -- what is moved
  refine ⟨_, css.length - (j + 1), cap - (j + 1), (css.drop (j + 1)).flatten, rfl, by rw [hdlen]; congr 1; omega, fun u hu => ?_, fun i hi => ?_, .inl ⟨b, off, j, cap, r, rfl, hr, by omega, by rw [hdlen]; congr 1; omega, fun u hu => ?_, ?_, ?_⟩⟩
  · obtain ⟨c, hc1, hc2⟩ := List.mem_flatten.1 hu
    exact h1 c (List.mem_of_mem_drop hc1) u hc2
  · have hi' : i < m * n := by rw [← hdlen]; exact hi
    have hcapne : ¬ cap = j + 1 := fun e => by
      have : m = 0 := by omega
      subst this; omega
    refine ⟨_, by rw [if_neg hcapne]; rfl, ?_⟩
    rw [add_add, addr_add, get_row hb hr, hc, ← List.getElem?_eq_getElem hi]
    rw [List.getElem?_append_right (by omega), hpre]
    have e2 : off + ((j + 1) * n + i) - off = (j + 1) * n + i := by omega
    have hlt : (j + 1) * n + i < css.flatten.length := by
      rw [flat_len _ hn, hm, Nat.add_mul (j + 1)]; omega
    rw [e2, List.getElem?_append_left hlt]
    have h3 : css.flatten = (css.take (j + 1)).flatten ++ (css.drop (j + 1)).flatten := by rw [← List.flatten_append, List.take_append_drop]
    have h4 : (css.take (j + 1)).flatten.length = (j + 1) * n := by
      rw [flat_len _ fun c hc => hn c (List.mem_of_mem_take hc), List.length_take, Nat.min_eq_left (by omega)]
    rw [h3, List.getElem?_append_right (by omega), h4]
    congr 1; omega
  · obtain ⟨c, hc1, hc2⟩ := List.mem_flatten.1 hu
    exact h1 c (List.mem_of_mem_drop hc1) u hc2
  · rw [hcells]; simp only [List.length_append]; omega
  · -- the cells behind it
    generalize hDe : (css.drop (j + 1)).flatten = D at *
    generalize hTe : (css.take j).flatten = T' at *
    generalize hce : css[j] = cj at *
    have hB : (cj ++ D).length = n + m * n := by rw [List.length_append, hcl, hdlen]
    have hsplit : cj ++ D = (cj ++ D).take (m * n) ++ (cj ++ D).drop (m * n) := (List.take_append_drop _ _).symm
    have hold : ((cj ++ D).take (m * n)).length = D.length := by rw [List.length_take, hB, hdlen]; omega
    have hlast : ((cj ++ D).drop (m * n)).length = n := by rw [List.length_drop, hB]; omega
    have hset : setAt r.cells (off + j * n) D = (pre ++ T') ++ (D ++ ((cj ++ D).drop (m * n) ++ post)) := by
      have hA : (pre ++ T').length = off + j * n := by rw [List.length_append, hpre, htlen]
      have hcells2 : r.cells = (pre ++ T') ++ ((cj ++ D).take (m * n) ++ ((cj ++ D).drop (m * n) ++ post)) := by
        rw [hcells, ← List.append_assoc ((cj ++ D).take (m * n)), List.take_append_drop]
      rw [hcells2, ← hA, setAt_mid _ _ _ _ hold]
    rw [hset]
    have e3 : j + (css.length - (j + 1)) = css.length - 1 := by omega
    rw [e3, pLen_s]
    refine ⟨some ⟨b, off, none⟩, css.length - 1, cap, ((css.length - 1 : Nat) : Int), (css.length : Int), rfl, rfl, rfl, by omega, by omega, by omega, ?_⟩
    simp only [Int.toNat_natCast]
    have e4 : css.length - (css.length - 1) = 1 := by omega
    have hcapne : ¬ cap = css.length - 1 := by omega
    rw [e4, if_neg hcapne]
    refine ⟨hz, hz1, _, 1, cap - (css.length - 1), rfl, .inr ⟨b, off + (css.length - 1) * n, _, by simp [addr_add], by omega, put_at, ?_, ?_⟩⟩
    · simp only [List.length_append, hpre, htlen, hdlen, hlast]
      have : (css.length - 1) * n = j * n + m * n := by rw [← Nat.add_mul]; congr 1; omega
      omega
    · have e5 : (List.replicate 1 z).flatten = z := by simp
      have hA2 : (pre ++ T' ++ D).length = off + (css.length - 1) * n := by
        simp only [List.length_append, hpre, htlen, hdlen]
        have : (css.length - 1) * n = j * n + m * n := by rw [← Nat.add_mul]; congr 1; omega
        omega
      simp only
      rw [e5]
      have e6 : (pre ++ T') ++ (D ++ ((cj ++ D).drop (m * n) ++ post)) = (pre ++ T' ++ D) ++ ((cj ++ D).drop (m * n) ++ post) := by simp
      rw [e6, ← hA2, setAt_mid _ _ _ _ (by rw [hlast, hz]), put_put]
      have e7 : (pre ++ T' ++ D) ++ (z ++ post) = pre ++ ((css.take j ++ css.drop (j + 1)).flatten ++ (z ++ post)) := by
        rw [List.flatten_append, hTe, hDe]; simp
      rw [e7]
      exact hR

/-- An element of a list of our own is taken out: what is read then. -/
theorem OSl.del {T ety n bytes j : Nat} {z : List Value} {Rel : (Addr → Option Value) → List Value → α → Prop} {O : Vw → List Nat → List Value → α → Prop} (ok : OOk w0 n Rel O) (hO : ∀ s s' f es y, O s f es y → f = [] ∧ O s' f es y) (hz : z.length = n) (hz1 : ∀ c, c ∈ z → c.oneCell' = true) (hn0 : 0 < n) {F : List Nat} {v : Value} {xs : List α}
    (h : OSl w0 n O σ F v xs) (hj : j < xs.length) {R : Value → Vw → Prop} (hR : ∀ v' σ', KeepsBut F σ σ' → RSl n Rel (Av.get w0 σ') v' (xs.take j ++ xs.drop (j + 1)) → R v' σ') : VDel P w0 T ety n bytes z v (.int .i64 (j : Nat)) (.int .i64 ((j : Int) + 1)) σ R := by
  obtain ⟨g1, g2, ⟨rfl, rfl, _⟩ | ⟨b, off, cap, r, pre, post, css, Fs, rfl, gc, g3, g4, g5, g6, g7, g8, g9, g10⟩⟩ := h
  · simp at hj
  · have each : ∀ (i : Nat) (c : List Value), css[i]? = some c → ∃ x f, xs[i]? = some x ∧ O σ f c x := fun i c hi => by
      have hlt : i < css.length := (List.getElem?_eq_some_iff.1 hi).1
      exact ⟨_, _, List.getElem?_eq_getElem (by omega), g10 i c _ _ hi (List.getElem?_eq_getElem (by omega)) (List.getElem?_eq_getElem (by omega))⟩
    have hn : ∀ c, c ∈ css → c.length = n := fun c hc => by obtain ⟨i, hi⟩ := List.getElem?_of_mem hc; obtain ⟨x, f, _, ho⟩ := each i c hi; exact ok.len _ _ _ _ ho
    have h1 : ∀ c, c ∈ css → ∀ u, u ∈ c → u.oneCell' = true := fun c hc => by obtain ⟨i, hi⟩ := List.getElem?_of_mem hc; obtain ⟨x, f, _, ho⟩ := each i c hi; exact ok.one _ _ _ _ ho
    rw [← g7]
    refine del_row hz hz1 g3 g4 g5 g6 hn h1 hn0 (by rw [g7]; exact gc) (by omega) (hR _ _ (KeepsBut.put (by rw [g9]; exact List.mem_cons_self)) ?_)
    have hlen : (xs.take j ++ xs.drop (j + 1)).length = css.length - 1 := by simp only [List.length_append, List.length_take, List.length_drop]; omega
    refine ⟨_, cap, by rw [hlen], by rw [hlen]; omega, fun i x hi => ?_⟩
    -- the cells of the element
    have hget : ∃ c f, (css.take j ++ css.drop (j + 1))[i]? = some c ∧ O σ f c x := by
      by_cases hij : i < j
      · rw [List.getElem?_append_left (by rw [List.length_take]; omega), List.getElem?_take_of_lt hij] at hi
        refine ⟨css[i]'(by omega), _, ?_, g10 i _ x _ (List.getElem?_eq_getElem (by omega)) hi (List.getElem?_eq_getElem (by omega))⟩
        rw [List.getElem?_append_left (by rw [List.length_take]; omega), List.getElem?_take_of_lt hij]
        exact List.getElem?_eq_getElem (by omega)
      · rw [List.getElem?_append_right (by rw [List.length_take]; omega), List.getElem?_drop, List.length_take, Nat.min_eq_left (by omega)] at hi
        have hlt : j + 1 + (i - j) < xs.length := (List.getElem?_eq_some_iff.1 hi).1
        refine ⟨css[j + 1 + (i - j)]'(by omega), _, ?_, g10 _ _ x _ (List.getElem?_eq_getElem (by omega)) hi (List.getElem?_eq_getElem (by omega))⟩
        rw [List.getElem?_append_right (by rw [List.length_take]; omega), List.getElem?_drop, List.length_take, Nat.min_eq_left (by omega)]
        exact List.getElem?_eq_getElem (by omega)
    obtain ⟨c, f, hci, ho⟩ := hget
    have hn' : ∀ c, c ∈ css.take j ++ css.drop (j + 1) → c.length = n := fun c hc => by
      rcases List.mem_append.1 hc with h | h
      · exact hn c (List.mem_of_mem_take h)
      · exact hn c (List.mem_of_mem_drop h)
    obtain ⟨rfl, ho'⟩ := hO σ (σ.put b { r with cells := pre ++ ((css.take j ++ css.drop (j + 1)).flatten ++ (z ++ post)) }) f c x ho
    refine ⟨_, c, rfl, ok.len _ _ _ _ ho, fun k hk => ?_, ok.rel _ _ _ _ ho'⟩
    rw [addr_add, get_row g3 put_at]
    simp only
    rw [List.getElem?_append_right (by omega), show off + (i * n + k) - pre.length = i * n + k by omega, List.getElem?_append_left, flat_get _ hn' i c hci k hk]
    have hil : i < (css.take j ++ css.drop (j + 1)).length := (List.getElem?_eq_some_iff.1 hci).1
    rw [flat_len _ hn']
    calc i * n + k < i * n + n := by omega
      _ = (i + 1) * n := by rw [Nat.add_mul, Nat.one_mul]
      _ ≤ (css.take j ++ css.drop (j + 1)).length * n := Nat.mul_le_mul_right n hil
end
end Go.Av

/- Pages that are let go: the marks of pages, and 'PagesDrop' by either reading. -/
set_option linter.unusedVariables false
set_option linter.unusedSimpArgs false
namespace Go.Proofs.Ytkndffhcncmbjaa
open Go Go.Av

def mkPg (k : Nat) (_ : Pg) : Pg := ⟨decide ((k : Int) % 3 = 0), mtext (k + 1), ((k + 2 : Nat) : Int)⟩
def mkPn (k : Nat) (_ : Pn) : Pn := ⟨mtext k, ((k + 1 : Nat) : Int), ((k + 2 : Nat) : Int)⟩

section
variable {w0 : World} {σ : Vw}

theorem markPageS {F : List Nat} {v : Value} {xs : List Pg} {k : Nat} (h : OSl w0 3 OPg σ F v xs) (hk : k + sumBy (fun _ => 3) xs ≤ 1000000000000) {R : Value → Vw → Prop}
    (hR : ∀ σ', KeepsBut F σ σ' → OSl w0 3 OPg σ' F v (mkS mkPg (fun _ => 3) k xs) → R (.int .i64 ((k + sumBy (fun _ => 3) xs : Nat) : Int)) σ') : AC Try.prog w0 n_laws_markPageS [v, .int .i64 (k : Nat)] σ R := by
  refine ac_laws_markPageS ?_
  unfold vc_laws_markPageS
  refine mark_loop (ok_pg w0) (mk := mkPg) (cnt := fun _ => 3) h hk ?_ hR
  intro j x k' s ys K hj hlen hkb hx hk' hO hyj hK
  simp only [vget, List.getD_cons_zero, List.getD_cons_succ]
  obtain ⟨b, o, f, c, A, C, r, hix, hb, hr, hc, hA, hOx, hbF, hf, hput⟩ := hO.focus (ok_pg w0) hyj
  obtain ⟨rfl, rfl, hsz⟩ := hOx
  rw [pBin_rem (by omega), pBin_eq]
  refine hix _ ?_
  refine field_store hr hc hA (by show 0 < 3; omega) rfl ?_
  rw [pBin_add (by omega)]
  refine markText (k := k' + 1) (by omega) fun s1 k1 => ?_
  refine hix _ ?_
  refine field_store (k1 _ _ put_at) rfl hA (by show 1 < 3; omega) rfl ?_
  rw [pBin_add (by omega)]
  rw [show ((k' : Nat) : Int) + 1 + 1 = ((k' + 2 : Nat) : Int) by omega]
  refine hix _ ?_
  refine field_store put_at rfl hA (by show 2 < 3; omega) rfl ?_
  rw [pBin_add (by omega), pBin_add (by have := h.1; omega)]
  rw [show ((k' + 2 : Nat) : Int) + 1 = ((k' + 3 : Nat) : Int) by omega]
  refine hK _ ((KeepsBut.put hbF).trans (k1.but.trans ((KeepsBut.put hbF).trans (KeepsBut.put hbF)))) (hput _ [.bool (decide ((k' : Int) % 3 = 0)), .string (mtext (k' + 1)), .int .i64 ((k' + 2 : Nat) : Int)] (mkPg k' x) _ put_at rfl ⟨rfl, rfl, ⟨?_, ?_⟩⟩ fun i hi hne _ => ?_)
  · exact mtext_size (k := k' + 1) (by omega)
  · show -9223372036854775808 ≤ ((k' + 2 : Nat) : Int) ∧ ((k' + 2 : Nat) : Int) ≤ 9223372036854775807; omega
  · have hd := hO.dom (ok_pg w0) i hi
    simp only [Vw.put, hne, if_false]
    cases hs : s i with
    | none => exact absurd hs hd.2
    | some r' => exact k1 i r' (by simp [Vw.put, hne, hs])

theorem markPageNameS {F : List Nat} {v : Value} {xs : List Pn} {k : Nat} (h : OSl w0 3 OPn σ F v xs) (hk : k + sumBy (fun _ => 3) xs ≤ 1000000000000) {R : Value → Vw → Prop}
    (hR : ∀ σ', KeepsBut F σ σ' → OSl w0 3 OPn σ' F v (mkS mkPn (fun _ => 3) k xs) → R (.int .i64 ((k + sumBy (fun _ => 3) xs : Nat) : Int)) σ') : AC Try.prog w0 n_laws_markPageNameS [v, .int .i64 (k : Nat)] σ R := by
  refine ac_laws_markPageNameS ?_
  unfold vc_laws_markPageNameS
  refine mark_loop (ok_pn w0) (mk := mkPn) (cnt := fun _ => 3) h hk ?_ hR
  intro j x k' s ys K hj hlen hkb hx hk' hO hyj hK
  simp only [vget, List.getD_cons_zero, List.getD_cons_succ]
  refine markText (k := k') (by omega) fun s1 k1 => ?_
  have hO1 := hO.frame (ok_pn w0) (k1.but_at fun b hb => (hO.dom (ok_pn w0) b hb).2)
  obtain ⟨b, o, f, c, A, C, r, hix, hb, hr, hc, hA, hOx, hbF, hf, hput⟩ := hO1.focus (ok_pn w0) hyj
  obtain ⟨rfl, rfl, hsz⟩ := hOx
  refine hix _ ?_
  refine field_store hr hc hA (by show 0 < 3; omega) rfl ?_
  rw [pBin_add (by omega)]
  rw [show ((k' : Nat) : Int) + 1 = ((k' + 1 : Nat) : Int) by omega]
  refine hix _ ?_
  refine field_store put_at rfl hA (by show 1 < 3; omega) rfl ?_
  rw [pBin_add (by omega)]
  rw [show ((k' + 1 : Nat) : Int) + 1 = ((k' + 2 : Nat) : Int) by omega]
  refine hix _ ?_
  refine field_store put_at rfl hA (by show 2 < 3; omega) rfl ?_
  rw [pBin_add (by omega), pBin_add (by have := h.1; omega)]
  rw [show ((k' + 2 : Nat) : Int) + 1 = ((k' + 3 : Nat) : Int) by omega]
  refine hK _ (k1.but.trans ((KeepsBut.put hbF).trans ((KeepsBut.put hbF).trans (KeepsBut.put hbF)))) (hput _ [.string (mtext k'), .int .i64 ((k' + 1 : Nat) : Int), .int .i64 ((k' + 2 : Nat) : Int)] (mkPn k' x) _ put_at rfl ⟨rfl, rfl, ⟨?_, ?_, ?_⟩⟩ fun i hi hne _ => ?_)
  · exact mtext_size (k := k') (by omega)
  · show -9223372036854775808 ≤ ((k' + 1 : Nat) : Int) ∧ ((k' + 1 : Nat) : Int) ≤ 9223372036854775807; omega
  · show -9223372036854775808 ≤ ((k' + 2 : Nat) : Int) ∧ ((k' + 2 : Nat) : Int) ≤ 9223372036854775807; omega
  · simp [Vw.put, hne]

theorem fl_atp {α : Type} {n : Nat} {enc : α → List Value} {good : α → Prop} {v : Value} {xs : List α} (h : RSl n (RFl enc good) (Av.get w0 σ) v xs) {j : Nat} {x : α} (hj : xs[j]? = some x) (o : Nat) (ho : o < n) {y : Value} (hy : (enc x)[o]? = some y) {K : Value → (Nat → Value) → Prop} (hK : ∀ (q : Value) (g : Nat → Value), g 0 = y → good x → K q g) :
    pIndexAddr n v (.int .i64 j) fun p => pField o p fun q => pLoad w0 1 q σ (K q) :=
  h.atfp hj o ho fun q es g ⟨h1, h2⟩ hg => hK q g (by rw [h1, hy] at hg; cases hg; rfl) h2

theorem heldPageS {v : Value} {xs : List Pg} {k : Nat} (h : RSl 3 RPg (Av.get w0 σ) v (mkS mkPg (fun _ => 3) k xs)) (hk : k + sumBy (fun _ => 3) xs ≤ 1000000000000) {R : Value → Vw → Prop}
    (hR : ∀ σ', Keeps σ σ' → R (.int .i64 ((k + sumBy (fun _ => 3) xs : Nat) : Int)) σ') : AC Try.prog w0 n_laws_heldPageS [v, .int .i64 (k : Nat)] σ R := by
  refine ac_laws_heldPageS ?_
  unfold vc_laws_heldPageS
  refine held_loop (n := 3) (Rel := RPg) (fun _ _ _ _ hl h => h) (mk := mkPg) (cnt := fun _ => 3) h hk ?_ hR
  intro j x k' s K hj hkb hx hk' hrd hyj hK
  have hl := h.le
  rw [mkS_len] at hl
  simp only [vget, List.getD_cons_zero, List.getD_cons_succ]
  refine fl_at hrd hyj 0 (by omega) (y := .bool (decide ((k' : Int) % 3 = 0))) rfl fun g hg _ => ?_
  rw [hg, pBin_rem (by omega), pBin_eq, pBin_b (v := .bool false) (by kernel_rfl) (by simp), pIf_b]
  refine ⟨nofun, fun _ => ?_⟩
  rw [pBin_add (by omega)]
  refine fl_atp hrd hyj 1 (by omega) (y := .string (mtext (k' + 1))) rfl fun q g hg _ => ?_
  refine markText (k := k' + 1) (by omega) fun s1 k1 => ⟨k1.stay, ?_⟩
  rw [hg, pBin_sne, pIf_d]
  refine ⟨fun h => absurd rfl h, fun _ => ?_⟩
  rw [pBin_add (by omega)]
  refine fl_at (hrd.mono k1.le fun _ _ h => h) hyj 2 (by omega) (y := .int .i64 ((k' + 2 : Nat) : Int)) rfl fun g hg _ => ?_
  rw [hg, pBin_ne, pIf_d]
  refine ⟨fun h => absurd (by omega) h, fun _ => ?_⟩
  rw [pBin_add (by omega), pBin_add (by omega)]
  have := hK _ k1
  rw [show ((k' + 3 : Nat) : Int) = ((k' : Nat) : Int) + 1 + 1 + 1 by omega] at this
  exact this

theorem heldPageNameS {v : Value} {xs : List Pn} {k : Nat} (h : RSl 3 RPn (Av.get w0 σ) v (mkS mkPn (fun _ => 3) k xs)) (hk : k + sumBy (fun _ => 3) xs ≤ 1000000000000) {R : Value → Vw → Prop}
    (hR : ∀ σ', Keeps σ σ' → R (.int .i64 ((k + sumBy (fun _ => 3) xs : Nat) : Int)) σ') : AC Try.prog w0 n_laws_heldPageNameS [v, .int .i64 (k : Nat)] σ R := by
  refine ac_laws_heldPageNameS ?_
  unfold vc_laws_heldPageNameS
  refine held_loop (n := 3) (Rel := RPn) (fun _ _ _ _ hl h => h) (mk := mkPn) (cnt := fun _ => 3) h hk ?_ hR
  intro j x k' s K hj hkb hx hk' hrd hyj hK
  have hl := h.le
  rw [mkS_len] at hl
  simp only [vget, List.getD_cons_zero, List.getD_cons_succ]
  refine fl_atp hrd hyj 0 (by omega) (y := .string (mtext k')) rfl fun q g hg _ => ?_
  refine markText (k := k') (by omega) fun s1 k1 => ⟨k1.stay, ?_⟩
  rw [hg, pBin_sne, pIf_d]
  refine ⟨fun h => absurd rfl h, fun _ => ?_⟩
  rw [pBin_add (by omega)]
  have hrd1 := hrd.mono k1.le fun _ _ h => h
  refine fl_at hrd1 hyj 1 (by omega) (y := .int .i64 ((k' + 1 : Nat) : Int)) rfl fun g hg _ => ?_
  rw [hg, pBin_ne, pIf_d]
  refine ⟨fun h => absurd (by omega) h, fun _ => ?_⟩
  rw [pBin_add (by omega)]
  refine fl_at hrd1 hyj 2 (by omega) (y := .int .i64 ((k' + 2 : Nat) : Int)) rfl fun g hg _ => ?_
  rw [hg, pBin_ne, pIf_d]
  refine ⟨fun h => absurd (by omega) h, fun _ => ?_⟩
  rw [pBin_add (by omega), pBin_add (by omega)]
  have := hK _ k1
  rw [show ((k' + 3 : Nat) : Int) = ((k' : Nat) : Int) + 1 + 1 + 1 by omega] at this
  exact this

def cPgs (x : Pgs) : Nat := sumBy (fun _ => 3) x.1 + sumBy (fun _ => 3) x.2
def mkPgs (k : Nat) (x : Pgs) : Pgs := (mkS mkPg (fun _ => 3) k x.1, mkS mkPn (fun _ => 3) (k + sumBy (fun _ => 3) x.1) x.2)
theorem sum_const' {α : Type} (c : Nat) (xs : List α) : sumBy (fun _ => c) xs = c * xs.length := by
  induction xs with
  | nil => rfl
  | cons a r ih => simp only [sumBy, ih, List.length_cons, Nat.mul_add, Nat.mul_one]; omega
theorem cPgs_eq (x : Pgs) : cPgs x = 3 * x.1.length + 3 * x.2.length := by simp only [cPgs, sum_const']

theorem markPages {F : List Nat} {es : List Value} {x : Pgs} {k : Nat} (h : OPgs w0 σ F es x) (hk : k + cPgs x ≤ 1000000000000) {R : Value → Vw → Prop}
    (hR : ∀ σ', KeepsBut F σ σ' → OPgs w0 σ' F es (mkPgs k x) → R (.int .i64 ((k + cPgs x : Nat) : Int)) σ') : AC Try.prog w0 n_laws_markPages [.agg ⟨es⟩, .int .i64 (k : Nat)] σ R := by
  refine ac_laws_markPages ?_
  unfold vc_laws_markPages
  rw [RPgs.two ((ok_pgs w0).rel _ _ _ _ h)]
  obtain ⟨u, v, F1, F2, rfl, h1, h2, rfl, hnd⟩ := h
  simp only [cellOf_agg, List.getD_cons_zero, List.getD_cons_succ]
  unfold cPgs at hk hR
  have hdis := (List.nodup_append.1 hnd).2.2
  refine markPageS h1 (by omega) fun s1 k1 o1 => ?_
  have h2' := h2.frame (ok_pn w0) (k1.at (fun b hb => (h2.dom (ok_pn w0) b hb).2) fun b hb hb' => hdis b hb' b hb rfl)
  refine markPageNameS h2' (by omega) fun s2 k2 o2 => ?_
  have o1' := o1.frame (ok_pg w0) (k2.at (fun b hb => (o1.dom (ok_pg w0) b hb).2) fun b hb hb' => hdis b hb b hb' rfl)
  have := hR s2 ((k1.mono fun b hb => List.mem_append_left _ hb).trans (k2.mono fun b hb => List.mem_append_right _ hb)) ⟨u, v, F1, F2, rfl, o1', o2, rfl, hnd⟩
  rw [← Nat.add_assoc] at this
  exact this

theorem heldPages {es : List Value} {x : Pgs} {k : Nat} (h : RPgs (Av.get w0 σ) es (mkPgs k x)) (hk : k + cPgs x ≤ 1000000000000) {R : Value → Vw → Prop}
    (hR : ∀ σ', Keeps σ σ' → R (.int .i64 ((k + cPgs x : Nat) : Int)) σ') : AC Try.prog w0 n_laws_heldPages [.agg ⟨es⟩, .int .i64 (k : Nat)] σ R := by
  refine ac_laws_heldPages ?_
  unfold vc_laws_heldPages
  rw [RPgs.two h]
  obtain ⟨u, v, rfl, h1, h2⟩ := h
  simp only [cellOf_agg, List.getD_cons_zero, List.getD_cons_succ]
  unfold cPgs at hk hR
  refine heldPageS h1 (by omega) fun s1 k1 => ?_
  rw [pBin_lt, pIf_d]
  refine ⟨fun h => by omega, fun _ => ?_⟩
  refine heldPageNameS (h2.mono k1.le fun _ _ h => h) (by omega) fun s2 k2 => ?_
  rw [pBin_lt, pIf_d]
  refine ⟨fun h => by omega, fun _ => ?_⟩
  have := hR s2 (k1.trans k2)
  rw [← Nat.add_assoc] at this
  exact this

/-! ### What is let go -/
def zeroPg : Pg := ⟨false, ⟨#[]⟩, -1⟩
def dropPs (ps : List Pg) (l : List Nat) : List Pg := l.foldl (fun ps i => ps.set i zeroPg) ps
theorem dropPs_len {ps : List Pg} {l : List Nat} : (dropPs ps l).length = ps.length := by
  induction l generalizing ps with
  | nil => rfl
  | cons a r ih =>
    have : dropPs ps (a :: r) = dropPs (ps.set a zeroPg) r := rfl
    rw [this, ih, List.length_set]
theorem dropPs_take {ps : List Pg} {l : List Nat} {j i : Nat} (hj : l[j]? = some i) : dropPs ps (l.take (j + 1)) = (dropPs ps (l.take j)).set i zeroPg := foldl_take hj
noncomputable def dropX (x : Pgs) (j : Nat) (n : Pn) : Pgs := (dropPs x.1 ((chS x.1 n).getD []), x.2.take j ++ x.2.drop (j + 1))
noncomputable def dropP (x : Pgs) (name : ByteArray) : Pgs × Int :=
  if pagesOk x = true then match pnIdx x.2 name with
    | some j => match x.2[j]? with
      | some n => (dropX x j n, 0)
      | none => (x, 3)
    | none => (x, 3)
  else (([], []), 1)
theorem dropX_len {x : Pgs} {j : Nat} {n : Pn} : (dropX x j n).1.length = x.1.length ∧ (dropX x j n).2.length ≤ x.2.length := by
  refine ⟨dropPs_len, ?_⟩
  show (x.2.take j ++ x.2.drop (j + 1)).length ≤ _
  simp only [List.length_append, List.length_take, List.length_drop]; omega
theorem dropP_len {x : Pgs} {name : ByteArray} : (dropP x name).1.1.length ≤ x.1.length ∧ (dropP x name).1.2.length ≤ x.2.length := by
  unfold dropP
  split
  · split
    · split
      · exact ⟨Nat.le_of_eq dropX_len.1, dropX_len.2⟩
      · exact ⟨Nat.le_refl _, Nat.le_refl _⟩
    · exact ⟨Nat.le_refl _, Nat.le_refl _⟩
  · simp

theorem nof {σ s : Vw} {i : Nat} (k : Keeps σ s) (hi : s i = none) : σ i = none := by
  cases hs : σ i with
  | none => rfl
  | some r => rw [k i r hs] at hi; cases hi
theorem OPgs.mk {F G : List Nat} {u v : Value} {x : Pgs} {e1 e2 : Nat} (o1 : OAcc w0 e1 3 OPg σ F u x.1) (o2 : OAcc w0 e2 3 OPn σ G v x.2) (hFG : ∀ i, i ∈ F → i ∉ G) : OPgs w0 σ (F ++ G) [u, v] x :=
  ⟨u, v, F, G, rfl, o1.osl, o2.osl, rfl, List.nodup_append.2 ⟨o1.2.1, o2.2.1, fun a ha b hb e => hFG a ha (e ▸ hb)⟩⟩

theorem spec_l32Copy {es : List Value} {x : Pgs} (h : RPgs (Av.get w0 σ) es x) (hx : x.1.length ≤ 1000000000000) (hy : x.2.length ≤ 1000000000000) {R : Value → Vw → Prop}
    (hR : ∀ es' F σ', Keeps σ σ' → OPgs w0 σ' F es' x → (∀ b, b ∈ F → σ b = none) → R (.agg ⟨es'⟩) σ') : AC Try.prog w0 n_spec_l32Copy [.agg ⟨es⟩] σ R := by
  refine ac_spec_l32Copy ?_
  unfold vc_spec_l32Copy
  rw [RPgs.two h]
  obtain ⟨u, v, rfl, hu, hv⟩ := h
  simp only [cellOf_agg, List.getD_cons_zero, List.getD_cons_succ]
  show Vclone2 w0 t_impl_Page 3 32 t_impl_PageName 3 32 u v σ (fun a b s => pVal false 1 a (pVal false 1 b (pVal true 2 (.agg ⟨[a, b]⟩) (R (.agg ⟨[a, b]⟩) s))))
  refine clone2 (ok_pg w0) (ok_pn w0) (fun _ _ _ _ h => ⟨rfl, h⟩) (fun _ _ _ _ h => ⟨rfl, h⟩) hu hv hx hy (by omega) (by omega) fun u' F v' G σ' k o1 o2 f1 f2 hd => ?_
  rw [pVal1 (OSl.one' o1.osl), pVal1 (OSl.one' o2.osl), pVal_2 (OSl.one' o1.osl) (OSl.one' o2.osl)]
  exact hR [u', v'] (F ++ G) σ' k (OPgs.mk o1 o2 hd) fun i hi => by
    rcases List.mem_append.1 hi with h | h
    · exact f1 i h
    · exact f2 i h

theorem impl_clonePages {es : List Value} {x : Pgs} (h : RPgs (Av.get w0 σ) es x) (hx : x.1.length ≤ 1000000000000) (hy : x.2.length ≤ 1000000000000) {R : Value → Vw → Prop}
    (hR : ∀ es' F σ', Keeps σ σ' → OPgs w0 σ' F es' x → (∀ b, b ∈ F → σ b = none) → R (.agg ⟨es'⟩) σ') : AC Try.prog w0 n_impl_clonePages [.agg ⟨es⟩] σ R := by
  refine ac_impl_clonePages ?_
  unfold vc_impl_clonePages
  rw [RPgs.two h]
  obtain ⟨u, v, rfl, hu, hv⟩ := h
  simp only [cellOf_agg, List.getD_cons_zero, List.getD_cons_succ]
  show Vclone2 w0 t_impl_Page 3 32 t_impl_PageName 3 32 u v σ (fun a b s => pVal false 1 a (pVal false 1 b (pVal true 2 (.agg ⟨[a, b]⟩) (R (.agg ⟨[a, b]⟩) s))))
  refine clone2 (ok_pg w0) (ok_pn w0) (fun _ _ _ _ h => ⟨rfl, h⟩) (fun _ _ _ _ h => ⟨rfl, h⟩) hu hv hx hy (by omega) (by omega) fun u' F v' G σ' k o1 o2 f1 f2 hd => ?_
  rw [pVal1 (OSl.one' o1.osl), pVal1 (OSl.one' o2.osl), pVal_2 (OSl.one' o1.osl) (OSl.one' o2.osl)]
  exact hR [u', v'] (F ++ G) σ' k (OPgs.mk o1 o2 hd) fun i hi => by
    rcases List.mem_append.1 hi with h | h
    · exact f1 i h
    · exact f2 i h

/-- A page of our own is let go. -/
theorem page_drop {F : List Nat} {v : Value} {xs : List Pg} (h : OSl w0 3 OPg σ F v xs) {j : Nat} (hj : j < xs.length) {K : Vw → Prop} (hK : ∀ σ', KeepsBut F σ σ' → OSl w0 3 OPg σ' F v (xs.set j zeroPg) → K σ') :
    pVal false 1 (.int .i64 (-1)) (pIndexAddr 3 v (.int .i64 (j : Nat)) fun p => pVal true 3 (.agg ⟨[.bool false, .string ⟨#[]⟩, .int .i64 (-1)]⟩) (pStore p [.bool false, .string ⟨#[]⟩, .int .i64 (-1)] σ K)) := by
  rw [pVal1 rfl]
  have e : (fun p => pVal true 3 (.agg ⟨[.bool false, .string ⟨#[]⟩, .int .i64 (-1)]⟩) (pStore p [.bool false, .string ⟨#[]⟩, .int .i64 (-1)] σ K)) = fun p => pStore p [.bool false, .string ⟨#[]⟩, .int .i64 (-1)] σ K := by
    funext p; rw [pVal_3 rfl rfl rfl]
  rw [e]
  exact OSl.store (ok_pg w0) h (y := zeroPg) (List.getElem?_eq_getElem hj) (fun f c s h => ⟨h.1, rfl, by show 0 ≤ _; omega, ⟨by decide, by decide⟩⟩) rfl hK
end
end Go.Proofs.Ytkndffhcncmbjaa

/- 'PagesDrop' by either reading, and the law. -/
set_option linter.unusedVariables false
set_option linter.unusedSimpArgs false
namespace Go.Proofs.Ytkndffhcncmbjaa
open Go Go.Av

section
variable {w0 : World} {σ : Vw}

theorem chain_of {x : Pgs} (hok : OkS x) {j : Nat} {n : Pn} (hj : x.2[j]? = some n) : ∃ r, chI x.1 n = some r ∧ chS x.1 n = some r ∧ r.Nodup ∧ r.length ≤ 96 ∧ ∀ i, i ∈ r → i < x.1.length := by
  obtain ⟨r, hI, hS⟩ := hok.chI hj
  have hlt : ∀ i, i ∈ r → i < x.1.length := fun i hi => ch_lt (chS_chain hS) hi
  have hnd : r.Nodup := (chOf_spec hI).2
  have := nodup_len _ _ hnd hlt
  exact ⟨r, hI, hS, hnd, by rw [hok.1] at this; exact this, hlt⟩

theorem OPgs.two {F : List Nat} {es : List Value} {x : Pgs} (h : OPgs w0 σ F es x) {A : Prop} : pVal true 2 (.agg ⟨es⟩) A ↔ A := RPgs.two ((ok_pgs w0).rel _ _ _ _ h)

theorem spec_l32Drop {F : List Nat} {es : List Value} {x : Pgs} {j : Nat} {n : Pn} (h : OPgs w0 σ F es x) (hok : OkS x) (hj : x.2[j]? = some n) {R : Value → Vw → Prop}
    (hR : ∀ es' σ', KeepsBut F σ σ' → RPgs (Av.get w0 σ') es' (dropX x j n) → R (.agg ⟨es'⟩) σ') : AC Try.prog w0 n_spec_l32Drop [.agg ⟨es⟩, .int .i64 (j : Nat)] σ R := by
  refine ac_spec_l32Drop ?_
  unfold vc_spec_l32Drop
  rw [OPgs.two h]
  have hrel := (ok_pgs w0).rel _ _ _ _ h
  obtain ⟨u, v, F1, F2, rfl, h1, h2, rfl, hnd⟩ := h
  have hdis := (List.nodup_append.1 hnd).2.2
  simp only [cellOf_agg, List.getD_cons_zero, List.getD_cons_succ]
  have hv := h2.rel (ok_pn w0)
  have hjl : j < x.2.length := (List.getElem?_eq_some_iff.1 hj).1
  have h16 := hok.2.1
  refine pn_at hv hj fun g g0 g1 g2 hgood => ?_
  rw [g0, g1, g2]
  refine spec_Chain (n := n) (x := x) hrel hgood hok.1 (hok.size hj) fun c Fc s1 k1 ho hF => ?_
  obtain ⟨r, hcI, hcS, hrn, hr96, hlt⟩ := chain_of hok hj
  have hdX : dropX x j n = (dropPs x.1 r, x.2.take j ++ x.2.drop (j + 1)) := by simp [dropX, hcS]
  rw [hdX] at hR
  rw [hcS] at ho ⊢
  have ho : OSl w0 1 ON s1 Fc c r := by simpa using ho
  rw [pExtract_s rfl, pExtract_s rfl]
  have hcne : ∀ i, i ∈ Fc → i ∉ F1 := fun i hi hi' => (h1.dom (ok_pg w0) i hi').2 (hF i hi)
  have b1 := h1.frame (ok_pg w0) (k1.but_at fun b hb => (h1.dom (ok_pg w0) b hb).2)
  have b2 := h2.frame (ok_pn w0) (k1.but_at fun b hb => (h2.dom (ok_pn w0) b hb).2)
  refine loop_rule (m := r.length) (fun k l s => ∃ i, k + i = r.length ∧ KeepsBut F1 s1 s ∧ OSl w0 3 OPg s F1 u (dropPs x.1 (r.take i)) ∧ l = [.int .i64 (j : Nat), c, .int .i64 (i : Nat), u, v, .slice none 0 0, .slice none 0 0]) ?_ ⟨0, by omega, KeepsBut.refl _ _, by simpa [dropPs] using b1, rfl⟩
  rintro k l s L ⟨i, hki, hks, hos, rfl⟩ hL
  simp only [vget, List.getD_cons_zero, List.getD_cons_succ]
  have hcs := ho.frame (ok_n w0) (hks.at (fun b hb => (ho.dom (ok_n w0) b hb).2) hcne)
  have hc := hcs.rel (ok_n w0)
  rw [hc.len, pBin_lt, pIf_d]
  refine ⟨fun hi => ?_, fun hi => ?_⟩
  · have hx := List.getElem?_eq_getElem (show i < r.length by omega)
    generalize hxi : r[i]'(by omega) = q at hx
    have hq := hlt q (List.mem_of_getElem? hx)
    refine n_at hc hx fun g hg => ?_
    rw [hg]
    refine page_drop hos (by rw [dropPs_len]; exact hq) fun s' k' o' => ?_
    rw [pBin_add (by omega)]
    refine hL _ _ (k - 1) (by omega) ⟨i + 1, by omega, hks.trans k', ?_, by simp⟩
    rw [dropPs_take hx]; exact o'
  · have e : i = r.length := by omega
    subst e
    rw [List.take_length] at hos
    show pSlice 3 v none (some (.int .i64 (j : Nat))) _
    have b2' := b2.frame (ok_pn w0) (hks.at (fun b hb => (b2.dom (ok_pn w0) b hb).2) fun b hb hb' => hdis b hb' b hb rfl)
    have hv' := b2'.rel (ok_pn w0)
    refine hv'.slice (l := 0) (u := j) rfl rfl (by omega) (by omega) fun v1 hv1 => ?_
    rw [List.drop_zero] at hv1
    rw [pBin_add (by omega), show ((j : Nat) : Int) + 1 = ((j + 1 : Nat) : Int) by omega]
    refine hv'.slice (l := j + 1) (u := x.2.length) rfl rfl (by omega) (by omega) fun v2 hv2 => ?_
    rw [List.take_length] at hv2
    intro b hb1 hb2
    have kb : Keeps s (s.put b ⟨t_impl_PageName, [], 0, (0, 0)⟩) := Keeps.put hb2
    have l1 : (x.2.take j).length ≤ 16 := by rw [List.length_take]; omega
    have l2 : (x.2.drop (j + 1)).length ≤ 16 := by rw [List.length_drop]; omega
    refine OAcc.all (F := [b]) (ok_pn w0) (OAcc.new hb1) hv1 kb.le (fun es y hy => ⟨rfl, hy⟩) (by simp only [List.length_nil]; omega) (by omega) fun va Fa sa ka oa fa => ?_
    have hb0 : ∀ i, i ∈ [b] → s i = none := fun i hi => by rw [List.mem_singleton.1 hi]; exact hb2
    have ka' := ka.old kb hb0
    have hFa := fresh_in kb hb0 fa (s' := sa)
    refine OAcc.all (ok_pn w0) oa hv2 ka'.le (fun es y hy => ⟨rfl, hy⟩) (by simp only [List.length_nil, List.nil_append]; omega) (by omega) fun vb Fb sb kk ob fb => ?_
    have kb' := kk.old ka' hFa
    rw [pVal1 (OSl.one' ob.osl), pVal_2 (OSl.one' hos) (OSl.one' ob.osl)]
    have hos' := hos.frame (ok_pg w0) (kb'.but_at fun b hb => (hos.dom (ok_pg w0) b hb).2)
    have ktot : KeepsBut (F1 ++ F2) σ sb := (k1.but.trans (hks.mono fun b hb => List.mem_append_left _ hb)).trans kb'.but
    exact hR [u, vb] sb ktot ⟨u, vb, rfl, hos'.rel (ok_pg w0), by simpa using ob.osl.rel (ok_pn w0)⟩

theorem impl_dropped {es : List Value} {x : Pgs} {name : ByteArray} {j : Nat} {n : Pn} (h : RPgs (Av.get w0 σ) es x) (hok : OkS x) (hix : pnIdx x.2 name = some j) (hj : x.2[j]? = some n) {R : Value → Vw → Prop}
    (hR : ∀ es' F σ', Keeps σ σ' → OPgs w0 σ' F es' (dropX x j n) → (∀ b, b ∈ F → σ b = none) → R (.agg ⟨es'⟩) σ') : AC Try.prog w0 n_impl_Pages_dropped [.agg ⟨es⟩, .string name] σ R := by
  refine ac_impl_Pages_dropped ?_
  unfold vc_impl_Pages_dropped
  rw [RPgs.two h]
  have h0 := h
  obtain ⟨u, v, rfl, hu, hv⟩ := h
  simp only [cellOf_agg, List.getD_cons_zero, List.getD_cons_succ]
  have hjl : j < x.2.length := (List.getElem?_eq_some_iff.1 hj).1
  have h16 := hok.2.1
  have h96 := hok.1
  refine impl_clonePages h0 (by omega) (by omega) fun es1 F s1 k1 o1 f1 => ?_
  rw [OPgs.two o1]
  obtain ⟨u1, v1, F1, F2, rfl, a1, a2, rfl, hnd⟩ := o1
  have hdis := (List.nodup_append.1 hnd).2.2
  simp only [cellOf_agg, List.getD_cons_zero, List.getD_cons_succ]
  refine impl_find (mono_pgs k1.le h0) fun s2 k2 => ?_
  rw [hix]
  show pBin Try.prog 3 .lss (.int .i64 (j : Nat)) _ _
  rw [pBin_lt, pIf_d]
  refine ⟨fun h => by omega, fun _ => ?_⟩
  have k12 := k1.trans k2
  have h2 := mono_pgs k12.le h0
  have hgood := good_fl hv hj
  refine pn_at (hv.mono k12.le fun _ _ h => h) hj fun g g0 g1 g2 _ => ?_
  rw [g0, g1, g2]
  refine impl_Chain (n := n) (x := x) h2 hgood h96 (hok.size hj) fun c Fc s3 k3 ho hF => ?_
  obtain ⟨r, hcI, hcS, hrn, hr96, hlt⟩ := chain_of hok hj
  have hdX : dropX x j n = (dropPs x.1 r, x.2.take j ++ x.2.drop (j + 1)) := by simp [dropX, hcS]
  rw [hdX] at hR
  rw [hcI] at ho ⊢
  have ho : OSl w0 1 ON s3 Fc c r := by simpa using ho
  have k123 := k12.trans k3
  have k23 := k2.trans k3
  have b1 := a1.frame (ok_pg w0) (k23.but_at fun b hb => (a1.dom (ok_pg w0) b hb).2)
  have b2 := a2.frame (ok_pn w0) (k23.but_at fun b hb => (a2.dom (ok_pn w0) b hb).2)
  have hF1 : ∀ i, i ∈ F1 → σ i = none := fun i hi => f1 i (List.mem_append_left _ hi)
  have hF2 : ∀ i, i ∈ F2 → σ i = none := fun i hi => f1 i (List.mem_append_right _ hi)
  have hcne : ∀ i, i ∈ Fc → i ∉ F1 := fun i hi hi' => (a1.dom (ok_pg w0) i hi').2 (nof k2 (hF i hi))
  rw [pExtract_s rfl, pExtract_s rfl, (ho.rel (ok_n w0)).len]
  refine loop_rule (m := r.length) (fun k l s => ∃ i, k + i = r.length ∧ KeepsBut F1 s3 s ∧ OSl w0 3 OPg s F1 u1 (dropPs x.1 (r.take i)) ∧ l = [.int .i64 (j : Nat), c, .int .i64 r.length, .int .i64 (i : Nat), .slice none 0 0, .slice none 0 0, u1, v1]) ?_ ⟨0, by omega, KeepsBut.refl _ _, by simpa [dropPs] using b1, rfl⟩
  rintro k l s L ⟨i, hki, hks, hos, rfl⟩ hL
  simp only [vget, List.getD_cons_zero, List.getD_cons_succ]
  have hcs := ho.frame (ok_n w0) (hks.at (fun b hb => (ho.dom (ok_n w0) b hb).2) hcne)
  have hc := hcs.rel (ok_n w0)
  rw [pBin_lt, pIf_d]
  refine ⟨fun hi => ?_, fun hi => ?_⟩
  · have hx := List.getElem?_eq_getElem (show i < r.length by omega)
    generalize hxi : r[i]'(by omega) = q at hx
    have hq := hlt q (List.mem_of_getElem? hx)
    refine n_at hc hx fun g hg => ?_
    rw [hg]
    refine page_drop hos (by rw [dropPs_len]; exact hq) fun s' k' o' => ?_
    rw [pBin_add (by omega)]
    refine hL _ _ (k - 1) (by omega) ⟨i + 1, by omega, hks.trans k', ?_, by simp⟩
    rw [dropPs_take hx]; exact o'
  · have e : i = r.length := by omega
    subst e
    rw [List.take_length] at hos
    have b2' := b2.frame (ok_pn w0) (hks.at (fun b hb => (b2.dom (ok_pn w0) b hb).2) fun b hb hb' => hdis b hb' b hb rfl)
    have ks : Keeps σ s := hks.old k123 hF1
    intro b hb1 hb2
    have kb : Keeps s (s.put b ⟨t_impl_PageName, [], 0, (0, 0)⟩) := Keeps.put hb2
    have c2 := b2'.frame (ok_pn w0) (kb.but_at fun b hb => (b2'.dom (ok_pn w0) b hb).2)
    have c1 := hos.frame (ok_pg w0) (kb.but_at fun b hb => (hos.dom (ok_pg w0) b hb).2)
    have ha : OAcc w0 t_impl_PageName 3 OPn (s.put b ⟨t_impl_PageName, [], 0, (0, 0)⟩) [b] (.slice (some ⟨b, 0, none⟩) 0 0) [] := OAcc.new hb1
    have hbF2 : b ∉ F2 := fun hi => (b2'.dom (ok_pn w0) b hi).2 hb2
    have hb0 : ∀ i, i ∈ [b] → s i = none := fun i hi => by rw [List.mem_singleton.1 hi]; exact hb2
    show pBin Try.prog 3 .add (.int .i64 (j : Nat)) (.int .i64 1) _
    rw [pBin_add (by omega)]
    refine ac_slices_Delete_impl_PageName_impl_PageName ?_
    have edel : ∀ (a b c : Value) (s : Vw) (R : Value → Vw → Prop), vc_slices_Delete_impl_PageName_impl_PageName w0 a b c s R = VDel Try.prog w0 3 t_impl_PageName 3 32 [.string ⟨#[]⟩, .int .i64 0, .int .i64 0] a b c s R := fun _ _ _ _ _ => by kernel_rfl
    rw [edel]
    refine OSl.del (ok_pn w0) (fun s s' f es y h => ⟨h.1, h⟩) rfl (by intro c hc; simp at hc; rcases hc with rfl | rfl <;> rfl) (by omega) c2 hjl fun v' s' k' hv' => ?_
    have ha' := ha.frame (ok_pn w0) (k'.at (fun i hi => (ha.dom (ok_pn w0) i hi).2) fun i hi hi' => hbF2 ((List.mem_singleton.1 hi) ▸ hi'))
    have kbs' : Keeps σ s' := k'.old (ks.trans kb) hF2
    have hl : (x.2.take j ++ x.2.drop (j + 1)).length ≤ 100 := by simp only [List.length_append, List.length_take, List.length_drop]; omega
    refine OAcc.all (ok_pn w0) ha' hv' (Le.refl _) (fun es y hy => ⟨rfl, hy⟩) (by simp only [List.length_nil]; omega) (by omega) fun vb Fb sb kk ob fb => ?_
    have hbσ : ∀ i, i ∈ [b] → σ i = none := fun i hi => nof ks (hb0 i hi)
    have hFb : ∀ i, i ∈ Fb → σ i = none := fun i hi => by
      rcases fb i hi with h | h
      · exact hbσ i h
      · exact nof kbs' h
    have d1 := c1.frame (ok_pg w0) (k'.at (fun i hi => (c1.dom (ok_pg w0) i hi).2) fun i hi hi' => hdis i hi i hi' rfl)
    have d2 := d1.frame (ok_pg w0) (kk.at (fun i hi => (d1.dom (ok_pg w0) i hi).2) fun i hi hi' => (hos.dom (ok_pg w0) i hi).2 (hb0 i hi'))
    rw [pVal1 (OSl.one' ob.osl), pVal_2 (OSl.one' d2) (OSl.one' ob.osl)]
    have hdF : ∀ i, i ∈ F1 → i ∉ Fb := fun i hi hi' => by
      rcases fb i hi' with h | h
      · exact (hos.dom (ok_pg w0) i hi).2 (hb0 i h)
      · exact (d1.dom (ok_pg w0) i hi).2 h
    refine hR [u1, vb] (F1 ++ Fb) sb (kk.old kbs' hbσ) ⟨u1, vb, F1, Fb, rfl, d2, by simpa using ob.osl, rfl, List.nodup_append.2 ⟨d2.2.1, ob.2.1, fun a ha b hb e => hdF a ha (e ▸ hb)⟩⟩ fun i hi => ?_
    rcases List.mem_append.1 hi with h | h
    · exact hF1 i h
    · exact hFb i h

theorem nil_pgs {σ : Vw} : OPgs w0 σ [] [.slice none 0 0, .slice none 0 0] ([], []) := ⟨_, _, [], [], rfl, ⟨by simp, by simp, .inl ⟨rfl, rfl, rfl⟩⟩, ⟨by simp, by simp, .inl ⟨rfl, rfl, rfl⟩⟩, rfl, by simp⟩

theorem spec_PagesDrop {es : List Value} {x : Pgs} {name : ByteArray} (h : RPgs (Av.get w0 σ) es x) (hx : x.1.length ≤ 1000000000000) (hy : x.2.length ≤ 1000000000000) {R : Value → Vw → Prop}
    (hR : ∀ es' F σ', Keeps σ σ' → OPgs w0 σ' F es' (dropP x name).1 → (∀ b, b ∈ F → σ b = none) → R (.tuple ⟨[.agg ⟨es'⟩, .int .i64 (dropP x name).2]⟩) σ') : AC Try.prog w0 n_spec_PagesDrop [.agg ⟨es⟩, .string name] σ R := by
  refine ac_spec_PagesDrop ?_
  unfold vc_spec_PagesDrop
  rw [RPgs.two h]
  have h0 := h
  obtain ⟨u, v, rfl, hu, hv⟩ := h
  simp only [cellOf_agg, List.getD_cons_zero, List.getD_cons_succ]
  refine spec_PagesOk h0 fun s1 k1 => ?_
  rw [pUn_not, pIf_b]
  refine ⟨fun hn => ?_, fun hn => ?_⟩
  · have e : dropP x name = (([], []), 1) := by simp at hn; simp [dropP, hn]
    rw [e] at hR
    rw [pVal_2 rfl rfl]
    exact hR _ [] s1 k1 nil_pgs (by simp)
  have hok : OkS x := pagesOk_iff.1 (by simpa using hn)
  refine spec_l32Copy (mono_pgs k1.le h0) hx hy fun es1 F s2 k2 o1 f1 => ?_
  rw [OPgs.two o1]
  have r1 := (ok_pgs w0).rel _ _ _ _ o1
  obtain ⟨a, b, rfl⟩ := RPgs.pair r1
  simp only [cellOf_agg, List.getD_cons_zero, List.getD_cons_succ]
  have hF : ∀ i, i ∈ F → σ i = none := fun i hi => nof k1 (f1 i hi)
  refine spec_l32At r1 ?_
  cases hix : pnIdx x.2 name with
  | none =>
    have e : dropP x name = (x, 3) := by simp [dropP, pagesOk_iff.2 hok, hix]
    rw [e] at hR
    show pBin Try.prog 3 .lss (.int .i64 (-1)) _ _
    rw [pBin_lt, pIf_d]
    refine ⟨fun _ => ?_, fun h => by omega⟩
    rw [OPgs.two o1]
    exact hR _ F s2 (k1.trans k2) o1 hF
  | some j =>
    obtain ⟨n, hj, _⟩ := pnIdx_some hix
    have e : dropP x name = (dropX x j n, 0) := by simp [dropP, pagesOk_iff.2 hok, hix, hj]
    rw [e] at hR
    show pBin Try.prog 3 .lss (.int .i64 (j : Nat)) _ _
    rw [pBin_lt, pIf_d]
    refine ⟨fun h => by omega, fun _ => ?_⟩
    refine spec_l32Drop o1 hok hj fun es2 s3 k3 r3 => ?_
    have k13 := k3.old (k1.trans k2) hF
    refine spec_l32Copy r3 (by rw [dropX_len.1]; exact hx) (Nat.le_trans dropX_len.2 hy) fun es3 G s4 k4 o4 f4 => ?_
    rw [OPgs.two o4]
    obtain ⟨c, d, rfl⟩ := RPgs.pair ((ok_pgs w0).rel _ _ _ _ o4)
    simp only [cellOf_agg, List.getD_cons_zero, List.getD_cons_succ]
    exact hR _ G s4 (k13.trans k4) o4 fun i hi => nof k13 (f4 i hi)

theorem impl_PagesDrop {es : List Value} {x : Pgs} {name : ByteArray} (h : RPgs (Av.get w0 σ) es x) (hx : x.1.length ≤ 1000000000000) (hy : x.2.length ≤ 1000000000000) {R : Value → Vw → Prop}
    (hR : ∀ es' F σ', Keeps σ σ' → OPgs w0 σ' F es' (dropP x name).1 → (∀ b, b ∈ F → σ b = none) → R (.tuple ⟨[.agg ⟨es'⟩, .int .i64 (dropP x name).2]⟩) σ') : AC Try.prog w0 n_impl_PagesDrop [.agg ⟨es⟩, .string name] σ R := by
  refine ac_impl_PagesDrop ?_
  unfold vc_impl_PagesDrop
  rw [RPgs.two h]
  have h0 := h
  obtain ⟨u, v, rfl, hu, hv⟩ := h
  simp only [cellOf_agg, List.getD_cons_zero, List.getD_cons_succ]
  refine impl_PagesOk h0 fun s1 k1 => ?_
  rw [pUn_not, pIf_b]
  refine ⟨fun hn => ?_, fun hn => ?_⟩
  · have e : dropP x name = (([], []), 1) := by simp at hn; simp [dropP, hn]
    rw [e] at hR
    rw [pVal_2 rfl rfl]
    exact hR _ [] s1 k1 nil_pgs (by simp)
  have hok : OkS x := pagesOk_iff.1 (by simpa using hn)
  refine impl_find (mono_pgs k1.le h0) fun s2 k2 => ?_
  have k12 := k1.trans k2
  cases hix : pnIdx x.2 name with
  | none =>
    have e : dropP x name = (x, 3) := by simp [dropP, pagesOk_iff.2 hok, hix]
    rw [e] at hR
    show pBin Try.prog 3 .lss (.int .i64 (-1)) _ _
    rw [pBin_lt, pIf_d]
    refine ⟨fun _ => ?_, fun h => by omega⟩
    refine impl_clonePages (mono_pgs k12.le h0) hx hy fun es1 F s3 k3 o1 f1 => ?_
    rw [OPgs.two o1]
    obtain ⟨c, d, rfl⟩ := RPgs.pair ((ok_pgs w0).rel _ _ _ _ o1)
    simp only [cellOf_agg, List.getD_cons_zero, List.getD_cons_succ]
    exact hR _ F s3 (k12.trans k3) o1 fun i hi => nof k12 (f1 i hi)
  | some j =>
    obtain ⟨n, hj, _⟩ := pnIdx_some hix
    have e : dropP x name = (dropX x j n, 0) := by simp [dropP, pagesOk_iff.2 hok, hix, hj]
    rw [e] at hR
    show pBin Try.prog 3 .lss (.int .i64 (j : Nat)) _ _
    rw [pBin_lt, pIf_d]
    refine ⟨fun h => by omega, fun _ => ?_⟩
    refine impl_dropped (mono_pgs k12.le h0) hok hix hj fun es1 F s3 k3 o1 f1 => ?_
    rw [OPgs.two o1]
    obtain ⟨c, d, rfl⟩ := RPgs.pair ((ok_pgs w0).rel _ _ _ _ o1)
    simp only [cellOf_agg, List.getD_cons_zero, List.getD_cons_succ]
    exact hR _ F s3 (k12.trans k3) o1 fun i hi => nof k12 (f1 i hi)

theorem law_PagesDrop {es : List Value} {x : Pgs} {name : ByteArray} (h : RPgs (Av.get w0 σ) es x) (hs : name.size ≤ 9223372036854775807) {R : Value → Vw → Prop} (hR : ∀ σ', R (.bool true) σ') : AC Try.prog w0 n_laws_FnExactPagesDrop [.agg ⟨es⟩, .string name] σ R := by
  refine ac_laws_FnExactPagesDrop ?_
  unfold vc_laws_FnExactPagesDrop
  rw [RPgs.two h]
  have h0 := h
  obtain ⟨u, v, rfl, hu, hv⟩ := h
  simp only [cellOf_agg, List.getD_cons_zero, List.getD_cons_succ]
  rw [pLenS_s, pBin_gt, pIf_d]
  refine ⟨fun _ => hR _, fun hn => ?_⟩
  refine szPages h0 (by omega) ?_
  rw [pBin_lt, pIf_d]
  refine ⟨fun _ => hR _, fun hb => ?_⟩
  rw [Av.left_neg] at hb
  have hsz : szPgs x ≤ 1048576 := by omega
  have hl1 : x.1.length ≤ 1048576 := by unfold szPgs at hsz; omega
  have hl2 : x.2.length ≤ 1048576 := by unfold szPgs at hsz; omega
  have hd := dropP_len (x := x) (name := name)
  have hcx := cPgs_eq x
  have hcd := cPgs_eq (dropP x name).1
  have ok := ok_pgs w0
  refine toPages h0 (by omega) (by omega) fun es1 F1 s1 k1 o1 f1 => ?_
  refine spec_PagesDrop (ok.rel _ _ _ _ o1) (by omega) (by omega) fun ew Fw s2 k2 ow fw => ?_
  rw [pExtract_s rfl, pExtract_s rfl]
  have hw := ok.rel _ _ _ _ ow
  rw [RPgs.two hw]
  obtain ⟨wa, wb, rfl⟩ := RPgs.pair hw
  simp only [cellOf_agg, List.getD_cons_zero, List.getD_cons_succ]
  have K2 := k1.trans k2
  refine toPages (mono_pgs K2.le h0) (by omega) (by omega) fun es2 F2 s3 k3 o2 f2 => ?_
  have r2 := ok.rel _ _ _ _ o2
  rw [RPgs.two r2]
  obtain ⟨a2, b2, rfl⟩ := RPgs.pair r2
  simp only [cellOf_agg, List.getD_cons_zero, List.getD_cons_succ]
  refine impl_PagesDrop r2 (by omega) (by omega) fun eg Fg s4 k4 og fg => ?_
  rw [pExtract_s rfl, pExtract_s rfl]
  have rg := ok.rel _ _ _ _ og
  rw [RPgs.two rg]
  obtain ⟨ga, gb, rfl⟩ := RPgs.pair rg
  simp only [cellOf_agg, List.getD_cons_zero, List.getD_cons_succ]
  have k24 := k3.trans k4
  refine eqPages rg (mono_pgs k24.le hw) ?_
  rw [pUn_not, pIf_b]
  refine ⟨fun h => by simp at h, fun _ => ?_⟩
  rw [pBin_ne, pIf_d]
  refine ⟨fun h => absurd rfl h, fun _ => ?_⟩
  have K4 := K2.trans k24
  refine toPages (mono_pgs K4.le h0) (by omega) (by omega) fun es3 F3 s5 k5 o3 f3 => ?_
  refine eqPages (mono_pgs (k4.trans k5).le r2) (ok.rel _ _ _ _ o3) ?_
  rw [pUn_not, pIf_b]
  refine ⟨fun h => by simp at h, fun _ => ?_⟩
  -- the marks of the argument
  have p2 := ok.frame _ s5 _ _ _ o2 ((k4.trans k5).but_at fun b hb => (ok.dom _ _ _ _ o2 b hb).2)
  refine markPages (k := 1) p2 (by omega) fun s6 k6 _ => ?_
  rw [pBin_lt, pIf_d]
  refine ⟨fun h => by omega, fun _ => ?_⟩
  have k25 := k24.trans k5
  have k26 : Keeps s2 s6 := k6.old k25 f2
  have g5 := ok.frame _ s5 _ _ _ og (k5.but_at fun b hb => (ok.dom _ _ _ _ og b hb).2)
  have g6 := ok.frame _ s6 _ _ _ g5 (k6.at (fun b hb => (ok.dom _ _ _ _ g5 b hb).2) fun b hb hb' => (ok.dom _ _ _ _ o2 b hb').2 (fg b hb))
  refine eqPages (ok.rel _ _ _ _ g6) (mono_pgs k26.le hw) ?_
  rw [pUn_not, pIf_b]
  refine ⟨fun h => by simp at h, fun _ => ?_⟩
  rw [pBin_ne, pIf_d]
  refine ⟨fun h => absurd rfl h, fun _ => ?_⟩
  refine markPages (k := 1) g6 (by omega) fun s7 k7 g7 => ?_
  refine heldPages (k := 1) (ok.rel _ _ _ _ g7) (by omega) fun s8 k8 => ?_
  rw [pBin_lt, pIf_d]
  refine ⟨fun h => by omega, fun _ => ?_⟩
  rw [pBin_ne, pIf_d]
  refine ⟨fun h => absurd rfl h, fun _ => ?_⟩
  have g8 := ok.frame _ s8 _ _ _ g7 (k8.but_at fun b hb => (ok.dom _ _ _ _ g7 b hb).2)
  have k28 : Keeps s2 s8 := (k7.old k26 fun b hb => nof k3 (fg b hb)).trans k8
  have K8 := K2.trans k28
  refine toPages (mono_pgs K8.le h0) (by omega) (by omega) fun es4 F4 s9 k9 o4 f4 => ?_
  refine impl_PagesDrop (ok.rel _ _ _ _ o4) (by omega) (by omega) fun eh Fh s10 k10 oh fh => ?_
  rw [pExtract_s rfl, pExtract_s rfl]
  have rh := ok.rel _ _ _ _ oh
  rw [RPgs.two rh]
  obtain ⟨ha, hb', rfl⟩ := RPgs.pair rh
  simp only [cellOf_agg, List.getD_cons_zero, List.getD_cons_succ]
  have k810 := k9.trans k10
  refine eqPages rh (mono_pgs (k28.trans k810).le hw) ?_
  rw [pUn_not, pIf_b]
  refine ⟨fun h => by simp at h, fun _ => ?_⟩
  rw [pBin_ne, pIf_d]
  refine ⟨fun h => absurd rfl h, fun _ => ?_⟩
  have g10 := ok.frame _ s10 _ _ _ g8 (k810.but_at fun b hb => (ok.dom _ _ _ _ g8 b hb).2)
  refine heldPages (k := 1) (ok.rel _ _ _ _ g10) (by omega) fun s11 k11 => ?_
  rw [pBin_lt, pIf_d]
  refine ⟨fun h => by omega, fun _ => ?_⟩
  rw [pBin_ne, pIf_d]
  exact ⟨fun h => absurd rfl h, fun _ => hR _⟩
end
end Go.Proofs.Ytkndffhcncmbjaa

/- The law FnExactPagesDrop holds: it returns true, and the input reads as it did. No condition. -/
namespace Go.Proofs.Ytkndffhcncmbjaa.fnExactPagesDrop
open Go.ChangeShapes Go.WideShapes Go.ChangeAt Go.RowKit Go.Av
set_option linter.unusedVariables false
set_option linter.unusedSimpArgs false
theorem own : ownKnob Try.prog.godebug = none := by kernel_rfl
theorem laidOut : laidOutB Try.prog = true := by kernel_rfl
set_option maxRecDepth 100000 in
theorem lifted (os : Os) (started : os.Started) (H : Type) (enc : TypeId × Value → H) :
    ReturnsInHanded {} Try.checked os 4 .any (Rows.fnExactPagesDropSpec.pre6 enc Try.prog Try.f4 Rows.fnExactPagesDropRow.domain false) (Rows.fnExactPagesDropSpec.post enc Try.prog Try.f4 false true false false) := by
  refine returnsInHanded_of_change_sized (C := Try.checked) own started (by kernel_rfl) Try.func4
    (ChangeSpec.witness6 (enc := enc) (C := Try.checked) false ⟨#[], #[.agg #[.slice none 0 0, .slice none 0 0], .string ⟨#[]⟩], []⟩ 8 (by kernel_rfl) (by kernel_rfl) (by kernel_rfl) (by kernel_rfl)) ?_
  intro W base args ds gs before hval0 hW hcnd hsz0 _
  have hval : ∀ (j : Nat) t v, Try.f4.params[j]? = some t → args[j]? = some v → Value.okWide Try.prog W .any base t v := hval0
  have hW' := hW
  obtain ⟨p, q, hA0, hV, rfl, hfz, hnd⟩ := hW
  have hA : DataW.TrodAll enc Try.prog W 0 (fun _ => true) true Try.f4.params.toList args.toList ds p := hA0
  rw [Try.params4] at hA hval
  obtain ⟨v0, v1, d0, d1, p0, p1, rfl, rfl, hpp, h0, h1⟩ := trodAll_two hA
  obtain ⟨rfl, rfl⟩ := trodVars_none hV
  have hT0 : Try.prog.underlying 25 = some (.struct (fsOf Try.prog 25)) := by kernel_rfl
  obtain ⟨c0, rfl, hc0⟩ := okWide_struct hT0 (hval 0 25 v0 rfl rfl)
  obtain ⟨s1, rfl⟩ := okWide_string (t := 9) (by kernel_rfl) (hval 1 9 v1 rfl rfl)
  have h0k := h0
  obtain ⟨fuel0, hf0⟩ := h0
  have h1k := h1
  obtain ⟨fuel1, hf1⟩ := h1
  clear hA0 hval0 hsz0
  simp only [List.append_nil] at hW'
  have hlt : ∀ x ∈ p, x.block < W.heap.size := fun x hx => by simpa using hW'.lt x hx
  have hargs0 : ∀ (W' : World), Below W.heap.size W W' → DataW.Trod enc Try.prog W' 0 (fun b => decide (b < W.heap.size)) true 25 (.agg c0) d0 p0 :=
    fun W' hn => Below.trod laidOut (by kernel_rfl) (of_decide_eq_true (by kernel_rfl)) h0k hn (fun x hx => hlt x (by rw [hpp]; simp [hx]))
  have hargs1 : ∀ (W' : World), Below W.heap.size W W' → DataW.Trod enc Try.prog W' 0 (fun b => decide (b < W.heap.size)) true 9 (.string s1) d1 p1 :=
    fun W' hn => Below.trod laidOut (by kernel_rfl) (of_decide_eq_true (by kernel_rfl)) h1k hn (fun x hx => hlt x (by rw [hpp]; simp [hx]))
  have hl0 : c0.toList.length = 2 := by rw [Array.length_toList, hc0]; kernel_rfl
  obtain ⟨x0, r0⟩ := open_pages fuel0 c0.toList _ hf0 hl0
  obtain ⟨m1, e1, r1⟩ := open_str (t := 9) (by kernel_rfl) hf1
  have e1' : m1 = s1 := by
    have : [Value.string s1] = [.string m1] := e1
    cases this; rfl
  subst e1'
  refine ((law_PagesDrop (R := fun v _ => v = .bool true) r0 r1 (by intros; rfl)).calls).mono fun e W' ⟨v, σ', he, hv, bel⟩ => ?_
  subst he hv
  have hW'' := hW'
  rw [hpp] at hW''
  exact ⟨_, rfl, _, _, _, [], _, [], hW'', trodAll_mk1 (shut_bool Try.underlying4 _), trodAll_mk2 (hargs0 W' bel) (hargs1 W' bel), rfl, bel.frame _, fun h => by cases h⟩
theorem over : Rows.fnExactPagesDropRow.holds Try.pinned (OpenSpec.ofChange Rows.fnExactPagesDropSpec) :=
  OpenClaim.holds_of_wide 4 Try.f4 rfl rfl rfl rfl rfl rfl rfl ⟨rfl, rfl, rfl, rfl, rfl⟩ rfl rfl rfl rfl rfl (by kernel_rfl) Try.func4 (by kernel_rfl)
    (of_decide_eq_true (by kernel_rfl)) (by unfold Func.isWrapper; first | (rw [if_pos (by decide +kernel)]; kernel_rfl) | (rw [if_neg (by decide +kernel)]; exact ⟨rfl, rfl⟩))
    (fun os started H enc _ => lifted os started H enc)
theorem proved : Rows.FnExactPagesDropSaid := over
end Go.Proofs.Ytkndffhcncmbjaa.fnExactPagesDrop
namespace Go.Proofs.Ytkndffhcncmbjaa
/-- The row, under a short name, for the claim. -/
theorem fnExactPagesDrop_holds : Rows.FnExactPagesDropSaid := fnExactPagesDrop.proved
end Go.Proofs.Ytkndffhcncmbjaa
