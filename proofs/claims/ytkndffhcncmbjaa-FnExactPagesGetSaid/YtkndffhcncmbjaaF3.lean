/- Pages: when they are ok, by either reading, and that both say the same. -/
import Derived.Test.YtkndffhcncmbjaaF2
import Derived.Test.YtkndffhcncmbjaaC12
set_option linter.unusedVariables false
set_option linter.unusedSimpArgs false
namespace Go.Proofs.Ytkndffhcncmbjaa
open Go Go.Av

def prevN (ns : List Pn) (j : Nat) (n : Pn) : Bool :=
  match j with
  | 0 => true
  | i + 1 => match ns[i]? with
    | some y => strLt y.name n.name
    | none => true
/-- A name is in its place. -/
def pnAt (ns : List Pn) (j : Nat) (n : Pn) : Prop := nameOk n.name = true ∧ prevN ns j n = true ∧ inB n.size 0 3000 = true
/-- All pages of the first names. -/
noncomputable def lsOf (c : Pn → Option (List Nat)) (ns : List Pn) : List Nat := (ns.map fun n => (c n).getD []).flatten
def OkS (x : Pgs) : Prop := x.1.length = 96 ∧ x.2.length ≤ 16 ∧ (∀ (j : Nat) (n : Pn), x.2[j]? = some n → pnAt x.2 j n ∧ -1 ≤ n.first ∧ (chS x.1 n).isSome = true) ∧ (lsOf (chS x.1) x.2).Nodup ∧
  ∀ (i : Nat) (p : Pg), x.1[i]? = some p → (p.used = true ↔ i ∈ lsOf (chS x.1) x.2) ∧ (p.used = false → p.data = ⟨#[]⟩ ∧ p.next = -1) ∧ -1 ≤ p.next
def OkI (x : Pgs) : Prop := x.1.length = 96 ∧ x.2.length ≤ 16 ∧ (∀ (j : Nat) (n : Pn), x.2[j]? = some n → pnAt x.2 j n ∧ (chI x.1 n).isSome = true) ∧ (lsOf (chI x.1) x.2).Nodup ∧
  ∀ (i : Nat) (p : Pg), x.1[i]? = some p → i ∉ lsOf (chI x.1) x.2 → p.used = false ∧ p.data = ⟨#[]⟩ ∧ p.next = -1
open Classical in
noncomputable def pagesOk (x : Pgs) : Bool := decide (OkS x)

theorem ch_used {e : Int → Prop} {ps : List Pg} : ∀ {r : List Nat} {a l : Int}, Ch e ps r a l → ∀ i, i ∈ r → ∃ p, ps[i]? = some p ∧ p.used = true
  | [], _, _, _, i, hi => by cases hi
  | j :: r, a, l, h, i, hi => by
    obtain ⟨h1, h2, p, h3, h4, h5, h6⟩ := h
    rcases List.mem_cons.1 hi with e | e
    · rw [e]; exact ⟨p, h3, h4⟩
    · exact ch_used h6 i e
/-- What follows in a chain that ends with -1. -/
theorem ch_next {ps : List Pg} : ∀ {r : List Nat} {a l : Int}, Ch (fun a => a = -1) ps r a l → -1 ≤ a ∧ ∀ i, i ∈ r → ∀ p, ps[i]? = some p → -1 ≤ p.next
  | [], a, _, h => ⟨by have : a = -1 := h.1; omega, fun i hi => by cases hi⟩
  | j :: r, a, l, h => by
    obtain ⟨h1, h2, p, h3, h4, h5, h6⟩ := h
    have := ch_next h6
    refine ⟨by omega, fun i hi q hq => ?_⟩
    rcases List.mem_cons.1 hi with e | e
    · rw [e, h3] at hq; cases hq; exact this.1
    · exact this.2 i e q hq
theorem ch_weak {ps : List Pg} : ∀ {r : List Nat} {a l : Int}, Ch (fun a => a = -1) ps r a l → Ch (fun a => a < 0) ps r a l
  | [], a, _, h => ⟨by have : a = -1 := h.1; omega, h.2⟩
  | j :: r, a, l, h => by
    obtain ⟨h1, h2, p, h3, h4, h5, h6⟩ := h
    exact ⟨h1, h2, p, h3, h4, h5, ch_weak h6⟩
theorem ch_strong {ps : List Pg} (hp : ∀ (i : Nat) (p : Pg), ps[i]? = some p → -1 ≤ p.next) : ∀ {r : List Nat} {a l : Int}, -1 ≤ a → Ch (fun a => a < 0) ps r a l → Ch (fun a => a = -1) ps r a l
  | [], a, _, ha, h => ⟨by have : a < 0 := h.1; show a = -1; omega, h.2⟩
  | j :: r, a, l, ha, h => by
    obtain ⟨h1, h2, p, h3, h4, h5, h6⟩ := h
    exact ⟨h1, h2, p, h3, h4, h5, ch_strong hp (hp j p h3) h6⟩

theorem chS_of_chI {ps : List Pg} {n : Pn} {r : List Nat} (h : chI ps n = some r) : chS ps n = some r := by
  obtain ⟨h1, h2⟩ := chOf_spec h
  exact chOf_some (fun a h => h) (ch_weak h1) trivial

theorem lsOf_mem {c : Pn → Option (List Nat)} {ns : List Pn} {i : Nat} : i ∈ lsOf c ns ↔ ∃ n, n ∈ ns ∧ ∃ r, c n = some r ∧ i ∈ r := by
  unfold lsOf
  rw [List.mem_flatten]
  constructor
  · rintro ⟨l, hl, hi⟩
    obtain ⟨n, hn, rfl⟩ := List.mem_map.1 hl
    cases hc : c n with
    | none => rw [hc] at hi; simp at hi
    | some r => rw [hc] at hi; exact ⟨n, hn, r, hc, hi⟩
  · rintro ⟨n, hn, r, hc, hi⟩
    exact ⟨r, List.mem_map.2 ⟨n, hn, by rw [hc]; rfl⟩, hi⟩
theorem lsOf_congr {c d : Pn → Option (List Nat)} {ns : List Pn} (h : ∀ n, n ∈ ns → c n = d n) : lsOf c ns = lsOf d ns := by
  unfold lsOf
  congr 1
  exact List.map_congr_left fun n hn => by rw [h n hn]

theorem ok_same (x : Pgs) : OkS x ↔ OkI x := by
  constructor
  · rintro ⟨h1, h2, h3, h4, h5⟩
    have e : ∀ n, n ∈ x.2 → chI x.1 n = chS x.1 n := fun n hn => by
      obtain ⟨j, hj⟩ := List.getElem?_of_mem hn
      obtain ⟨_, h6, h7⟩ := h3 j n hj
      obtain ⟨r, hr⟩ := Option.isSome_iff_exists.1 h7
      rw [hr]
      refine chOf_some (fun a (h : a = -1) => by omega) (ch_strong (fun i p hp => (h5 i p hp).2.2) h6 (chOf_spec hr).1) ?_
      have hs : List.Sublist ((chS x.1 n).getD []) (lsOf (chS x.1) x.2) := by
        unfold lsOf
        exact List.sublist_flatten_of_mem (List.mem_map.2 ⟨n, hn, rfl⟩)
      rw [hr] at hs
      exact hs.nodup h4
    have el := lsOf_congr e
    refine ⟨h1, h2, fun j n hj => ⟨(h3 j n hj).1, by rw [e n (List.mem_of_getElem? hj)]; exact (h3 j n hj).2.2⟩, by rw [el]; exact h4, fun i p hp hi => ?_⟩
    rw [el] at hi
    obtain ⟨g1, g2, g3⟩ := h5 i p hp
    have hu : p.used = false := by
      cases hc : p.used with
      | false => rfl
      | true => exact absurd (g1.1 hc) hi
    exact ⟨hu, g2 hu⟩
  · rintro ⟨h1, h2, h3, h4, h5⟩
    have e : ∀ n, n ∈ x.2 → chS x.1 n = chI x.1 n := fun n hn => by
      obtain ⟨j, hj⟩ := List.getElem?_of_mem hn
      obtain ⟨r, hr⟩ := Option.isSome_iff_exists.1 (h3 j n hj).2
      rw [chS_of_chI hr, hr]
    have el := lsOf_congr e
    refine ⟨h1, h2, fun j n hj => ?_, by rw [el]; exact h4, fun i p hp => ?_⟩
    · obtain ⟨h6, h7⟩ := h3 j n hj
      obtain ⟨r, hr⟩ := Option.isSome_iff_exists.1 h7
      exact ⟨h6, (ch_next (chOf_spec hr).1).1, by rw [e n (List.mem_of_getElem? hj)]; exact h7⟩
    · rw [el]
      by_cases hi : i ∈ lsOf (chI x.1) x.2
      · obtain ⟨n, hn, r, hr, hir⟩ := lsOf_mem.1 hi
        have hc := (chOf_spec hr).1
        obtain ⟨q, hq, hu⟩ := ch_used hc i hir
        rw [hp] at hq; cases hq
        refine ⟨⟨fun _ => hi, fun _ => hu⟩, fun h => (by rw [hu] at h; cases h), (ch_next hc).2 i hir p hp⟩
      · obtain ⟨g1, g2, g3⟩ := h5 i p hp hi
        exact ⟨⟨fun h => (by rw [g1] at h; cases h), fun h => absurd h hi⟩, fun _ => ⟨g2, g3⟩, by omega⟩

theorem lsOf_take {c : Pn → Option (List Nat)} {ns : List Pn} {j : Nat} {n : Pn} (hj : ns[j]? = some n) : lsOf c (ns.take (j + 1)) = lsOf c (ns.take j) ++ (c n).getD [] := by
  unfold lsOf
  rw [List.take_add_one, hj, Option.toList_some, List.map_append, List.flatten_append]
  simp
theorem lsOf_pre {c : Pn → Option (List Nat)} {ns : List Pn} {j : Nat} (h : (lsOf c ns).Nodup) : (lsOf c (ns.take j)).Nodup := by
  have e : lsOf c ns = lsOf c (ns.take j) ++ lsOf c (ns.drop j) := by
    unfold lsOf
    rw [← List.flatten_append, ← List.map_append, List.take_append_drop]
  rw [e] at h
  exact (List.nodup_append.1 h).1

section
variable {w0 : World} {σ : Vw}

/-- Which places are in a list. -/
def inL (m : Nat) (l : List Nat) : List Bool := (List.range m).map fun i => decide (i ∈ l)
theorem inL_get {m i : Nat} {l : List Nat} (h : i < m) : (inL m l)[i]? = some (decide (i ∈ l)) := by
  unfold inL
  rw [List.getElem?_map, List.getElem?_range h]; rfl
theorem inL_set {m i : Nat} {l : List Nat} (h : i < m) : (inL m l).set i true = inL m (l ++ [i]) := by
  apply List.ext_getElem?
  intro k
  by_cases hk : k < m
  · by_cases e : i = k
    · subst e
      rw [List.getElem?_set_self (by simp [inL, h]), inL_get h]
      simp
    · rw [List.getElem?_set_ne e, inL_get hk, inL_get hk]
      congr 1
      simp only [List.mem_append, List.mem_singleton]
      have : ¬ k = i := fun h => e h.symm
      simp [this]
  · rw [List.getElem?_eq_none (by simp [inL]; omega), List.getElem?_eq_none (by simp [inL]; omega)]

theorem bool_store {F : List Nat} {v : Value} {xs : List Bool} (h : OSl w0 1 OBo σ F v xs) {j : Nat} {x y : Bool} (hj : xs[j]? = some x) {K : Vw → Prop}
    (hK : ∀ σ', KeepsBut F σ σ' → OSl w0 1 OBo σ' F v (xs.set j y) → K σ') : pIndexAddr 1 v (.int .i64 j) fun p => pVal false 1 (.bool y) (pStore p [.bool y] σ K) := by
  obtain ⟨b, o, f, c, A, C, r, hix, hb, hr, hc, hA, hOx, hbF, hf, hput⟩ := h.focus (ok_bo w0) hj
  obtain ⟨rfl, rfl, hsz⟩ := hOx
  refine hix _ ?_
  refine elem_store hr hc hA rfl ?_
  exact hK _ (KeepsBut.put hbF) (hput _ [.bool y] y _ put_at rfl ⟨rfl, rfl, trivial⟩ fun i hi hne _ => by simp [Vw.put, hne])
theorem bool_at {v : Value} {xs : List Bool} (h : RSl 1 RBo (Av.get w0 σ) v xs) {j : Nat} {x : Bool} (hj : xs[j]? = some x) {K : (Nat → Value) → Prop} (hK : ∀ g : Nat → Value, g 0 = .bool x → K g) : pIndexAddr 1 v (.int .i64 j) fun p => pLoad w0 1 p σ K := by
  refine h.at hj fun g hg => ?_
  obtain ⟨hg, _⟩ := hg
  simp only [expl, encB, List.cons.injEq, and_true] at hg
  exact hK g hg
theorem n_at {v : Value} {xs : List Nat} (h : RSl 1 RN (Av.get w0 σ) v xs) {j : Nat} {x : Nat} (hj : xs[j]? = some x) {K : (Nat → Value) → Prop} (hK : ∀ g : Nat → Value, g 0 = .int .i64 x → K g) : pIndexAddr 1 v (.int .i64 j) fun p => pLoad w0 1 p σ K := by
  refine h.at hj fun g hg => ?_
  obtain ⟨hg, _⟩ := hg
  simp only [expl, encN, List.cons.injEq, and_true] at hg
  exact hK g hg
theorem pn_at {v : Value} {xs : List Pn} (h : RSl 3 RPn (Av.get w0 σ) v xs) {j : Nat} {x : Pn} (hj : xs[j]? = some x) {K : (Nat → Value) → Prop} (hK : ∀ g : Nat → Value, g 0 = .string x.name → g 1 = .int .i64 x.first → g 2 = .int .i64 x.size → goodPn x → K g) : pIndexAddr 3 v (.int .i64 j) fun p => pLoad w0 3 p σ K := by
  refine h.at hj fun g hg => ?_
  obtain ⟨hg, hgood⟩ := hg
  simp only [expl, encPn, List.cons.injEq, and_true] at hg
  exact hK g hg.1 hg.2.1 hg.2.2 hgood
theorem pg_at {v : Value} {xs : List Pg} (h : RSl 3 RPg (Av.get w0 σ) v xs) {j : Nat} {x : Pg} (hj : xs[j]? = some x) {K : (Nat → Value) → Prop} (hK : ∀ g : Nat → Value, g 0 = .bool x.used → g 1 = .string x.data → g 2 = .int .i64 x.next → goodPg x → K g) : pIndexAddr 3 v (.int .i64 j) fun p => pLoad w0 3 p σ K := by
  refine h.at hj fun g hg => ?_
  obtain ⟨hg, hgood⟩ := hg
  simp only [expl, encPg, List.cons.injEq, and_true] at hg
  exact hK g hg.1 hg.2.1 hg.2.2 hgood
end
end Go.Proofs.Ytkndffhcncmbjaa
