/- The law FnTrailCost holds: it returns true, and the input reads as it did. No condition. This is part 4 of 6 of its proof. -/
import Derived.Test.YtkbhjejalkbogaaGreatXFnTrailCost3
import Derived.Shelf.Small.Bits
import Derived.Shelf.Strconv.Itoa0
import Derived.Shelf.Sort.Plain
import Derived.Shelf.Slices.CompactS
import Derived.Shelf.Slices.Cells
import Derived.Shelf.Slices.In.SortNone
import Derived.Test.YtkbhjejalkbogaaGreatProg
import Derived.Lib.AppendIntMem
import Derived.Lib.Join
import Derived.Lib.SlicesCompact
import Derived.Sort.Walk0

/- What is at a path of a tree, by either reading. -/
set_option linter.unusedVariables false
set_option linter.unusedSimpArgs false
namespace Go.Proofs.YtkbhjejalkbogaaGreat
open Go Go.Av

/-- The first place of a text. -/
def nidx : List ByteArray → ByteArray → Option Nat
  | [], _ => none
  | s :: r, x => if s = x then some 0 else (nidx r x).map (· + 1)
theorem nidx_some {ns : List ByteArray} {x : ByteArray} : ∀ {j : Nat}, nidx ns x = some j → ns[j]? = some x := by
  induction ns with
  | nil => intro j h; simp [nidx] at h
  | cons s r ih =>
    intro j h
    unfold nidx at h
    split at h
    · rename_i e; cases h; simp [e]
    · cases hr : nidx r x with
      | none => rw [hr] at h; cases h
      | some i => rw [hr] at h; cases h; simpa using ih hr
theorem nidx_at {ns : List ByteArray} {x : ByteArray} : ∀ {j : Nat}, ns[j]? = some x → (∀ (i : Nat) (y : ByteArray), i < j → ns[i]? = some y → y ≠ x) → nidx ns x = some j := by
  induction ns with
  | nil => intro j h; simp at h
  | cons s r ih =>
    intro j h hn
    unfold nidx
    cases j with
    | zero => simp at h; rw [if_pos h]
    | succ j =>
      rw [if_neg (hn 0 s (by omega) rfl), ih (by simpa using h) fun i y hi hy => hn (i + 1) y (by omega) (by simpa using hy)]
      rfl
theorem nidx_none {ns : List ByteArray} {x : ByteArray} (h : ∀ (i : Nat) (y : ByteArray), ns[i]? = some y → y ≠ x) : nidx ns x = none := by
  induction ns with
  | nil => rfl
  | cons s r ih =>
    unfold nidx
    rw [if_neg (h 0 s rfl), ih fun i y hy => h (i + 1) y (by simpa using hy)]
    rfl
/-- A place as a number, -1 for none. -/
def placeI : Option Nat → Int
  | some j => j
  | none => -1

/-- Names and parts are as many, all the way down. -/
def wfT : Nat → Tr → Prop
  | 0, _ => True
  | n + 1, .mk d m t ns ks => ns.length = ks.length ∧ ∀ k, k ∈ ks → wfT n k
theorem sound_wf : ∀ (n : Nat) (x : Tr) (k : Int), soundB n x k = true → wfT n x
  | 0, _, _, _ => trivial
  | n + 1, .mk d m t ns ks, k, h => by
    simp only [soundB, plainB, Bool.and_eq_true, decide_eq_true_eq] at h
    refine ⟨h.1.2.1, fun x hx => ?_⟩
    obtain ⟨j, hj⟩ := List.getElem?_of_mem hx
    exact sound_wf n x (k + 1) (allB_iff.1 h.2.2 j x hj)
def kidT : Tr → ByteArray → Option Tr
  | .mk _ _ _ ns ks, x => (nidx ns x).bind fun j => ks[j]?
def atT : Tr → List ByteArray → Option Tr
  | t, [] => some t
  | t, x :: r => (kidT t x).bind fun k => atT k r
def zeroT : Tr := .mk false 0 ⟨#[]⟩ [] []
theorem RT_zero (n : Nat) (rd : Addr → Option Value) : RT (n + 1) rd [.bool false, .int .i64 0, .string ⟨#[]⟩, .slice none 0 0, .slice none 0 0] zeroT :=
  ⟨_, _, rfl, by omega, by show 0 ≤ _; omega, ⟨none, 0, rfl, by simp, fun j x h => by simp at h⟩, ⟨none, 0, rfl, by simp, fun j x h => by simp at h⟩⟩
section
variable {w0 : World} {σ : Vw}

theorem find_names {v : Value} {ns : List ByteArray} {x : ByteArray} (h : RSl 1 RS (Av.get w0 σ) v ns) {R : Value → Vw → Prop} (hR : R (.int .i64 (placeI (nidx ns x))) σ) : AC Tryz.prog w0 n_slices_Index_string_string [v, .string x] σ R := by
  refine ac_slices_Index_string_string ?_
  unfold vc_slices_Index_string_string
  have hl := h.le
  rw [h.len]
  refine loop_rule (m := ns.length) (fun c l s => ∃ j, s = σ ∧ c + j = ns.length ∧ (∀ (i : Nat) (y : ByteArray), i < j → ns[i]? = some y → y ≠ x) ∧ l = [v, .string x, .int .i64 0, .int .i64 ns.length, .int .i64 (j : Nat)]) ?_ ⟨0, rfl, by omega, fun i y h => by omega, rfl⟩
  rintro c l s L ⟨j, rfl, hc, ht, rfl⟩ hL
  simp only [vget, List.getD_cons_zero, List.getD_cons_succ]
  rw [pBin_lt, pIf_d]
  refine ⟨fun hj => ?_, fun hj => ?_⟩
  · have hx := List.getElem?_eq_getElem (show j < ns.length by omega)
    generalize hxj : ns[j] = y at hx
    refine RSl.at1 h hx fun g hg hs => ?_
    rw [hg, pBin_seq, pIf_d]
    refine ⟨fun he => ?_, fun hne => ?_⟩
    · subst he
      rw [nidx_at hx ht] at hR
      exact hR
    · rw [pBin_add (by omega)]
      refine hL _ _ (c - 1) (by omega) ⟨j + 1, rfl, by omega, fun i z hi hz => ?_, rfl⟩
      by_cases e : i = j
      · subst e; rw [hx] at hz; cases hz; exact fun e => hne e.symm
      · exact ht i z (by omega) hz
  · rw [nidx_none fun i y hy => ht i y (by have := (List.getElem?_eq_some_iff.1 hy).1; omega) hy] at hR
    exact hR

theorem spec_Find {n : Nat} {es : List Value} {d : Bool} {m : Int} {t : ByteArray} {ns : List ByteArray} {ks : List Tr} {x : ByteArray} (h : RT n (Av.get w0 σ) es (.mk d m t ns ks)) {R : Value → Vw → Prop} (hR : R (.int .i64 (placeI (nidx ns x))) σ) : AC Tryz.prog w0 n_spec_l1Find [.agg ⟨es⟩, .string x] σ R := by
  obtain _ | n := n
  · exact h.elim
  obtain ⟨u, w, rfl, h2, h3, h4, h5⟩ := h
  refine ac_spec_l1Find ?_
  unfold vc_spec_l1Find
  have hl := h4.le
  rw [pVal_5 rfl rfl rfl h4.one h5.one]
  simp only [cellOf_agg, List.getD_cons_zero, List.getD_cons_succ]
  refine loop_rule (m := ns.length) (fun c l s => ∃ j, s = σ ∧ c + j = ns.length ∧ (∀ (i : Nat) (y : ByteArray), i < j → ns[i]? = some y → y ≠ x) ∧ l = [.string x, .int .i64 0, .int .i64 (j : Nat), .bool d, .int .i64 m, .string t, u, w]) ?_ ⟨0, rfl, by omega, fun i y h => by omega, rfl⟩
  rintro c l s L ⟨j, rfl, hc, ht, rfl⟩ hL
  simp only [vget, List.getD_cons_zero, List.getD_cons_succ]
  rw [h4.len, pBin_lt, pIf_d]
  refine ⟨fun hj => ?_, fun hj => ?_⟩
  · have hx := List.getElem?_eq_getElem (show j < ns.length by omega)
    generalize hxj : ns[j] = y at hx
    refine RSl.at1 h4 hx fun g hg hs => ?_
    rw [hg, pBin_seq, pIf_d]
    refine ⟨fun he => ?_, fun hne => ?_⟩
    · subst he
      rw [nidx_at hx ht] at hR
      exact hR
    · rw [pBin_add (by omega)]
      refine hL _ _ (c - 1) (by omega) ⟨j + 1, rfl, by omega, fun i z hi hz => ?_, rfl⟩
      by_cases e : i = j
      · subst e; rw [hx] at hz; cases hz; exact hne
      · exact ht i z (by omega) hz
  · rw [nidx_none fun i y hy => ht i y (by have := (List.getElem?_eq_some_iff.1 hy).1; omega) hy] at hR
    exact hR

/-- What a kid is read as. -/
theorem kid_some {n : Nat} {d : Bool} {m : Int} {t : ByteArray} {ns : List ByteArray} {ks : List Tr} {x : ByteArray} (hw : wfT (n + 1) (.mk d m t ns ks)) {j : Nat} (hj : nidx ns x = some j) : ∃ k, ks[j]? = some k ∧ kidT (.mk d m t ns ks) x = some k ∧ wfT n k := by
  have h1 := nidx_some hj
  have hlt := (List.getElem?_eq_some_iff.1 h1).1
  have hw1 := hw.1
  have hk := List.getElem?_eq_getElem (show j < ks.length by omega)
  refine ⟨_, hk, ?_, hw.2 _ (List.getElem_mem _)⟩
  simp only [kidT, hj, Option.bind_some, hk]

theorem spec_At : ∀ (ps : List ByteArray) {n : Nat} {σ : Vw} {es : List Value} {v : Value} {x : Tr} {R : Value → Vw → Prop}, RT n (Av.get w0 σ) es x → wfT n x → RSl 1 RS (Av.get w0 σ) v ps →
    (∀ es', RT n (Av.get w0 σ) es' ((atT x ps).getD zeroT) → R (.tuple ⟨[.agg ⟨es'⟩, .bool (atT x ps).isSome]⟩) σ) → AC Tryz.prog w0 n_spec_l1At [.agg ⟨es⟩, v] σ R
  | ps, 0, _, _, _, _, _, h, _, _, _ => h.elim
  | ps, n + 1, σ, es, v, .mk d m t ns ks, R, h, hw, hp, hR => by
    have h0 := h
    obtain ⟨u, w, rfl, h2, h3, h4, h5⟩ := h
    refine ac_spec_l1At ?_
    unfold vc_spec_l1At
    have e5 : ∀ A : Prop, pVal true 5 (.agg ⟨[.bool d, .int .i64 m, .string t, u, w]⟩) A ↔ A := fun A => pVal_5 rfl rfl rfl h4.one h5.one
    rw [e5]
    simp only [cellOf_agg, List.getD_cons_zero, List.getD_cons_succ]
    rw [hp.len, pBin_eq, pIf_d]
    cases ps with
    | nil =>
      refine ⟨fun _ => ?_, fun h => absurd rfl h⟩
      rw [e5]
      exact hR _ h0
    | cons p r =>
      refine ⟨fun h => by simp at h; omega, fun _ => ?_⟩
      refine RSl.at1 (w0 := w0) (σ := σ) hp (j := 0) (x := p) rfl fun g hg hs => ?_
      rw [hg]
      refine spec_Find h0 ?_
      rw [pBin_lt, pIf_d]
      cases hj : nidx ns p with
      | none =>
        refine ⟨fun _ => ?_, fun h => absurd (show (-1 : Int) < 0 by omega) h⟩
        rw [pVal_5 rfl rfl rfl rfl rfl]
        have : atT (.mk d m t ns ks) (p :: r) = none := by simp [atT, kidT, hj]
        rw [this] at hR
        exact hR _ (RT_zero n _)
      | some j =>
        refine ⟨fun h => by simp only [placeI] at h; omega, fun _ => ?_⟩
        obtain ⟨k, hk1, hk2, hk3⟩ := kid_some hw hj
        have hat : atT (.mk d m t ns ks) (p :: r) = atT k r := by simp only [atT, hk2, Option.bind_some]
        rw [hat] at hR
        refine h5.at hk1 fun g8 hg8 => ?_
        refine hp.slice (l := 1) (u := (p :: r).length) rfl rfl (by simp) (Nat.le_refl _) fun v9 hv9 => ?_
        rw [List.take_length, List.drop_one, List.tail_cons] at hv9
        refine spec_At r hg8 hk3 hv9 fun es' he' => ?_
        rw [pExtract_s rfl, pExtract_s rfl]
        have hn : RT (n + 1) (Av.get w0 σ) es' ((atT k r).getD zeroT) := RT_up _ _ _ _ he'
        obtain ⟨a, b, c, d', e, rfl, _, hpv⟩ := RT.five hn
        rw [hpv]
        exact hR _ hn

/-- A pointer to a tree. -/
def PT (n : Nat) (rd : Addr → Option Value) (p : Value) (x : Tr) : Prop := ∃ a es, p = .pointer (some a) ∧ es.length = 5 ∧ (∀ i, i < 5 → rd (a.add i) = es[i]?) ∧ RT n rd es x
theorem PT.mono {n : Nat} {rd rd' : Addr → Option Value} {p : Value} {x : Tr} (h : PT n rd p x) (hl : Le rd rd') : PT n rd' p x := by
  obtain ⟨a, es, h1, h2, h3, h4⟩ := h
  refine ⟨a, es, h1, h2, fun i hi => ?_, mono_rt n _ _ _ _ hl h4⟩
  have := h3 i hi
  rw [List.getElem?_eq_getElem (by omega)] at this ⊢
  exact hl _ _ this
theorem PT.up {n : Nat} {rd : Addr → Option Value} {p : Value} {x : Tr} (h : PT n rd p x) : PT (n + 1) rd p x := by
  obtain ⟨a, es, h1, h2, h3, h4⟩ := h
  exact ⟨a, es, h1, h2, h3, RT_up _ _ _ _ h4⟩
/-- A field behind a pointer is read. -/
theorem PT.ld {n : Nat} {p : Value} {x : Tr} (h : PT n (Av.get w0 σ) p x) (o : Nat) (ho : o < 5) {K : (Nat → Value) → Prop} (hK : ∀ (es : List Value) (g : Nat → Value), RT n (Av.get w0 σ) es x → es[o]? = some (g 0) → K g) : pNil p (pField o p fun q => pLoad w0 1 q σ K) := by
  obtain ⟨a, es, rfl, h5, h6, h7⟩ := h
  rw [pNil_s, pField_s]
  refine ⟨_, fun _ => es.getD o undef, rfl, fun i hi => ?_, hK es _ h7 ?_⟩
  · have e : i = 0 := by omega
    subst e
    have := h6 o ho
    rw [add_add, Nat.add_zero, this, List.getElem?_eq_getElem (by omega)]
    simp only [List.getD_eq_getElem?_getD, List.getElem?_eq_getElem (show o < es.length by omega), Option.getD_some]
  · simp only [List.getD_eq_getElem?_getD, List.getElem?_eq_getElem (show o < es.length by omega), Option.getD_some]
/-- The address of an element. -/
theorem RSl.ptr {n k : Nat} {v : Value} {xs : List Tr} (h : RSl 5 (RT n) (Av.get w0 σ) v xs) {j : Nat} {x : Tr} (hj : xs[j]? = some x) {K : Value → Prop} (hK : ∀ p, PT n (Av.get w0 σ) p x → K p) : pIndexAddr 5 v (.int .i64 j) K := by
  obtain ⟨A, cap, rfl, _, h3⟩ := h
  obtain ⟨a, es, rfl, h5, h6, h7⟩ := h3 j x hj
  have hlt : j < xs.length := (List.getElem?_eq_some_iff.1 hj).1
  refine ⟨a, xs.length, cap, .i64, j, rfl, rfl, by omega, by omega, hK _ ⟨_, es, rfl, h5, fun i hi => ?_, h7⟩⟩
  have := h6 i hi
  rw [Int.toNat_natCast, add_add]; exact this

/-- What is at a name, by pointers: a pointer, or nil. -/
def PO (n : Nat) (rd : Addr → Option Value) (p : Value) : Option Tr → Prop
  | some x => PT n rd p x
  | none => p = .pointer none
theorem impl_kid {n : Nat} {p : Value} {x : Tr} {name : ByteArray} {R : Value → Vw → Prop} (h : PT (n + 1) (Av.get w0 σ) p x) (hw : wfT (n + 1) x) (hR : ∀ q, PO n (Av.get w0 σ) q (kidT x name) → R q σ) : AC Tryz.prog w0 n_p_impl_Tree_kid [p, .string name] σ R := by
  obtain ⟨d, m, t, ns, ks⟩ := x
  refine ac_p_impl_Tree_kid ?_
  unfold vc_p_impl_Tree_kid
  refine h.ld 3 (by omega) fun es g he hg => ?_
  obtain ⟨u, w, rfl, h2, h3, h4, h5⟩ := he
  simp only [List.getElem?_cons_zero, List.getElem?_cons_succ, Option.some.injEq] at hg
  rw [← hg]
  refine find_names h4 ?_
  rw [pBin_lt, pIf_d]
  cases hj : nidx ns name with
  | none =>
    refine ⟨fun _ => hR _ (by simp only [kidT, hj, Option.bind_none]; rfl), fun h => absurd (show (-1 : Int) < 0 by omega) h⟩
  | some j =>
    refine ⟨fun h => by simp only [placeI] at h; omega, fun _ => ?_⟩
    obtain ⟨k, hk1, hk2, hk3⟩ := kid_some hw hj
    have hlt := (List.getElem?_eq_some_iff.1 hk1).1
    refine h.ld 4 (by omega) fun es g he hg => ?_
    obtain ⟨u', w', rfl, h2', h3', h4', h5'⟩ := he
    simp only [List.getElem?_cons_zero, List.getElem?_cons_succ, Option.some.injEq] at hg
    rw [← hg, h5'.len]
    simp only [placeI]
    rw [pBin_ge, pIf_d]
    refine ⟨fun h => by omega, fun _ => ?_⟩
    refine h.ld 4 (by omega) fun es g he hg => ?_
    obtain ⟨u2, w2, rfl, h22, h32, h42, h52⟩ := he
    simp only [List.getElem?_cons_zero, List.getElem?_cons_succ, Option.some.injEq] at hg
    rw [← hg]
    refine RSl.ptr (k := 0) h52 hk1 fun q hq => hR q ?_
    rw [hk2]; exact hq

theorem wf_RT_up : ∀ {n : Nat} {rd : Addr → Option Value} {es : List Value} {x : Tr}, RT n rd es x → wfT n x → wfT (n + 1) x
  | 0, _, _, _, h, _ => h.elim
  | n + 1, rd, es, .mk d m t ns ks, h, hw => by
    obtain ⟨u, w, h1, h2, h3, h4, A, cap, _, _, h5⟩ := h
    refine ⟨hw.1, fun k hk => ?_⟩
    obtain ⟨j, hj⟩ := List.getElem?_of_mem hk
    obtain ⟨a, es', _, _, _, h6⟩ := h5 j k hj
    exact wf_RT_up h6 (hw.2 k hk)

theorem pBin_nil {T : Nat} {p : Option Addr} {K : Value → Prop} (hT : ∃ e, Tryz.prog.underlying T = some (.pointer e)) : pBin Tryz.prog T .eql (.pointer p) (.pointer none) K ↔ K (.bool p.isNone) := by
  obtain ⟨e, he⟩ := hT
  have h : abinT Tryz.prog T .eql (.pointer p) (.pointer none) = some (.bool p.isNone) := by simp only [abinT, he]
  exact ⟨fun ⟨_, h', hK⟩ => by rw [h] at h'; cases h'; exact hK, fun hK => ⟨_, h, hK⟩⟩
theorem ptr_tree : ∃ e, Tryz.prog.underlying t_p_impl_Tree = some (.pointer e) := ⟨t_impl_Tree, by kernel_rfl⟩

theorem impl_at {n : Nat} {p v : Value} {x : Tr} {ps : List ByteArray} {R : Value → Vw → Prop} (h : PT (n + 1) (Av.get w0 σ) p x) (hw : wfT (n + 1) x) (hp : RSl 1 RS (Av.get w0 σ) v ps) (hR : ∀ q, PO (n + 1) (Av.get w0 σ) q (atT x ps) → R q σ) : AC Tryz.prog w0 n_p_impl_Tree_at [p, v] σ R := by
  refine ac_p_impl_Tree_at ?_
  unfold vc_p_impl_Tree_at
  have hl := hp.le
  rw [hp.len]
  refine loop_rule (m := ps.length) (fun c l s => ∃ (j : Nat) (q : Value) (y : Tr), s = σ ∧ c + j = ps.length ∧ PT (n + 1) (Av.get w0 σ) q y ∧ wfT (n + 1) y ∧ atT y (ps.drop j) = atT x ps ∧ l = [q, .pointer none, v, .int .i64 ps.length, .int .i64 (j : Nat)]) ?_ ⟨0, p, x, rfl, by omega, h, hw, rfl, rfl⟩
  rintro c l s L ⟨j, q, y, rfl, hc, hq, hy, hat, rfl⟩ hL
  simp only [vget, List.getD_cons_zero, List.getD_cons_succ]
  rw [pBin_lt, pIf_d]
  refine ⟨fun hj => ?_, fun hj => ?_⟩
  · have hx := List.getElem?_eq_getElem (show j < ps.length by omega)
    have hd : ps.drop j = ps[j] :: ps.drop (j + 1) := List.drop_eq_getElem_cons (by omega)
    rw [hd] at hat
    generalize hxj : ps[j] = z at hx hat
    refine RSl.at1 hp hx fun g hg hs => ?_
    rw [hg]
    refine impl_kid hq hy fun q' hq' => ?_
    cases hk : kidT y z with
    | none =>
      rw [hk] at hq'
      obtain rfl : q' = .pointer none := hq'
      rw [pBin_nil ptr_tree]
      rw [pIf_b]
      refine ⟨fun _ => hR _ ?_, fun h => by cases h⟩
      have : atT x ps = none := by rw [← hat]; simp only [atT, hk, Option.bind_none]
      rw [this]; exact rfl
    | some y' =>
      rw [hk] at hq'
      have hq2 : PT n (Av.get w0 s) q' y' := hq'
      obtain ⟨a, es, rfl, r1, r2, r3⟩ := hq2
      rw [pBin_nil ptr_tree]
      rw [pIf_b]
      refine ⟨fun h => (by cases h), fun _ => ?_⟩
      rw [pBin_add (by omega)]
      have hw' : wfT n y' := by
        obtain ⟨d, m, t, ns, ks⟩ := y
        cases hj : nidx ns z with
        | none => simp only [kidT, hj, Option.bind_none] at hk; cases hk
        | some i =>
          obtain ⟨k, _, hk2, hk3⟩ := kid_some hy hj
          rw [hk] at hk2; cases hk2; exact hk3
      refine hL _ _ (c - 1) (by omega) ⟨j + 1, _, y', rfl, by omega, PT.up ⟨a, es, rfl, r1, r2, r3⟩, wf_RT_up r3 hw', ?_, rfl⟩
      rw [← hat]; simp only [atT, hk, Option.bind_some]
  · have hj' : j = ps.length := by omega
    subst hj'
    rw [List.drop_length] at hat
    have : atT x ps = some y := by rw [← hat]; rfl
    refine hR q ?_
    rw [this]; exact hq
end
end Go.Proofs.YtkbhjejalkbogaaGreat

/- Marks of texts. -/
set_option linter.unusedVariables false
set_option linter.unusedSimpArgs false
namespace Go.Proofs.YtkbhjejalkbogaaGreat
open Go Go.Av

theorem size_strOfNums (xs : List Int) : (strOfNums xs).size = xs.length := by
  simp [strOfNums, ByteArray.size]
section
variable {w0 : World} {σ : Vw}

end
end Go.Proofs.YtkbhjejalkbogaaGreat

/- Reading and listing: the functions 'TreeRead' and 'TreeList' by either text. -/
set_option linter.unusedVariables false
set_option linter.unusedSimpArgs false
namespace Go.Proofs.YtkbhjejalkbogaaGreat
open Go Go.Av

def kidsOf : Tr → List Tr
  | .mk _ _ _ _ ks => ks
def namesOf : Tr → List ByteArray
  | .mk _ _ _ ns _ => ns
def dataOf : Tr → ByteArray
  | .mk _ _ t _ _ => t
def modeOf : Tr → Int
  | .mk _ m _ _ _ => m
/-- What can be read. -/
def IsT (n : Nat) (x : Tr) : Prop := ∃ rd es, RT n rd es x
theorem kid_mem {x : Tr} {nm : ByteArray} {k : Tr} (h : kidT x nm = some k) : k ∈ kidsOf x := by
  obtain ⟨d, m, t, ns, ks⟩ := x
  simp only [kidT, Option.bind_eq_some_iff] at h
  obtain ⟨j, _, hj⟩ := h
  exact List.mem_of_getElem? hj
theorem isT_kid {n : Nat} {x k : Tr} (h : IsT (n + 1) x) (hk : k ∈ kidsOf x) : IsT n k := by
  obtain ⟨d, m, t, ns, ks⟩ := x
  obtain ⟨rd, es, u, w, h1, h2, h3, h4, A, cap, _, _, h5⟩ := h
  obtain ⟨j, hj⟩ := List.getElem?_of_mem hk
  obtain ⟨a, es', _, _, _, h6⟩ := h5 j k hj
  exact ⟨rd, es', h6⟩
section
variable {w0 : World} {σ : Vw}

theorem RT.cells {n : Nat} {rd : Addr → Option Value} {es : List Value} {x : Tr} (h : RT n rd es x) : ∃ u w, es = [.bool (isDir x), .int .i64 (modeOf x), .string (dataOf x), u, w] ∧ (-9223372036854775808 ≤ modeOf x ∧ modeOf x ≤ 9223372036854775807) ∧ (dataOf x).size ≤ 9223372036854775807 ∧ RSl 1 RS rd u (namesOf x) ∧ RSl 5 (RT n) rd w (kidsOf x) ∧ ∀ A : Prop, pVal true 5 (.agg ⟨es⟩) A ↔ A := by
  obtain _ | n := n
  · exact h.elim
  · obtain ⟨d, m, t, ns, ks⟩ := x
    obtain ⟨u, w, rfl, h2, h3, h4, h5⟩ := h
    exact ⟨u, w, rfl, h2, h3, h4, h5.imp fun es x h => RT_up n rd es x h, fun A => pVal_5 rfl rfl rfl h4.one h5.one⟩

/-- A tree that is put into a row of our own. -/
theorem PT.new {n b : Nat} {es : List Value} {x : Tr} (h : RT n (Av.get w0 σ) es x) (hb : w0.heap.size ≤ b) (hn : σ b = none) {ety c : Nat} : PT n (Av.get w0 (σ.put b ⟨ety, es, c, (0, 0)⟩)) (.pointer (some ⟨b, 0, none⟩)) x := by
  have hl : es.length = 5 := by obtain ⟨_, _, _, _, _, rfl, _⟩ := RT.five h; rfl
  refine ⟨_, es, rfl, hl, fun i hi => ?_, mono_rt n _ _ _ _ (Keeps.put hn).le h⟩
  rw [addr_add, get_row hb put_at, Nat.zero_add]
theorem PT.load {n : Nat} {p : Value} {x : Tr} (h : PT n (Av.get w0 σ) p x) {K : (Nat → Value) → Prop} (hK : ∀ g : Nat → Value, RT n (Av.get w0 σ) (expl g 0 5) x → K g) : pLoad w0 5 p σ K := by
  obtain ⟨a, es, rfl, h5, h6, h7⟩ := h
  refine ⟨a, fun i => es.getD i undef, rfl, fun i hi => ?_, hK _ ?_⟩
  · rw [h6 i hi, List.getElem?_eq_getElem (by omega)]
    simp only [List.getD_eq_getElem?_getD, List.getElem?_eq_getElem (show i < es.length by omega), Option.getD_some]
  · have : expl (fun i => es.getD i undef) 0 5 = es := by
      match es, h5 with
      | [a, b, c, d, e], _ => rfl
    rw [this]; exact h7

end
end Go.Proofs.YtkbhjejalkbogaaGreat

/- Marks of trees. -/
set_option linter.unusedVariables false
set_option linter.unusedSimpArgs false
namespace Go.Proofs.YtkbhjejalkbogaaGreat
open Go Go.Av

section
variable {w0 : World} {σ : Vw}

end
end Go.Proofs.YtkbhjejalkbogaaGreat

/- The laws 'TreeRead' and 'TreeList', of the functions alone. -/
set_option linter.unusedVariables false
set_option linter.unusedSimpArgs false
namespace Go.Proofs.YtkbhjejalkbogaaGreat
open Go Go.Av

section
variable {w0 : World} {σ : Vw}

end
end Go.Proofs.YtkbhjejalkbogaaGreat

/- 'TreeAt': copies of trees by either hand; marks of trees that are results; the law. -/
set_option linter.unusedVariables false
set_option linter.unusedSimpArgs false
namespace Go.Proofs.YtkbhjejalkbogaaGreat
open Go Go.Av

theorem none_at {σ s : Vw} (k : Keeps σ s) {i : Nat} (h : s i = none) : σ i = none := by
  cases hs : σ i with
  | none => rfl
  | some r => rw [k i r hs] at h; cases h
theorem sumBy_congr {α : Type} {f g : α → Nat} : ∀ {xs : List α}, (∀ x, x ∈ xs → f x = g x) → sumBy f xs = sumBy g xs
  | [], _ => rfl
  | x :: xs, h => by simp only [sumBy]; rw [h x (by simp), sumBy_congr fun y hy => h y (by simp [hy])]
theorem sz_up : ∀ {n : Nat} {x : Tr}, IsT n x → szT (n + 1) x = szT n x
  | 0, _, ⟨_, _, h⟩ => h.elim
  | n + 1, .mk d m t ns ks, h => by
    have : sumBy (szT (n + 1)) ks = sumBy (szT n) ks := sumBy_congr fun k hk => sz_up (isT_kid h hk)
    show t.size + (ns.length + sumS ns) + (ks.length + sumBy (szT (n + 1)) ks) = t.size + (ns.length + sumS ns) + (ks.length + sumBy (szT n) ks)
    rw [this]
theorem sz_at : ∀ (ps : List ByteArray) {n : Nat} {x y : Tr}, IsT n x → atT x ps = some y → IsT n y ∧ szT n y ≤ szT n x
  | [], n, x, y, h, e => by cases e; exact ⟨h, Nat.le_refl _⟩
  | p :: r, 0, x, y, ⟨_, _, h⟩, e => h.elim
  | p :: r, n + 1, .mk d m t ns ks, y, h, e => by
    simp only [atT, Option.bind_eq_some_iff] at e
    obtain ⟨k, hk, e⟩ := e
    have hm := kid_mem hk
    have hi := isT_kid h hm
    obtain ⟨h1, h2⟩ := sz_at r hi e
    have h3 := sumBy_mem (f := szT n) (show k ∈ ks from hm)
    have h4 := sz_up h1
    obtain ⟨rd, es, h1⟩ := h1
    refine ⟨⟨rd, es, RT_up _ _ _ _ h1⟩, ?_⟩
    rw [h4]
    show _ ≤ t.size + (ns.length + sumS ns) + (ks.length + sumBy (szT n) ks)
    omega
theorem sz_zero : ∀ n, szT n zeroT = 0
  | 0 => rfl
  | n + 1 => rfl
section
variable {w0 : World} {σ : Vw}

theorem spec_l1Copy : ∀ (n : Nat) {σ : Vw} {es : List Value} {x : Tr} {R : Value → Vw → Prop}, RT n (Av.get w0 σ) es x → fitT n x → (∀ es' F σ', Keeps σ σ' → OT w0 n σ' F es' x → (∀ b, b ∈ F → σ b = none) → R (.agg ⟨es'⟩) σ') → AC Tryz.prog w0 n_spec_l1Copy [.agg ⟨es⟩] σ R
  | 0, _, _, _, _, h, _, _ => h.elim
  | n + 1, σ, es, .mk d md t ns ks, R, h, hf, hR => by
    obtain ⟨u, w, rfl, h2, h3, h4, h5⟩ := h
    obtain ⟨f1, f2, f3⟩ := hf
    refine ac_spec_l1Copy ?_
    unfold vc_spec_l1Copy
    rw [pVal_5 rfl rfl rfl h4.one h5.one]
    simp only [cellOf_agg, List.getD_cons_zero, List.getD_cons_succ]
    intro b hb1 hb2
    have kb : Keeps σ (σ.put b ⟨t_string, [], 0, (0, 0)⟩) := Keeps.put hb2
    have hb0 : ∀ i, i ∈ [b] → σ i = none := fun i hi => by rw [List.mem_singleton.1 hi]; exact hb2
    refine (OAcc.new (w0 := w0) (σ := σ) (ety := t_string) (n := 1) (O := OStr) hb1).all (ok_str w0) h4 kb.le (fun es y hy => ⟨rfl, hy⟩) (by simpa using f1) (by omega) fun u' F1 s1 k1 o1 g1 => ?_
    have K1 := k1.old kb hb0
    have hF1 := fresh_in kb hb0 g1
    rw [List.nil_append] at o1
    have hl5 := h5.le
    rw [pVal1 rfl, pVal1 rfl, pVal1 rfl, pVal1 (OSl.one' o1.osl), pVal_5 rfl rfl rfl (OSl.one' o1.osl) rfl]
    refine loop_rule (m := ks.length) (fun m l s => ∃ (j : Nat) (v' : Value) (F2 : List Nat), m + j = ks.length ∧ Keeps σ s ∧ OStrs w0 s F1 u' ns ∧ OAcc w0 t_impl_Tree 5 (OT w0 n) s F2 v' (ks.take j) ∧ (∀ i, i ∈ F2 → σ i = none) ∧ (∀ i, i ∈ F1 → i ∉ F2) ∧
        l = [.int .i64 (j : Nat), .bool d, .int .i64 md, .string t, u, w, .bool false, .int .i64 0, .string ⟨#[]⟩, .slice none 0 0, .slice none 0 0, .bool d, .int .i64 md, .string t, u', v']) ?_
      ⟨0, _, [], by omega, K1, o1.osl, OAcc.nil, by simp, by simp, rfl⟩
    rintro m l s L ⟨j, v', F2, hm, ks', p1, p2, hF2, hd, rfl⟩ hL
    simp only [vget, List.getD_cons_zero, List.getD_cons_succ]
    have h5' := h5.mono ks'.le fun es x => mono_rt n _ _ es x ks'.le
    rw [h5'.len, pBin_lt, pIf_d]
    refine ⟨fun hi => ?_, fun hi => ?_⟩
    · have hx := List.getElem?_eq_getElem (show j < ks.length by omega)
      generalize hxi : ks[j]'(by omega) = y at hx
      refine h5'.at hx fun g hg => ?_
      refine spec_l1Copy n hg (f3 y (List.mem_of_getElem? hx)) fun es3 F3 s3 k3 o3 g3 => ?_
      obtain ⟨a, b', c, d', e, rfl, _, hpv⟩ := RT.five ((ok_rt w0 n).rel _ _ _ _ o3)
      rw [hpv]
      simp only [cellOf_agg, List.getD_cons_zero, List.getD_cons_succ]
      have p2' := p2.frame (ok_rt w0 n) (k3.but_at fun b hb => (p2.dom (ok_rt w0 n) b hb).2)
      have p1' := p1.frame (ok_str w0) (k3.but_at fun b hb => (p1.dom (ok_str w0) b hb).2)
      refine p2'.one (ok_rt w0 n) o3 (fun i hi hi' => (p2.dom (ok_rt w0 n) i hi').2 (g3 i hi)) (by rw [List.length_take]; omega) (by omega) fun v4 F4 s4 k4 o4 g4 => ?_
      rw [pVal1 (OSl.one' o4.osl), pBin_add (by omega)]
      have K3 := ks'.trans k3
      have hF3 : ∀ i, i ∈ F3 → σ i = none := fun i hi => none_at ks' (g3 i hi)
      refine hL _ _ (m - 1) (by omega) ⟨j + 1, v4, F4, by omega, k4.old K3 hF2, p1'.frame (ok_str w0) (k4.at (fun i hi => (p1'.dom (ok_str w0) i hi).2) hd), ?_, fun i hi => ?_, fun i hi hi' => ?_, rfl⟩
      · rw [List.take_add_one, hx]; exact o4
      · rcases g4 i hi with h | h | h
        · exact hF2 i h
        · exact hF3 i h
        · exact none_at K3 h
      · rcases g4 i hi' with h | h | h
        · exact hd i hi h
        · exact (p1.dom (ok_str w0) i hi).2 (g3 i h)
        · exact (p1'.dom (ok_str w0) i hi).2 h
    · have e : j = ks.length := by omega
      subst e
      rw [List.take_length] at p2
      rw [pVal_5 rfl rfl rfl (OSl.one' p1) (OSl.one' p2.osl)]
      refine hR _ (F1 ++ F2) s ks' ⟨u', v', F1, F2, rfl, h2, h3, p1, p2.osl, rfl, List.nodup_append.2 ⟨p1.2.1, p2.osl.2.1, fun a ha b hb e => hd a ha (e ▸ hb)⟩⟩ fun i hi => ?_
      rcases List.mem_append.1 hi with h | h
      · exact hF1 i h
      · exact hF2 i h

end
end Go.Proofs.YtkbhjejalkbogaaGreat

/- Lists of our own that grow, whose elements are read where they lie, old or new: what an append keeps. -/
set_option linter.unusedVariables false
set_option linter.unusedSimpArgs false
namespace Go.Av
open Go Go.RowKit

section
variable {P : Program} {w0 : World} {σ σ' : Vw} {α : Type}

theorem OAcc.rebase {ety n : Nat} {Rel : (Addr → Option Value) → List Value → α → Prop} (ok : ROk n Rel) {rd rd' : Addr → Option Value} {F : List Nat} {v : Value} {xs : List α} (h : OAcc w0 ety n (OB Rel rd) σ F v xs) (hle : Le rd rd') : OAcc w0 ety n (OB Rel rd') σ F v xs := by
  obtain ⟨h1, h2, h3 | ⟨b, cap, css, Fs, g1, g2, g3, g4, g5, g6, g7, g8⟩⟩ := h
  · exact ⟨h1, h2, .inl h3⟩
  · exact ⟨h1, h2, .inr ⟨b, cap, css, Fs, g1, g2, g3, g4, g5, g6, g7, fun j c x f e1 e2 e3 => by
      have := g8 j c x f e1 e2 e3
      exact ⟨this.1, ok.mono _ _ _ _ hle this.2⟩⟩⟩

/-- A list that grows in a row of our own. -/
def GA (w0 : World) (ety n : Nat) (Rel : (Addr → Option Value) → List Value → α → Prop) (σ : Vw) (F : List Nat) (v : Value) (xs : List α) : Prop :=
  OAcc w0 ety n (OB Rel (Av.get w0 σ)) σ F v xs

variable {ety n : Nat} {Rel : (Addr → Option Value) → List Value → α → Prop}
theorem GA.dom (ok : ROk n Rel) {F : List Nat} {v : Value} {xs : List α} (h : GA w0 ety n Rel σ F v xs) : ∀ b, b ∈ F → w0.heap.size ≤ b ∧ σ b ≠ none := OAcc.dom (ok_base ok w0 _) h
theorem GA.frame (ok : ROk n Rel) {F : List Nat} {v : Value} {xs : List α} (h : GA w0 ety n Rel σ F v xs) (hF : ∀ b, b ∈ F → σ' b = σ b) (hx : Ext σ σ') : GA w0 ety n Rel σ' F v xs :=
  OAcc.rebase ok (OAcc.frame (ok_base ok w0 _) h hF) hx.le
theorem GA.keep (ok : ROk n Rel) {F : List Nat} {v : Value} {xs : List α} (h : GA w0 ety n Rel σ F v xs) (k : Keeps σ σ') : GA w0 ety n Rel σ' F v xs := h.frame ok (k.but_at fun b hb => (h.dom ok b hb).2) k.ext
theorem GA.rsl (ok : ROk n Rel) {F : List Nat} {v : Value} {xs : List α} (h : GA w0 ety n Rel σ F v xs) : RSl n Rel (Av.get w0 σ) v xs :=
  (OSl.rel (ok_base ok w0 _) (OAcc.osl h)).unbase ok (Le.refl _)
theorem GA.nil : GA w0 ety n Rel σ [] (.slice none 0 0) [] := OAcc.nil
theorem GA.push (ok : ROk n Rel) {bytes : Nat} {F : List Nat} {v : Value} {xs : List α} {y : α} {es : List Value} (h : GA w0 ety n Rel σ F v xs) (hy : Rel (Av.get w0 σ) es y) (hl : xs.length ≤ 100000000000) (hb : bytes ≤ 140) {K : Value → Vw → Prop}
    (hK : ∀ v' F' σ', Ext σ σ' → KeepsBut F σ σ' → GA w0 ety n Rel σ' F' v' (xs ++ [y]) → (∀ i, i ∈ F' → i ∈ F ∨ σ i = none) → K v' σ') : allOne es ∧ pAppend w0 ety n bytes v 1 es σ K :=
  OAcc.oneX (ok_base ok w0 _) (f := []) h ⟨rfl, hy⟩ (fun i hi => by cases hi) (by omega) hb fun v' F' σ' x k o f => hK v' F' σ' x k (OAcc.rebase ok o x.le) fun i hi => by
    rcases f i hi with e | e | e
    · exact .inl e
    · cases e
    · exact .inr e
theorem GA.cell {F : List Nat} {v : Value} {xs : List α} (h : GA w0 ety n Rel σ F v xs) : v.oneCell' = true := by
  obtain ⟨_, _, ⟨rfl, _⟩ | ⟨_, _, _, _, rfl, _⟩⟩ := h <;> rfl
/-- Two rows of our own, none of both. -/
def Apart (F G : List Nat) : Prop := ∀ i, i ∈ F → i ∉ G
theorem Apart.symm {F G : List Nat} (h : Apart F G) : Apart G F := fun i hi hi' => h i hi' hi
theorem Apart.grow {F F' G : List Nat} (h : Apart F G) (hG : ∀ b, b ∈ G → σ b ≠ none) (hF : ∀ i, i ∈ F' → i ∈ F ∨ σ i = none) : Apart F' G := fun i hi hi' => by
  rcases hF i hi with e | e
  · exact h i e hi'
  · exact hG i hi' e
theorem GA.other (ok : ROk n Rel) {F G : List Nat} {v : Value} {xs : List α} (h : GA w0 ety n Rel σ G v xs) (hd : Apart F G) (x : Ext σ σ') (k : KeepsBut F σ σ') : GA w0 ety n Rel σ' G v xs :=
  h.frame ok (k.at (fun b hb => (h.dom ok b hb).2) fun b hb hb' => hd b hb' hb) x
end
end Go.Av
namespace Go.Proofs.YtkbhjejalkbogaaGreat
open Go Go.Av
theorem rok_s : ROk 1 RS := ⟨fun _ _ _ _ _ h => h, fun _ _ _ h => by rw [h.1]; rfl, fun _ _ _ h c hc => by rw [h.1] at hc; rw [List.mem_singleton.1 hc]; rfl⟩
theorem rok_rt : ∀ n, ROk 5 (RT n)
  | 0 => ⟨fun _ _ _ _ _ h => h.elim, fun _ _ _ h => h.elim, fun _ _ _ h => h.elim⟩
  | n + 1 => by
    refine ⟨fun rd rd' es x hl h => mono_rt _ _ _ _ _ hl h, fun rd es x h => ?_, fun rd es x h c hc => ?_⟩
    · obtain ⟨d, m, t, ns, ks⟩ := x
      obtain ⟨u, w, rfl, _⟩ := h; rfl
    · obtain ⟨d, m, t, ns, ks⟩ := x
      obtain ⟨u, w, rfl, _, _, hu, hw⟩ := h
      simp at hc
      rcases hc with rfl | rfl | rfl | rfl | rfl
      · rfl
      · rfl
      · rfl
      · exact hu.one
      · exact hw.one
end Go.Proofs.YtkbhjejalkbogaaGreat

/- A tree in which something else is set at a path, by the reference's hand: that it is one, and not too large. -/
set_option linter.unusedVariables false
set_option linter.unusedSimpArgs false
namespace Go.Proofs.YtkbhjejalkbogaaGreat
open Go Go.Av

theorem sz_more {n m : Nat} {x : Tr} (h : IsT n x) (hm : n ≤ m) : szT m x = szT n x := by
  obtain ⟨k, rfl⟩ := Nat.exists_eq_add_of_le hm
  clear hm
  induction k with
  | zero => rfl
  | succ k ih =>
    obtain ⟨rd, es, h1⟩ := h
    rw [← ih]
    exact sz_up ⟨rd, es, RT_le (Nat.le_add_right n k) h1⟩
theorem wf_more {n m : Nat} {rd : Addr → Option Value} {es : List Value} {x : Tr} (h : RT n rd es x) (hw : wfT n x) (hm : n ≤ m) : wfT m x := by
  obtain ⟨k, rfl⟩ := Nat.exists_eq_add_of_le hm
  clear hm
  induction k with
  | zero => exact hw
  | succ k ih => exact wf_RT_up (RT_le (Nat.le_add_right n k) h) ih
theorem RT.isT {n : Nat} {rd : Addr → Option Value} {es : List Value} {x : Tr} (h : RT n rd es x) : IsT n x := ⟨rd, es, h⟩
theorem RT.shape {n : Nat} {rd : Addr → Option Value} {es : List Value} {x : Tr} (h : RT n rd es x) : ∃ a b c d e, es = [a, b, c, d, e] ∧ (∀ A : Prop, pVal true 5 (.agg ⟨[a, b, c, d, e]⟩) A ↔ A) := by
  obtain ⟨u, w, rfl, _, _, _, _, h⟩ := h.cells
  exact ⟨_, _, _, _, _, rfl, h⟩

def nmW (l : List ByteArray) : Nat := l.length + sumS l
def kdW (n : Nat) (l : List Tr) : Nat := l.length + sumBy (szT n) l
theorem nmW_snoc {l : List ByteArray} {x : ByteArray} : nmW (l ++ [x]) = nmW l + (1 + x.size) := by
  have : ∀ l : List ByteArray, sumS (l ++ [x]) = sumS l + x.size := fun l => by
    induction l with
    | nil => simp [sumS]
    | cons a r ih => simp only [List.cons_append, sumS, ih]; omega
  simp only [nmW, List.length_append, List.length_singleton, this]; omega
theorem kdW_snoc {n : Nat} {l : List Tr} {x : Tr} : kdW n (l ++ [x]) = kdW n l + (1 + szT n x) := by
  have : ∀ l : List Tr, sumBy (szT n) (l ++ [x]) = sumBy (szT n) l + szT n x := fun l => by
    induction l with
    | nil => simp [sumBy]
    | cons a r ih => simp only [List.cons_append, sumBy, ih]; omega
  simp only [kdW, List.length_append, List.length_singleton, this]; omega
theorem nmW_take {l : List ByteArray} {j : Nat} {x : ByteArray} (h : l[j]? = some x) : nmW (l.take (j + 1)) = nmW (l.take j) + (1 + x.size) := by
  rw [List.take_add_one, h]; exact nmW_snoc
theorem kd_mul {n C : Nat} : ∀ {l : List Tr}, sumBy (fun k => (szT n k + 1) * C) l = kdW n l * C
  | [] => by simp [kdW, sumBy]
  | a :: r => by
    have := kd_mul (n := n) (C := C) (l := r)
    simp only [sumBy, this, kdW, List.length_cons]
    rw [← Nat.add_mul]
    congr 1; omega

section
variable {w0 : World} {σ : Vw}

/-- How far a tree has come that is put together part by part. -/
def SetS (w0 : World) (σ : Vw) (N T : Nat) (s : Vw) (u w : Value) : Prop := ∃ F1 F2 ys zs, Keeps σ s ∧ GA w0 t_string 1 RS s F1 u ys ∧ GA w0 t_impl_Tree 5 (RT N) s F2 w zs ∧ Apart F1 F2 ∧ (∀ b, b ∈ F1 → σ b = none) ∧ (∀ b, b ∈ F2 → σ b = none) ∧ ys.length = zs.length ∧ (∀ z, z ∈ zs → wfT N z) ∧ nmW ys + kdW N zs ≤ T
theorem SetS.le {N T T' : Nat} {s : Vw} {u w : Value} (h : SetS w0 σ N T s u w) (hT : T ≤ T') : SetS w0 σ N T' s u w := by
  obtain ⟨F1, F2, ys, zs, h1, h2, h3, h4, h5, h6, h7, h8, h9⟩ := h
  exact ⟨F1, F2, ys, zs, h1, h2, h3, h4, h5, h6, h7, h8, by omega⟩
theorem SetS.keep {N T : Nat} {s s' : Vw} {u w : Value} (h : SetS w0 σ N T s u w) (k : Keeps s s') : SetS w0 σ N T s' u w := by
  obtain ⟨F1, F2, ys, zs, h1, h2, h3, h4, h5, h6, h7, h8, h9⟩ := h
  exact ⟨F1, F2, ys, zs, h1.trans k, h2.keep rok_s k, h3.keep (rok_rt N) k, h4, h5, h6, h7, h8, h9⟩
theorem SetS.nil {N : Nat} : SetS w0 σ N 0 σ (.slice none 0 0) (.slice none 0 0) :=
  ⟨[], [], [], [], Keeps.refl _, GA.nil, GA.nil, fun i h => by (cases h), fun i h => by (cases h), fun i h => by (cases h), rfl, fun z h => by (cases h), by simp [nmW, kdW, sumS, sumBy]⟩
theorem SetS.keeps {N T : Nat} {s : Vw} {u w : Value} (h : SetS w0 σ N T s u w) : Keeps σ s := by obtain ⟨F1, F2, ys, zs, h1, _⟩ := h; exact h1
/-- A name and a part are added. -/
theorem SetS.add {N T : Nat} {s : Vw} {u w : Value} {nm : ByteArray} {es : List Value} {y : Tr} (h : SetS w0 σ N T s u w) (hn : nm.size ≤ 9223372036854775807) (hy : RT N (Av.get w0 s) es y) (hw : wfT N y) (hT : T ≤ 100000000000) {K : Value → Value → Vw → Prop}
    (hK : ∀ u' w' s', SetS w0 σ N (T + (1 + nm.size) + (1 + szT N y)) s' u' w' → K u' w' s') :
    pVal false 1 (.string nm) (allOne [.string nm] ∧ pAppend w0 t_string 1 16 u 1 [.string nm] s (fun u' s1 => pVal false 1 u' (pVal true 5 (.agg ⟨es⟩) (allOne es ∧ pAppend w0 t_impl_Tree 5 80 w 1 es s1 (fun w' s2 => pVal false 1 w' (K u' w' s2)))))) := by
  obtain ⟨F1, F2, ys, zs, h1, h2, h3, h4, h5, h6, h7, h8, h9⟩ := h
  obtain ⟨a, b, c, d, e, rfl, hp⟩ := hy.shape
  have l1 : ys.length ≤ 100000000000 := by simp only [nmW] at h9; omega
  rw [pVal1 rfl]
  refine h2.push rok_s ⟨rfl, hn⟩ l1 (by omega) fun u' F1' s1 x1 k1 g1 f1 => ?_
  rw [pVal1 g1.cell, hp]
  have h3' := h3.other (rok_rt N) h4 x1 k1
  refine h3'.push (rok_rt N) (mono_rt N _ _ _ _ x1.le hy) (by omega) (by omega) fun w' F2' s2 x2 k2 g2 f2 => ?_
  rw [pVal1 g2.cell]
  have a1 : Apart F1' F2 := h4.grow (fun b hb => (h3.dom (rok_rt N) b hb).2) f1
  have a2 : Apart F2' F1' := a1.symm.grow (fun b hb => (g1.dom rok_s b hb).2) f2
  have K1 := k1.old h1 h5
  have n1 : ∀ b, b ∈ F1' → σ b = none := fun b hb => by
    rcases f1 b hb with e | e
    · exact h5 b e
    · exact none_at h1 e
  have n2 : ∀ b, b ∈ F2' → σ b = none := fun b hb => by
    rcases f2 b hb with e | e
    · exact h6 b e
    · exact none_at K1 e
  refine hK _ _ _ ⟨F1', F2', ys ++ [nm], zs ++ [y], k2.old K1 h6, g1.other rok_s a1.symm x2 k2, g2, a2.symm, n1, n2, by simp [h7], fun z hz => ?_, ?_⟩
  · rcases List.mem_append.1 hz with e | e
    · exact h8 z e
    · rw [List.mem_singleton.1 e]; exact hw
  · rw [nmW_snoc, kdW_snoc]; omega
/-- What is put together is a tree. -/
theorem SetS.tree {N T : Nat} {s : Vw} {u w : Value} (h : SetS w0 σ N T s u w) {d : Bool} {m : Int} {t : ByteArray} (hm : -9223372036854775808 ≤ m ∧ m ≤ 9223372036854775807) (ht : t.size ≤ 9223372036854775807) :
    ∃ y, RT (N + 1) (Av.get w0 s) [.bool d, .int .i64 m, .string t, u, w] y ∧ wfT (N + 1) y ∧ szT (N + 1) y ≤ t.size + T := by
  obtain ⟨F1, F2, ys, zs, h1, h2, h3, h4, h5, h6, h7, h8, h9⟩ := h
  refine ⟨.mk d m t ys zs, ⟨u, w, rfl, hm, ht, h2.rsl rok_s, h3.rsl (rok_rt N)⟩, ⟨h7, h8⟩, ?_⟩
  show t.size + (ys.length + sumS ys) + (zs.length + sumBy (szT N) zs) ≤ _
  simp only [nmW, kdW] at h9; omega

set_option maxHeartbeats 4000000 in
theorem spec_l2Set {k : Nat} {P : Nat} {gone : Bool} {z : Tr} : ∀ (n : Nat) {σ : Vw} {es ez : List Value} {u : Value} {x : Tr} {ps : List ByteArray}, RT n (Av.get w0 σ) es x → wfT n x → RSl 1 RS (Av.get w0 σ) u ps → ps ≠ [] → RT k (Av.get w0 σ) ez z → wfT k z → (∀ s, s ∈ ps → s.size ≤ P) → (szT n x + 1) * (P + szT k z + 4) ≤ 100000000000 →
    ∀ {R : Value → Vw → Prop}, (∀ es' y σ', Keeps σ σ' → RT (n + k) (Av.get w0 σ') es' y → wfT (n + k) y → szT (n + k) y + 1 ≤ (szT n x + 1) * (P + szT k z + 4) → R (.agg ⟨es'⟩) σ') → AC Tryz.prog w0 n_spec_l2Set [.agg ⟨es⟩, u, .agg ⟨ez⟩, .bool gone] σ R
  | 0, _, _, _, _, _, _, h, _, _, _, _, _, _, _, _, _ => h.elim
  | n + 1, σ, es, ez, u, .mk d md t ns ks, ps, h, hw, hu, hne, hz, hwz, hP, hbig, R, hR => by
    obtain ⟨un, wk, rfl, hmd, ht, hun, hwk⟩ := h
    obtain ⟨z0, z1, z2, z3, z4, rfl, hpz⟩ := hz.shape
    refine ac_spec_l2Set ?_
    unfold vc_spec_l2Set cs_spec_l2Set_4 cs_spec_l2Set_3 cs_spec_l2Set_5 cs_spec_l2Set_2 cs_spec_l2Set_1
    rw [pVal_5 rfl rfl rfl hun.one hwk.one, hpz]
    simp only [cellOf_agg, List.getD_cons_zero, List.getD_cons_succ]
    rw [pVal1 rfl, pVal1 rfl, pVal1 rfl, pVal_5 rfl rfl rfl rfl rfl]
    obtain ⟨p0, hp0⟩ : ∃ p0, ps[0]? = some p0 := ⟨_, List.getElem?_eq_getElem (List.length_pos_iff.2 hne)⟩
    have hp0s := hP p0 (List.mem_of_getElem? hp0)
    have hwl := hw.1
    have hl1 := hun.le
    have hl2 := hu.le
    have hszk : szT (n + k) z = szT k z := sz_more hz.isT (by omega)
    have hszx : szT (n + 1) (.mk d md t ns ks) = t.size + nmW ns + kdW n ks := rfl
    rw [hszx] at hbig hR
    generalize hC : P + szT k z + 4 = C at *
    have hmul : (t.size + nmW ns + kdW n ks + 1) * C = t.size * C + nmW ns * C + kdW n ks * C + C := by rw [Nat.add_mul, Nat.add_mul, Nat.add_mul, Nat.one_mul]
    have hC4 : 4 ≤ C := by omega
    have hm1 : t.size ≤ t.size * C := Nat.le_mul_of_pos_right _ (by omega)
    have hm2 : nmW ns ≤ nmW ns * C := Nat.le_mul_of_pos_right _ (by omega)
    -- what stands so far, by the number of rounds
    have bnd : ∀ (i : Nat), nmW (ns.take i) + sumBy (fun k => (szT n k + 1) * C) (ks.take i) ≤ nmW ns + kdW n ks * C := fun i => by
      have h1 := sumBy_le (f := fun k => (szT n k + 1) * C) (xs := ks) i
      rw [kd_mul (l := ks)] at h1
      have h2 : nmW (ns.take i) ≤ nmW ns := by
        have := sumBy_le (f := ByteArray.size) (xs := ns) i
        rw [← sumS_eq, ← sumS_eq] at this
        simp only [nmW, List.length_take]; omega
      omega
    refine loop_rule (m := ns.length) (fun c l s => ∃ (i : Nat) (done : Bool) (v22 v23 : Value), c + i = ns.length ∧ SetS w0 σ (n + k) (nmW (ns.take i) + sumBy (fun k => (szT n k + 1) * C) (ks.take i) + (if done = true then C - 2 else 0)) s v22 v23 ∧
        l = [u, .bool gone, .bool done, .int .i64 (i : Nat), .bool d, .int .i64 md, .string t, un, wk, z0, z1, z2, z3, z4, .bool false, .int .i64 0, .string ⟨#[]⟩, .slice none 0 0, .slice none 0 0, .bool d, .int .i64 md, .string t, v22, v23]) ?_
      ⟨0, false, _, _, by omega, (SetS.nil (w0 := w0) (σ := σ)).le (by omega), rfl⟩
    rintro c l s L ⟨i, done, v22, v23, hc, hS, rfl⟩ hL
    simp only [vget, List.getD_cons_zero, List.getD_cons_succ]
    have ks0 := hS.keeps
    have hns := hun.mono ks0.le fun _ _ h => h
    have hus := hu.mono ks0.le fun _ _ h => h
    rw [hns.len, pBin_lt, pIf_d]
    have fin : ∀ (s : Vw) (v22 v23 : Value) (T : Nat), SetS w0 σ (n + k) T s v22 v23 → T ≤ nmW ns + kdW n ks * C + (C - 2) → pVal true 5 (.agg (⟨[.bool d, .int .i64 md, .string t, v22, v23]⟩)) (R (.agg (⟨[.bool d, .int .i64 md, .string t, v22, v23]⟩)) s) := fun s v22 v23 T hS hT => by
      obtain ⟨y, hy, hwy, hsz⟩ := hS.tree (d := d) hmd ht
      obtain ⟨_, _, _, _, _, _, _, hp5⟩ := hy.five
      rw [hp5]
      refine hR _ y s hS.keeps ?_ ?_ ?_
      · rw [Nat.add_right_comm]; exact hy
      · rw [Nat.add_right_comm]; exact hwy
      · rw [Nat.add_right_comm]; omega
    refine ⟨fun hi => ?_, fun hi => ?_⟩
    · have hx := List.getElem?_eq_getElem (show i < ns.length by omega)
      have hy := List.getElem?_eq_getElem (show i < ks.length by omega)
      generalize ns[i]'(by omega) = nm at hx
      generalize ks[i]'(by omega) = kid at hy
      have hb1 := bnd i
      have hb2 := bnd (i + 1)
      have t1 := nmW_take hx
      have t2 := sumBy_take (f := fun k => (szT n k + 1) * C) hy
      have hkid1 : szT n kid + 1 ≤ (szT n kid + 1) * C := Nat.le_mul_of_pos_right _ (by omega)
      refine RSl.at1 hns hx fun g6 hg6 hnm => ?_
      rw [hg6]
      have KID : (nm = p0 → 2 ≤ ps.length) → ∀ (done : Bool) (s : Vw) (v22 v23 : Value), SetS w0 σ (n + k) (nmW (ns.take i) + sumBy (fun k => (szT n k + 1) * C) (ks.take i) + (if done = true then C - 2 else 0)) s v22 v23 →
          pIndexAddr 5 wk (.int .i64 (i : Nat)) (fun v212 => pLoad w0 5 v212 s (fun g213 => pVal true 5 (.agg (⟨[g213 0, g213 1, g213 2, g213 3, g213 4]⟩)) (pIndexAddr 1 u (.int .i64 0) (fun v214 => pLoad w0 1 v214 s (fun g215 => pBin Tryz.prog 9 .eql (.string nm) (g215 0) (fun v216 => pIf v216
            (pSlice 1 u (some (.int .i64 1)) none (fun v217 => AC Tryz.prog w0 n_spec_l2Set ([.agg (⟨[g213 0, g213 1, g213 2, g213 3, g213 4]⟩), v217, .agg (⟨[z0, z1, z2, z3, z4]⟩), .bool gone]) s (fun v218 s219 => pVal true 5 v218 (pVal false 1 (.string nm) (allOne [.string nm] ∧ pAppend w0 t_string 1 16 v22 1 [.string nm] s219 (fun v220 s221 => pVal false 1 v220 (pVal true 5 (.agg (⟨[cellOf v218 0, cellOf v218 1, cellOf v218 2, cellOf v218 3, cellOf v218 4]⟩)) (allOne [cellOf v218 0, cellOf v218 1, cellOf v218 2, cellOf v218 3, cellOf v218 4] ∧ pAppend w0 t_impl_Tree 5 80 v23 1 [cellOf v218 0, cellOf v218 1, cellOf v218 2, cellOf v218 3, cellOf v218 4] s221 (fun v222 s223 => pVal false 1 v222 (pBin Tryz.prog 3 .add (.int .i64 (i : Nat)) (.int .i64 1) (fun v224 => L [u, .bool gone, .bool done, v224, .bool d, .int .i64 md, .string t, un, wk, z0, z1, z2, z3, z4, .bool false, .int .i64 0, .string ⟨#[]⟩, .slice none 0 0, .slice none 0 0, .bool d, .int .i64 md, .string t, v220, v222] s223)))))))))))
            (pVal false 1 (.string nm) (allOne [.string nm] ∧ pAppend w0 t_string 1 16 v22 1 [.string nm] s (fun v225 s226 => pVal false 1 v225 (pVal true 5 (.agg (⟨[g213 0, g213 1, g213 2, g213 3, g213 4]⟩)) (allOne [g213 0, g213 1, g213 2, g213 3, g213 4] ∧ pAppend w0 t_impl_Tree 5 80 v23 1 [g213 0, g213 1, g213 2, g213 3, g213 4] s226 (fun v227 s228 => pVal false 1 v227 (pBin Tryz.prog 3 .add (.int .i64 (i : Nat)) (.int .i64 1) (fun v229 => L [u, .bool gone, .bool done, v229, .bool d, .int .i64 md, .string t, un, wk, z0, z1, z2, z3, z4, .bool false, .int .i64 0, .string ⟨#[]⟩, .slice none 0 0, .slice none 0 0, .bool d, .int .i64 md, .string t, v225, v227] s228)))))))))))))) := fun hq done s v22 v23 hS => by
        have ks0 := hS.keeps
        have hus := hu.mono ks0.le fun _ _ h => h
        have hks := hwk.mono ks0.le fun es x => mono_rt n _ _ es x ks0.le
        have hT : nmW (ns.take i) + sumBy (fun k => (szT n k + 1) * C) (ks.take i) + (if done = true then C - 2 else 0) ≤ 100000000000 := by split <;> omega
        have hmem := List.mem_of_getElem? hy
        refine hks.at hy fun g hg => ?_
        simp only [expl] at hg
        obtain ⟨_, _, _, _, _, _, _, hp5⟩ := hg.five
        rw [hp5]
        refine RSl.at1 hus hp0 fun g0 hg0 _ => ?_
        rw [hg0, pBin_seq, pIf_d]
        refine ⟨fun e => ?_, fun e => ?_⟩
        · have hlen := hq e
          refine RSl.slice (n := 1) hus (l := 1) (u := ps.length) rfl rfl (by omega) (Nat.le_refl _) fun v' hv' => ?_
          rw [List.take_length] at hv'
          refine spec_l2Set (P := P) n hg (hw.2 kid hmem) hv' (fun e0 => by have := congrArg List.length e0; simp at this; omega) (mono_rt k _ _ _ _ ks0.le hz) hwz (fun s hs => hP s (List.mem_of_mem_drop hs)) (by rw [hC]; omega) fun es' y s' k' hy' hwy hsz => ?_
          rw [hC] at hsz
          obtain ⟨a, b, c', d', e', rfl, hpy⟩ := hy'.shape
          rw [hpy]
          simp only [cellOf_agg, List.getD_cons_zero, List.getD_cons_succ]
          refine (hS.keep k').add hnm hy' hwy hT fun u' w' s' h' => ?_
          rw [pBin_add (by omega)]
          refine hL _ _ (c - 1) (by omega) ⟨i + 1, done, u', w', by omega, h'.le ?_, rfl⟩
          rw [t1, t2]; omega
        · refine hS.add hnm (RT_le (Nat.le_add_right n k) hg) (wf_more hg (hw.2 kid hmem) (Nat.le_add_right n k)) hT fun u' w' s' h' => ?_
          rw [pBin_add (by omega)]
          refine hL _ _ (c - 1) (by omega) ⟨i + 1, done, u', w', by omega, h'.le ?_, rfl⟩
          rw [t1, t2, sz_more hg.isT (Nat.le_add_right n k)]
          omega
      have D2 : ∀ (KP : Prop) (done : Bool) (s : Vw) (v22 v23 : Value), SetS w0 σ (n + k) (nmW (ns.take i) + sumBy (fun k => (szT n k + 1) * C) (ks.take i) + (if done = true then C - 2 else 0)) s v22 v23 → ((nm = p0 → 2 ≤ ps.length) → KP) →
          pIndexAddr 1 u (.int .i64 0) (fun v62 => pLoad w0 1 v62 s (fun g63 => pBin Tryz.prog 9 .eql (.string nm) (g63 0) (fun v64 => pIf v64 (pLen u (fun v65 => pBin Tryz.prog 3 .eql v65 (.int .i64 1) (fun v66 => pIf v66 (pBin Tryz.prog 3 .add (.int .i64 (i : Nat)) (.int .i64 1) (fun v67 => L [u, .bool gone, .bool done, v67, .bool d, .int .i64 md, .string t, un, wk, z0, z1, z2, z3, z4, .bool false, .int .i64 0, .string ⟨#[]⟩, .slice none 0 0, .slice none 0 0, .bool d, .int .i64 md, .string t, v22, v23] s)) KP))) KP))) := fun KP done s v22 v23 hS hKP => by
        have ks0 := hS.keeps
        have hus := hu.mono ks0.le fun _ _ h => h
        refine RSl.at1 hus hp0 fun g0 hg0 _ => ?_
        rw [hg0, pBin_seq, pIf_d]
        refine ⟨fun e => ?_, fun e => hKP fun e' => absurd e' e⟩
        rw [hus.len, pBin_eq, pIf_d]
        refine ⟨fun e1 => ?_, fun e1 => hKP fun _ => by have := List.length_pos_iff.2 hne; omega⟩
        rw [pBin_add (by omega)]
        refine hL _ _ (c - 1) (by omega) ⟨i + 1, done, v22, v23, by omega, hS.le ?_, rfl⟩
        rw [t1, t2]; omega
      rw [hus.len, pBin_eq, pIf_d]
      refine ⟨fun hl => ?_, fun hl => D2 _ done s v22 v23 hS fun hq => KID hq done s v22 v23 hS⟩
      rw [pUn_not, pIf_b]
      refine ⟨fun hd => ?_, fun hd => D2 _ done s v22 v23 hS fun hq => KID hq done s v22 v23 hS⟩
      rw [pUn_not, pIf_b]
      refine ⟨fun hg => ?_, fun hg => D2 _ done s v22 v23 hS fun hq => KID hq done s v22 v23 hS⟩
      refine RSl.at1 hus hp0 fun g0 hg0 _ => ?_
      rw [hg0, pBin_sge, pIf_b]
      refine ⟨fun hge => ?_, fun hge => D2 _ done s v22 v23 hS fun hq => KID hq done s v22 v23 hS⟩
      refine RSl.at1 hus hp0 fun g1 hg1 hps => ?_
      rw [hg1]
      have hd0 : done = false := by simpa using hd
      subst hd0
      refine hS.add hps (RT_le (Nat.le_add_left k n) (mono_rt k _ _ _ _ ks0.le hz)) (wf_more hz hwz (Nat.le_add_left k n)) (by rw [if_neg (by simp)]; omega) fun u' w' s' h' => ?_
      have h'' := h'.le (T' := nmW (ns.take i) + sumBy (fun k => (szT n k + 1) * C) (ks.take i) + (if true = true then C - 2 else 0)) (by rw [if_neg (by simp), if_pos rfl]; omega)
      exact D2 _ true s' u' w' h'' fun hq => KID hq true s' u' w' h''
    · have e : i = ns.length := by omega
      subst e
      have hb := bnd ns.length
      show pLen u _
      rw [hus.len, pBin_eq, pIf_d]
      have last := fin s v22 v23 _ hS (by split <;> omega)
      refine ⟨fun hl => ?_, fun hl => last⟩
      show pUn .not (.bool done) _
      rw [pUn_not, pIf_b]
      refine ⟨fun hd => ?_, fun hd => last⟩
      show pUn .not (.bool gone) _
      rw [pUn_not, pIf_b]
      refine ⟨fun hg => ?_, fun hg => last⟩
      have hd0 : done = false := by simpa using hd
      subst hd0
      refine RSl.at1 hus hp0 fun g1 hg1 hps => ?_
      rw [hg1]
      refine hS.add hps (RT_le (Nat.le_add_left k n) (mono_rt k _ _ _ _ ks0.le hz)) (wf_more hz hwz (Nat.le_add_left k n)) (by rw [if_neg (by simp)]; omega) fun u' w' s' h' => ?_
      exact fin s' u' w' _ h' (by rw [if_neg (by simp)]; omega)
end
end Go.Proofs.YtkbhjejalkbogaaGreat

/- Texts as lists of bytes; what is cut at a byte; decimals. Plain. -/
set_option linter.unusedVariables false
set_option linter.unusedSimpArgs false
namespace Go.Av
open Go Go.RowKit

abbrev bl (s : ByteArray) : List UInt8 := s.data.toList
def ofL (l : List UInt8) : ByteArray := ⟨l.toArray⟩
theorem bl_ofL (l : List UInt8) : bl (ofL l) = l := rfl
theorem bl_inj {a b : ByteArray} (h : bl a = bl b) : a = b := by
  cases a; cases b
  simp only [ByteArray.mk.injEq]
  exact Array.toList_inj.1 h
theorem ofL_bl (s : ByteArray) : ofL (bl s) = s := bl_inj (bl_ofL _)
theorem size_bl (s : ByteArray) : (bl s).length = s.size := by
  show s.data.toList.length = s.data.size
  simp
theorem size_ofL (l : List UInt8) : (ofL l).size = l.length := by rw [← size_bl, bl_ofL]
theorem bl_append (a b : ByteArray) : bl (a ++ b) = bl a ++ bl b := by
  show (a ++ b).data.toList = _
  rw [ByteArray.data_append, Array.toList_append]
theorem ofL_append (a b : List UInt8) : ofL a ++ ofL b = ofL (a ++ b) := bl_inj (by rw [bl_append, bl_ofL, bl_ofL, bl_ofL])
theorem bl_byte (n : Nat) : bl (strOfNums [((n % 256 : Nat) : Int)]) = [UInt8.ofNat n] := by
  simp only [bl, strOfNums, List.map_cons, List.map_nil]
  congr 1
  apply UInt8.toNat_inj.1
  simp
  omega

/-! ### Decimals -/
def dig (n : Nat) : UInt8 := UInt8.ofNat (48 + n % 10)
def decL (k : Nat) : List UInt8 := if h : k < 10 then [dig k] else decL (k / 10) ++ [dig k]
termination_by k
decreasing_by omega
theorem decL_small {k : Nat} (h : k < 10) : decL k = [dig k] := by rw [decL, dif_pos h]
theorem decL_big {k : Nat} (h : ¬ k < 10) : decL k = decL (k / 10) ++ [dig k] := by rw [decL, dif_neg h]
theorem decL_len (k : Nat) : 1 ≤ (decL k).length ∧ (decL k).length ≤ k / 10 + 1 := by
  induction k using Nat.strongRecOn with
  | _ k ih =>
    by_cases h : k < 10
    · rw [decL_small h]; simp
    · rw [decL_big h]
      have := ih (k / 10) (by omega)
      simp only [List.length_append, List.length_singleton]
      omega
/-- A number's figures. -/
def decN (k : Nat) : ByteArray := ofL (decL k)
def minText : ByteArray := ⟨#[45, 57, 50, 50, 51, 51, 55, 50, 48, 51, 54, 56, 53, 52, 55, 55, 53, 56, 48, 56]⟩
def decZ (n : Int) : ByteArray := if n < 0 then ⟨#[45]⟩ ++ decN (-n).toNat else decN n.toNat
theorem decN_size (k : Nat) : 1 ≤ (decN k).size ∧ (decN k).size ≤ k / 10 + 1 := by
  rw [decN, size_ofL]; exact decL_len k
theorem decZ_nat (k : Nat) : decZ (k : Int) = decN k := by
  unfold decZ
  rw [if_neg (by omega), Int.toNat_natCast]
end Go.Av

/- Bytes written into a text, by the reference's hand: how many they are. -/
set_option linter.unusedVariables false
set_option linter.unusedSimpArgs false
namespace Go.Proofs.YtkbhjejalkbogaaGreat
open Go Go.Av

section
variable {w0 : World} {σ : Vw}

/-- Bytes in a row of our own, n of them in sight. -/
def BR (w0 : World) (σ0 σ : Vw) (v : Value) (n : Nat) : Prop := ∃ b c r, v = .slice (some ⟨b, 0, none⟩) n c ∧ n ≤ c ∧ w0.heap.size ≤ b ∧ σ b = some r ∧ σ0 b = none ∧ Keeps σ0 σ ∧ (∀ i, i < n → ∃ x : Int, r.cells[i]? = some (.int .u8 x)) ∧
  (r.cells.length = c ∨ (c ≤ 9223372036854775807 ∧ r.cells.length = n ∧ r.ety = t_uint8 ∧ r.cap = c ∧ r.fz = (0, 0)))

theorem setAt_get {l new : List Value} {o i : Nat} (h : o + new.length ≤ l.length) : (setAt l o new)[i]? = if i < o then l[i]? else if i < o + new.length then new[i - o]? else l[i]? := by
  have e : l = l.take o ++ ((l.drop o).take new.length ++ (l.drop o).drop new.length) := by rw [List.take_append_drop, List.take_append_drop]
  have ho : (l.take o).length = o := by rw [List.length_take]; omega
  have hn : ((l.drop o).take new.length).length = new.length := by rw [List.length_take, List.length_drop]; omega
  have hset : setAt l o new = l.take o ++ (new ++ (l.drop o).drop new.length) := by
    conv => lhs; rw [e]
    have := setAt_mid (l.take o) ((l.drop o).take new.length) new ((l.drop o).drop new.length) hn
    rw [ho] at this
    exact this
  rw [hset]
  split
  · rename_i h1
    rw [List.getElem?_append_left (by omega), List.getElem?_take_of_lt h1]
  · split
    · rw [List.getElem?_append_right (by omega), ho, List.getElem?_append_left (by omega)]
    · rw [List.getElem?_append_right (by omega), ho, List.getElem?_append_right (by omega), List.drop_drop, List.getElem?_drop]
      congr 1; omega
theorem setAt_len {l new : List Value} {o : Nat} (h : o + new.length ≤ l.length) : (setAt l o new).length = l.length := by
  have e : l = l.take o ++ ((l.drop o).take new.length ++ (l.drop o).drop new.length) := by rw [List.take_append_drop, List.take_append_drop]
  have ho : (l.take o).length = o := by rw [List.length_take]; omega
  have hn : ((l.drop o).take new.length).length = new.length := by rw [List.length_take, List.length_drop]; omega
  have hset : setAt l o new = l.take o ++ (new ++ (l.drop o).drop new.length) := by
    conv => lhs; rw [e]
    have := setAt_mid (l.take o) ((l.drop o).take new.length) new ((l.drop o).drop new.length) hn
    rw [ho] at this
    exact this
  rw [hset]
  simp only [List.length_append, ho, List.length_drop]; omega

theorem BR.start {s : ByteArray} (hs : s.size ≤ 1000000) {K : Value → Vw → Prop} (hK : ∀ v σ', BR w0 σ σ' v s.size → K v σ') : pBytes w0 t_uint8 (.string s) σ K := by
  refine ⟨s, rfl, fun b c h1 h2 h3 => hK _ _ ⟨b, c, _, rfl, h3, h1, put_at, h2, Keeps.put h2, fun i hi => ?_, .inl ?_⟩⟩
  · have hl : s.data.toList.length = s.size := Array.length_toList
    have hi' : i < s.data.toList.length := by omega
    refine ⟨(s.data.toList[i].toNat : Int), ?_⟩
    rw [List.getElem?_append_left (by rw [List.length_map]; exact hi'), List.getElem?_map, List.getElem?_eq_getElem hi']; rfl
  · have : s.data.toList.length = s.size := Array.length_toList
    simp only [List.length_append, List.length_map, this, List.length_replicate]; omega
theorem BR.push {s : Vw} {v : Value} {n : Nat} {x : Int} (h : BR w0 σ s v n) (hn : n ≤ 10000000) {K : Value → Vw → Prop} (hK : ∀ v' s', BR w0 σ s' v' (n + 1) → K v' s') : allOne [.int .u8 x] ∧ pAppend w0 t_uint8 1 1 v 1 [.int .u8 x] s K := by
  refine ⟨fun c hc => by rw [List.mem_singleton.1 hc]; rfl, ?_⟩
  obtain ⟨b, c, r, rfl, h1, h2, h3, h4, h5, h6, h7⟩ := h
  rcases h7 with h7 | ⟨h8, h9, h10, h11, h12⟩
  · by_cases hc : n < c
    · refine .inl ⟨b, 0, n, c, r, rfl, h3, by omega, rfl, fun u hu => by rw [List.mem_singleton.1 hu]; rfl, by simp; omega, hK _ _ ⟨b, c, _, rfl, by omega, h2, put_at, h4, h5.fill h4, fun i hi => ?_, .inl ?_⟩⟩
      · simp only
        rw [setAt_get (by simp; omega)]
        simp only [Nat.mul_one, Nat.zero_add, List.length_singleton]
        split
        · rename_i hlt; exact h6 i hlt
        · first | rw [if_pos (by omega), show i - n = 0 by omega] | rw [show i - n = 0 by omega]
          exact ⟨x, rfl⟩
      · simp only
        rw [setAt_len (by simp; omega)]; exact h7
    · have hcn : c = n := by omega
      subst hcn
      refine .inr (.inr ⟨b, c, r, rfl, h3, by omega, by omega, rfl, by omega, by omega, fun b' c' q1 q2 q3 q4 => hK _ _ ⟨b', c', _, rfl, q3, q1, put_at, none_at h5 q2, h5.trans (Keeps.put q2), fun i hi => ?_, .inr ⟨q4, by simp [h7], rfl, by simp, rfl⟩⟩⟩)
      simp only
      by_cases hi2 : i < c
      · rw [List.getElem?_append_left (by omega)]; exact h6 i hi2
      · rw [List.getElem?_append_right (by omega), h7, show i - c = 0 by omega]; exact ⟨x, rfl⟩
  · obtain ⟨ety, cells, cap, fz⟩ := r
    simp only at h9 h10 h11 h12 h6
    subst h10 h11 h12
    refine .inr (.inl ⟨n, cells, ⟨by omega, .inr ⟨b, cap, rfl, by rw [h3, Nat.mul_one], h1, h8⟩⟩, rfl, by omega, by omega, fun v' s' hg => ?_⟩)
    rcases hg with ⟨_, _, hv, _⟩ | ⟨b', c', rfl, g1, g2, rfl, g3, g4⟩
    · cases hv
    · refine hK _ _ ⟨b', c', _, rfl, g1, g3, put_at, ?_, ?_, fun i hi => ?_, .inr ⟨g2, by simp [h9], rfl, by simp, rfl⟩⟩
      · rcases g4 with e | ⟨_, _, e⟩
        · exact none_at h5 e
        · cases e; exact h4
      · rcases g4 with e | ⟨_, _, e⟩
        · exact h5.trans (Keeps.put e)
        · cases e; exact h5.fill h4
      · simp only
        by_cases hi2 : i < n
        · rw [List.getElem?_append_left (by omega)]; exact h6 i hi2
        · rw [List.getElem?_append_right (by omega), h9, show i - n = 0 by omega]; exact ⟨x, rfl⟩
theorem BR.set {s : Vw} {v : Value} {n j : Nat} {x : Int} (h : BR w0 σ s v n) (hj : j < n) {K : Vw → Prop} (hK : ∀ s', BR w0 σ s' v n → K s') : pIndexAddr 1 v (.int .i64 (j : Nat)) (fun p => pVal false 1 (.int .u8 x) (pStore p [.int .u8 x] s K)) := by
  obtain ⟨b, c, r, rfl, h1, h2, h3, h4, h5, h6, h7⟩ := h
  have hcl : n ≤ r.cells.length := by rcases h7 with h | h <;> omega
  refine ⟨⟨b, 0, none⟩, n, c, .i64, j, rfl, rfl, by omega, by omega, ?_⟩
  show pVal false 1 (.int .u8 x) (pStore _ _ _ _)
  rw [pVal1 rfl, addr_add]
  refine ⟨b, _, r, rfl, h3, by simp; omega, hK _ ⟨b, c, _, rfl, h1, h2, put_at, h4, h5.fill h4, fun i hi => ?_, ?_⟩⟩
  · simp only
    rw [setAt_get (by simp; omega)]
    simp only [Int.toNat_natCast, Nat.mul_one, Nat.zero_add, List.length_singleton]
    split
    · exact h6 i hi
    · split
      · rw [show i - j = 0 by omega]; exact ⟨x, rfl⟩
      · exact h6 i hi
  · simp only
    rw [setAt_len (by simp; omega)]
    exact h7
theorem BR.str {s : Vw} {v : Value} {n : Nat} (h : BR w0 σ s v n) {K : Value → Prop} (hK : ∀ t : ByteArray, t.size = n → K (.string t)) : pStr w0 v s K := by
  obtain ⟨b, c, r, rfl, h1, h2, h3, h4, h5, h6, h7⟩ := h
  obtain ⟨xs, e1, e2⟩ := listOf (fun i (x : Int) => r.cells[i]? = some (.int .u8 x)) n h6
  refine .inr ⟨b, 0, n, c, xs, rfl, e1, fun j hj => ?_, hK _ (by rw [size_strOfNums, e1])⟩
  rw [Nat.zero_add, get_row h2 h3]
  have := e2 j _ (List.getElem?_eq_getElem (show j < xs.length by omega))
  rw [this, List.getD_eq_getElem?_getD, List.getElem?_eq_getElem (by omega)]; rfl

theorem spec_l2Write {s d : ByteArray} {a : Nat} (hs : s.size ≤ 1000000) (hd : d.size ≤ 1000000) (ha : a ≤ 1000000) {R : Value → Vw → Prop} (hR : ∀ t σ', Keeps σ σ' → t.size ≤ s.size + a + d.size → R (.string t) σ') : AC Tryz.prog w0 n_spec_l2Write [.string s, .int .i64 (a : Nat), .string d] σ R := by
  refine ac_spec_l2Write ?_
  unfold vc_spec_l2Write
  refine BR.start hs fun v0 s1 h0 => ?_
  refine loop_rule (m := a + d.size) (fun m l st => ∃ (n : Nat) (v : Value), a + d.size ≤ m + n ∧ n ≤ s.size + a + d.size ∧ BR w0 σ st v n ∧ l = [.int .i64 (a : Nat), .string d, v]) ?_ ⟨s.size, v0, by omega, by omega, h0, rfl⟩
  rintro m l st L ⟨n, v, hm, hn, hb, rfl⟩ hL
  simp only [vget, List.getD_cons_zero, List.getD_cons_succ]
  have hlen : ∀ {K : Value → Prop}, pLen v K ↔ K (.int .i64 (n : Nat)) := by
    obtain ⟨b, c, r, rfl, _⟩ := hb
    exact pLen_s
  rw [hlen, pLenS_s, pBin_add (by omega), pBin_lt, pIf_d]
  refine ⟨fun hlt => ?_, fun hge => ?_⟩
  · rw [pVal1 rfl]
    exact hb.push (by omega) fun v' s' h' => hL _ _ (m - 1) (by omega) ⟨n + 1, v', by omega, by omega, h', rfl⟩
  · show pLoop _ _ _ _
    refine loop_rule (m := d.size) (fun m l st => ∃ j : Nat, m + j = d.size ∧ BR w0 σ st v n ∧ l = [.int .i64 (a : Nat), .string d, v, .int .i64 (j : Nat)]) ?_ ⟨0, by omega, hb, rfl⟩
    rintro m' l st' L' ⟨j, hm', hb', rfl⟩ hL'
    simp only [vget, List.getD_cons_zero, List.getD_cons_succ]
    rw [pLenS_s, pBin_lt, pIf_d]
    refine ⟨fun hlt => ?_, fun hge2 => ?_⟩
    · rw [pBin_add (by omega)]
      refine pIndexStr_s (by omega) ?_
      rw [show ((a : Nat) : Int) + ((j : Nat) : Int) = ((a + j : Nat) : Int) by omega]
      refine hb'.set (by omega) fun s' h' => ?_
      rw [pBin_add (by omega)]
      exact hL' _ _ (m' - 1) (by omega) ⟨j + 1, by omega, h', rfl⟩
    · show pStr w0 v st' _
      refine hb'.str fun t ht => hR t st' ?_ (by omega)
      obtain ⟨_, _, _, _, _, _, _, _, h5, _⟩ := hb'
      exact h5
end
end Go.Proofs.YtkbhjejalkbogaaGreat

/- Marks of marks. -/
set_option linter.unusedVariables false
set_option linter.unusedSimpArgs false
namespace Go.Proofs.YtkbhjejalkbogaaGreat
open Go Go.Av

section
variable {w0 : World} {σ : Vw}

/-! ### Marks of marks -/
end
end Go.Proofs.YtkbhjejalkbogaaGreat

/- Calls; marks of marks; the trail of a call by either hand; the law 'TrailOf'. -/
set_option linter.unusedVariables false
set_option linter.unusedSimpArgs false
namespace Go.Proofs.YtkbhjejalkbogaaGreat
open Go Go.Av

/-- A call: its kind, its path, where to, a number, bytes. -/
abbrev Cl := Int × List ByteArray × List ByteArray × Int × ByteArray
abbrev i64r (n : Int) : Prop := -9223372036854775808 ≤ n ∧ n ≤ 9223372036854775807
def RCl (rd : Addr → Option Value) (es : List Value) (c : Cl) : Prop := ∃ u w, es = [.int .i64 c.1, u, w, .int .i64 c.2.2.2.1, .string c.2.2.2.2] ∧ RSl 1 RS rd u c.2.1 ∧ RSl 1 RS rd w c.2.2.1 ∧ i64r c.1 ∧ i64r c.2.2.2.1 ∧ c.2.2.2.2.size ≤ 9223372036854775807
noncomputable def pathB (xs : List ByteArray) : Bool := allNames xs && inB xs.length 1 4
noncomputable def callOk (c : Cl) : Bool :=
  inB c.1 1 6 && (pathB c.2.1 && (if c.1 = 1 ∨ c.1 = 6 then inB c.2.2.2.1 0 7 else if c.1 = 2 ∨ c.1 = 3 then inB c.2.2.2.1 0 24 else if c.1 = 5 then pathB c.2.2.1 else true))
noncomputable def ofT (n : Nat) (x : Tr) (c : Cl) : List Mk :=
  if treeOk n x = false then [] else if callOk c = false then []
  else if c.1 = 5 then [(c.2.1, isDir ((atT x c.2.1).getD zeroT)), (c.2.2.1, isDir ((atT x c.2.1).getD zeroT))] else [(c.2.1, false)]

section
variable {w0 : World} {σ : Vw}

theorem mono_cl {rd rd' : Addr → Option Value} {es : List Value} {x : Cl} (hl : Le rd rd') (h : RCl rd es x) : RCl rd' es x := by
  obtain ⟨u, w, h1, h2, h3, h4⟩ := h; exact ⟨u, w, h1, h2.mono hl fun _ _ h => h, h3.mono hl fun _ _ h => h, h4⟩
theorem RCl.five {rd : Addr → Option Value} {es : List Value} {x : Cl} (h : RCl rd es x) {A : Prop} : pVal true 5 (.agg ⟨es⟩) A ↔ A := by
  obtain ⟨u, w, rfl, h2, h3, _⟩ := h; exact pVal_5 rfl h2.one h3.one rfl rfl
theorem RCl.shape {rd : Addr → Option Value} {es : List Value} {x : Cl} (h : RCl rd es x) : ∃ a b c d e, es = [a, b, c, d, e] := by obtain ⟨u, w, h1, _⟩ := h; exact ⟨_, _, _, _, _, h1⟩

theorem callOk_no {k a : Int} {p t : List ByteArray} {d : ByteArray} (h : ¬ (1 ≤ k ∧ k ≤ 6)) : callOk (k, p, t, a, d) = false := by
  have : inB k 1 6 = false := by simp only [inB]; simpa using h
  simp [callOk, this]
theorem callOk_path {k a : Int} {p t : List ByteArray} {d : ByteArray} (h : pathB p = false) : callOk (k, p, t, a, d) = false := by simp [callOk, h]

theorem inB_yes {k lo hi : Int} (h : lo ≤ k ∧ k ≤ hi) : inB k lo hi = true := by simp [inB, h]

set_option maxRecDepth 20000 in
set_option maxHeartbeats 4000000 in
theorem spec_l2CallOk {es : List Value} {c : Cl} (h : RCl (Av.get w0 σ) es c) {R : Value → Vw → Prop} (hR : R (.bool (callOk c)) σ) : AC Tryz.prog w0 n_spec_l2CallOk [.agg ⟨es⟩] σ R := by
  obtain ⟨k, p, t, a, d⟩ := c
  obtain ⟨u, w, rfl, hu, hw, _⟩ := h
  refine ac_spec_l2CallOk ?_
  unfold vc_spec_l2CallOk cs_spec_l2CallOk_1
  rw [pVal_5 rfl hu.one hw.one rfl rfl]
  simp only [cellOf_agg, List.getD_cons_zero, List.getD_cons_succ]
  simp only at hu hw
  have A7 : k = 1 ∨ k = 6 → AC Tryz.prog w0 n_spec_l2PathOk [u] σ (fun v1 s2 => pIf v1 (AC Tryz.prog w0 n_spec_l1In [.int .i64 a, .int .i64 0, .int .i64 7] s2 (fun v3 s4 => R v3 s4)) (R (.bool false) s2)) := fun hk => by
    refine spec_PathOk hu (pIf_b.2 ⟨fun e => spec_In ?_, fun e => ?_⟩)
    · have : callOk (k, p, t, a, d) = inB a 0 7 := by
        simp only [callOk]
        rw [if_pos hk, inB_yes (by omega), show pathB p = true from e]; simp
      rw [this] at hR; exact hR
    · rw [callOk_path e] at hR; exact hR
  have A24 : k = 2 ∨ k = 3 → AC Tryz.prog w0 n_spec_l2PathOk [u] σ (fun v1 s2 => pIf v1 (AC Tryz.prog w0 n_spec_l1In [.int .i64 a, .int .i64 0, .int .i64 24] s2 (fun v3 s4 => R v3 s4)) (R (.bool false) s2)) := fun hk => by
    refine spec_PathOk hu (pIf_b.2 ⟨fun e => spec_In ?_, fun e => ?_⟩)
    · have : callOk (k, p, t, a, d) = inB a 0 24 := by
        simp only [callOk]
        rw [if_neg (by omega), if_pos hk, inB_yes (by omega), show pathB p = true from e]; simp
      rw [this] at hR; exact hR
    · rw [callOk_path e] at hR; exact hR
  have A4 : k = 4 → AC Tryz.prog w0 n_spec_l2PathOk [u] σ (fun v1 s2 => R v1 s2) := fun hk => by
    refine spec_PathOk hu ?_
    have : callOk (k, p, t, a, d) = pathB p := by
      simp only [callOk]
      rw [if_neg (by omega), if_neg (by omega), if_neg (by omega), inB_yes (by omega)]; simp
    rw [this] at hR; exact hR
  have A5 : k = 5 → AC Tryz.prog w0 n_spec_l2PathOk [u] σ (fun v1 s2 => pIf v1 (AC Tryz.prog w0 n_spec_l2PathOk [w] s2 (fun v3 s4 => R v3 s4)) (R (.bool false) s2)) := fun hk => by
    refine spec_PathOk hu (pIf_b.2 ⟨fun e => spec_PathOk hw ?_, fun e => ?_⟩)
    · have : callOk (k, p, t, a, d) = pathB t := by
        simp only [callOk]
        rw [if_neg (by omega), if_neg (by omega), if_pos hk, inB_yes (by omega), show pathB p = true from e]; simp
      rw [this] at hR; exact hR
    · rw [callOk_path e] at hR; exact hR
  have A0 : ¬ (1 ≤ k ∧ k ≤ 6) → R (.bool false) σ := fun hk => by rw [callOk_no hk] at hR; exact hR
  clear hR
  repeat' (first | (with_reducible refine pBin_eq.2 ?_; with_reducible refine pIf_d.2 ⟨fun _ => ?_, fun _ => ?_⟩) | with_reducible refine pIf_d.2 ⟨fun _ => ?_, fun _ => ?_⟩)
  all_goals first | (exfalso; omega) | (with_reducible refine A7 ?_; omega) | (with_reducible refine A24 ?_; omega) | (with_reducible refine A4 ?_; omega) | (with_reducible refine A5 ?_; omega) | (with_reducible refine A0 ?_; omega)

/-! ### Lists of one mark or two, in a row of our own -/
theorem one_mark {b ety : Nat} {v : Value} {p : List ByteArray} {d : Bool} {F : List Nat} (h : OStrs w0 σ F v p) (hb : w0.heap.size ≤ b) (hn : σ b = none) :
    OSl w0 2 (OMk w0) (σ.put b ⟨ety, [v, .bool d], 2, (0, 0)⟩) (b :: F) (.slice (some ⟨b, 0, none⟩) 1 1) [(p, d)] := by
  have hF : ∀ i, i ∈ F → i ≠ b := fun i hi e => (h.dom (ok_str w0) i hi).2 (e ▸ hn)
  refine ⟨by simp, List.nodup_cons.2 ⟨fun e => hF b e rfl, h.2.1⟩, .inr ⟨b, 0, 1, _, [], [], [[v, .bool d]], [F], rfl, by simp, hb, put_at, by simp, rfl, rfl, rfl, by simp, fun j c x f e1 e2 e3 => ?_⟩⟩
  cases j with
  | zero =>
    simp at e1 e2 e3
    subst e1 e2 e3
    exact ⟨v, rfl, h.frame (ok_str w0) fun i hi => by simp [Vw.put, hF i hi]⟩
  | succ j => simp at e1
theorem two_marks {b ety : Nat} {v v' : Value} {p p' : List ByteArray} {d d' : Bool} {F F' : List Nat} (h : OStrs w0 σ F v p) (h' : OStrs w0 σ F' v' p') (hd : ∀ i, i ∈ F → i ∉ F') (hb : w0.heap.size ≤ b) (hn : σ b = none) :
    OSl w0 2 (OMk w0) (σ.put b ⟨ety, [v, .bool d, v', .bool d'], 4, (0, 0)⟩) (b :: (F ++ F')) (.slice (some ⟨b, 0, none⟩) 2 2) [(p, d), (p', d')] := by
  have hF : ∀ i, i ∈ F → i ≠ b := fun i hi e => (h.dom (ok_str w0) i hi).2 (e ▸ hn)
  have hF' : ∀ i, i ∈ F' → i ≠ b := fun i hi e => (h'.dom (ok_str w0) i hi).2 (e ▸ hn)
  refine ⟨by simp, List.nodup_cons.2 ⟨fun e => ?_, List.nodup_append.2 ⟨h.2.1, h'.2.1, fun x hx y hy e => hd x hx (e ▸ hy)⟩⟩, .inr ⟨b, 0, 2, _, [], [], [[v, .bool d], [v', .bool d']], [F, F'], rfl, by simp, hb, put_at, by simp, rfl, rfl, rfl, by simp, fun j c x f e1 e2 e3 => ?_⟩⟩
  · rcases List.mem_append.1 e with e | e
    · exact hF b e rfl
    · exact hF' b e rfl
  · match j with
    | 0 =>
      simp at e1 e2 e3
      subst e1 e2 e3
      exact ⟨v, rfl, h.frame (ok_str w0) fun i hi => by simp [Vw.put, hF i hi]⟩
    | 1 =>
      simp at e1 e2 e3
      subst e1 e2 e3
      exact ⟨v', rfl, h'.frame (ok_str w0) fun i hi => by simp [Vw.put, hF' i hi]⟩
    | j + 2 => simp at e1
theorem ofT_5 {n : Nat} {x : Tr} {c : Cl} (hok : treeOk n x = true) (hco : callOk c = true) (h5 : c.1 = 5) : ofT n x c = [(c.2.1, isDir ((atT x c.2.1).getD zeroT)), (c.2.2.1, isDir ((atT x c.2.1).getD zeroT))] := by
  unfold ofT; rw [if_neg (by rw [hok]; simp), if_neg (by rw [hco]; simp), if_pos h5]
theorem ofT_1 {n : Nat} {x : Tr} {c : Cl} (hok : treeOk n x = true) (hco : callOk c = true) (h5 : ¬ c.1 = 5) : ofT n x c = [(c.2.1, false)] := by
  unfold ofT; rw [if_neg (by rw [hok]; simp), if_neg (by rw [hco]; simp), if_neg h5]

abbrev OutM (w0 : World) (σ : Vw) (ms : List Mk) (R : Value → Vw → Prop) : Prop :=
  ∀ v F σ', Keeps σ σ' → OSl w0 2 (OMk w0) σ' F v ms → (∀ b, b ∈ F → σ b = none) → R v σ'

theorem marks_none {ety : Nat} {R : Value → Vw → Prop} (hR : OutM w0 σ [] R) : pNew w0 ety [] σ (fun n3 s4 => R (.slice (some (Addr.mk n3 0 none)) 0 0) s4) := fun b h1 h2 =>
  hR _ [b] _ (Keeps.put h2) (OAcc.new (ety := ety) h1).osl fun i hi => by rw [List.mem_singleton.1 hi]; exact h2

theorem copy_path {v : Value} {xs : List ByteArray} (h : RSl 1 RS (Av.get w0 σ) v xs) (hl : xs.length ≤ 1000000000) {K : Value → Vw → Prop}
    (hK : ∀ v' F σ', Keeps σ σ' → OStrs w0 σ' F v' xs → (∀ b, b ∈ F → σ b = none) → K v' σ') : pNew w0 t_string [] σ (fun n0 s1 => pAppendS w0 t_string 1 16 (.slice (some (Addr.mk n0 0 none)) 0 0) v s1 (fun v2 s3 => K v2 s3)) := by
  intro b h1 h2
  have kb : Keeps σ (σ.put b ⟨t_string, [], 0, (0, 0)⟩) := Keeps.put h2
  have hb0 : ∀ i, i ∈ [b] → σ i = none := fun i hi => by rw [List.mem_singleton.1 hi]; exact h2
  refine (OAcc.new (w0 := w0) (σ := σ) (ety := t_string) (n := 1) (O := OStr) h1).all (ok_str w0) h kb.le (fun es y hy => ⟨rfl, hy⟩) (by simp; omega) (by omega) fun v' F' σ' k1 o1 f1 => ?_
  exact hK v' F' σ' (k1.old kb hb0) (by simpa using o1.osl) (fresh_in kb hb0 f1)

theorem path_len {p : List ByteArray} (h : pathB p = true) : p.length ≤ 4 := by
  simp only [pathB, Bool.and_eq_true, inB, decide_eq_true_eq] at h; omega
theorem callOk_of {c : Cl} (h : callOk c = true) : pathB c.2.1 = true ∧ (c.1 = 5 → pathB c.2.2.1 = true) := by
  simp only [callOk, Bool.and_eq_true] at h
  refine ⟨h.2.1, fun e => ?_⟩
  have := h.2.2
  rw [if_neg (by omega), if_neg (by omega), if_pos e] at this; exact this

theorem spec_TrailOf {n : Nat} {es cs : List Value} {x : Tr} {c : Cl} (h : RT n (Av.get w0 σ) es x) (hc : RCl (Av.get w0 σ) cs c) (hb : szT n x ≤ 1000000000000) {R : Value → Vw → Prop}
    (hR : OutM w0 σ (ofT n x c) R) : AC Tryz.prog w0 n_spec_TrailOf [.agg ⟨es⟩, .agg ⟨cs⟩] σ R := by
  have h0 := h
  have hc0 := hc
  have hcnt : cntT n x ≤ 1000000000000 := Nat.le_trans (cnt_le n x) hb
  obtain ⟨_, _, _, _, _, rfl, _, hpv⟩ := RT.five h
  obtain ⟨k, p, t, a, d⟩ := c
  have h5 : ∀ A : Prop, pVal true 5 (.agg ⟨cs⟩) A ↔ A := fun A => hc.five
  obtain ⟨u, w, rfl, hu, hw, _⟩ := hc
  simp only at hu hw
  refine ac_spec_TrailOf ?_
  unfold vc_spec_TrailOf
  rw [hpv, h5]
  simp only [cellOf_agg, List.getD_cons_zero, List.getD_cons_succ]
  refine spec_TreeOk h0 hcnt ?_
  rw [pUn_not, pIf_b]
  refine ⟨fun hn => marks_none (by simp at hn; rw [show ofT n x (k, p, t, a, d) = [] by simp [ofT, hn]] at hR; exact hR), fun hn => ?_⟩
  have hok : treeOk n x = true := by simpa using hn
  refine spec_l2CallOk hc0 ?_
  rw [pUn_not, pIf_b]
  refine ⟨fun hn => marks_none (by simp at hn; rw [show ofT n x (k, p, t, a, d) = [] by simp [ofT, hok, hn]] at hR; exact hR), fun hn => ?_⟩
  have hco : callOk (k, p, t, a, d) = true := by simpa using hn
  obtain ⟨hp1, hp2⟩ := callOk_of hco
  have hpl := path_len hp1
  simp only at hpl
  refine copy_path hu (by omega) fun v1 F1 s1 k1 o1 f1 => ?_
  rw [pBin_ne, pIf_d]
  refine ⟨fun h5 => ?_, fun h5 => ?_⟩
  · rw [pVal1 (OSl.one' o1), pVal_2 (OSl.one' o1) rfl]
    rw [show ofT n x (k, p, t, a, d) = [(p, false)] from ofT_1 hok hco h5] at hR
    intro b hb1 hb2
    refine hR _ (b :: F1) _ (k1.trans (Keeps.put hb2)) (one_mark o1 hb1 hb2) fun i hi => ?_
    rcases List.mem_cons.1 hi with rfl | hi
    · exact none_at k1 hb2
    · exact f1 i hi
  · have h5 : k = 5 := Decidable.not_not.1 h5
    have hpt := path_len (hp2 h5)
    simp only at hpt
    have hwf : wfT n x := by simp only [treeOk, Bool.and_eq_true] at hok; exact sound_wf n x 0 hok.2.1
    refine spec_At p (mono_rt n _ _ _ _ k1.le h0) hwf (hu.mono k1.le fun _ _ h => h) fun es' he' => ?_
    rw [pExtract_s rfl, pExtract_s rfl]
    obtain ⟨xa, xb, xc, xd, xe, rfl, rfl, hpv'⟩ := RT.five he'
    rw [hpv', pVal1 (OSl.one' o1)]
    simp only [cellOf_agg, List.getD_cons_zero, List.getD_cons_succ]
    rw [pVal1 rfl]
    refine copy_path (hw.mono k1.le fun _ _ h => h) (by omega) fun v2 F2 s2 k2 o2 f2 => ?_
    rw [pVal1 (OSl.one' o2), pVal1 rfl, pVal_2 (OSl.one' o1) rfl, pVal_2 (OSl.one' o2) rfl]
    rw [show ofT n x (k, p, t, a, d) = [(p, isDir ((atT x p).getD zeroT)), (t, isDir ((atT x p).getD zeroT))] from ofT_5 hok hco h5] at hR
    have o1' := o1.frame (ok_str w0) (k2.but_at fun b hb => (o1.dom (ok_str w0) b hb).2)
    intro b hb1 hb2
    refine hR _ (b :: (F1 ++ F2)) _ ((k1.trans k2).trans (Keeps.put hb2)) (two_marks o1' o2 (fun i hi hi' => (o1.dom (ok_str w0) i hi).2 (f2 i hi')) hb1 hb2) fun i hi => ?_
    rcases List.mem_cons.1 hi with rfl | hi
    · exact none_at (k1.trans k2) hb2
    · rcases List.mem_append.1 hi with hi | hi
      · exact f1 i hi
      · exact none_at k1 (f2 i hi)

theorem pBin_nnil {T : Nat} {p : Option Addr} {K : Value → Prop} (hT : ∃ e, Tryz.prog.underlying T = some (.pointer e)) : pBin Tryz.prog T .neq (.pointer p) (.pointer none) K ↔ K (.bool p.isSome) := by
  obtain ⟨e, he⟩ := hT
  have h : abinT Tryz.prog T .neq (.pointer p) (.pointer none) = some (.bool p.isSome) := by simp only [abinT, he]; cases p <;> rfl
  exact ⟨fun ⟨_, h', hK⟩ => by rw [h] at h'; cases h'; exact hK, fun hK => ⟨_, h, hK⟩⟩

end

end Go.Proofs.YtkbhjejalkbogaaGreat

/- Entries of a layer: size, copy, comparison, marks. -/
set_option linter.unusedVariables false
set_option linter.unusedSimpArgs false
namespace Go.Proofs.YtkbhjejalkbogaaGreat
open Go Go.Av

theorem pNotIf {b : Bool} {A B : Prop} : pUn .not (.bool b) (fun v => pIf v A B) ↔ (b = false → A) ∧ (b = true → B) := by
  rw [pUn_not, pIf_b]
  cases b <;> simp

/-- An entry: a path, what it is, a bool, a number, bytes. -/
abbrev En := List ByteArray × Int × Bool × Int × ByteArray
def enOk (x : En) : Prop := (-9223372036854775808 ≤ x.2.1 ∧ x.2.1 ≤ 9223372036854775807) ∧ (-9223372036854775808 ≤ x.2.2.2.1 ∧ x.2.2.2.1 ≤ 9223372036854775807) ∧ x.2.2.2.2.size ≤ 9223372036854775807
def REn (rd : Addr → Option Value) (es : List Value) (x : En) : Prop := ∃ v, es = [v, .int .i64 x.2.1, .bool x.2.2.1, .int .i64 x.2.2.2.1, .string x.2.2.2.2] ∧ RSl 1 RS rd v x.1 ∧ enOk x
def OEn (w0 : World) (σ : Vw) (F : List Nat) (es : List Value) (x : En) : Prop := ∃ v, es = [v, .int .i64 x.2.1, .bool x.2.2.1, .int .i64 x.2.2.2.1, .string x.2.2.2.2] ∧ OStrs w0 σ F v x.1 ∧ enOk x
section
variable {w0 : World} {σ : Vw}

theorem ok_en (w0 : World) : OOk w0 5 REn (OEn w0) := by
  refine ⟨?_, ?_, ?_, ?_, ?_, ?_⟩
  · rintro σ F es x ⟨v, h1, h2, h3⟩; exact ⟨v, h1, h2.rel (ok_str w0), h3⟩
  · rintro σ σ' F es x ⟨v, h1, h2, h3⟩ hF; exact ⟨v, h1, h2.frame (ok_str w0) hF, h3⟩
  · rintro σ F es x ⟨v, h1, h2, h3⟩; exact h2.dom (ok_str w0)
  · rintro σ F es x ⟨v, h1, h2, h3⟩; exact h2.2.1
  · rintro σ F es x ⟨v, rfl, h2, h3⟩; rfl
  · rintro σ F es x ⟨v, rfl, h2, h3⟩ c hc
    simp at hc
    rcases hc with rfl | rfl | rfl | rfl | rfl
    · exact OSl.one' h2
    · rfl
    · rfl
    · rfl
    · rfl
theorem mono_en {rd rd' : Addr → Option Value} {es : List Value} {x : En} (hl : Le rd rd') (h : REn rd es x) : REn rd' es x := by
  obtain ⟨v, h1, h2, h3⟩ := h; exact ⟨v, h1, h2.mono hl fun _ _ h => h, h3⟩

end

end Go.Proofs.YtkbhjejalkbogaaGreat

/- A contract of the kit's, as one of ours. -/
set_option linter.unusedVariables false
set_option linter.unusedSimpArgs false
namespace Go.Av
open Go Go.RowKit

end Go.Av

/- A disk's rows: the law 'DiskOk', of the functions alone. -/
set_option linter.unusedVariables false
set_option linter.unusedSimpArgs false
namespace Go.Proofs.YtkbhjejalkbogaaGreat
open Go Go.Av

section
variable {w0 : World} {σ : Vw}

end
end Go.Proofs.YtkbhjejalkbogaaGreat

/- Writes of a disk: the law 'DiskWrite', of the functions alone. -/
set_option linter.unusedVariables false
set_option linter.unusedSimpArgs false
namespace Go.Proofs.YtkbhjejalkbogaaGreat
open Go Go.Av

section
variable {w0 : World} {σ : Vw}

end
end Go.Proofs.YtkbhjejalkbogaaGreat

/- The law 'DiskWrite', of the functions alone. -/
set_option linter.unusedVariables false
set_option linter.unusedSimpArgs false
namespace Go.Proofs.YtkbhjejalkbogaaGreat
open Go Go.Av

section
variable {w0 : World} {σ : Vw}

end
end Go.Proofs.YtkbhjejalkbogaaGreat

/-
  DERIVED: THE SHELF's CONTRACTS AT THIS DUMP, IN PLAIN WORDS (tools/lay-plain.mjs out of 'TryzShelf.lean', which tools/lay-shelf.mjs wrote): THE SAME DECLARATIONS UNDER THE SAME NAMES: 'import', 'namespace', 'open', 'def', 'theorem' AND NOTHING ELSE: no command of the shelf's: FOR A HAND-IN. Each laying: the table of numbers ('.._ren') and one theorem, a field a fact of the dump's own or the kernel's comparison; each contract: ONE APPLICATION.
-/
namespace Go.Proofs
open Go.Shelf
def Tryz.lays190_ren : Go.Shelf.Ren := ⟨fun | 190 => 140 | 125 => 147 | 258 => 157 | 128 => 166 | 129 => 167 | 302 => 169 | 303 => 170 | 304 => 171 | 305 => 172 | 306 => 173 | 307 => 174 | 308 => 175 | 309 => 176 | 310 => 177 | 333 => 183 | 329 => 179 | 330 => 180 | 334 => 184 | 335 => 185 | 336 => 149 | 344 => 187 | n => n, fun | 31 => 23 | 9 => 9 | 3 => 3 | 46 => 155 | 0 => 0 | 51 => 170 | 53 => 172 | 4 => 4 | 183 => 163 | 182 => 162 | 131 => 167 | 5 => 5 | 218 => 180 | 222 => 184 | 228 => 188 | 229 => 189 | n => n, fun | n => n⟩
theorem Tryz.lays190 : Go.Proofs.Lays.n190 Tryz.prog Tryz.lays190_ren := {
  mixed := by kernel_rfl
  f125 := Tryz.func147.trans (congrArg some (by kernel_rfl))
  f128 := Tryz.func166.trans (congrArg some (by kernel_rfl))
  f129 := Tryz.func167.trans (congrArg some (by kernel_rfl))
  f190 := Tryz.func140.trans (congrArg some (by kernel_rfl))
  f258 := Tryz.func157.trans (congrArg some (by kernel_rfl))
  f302 := Tryz.func169.trans (congrArg some (by kernel_rfl))
  f303 := Tryz.func170.trans (congrArg some (by kernel_rfl))
  f304 := Tryz.func171.trans (congrArg some (by kernel_rfl))
  f305 := Tryz.func172.trans (congrArg some (by kernel_rfl))
  f306 := Tryz.func173.trans (congrArg some (by kernel_rfl))
  f307 := Tryz.func174.trans (congrArg some (by kernel_rfl))
  f308 := Tryz.func175.trans (congrArg some (by kernel_rfl))
  f309 := Tryz.func176.trans (congrArg some (by kernel_rfl))
  f310 := Tryz.func177.trans (congrArg some (by kernel_rfl))
  f329 := Tryz.func179.trans (congrArg some (by kernel_rfl))
  f330 := Tryz.func180.trans (congrArg some (by kernel_rfl))
  f333 := Tryz.func183.trans (congrArg some (by kernel_rfl))
  f334 := Tryz.func184.trans (congrArg some (by kernel_rfl))
  f335 := Tryz.func185.trans (congrArg some (by kernel_rfl))
  f336 := Tryz.func149.trans (congrArg some (by kernel_rfl))
  f344 := Tryz.func187.trans (congrArg some (by kernel_rfl))
  t0 := Tryz.underlying0
  a0 := Tryz.isAgg0
  z0 := Tryz.sizeOf0
  v0 := Tryz.zeroValue0
  t3 := Tryz.underlying3
  a3 := Tryz.isAgg3
  z3 := Tryz.sizeOf3
  v3 := Tryz.zeroValue3
  t4 := Tryz.underlying4
  a4 := Tryz.isAgg4
  z4 := Tryz.sizeOf4
  v4 := Tryz.zeroValue4
  t5 := Tryz.underlying5
  a5 := Tryz.isAgg5
  z5 := Tryz.sizeOf5
  v5 := Tryz.zeroValue5
  t9 := Tryz.underlying9
  a9 := Tryz.isAgg9
  z9 := Tryz.sizeOf9
  v9 := Tryz.zeroValue9
  t31 := Tryz.underlying23
  a31 := Tryz.isAgg23
  z31 := Tryz.sizeOf23
  v31 := Tryz.zeroValue23
  t46 := Tryz.underlying155
  a46 := Tryz.isAgg155
  z46 := Tryz.sizeOf155
  v46 := Tryz.zeroValue155
  t51 := Tryz.underlying170
  a51 := Tryz.isAgg170
  z51 := Tryz.sizeOf170
  v51 := Tryz.zeroValue170
  t53 := Tryz.underlying172
  a53 := Tryz.isAgg172
  z53 := Tryz.sizeOf172
  v53 := Tryz.zeroValue172
  t131 := Tryz.underlying167
  a131 := Tryz.isAgg167
  z131 := Tryz.sizeOf167
  v131 := Tryz.zeroValue167
  t182 := Tryz.underlying162
  a182 := Tryz.isAgg162
  z182 := Tryz.sizeOf162
  v182 := Tryz.zeroValue162
  t183 := Tryz.underlying163
  a183 := Tryz.isAgg163
  z183 := Tryz.sizeOf163
  v183 := Tryz.zeroValue163
  t218 := Tryz.underlying180
  a218 := Tryz.isAgg180
  z218 := Tryz.sizeOf180
  v218 := Tryz.zeroValue180
  t222 := Tryz.underlying184
  a222 := Tryz.isAgg184
  z222 := Tryz.sizeOf184
  v222 := Tryz.zeroValue184
  t228 := Tryz.underlying188
  a228 := Tryz.isAgg188
  z228 := Tryz.sizeOf188
  v228 := Tryz.zeroValue188
  t229 := Tryz.underlying189
  a229 := Tryz.isAgg189
  z229 := Tryz.sizeOf189
  v229 := Tryz.zeroValue189 }
open Go.Sort Go.RowKit in
theorem Tryz.slices_Sort_string (blk off cap : Nat) (ss : List (List UInt8)) (w : World) (hH : Holds encStr w blk off ss.toArray) (hblk : blk < w.heap.size) (hsz : ss.length < 4611686018427387904) :
    Calls Tryz.prog 140 #[.slice (some ⟨blk, off, none⟩) ss.length cap] w fun e w' =>
      e = .returned (.tuple #[]) ∧ ∃ n os, w' = grow (putRow encStr (Sort.ahead w n) blk off (ss.mergeSort fun x y => decide (x ≤ y)).toArray) os := Any.slices_Sort_string Tryz.lays190 blk off cap ss w hH hblk hsz
def Tryz.lays194_ren : Go.Shelf.Ren := ⟨fun | 194 => 141 | n => n, fun | 31 => 23 | 9 => 9 | 3 => 3 | 4 => 4 | 0 => 0 | n => n, fun | n => n⟩
theorem Tryz.lays194 : Go.Proofs.Lays.n194 Tryz.prog Tryz.lays194_ren := {
  mixed := by kernel_rfl
  f194 := Tryz.func141.trans (congrArg some (by kernel_rfl))
  t0 := Tryz.underlying0
  a0 := Tryz.isAgg0
  z0 := Tryz.sizeOf0
  v0 := Tryz.zeroValue0
  t3 := Tryz.underlying3
  a3 := Tryz.isAgg3
  z3 := Tryz.sizeOf3
  v3 := Tryz.zeroValue3
  t4 := Tryz.underlying4
  a4 := Tryz.isAgg4
  z4 := Tryz.sizeOf4
  v4 := Tryz.zeroValue4
  t9 := Tryz.underlying9
  a9 := Tryz.isAgg9
  z9 := Tryz.sizeOf9
  v9 := Tryz.zeroValue9
  t31 := Tryz.underlying23
  a31 := Tryz.isAgg23
  z31 := Tryz.sizeOf23
  v31 := Tryz.zeroValue23 }
open Go.RowKit Go.Lib Go.Sort in
/-- slices.Compact at []string: "Compact replaces consecutive runs of equal elements with a single copy. This is like the uniq command found on Unix. Compact modifies the contents of the slice s and returns the modified slice, which may have a smaller length. Compact zeroes the elements between the new length and the original length. The result preserves the nilness of s.": IT RETURNS THE SLICE CUT TO 'Lib.compact zs'; ITS CELLS HOLD 'Lib.compact zs', THEN ZERO VALUES up to the old length; all else is as it was, but for the count of draws. IN THE WORDS OF slices.Sort's CONTRACT ('Holds', 'putRow'): so the everyday 'slices.Sort(xs); xs = slices.Compact(xs)' goes from the one contract to the other. It asks 'zs.length ≤ cap' (every slice's: the reslicing 's[:k]' looks at it). Length 0, nil: '.._empty'. (LAID: no walk: one application.) -/
theorem Tryz.slices_Compact_string (blk off cap : Nat) (zs : List (List UInt8)) (w : World) (hH : Holds encStr w blk off zs.toArray) (hsz : zs.length ≤ 9223372036854775807) (hcap : zs.length ≤ cap) :
    Calls Tryz.prog 141 #[.slice (some ⟨blk, off, none⟩) zs.length cap] w fun e w' => e = .returned (.slice (some ⟨blk, off, none⟩) (Lib.compact zs).length cap) ∧ ∃ q, w' = putRow encStr (Sort.ahead w q) blk off (Lib.compact zs ++ List.replicate (zs.length - (Lib.compact zs).length) []).toArray := Any.slices_Compact_string Tryz.lays194 blk off cap zs w hH hsz hcap
open Go.RowKit Go.Lib Go.Sort in
/-- The same at a slice of length 0, a nil one too: it comes back as it is. (LAID: no walk: one application.) -/
theorem Tryz.slices_Compact_string_empty (a : Option Addr) (cap : Nat) (w : World) :
    Calls Tryz.prog 141 #[.slice a 0 cap] w fun e w' => e = .returned (.slice a 0 cap) ∧ w' = w := Any.slices_Compact_string_empty Tryz.lays194 a cap w
open Go.RowKit Go.Sort in
/-- .. and plain. (LAID: no walk: one application.) -/
theorem Tryz.slices_Sort_string_none (p : Option Addr) (cap : Nat) (w : World) :
    Calls Tryz.prog 140 #[.slice p 0 cap] w fun e w' => e = .returned (.tuple #[]) ∧ w' = w := Any.slices_Sort_string_none Tryz.lays190 p cap w
end Go.Proofs

/- Decimals by either hand; how a text is cut into blocks. -/
set_option linter.unusedVariables false
set_option linter.unusedSimpArgs false
namespace Go.Proofs.YtkbhjejalkbogaaGreat
open Go Go.Av Go.RowKit

theorem nums_dig (n : Nat) : strOfNums [((48 + n % 10 : Nat) : Int)] = ofL [dig n] := by
  have h := bl_byte (48 + n % 10)
  rw [Nat.mod_eq_of_lt (by omega)] at h
  exact bl_inj (by rw [h, bl_ofL]; rfl)
theorem pUn_neg {n : Int} {K : Value → Prop} (h : -9223372036854775807 ≤ n ∧ n ≤ 9223372036854775807) : pUn .neg (.int .i64 n) K ↔ K (.int .i64 (-n)) := by
  have e : aun .neg (.int .i64 n) = some (.int .i64 (-n)) := by
    show some (Value.int .i64 (IntKind.i64.wrap (0 - n))) = _
    rw [IntWalk.i64_in (0 - n) (by omega), Int.zero_sub]
  exact ⟨fun ⟨_, h', hK⟩ => by rw [e] at h'; cases h'; exact hK, fun hK => ⟨_, e, hK⟩⟩
theorem dec_min : decZ (-9223372036854775808) = minText := by
  have : decL 9223372036854775808 = [57, 50, 50, 51, 51, 55, 50, 48, 51, 54, 56, 53, 52, 55, 55, 53, 56, 48, 56] := by
    simp [decL_big, decL_small, dig]
  unfold decZ
  rw [if_pos (by omega)]
  have e : (-(-9223372036854775808 : Int)).toNat = 9223372036854775808 := rfl
  rw [e, decN, this]
  rfl
theorem decN_big {k : Nat} (h : ¬ k < 10) : decN k = decN (k / 10) ++ ofL [dig k] := by
  rw [decN, decL_big h, ← ofL_append]; rfl

section
variable {w0 : World} {σ : Vw}

theorem dec_row {σ' : Vw} {k : Nat} {K : Vw → Value → Prop} (hK : ∀ s, Keeps σ' s → K s (.string (ofL [dig k]))) : pNew w0 5 [.int .u8 ((48 + k % 10 : Nat) : Int)] σ' (fun n s => pStr w0 (.slice (some (Addr.mk n 0 none)) 1 1) s (fun v => K s v)) := by
  intro b h1 h2
  refine pStr1 (by rw [get_row h1 put_at]; rfl) ?_
  rw [nums_dig]
  exact hK _ (Keeps.put h2)

end
end Go.Proofs.YtkbhjejalkbogaaGreat

/- Decimals of the tree's own hand; hex. -/
set_option linter.unusedVariables false
set_option linter.unusedSimpArgs false
namespace Go.Proofs.YtkbhjejalkbogaaGreat
open Go Go.Av Go.RowKit

section
variable {w0 : World} {σ : Vw}

theorem spec_l1Dec_nat : ∀ (k : Nat), k ≤ 9223372036854775807 → ∀ {σ : Vw} {R : Value → Vw → Prop}, (∀ σ', Keeps σ σ' → R (.string (decN k)) σ') → AC Tryz.prog w0 n_spec_l1Dec [.int .i64 (k : Nat)] σ R := by
  intro k
  induction k using Nat.strongRecOn with
  | _ k ih =>
    intro hk σ R hR
    refine ac_spec_l1Dec ?_
    unfold vc_spec_l1Dec
    rw [pBin_lt, pIf_d]
    refine ⟨fun h => by omega, fun _ => ?_⟩
    rw [pBin_lt, pIf_d]
    refine ⟨fun h => by omega, fun _ => ?_⟩
    rw [pBin_lt, pIf_d]
    refine ⟨fun h10 => ?_, fun h10 => ?_⟩
    · rw [pBin_add (by omega), pConv_u8 (by omega), pVal1 rfl, show (48 : Int) + (k : Nat) = ((48 + k % 10 : Nat) : Int) by omega]
      refine dec_row fun s k1 => ?_
      have := hR s k1
      rw [decN, decL_small (by omega)] at this
      exact this
    · have hb : ¬ k < 10 := by omega
      have hd := (decN_size (k / 10)).2
      rw [decN_big hb] at hR
      have hcat : ∀ K : Value → Prop, pBin Tryz.prog 9 .add (.string (decN (k / 10))) (.string (ofL [dig k])) K ↔ K (.string (decN (k / 10) ++ ofL [dig k])) := fun K => pBin_cat (by rw [size_ofL]; simp only [List.length_singleton]; omega)
      rw [pBin_quo (by omega), pBin_rem (by omega), pBin_add (by omega), pConv_u8 (by omega), show (48 : Int) + (k : Nat) % 10 = ((48 + k % 10 : Nat) : Int) by omega, show ((k : Nat) : Int) / 10 = ((k / 10 : Nat) : Int) by omega]
      refine ⟨ih (k / 10) (by omega) (by omega) fun s k1 => ?_, ?_⟩
      · rw [pVal1 rfl]
        refine dec_row fun s2 k2 => ?_
        rw [hcat]
        exact hR s2 (k1.trans k2)
      · rw [pVal1 rfl]
        refine dec_row fun s2 k2 => ?_
        refine ih (k / 10) (by omega) (by omega) fun s k1 => ⟨k1.ext, ?_⟩
        rw [hcat]
        exact hR s (k2.trans k1)

theorem spec_l1Dec {n : Int} {R : Value → Vw → Prop} (hn : -9223372036854775808 ≤ n ∧ n ≤ 9223372036854775807) (hR : ∀ σ', Keeps σ σ' → R (.string (decZ n)) σ') : AC Tryz.prog w0 n_spec_l1Dec [.int .i64 n] σ R := by
  by_cases h0 : 0 ≤ n
  · obtain ⟨k, rfl⟩ : ∃ k : Nat, n = k := ⟨n.toNat, by omega⟩
    rw [decZ_nat] at hR
    exact spec_l1Dec_nat k (by omega) hR
  refine ac_spec_l1Dec ?_
  unfold vc_spec_l1Dec
  rw [pBin_lt, pIf_d]
  refine ⟨fun h1 => ?_, fun h1 => ?_⟩
  · have : n = -9223372036854775808 := by omega
    subst this
    have := hR σ (Keeps.refl σ)
    rw [dec_min] at this
    exact this
  rw [pBin_lt, pIf_d]
  refine ⟨fun _ => ?_, fun h => by omega⟩
  rw [pUn_neg (by omega)]
  obtain ⟨k, hk⟩ : ∃ k : Nat, -n = k := ⟨(-n).toNat, by omega⟩
  rw [hk]
  have e : decZ n = ⟨#[45]⟩ ++ decN k := by
    unfold decZ
    rw [if_pos (by omega), hk, Int.toNat_natCast]
  rw [e] at hR
  refine spec_l1Dec_nat k (by omega) fun s k1 => ?_
  have hd := (decN_size k).2
  rw [pBin_cat (by show 1 + _ ≤ _; omega)]
  exact hR s k1


end
end Go.Proofs.YtkbhjejalkbogaaGreat

/- Paths and trails as texts; the law 'TrailShow'. -/
set_option linter.unusedVariables false
set_option linter.unusedSimpArgs false
namespace Go.Proofs.YtkbhjejalkbogaaGreat
open Go Go.Av Go.RowKit

section
variable {w0 : World} {σ : Vw}

end
end Go.Proofs.YtkbhjejalkbogaaGreat

/- Bytes in rows of our own; hex by the program's hand; a line of a tree. -/
set_option linter.unusedVariables false
set_option linter.unusedSimpArgs false
namespace Go.Proofs.YtkbhjejalkbogaaGreat
open Go Go.Av Go.RowKit

section
variable {w0 : World} {σ : Vw}

end
end Go.Proofs.YtkbhjejalkbogaaGreat

/- A tree as a text: what it is, and by the reference's hand; a line by the program's. -/
set_option linter.unusedVariables false
set_option linter.unusedSimpArgs false
namespace Go.Proofs.YtkbhjejalkbogaaGreat
open Go Go.Av Go.RowKit

/-- What is sound is short. -/
def shortT : Nat → Tr → Prop
  | 0, _ => False
  | n + 1, .mk d m t ns ks => (0 ≤ m ∧ m ≤ 7) ∧ t.size ≤ 24 ∧ ns.length = ks.length ∧ (∀ x, x ∈ ns → x.size ≤ 5) ∧ ∀ k, k ∈ ks → shortT n k
theorem sound_short : ∀ (n : Nat) (x : Tr) (k : Int), soundB n x k = true → shortT n x
  | 0, _, _, h => by simp [soundB] at h
  | n + 1, .mk d m t ns ks, k, h => by
    simp only [soundB, plainB, Bool.and_eq_true, decide_eq_true_eq, inB] at h
    obtain ⟨⟨h1, h2, h3⟩, _, h4⟩ := h
    refine ⟨h1, ?_, h2, fun x hx => ?_, fun c hc => ?_⟩
    · cases d
      · simp at h3; exact h3.1
      · simp at h3; rw [h3.2]; show 0 ≤ 24; omega
    · cases d
      · simp at h3; rw [h3.2] at hx; cases hx
      · simp at h3
        obtain ⟨j, hj⟩ := List.getElem?_of_mem hx
        have := h3.1 j x hj
        simp only [nameAt, nameOk, Bool.and_eq_true, decide_eq_true_eq, inB] at this
        omega
    · obtain ⟨j, hj⟩ := List.getElem?_of_mem hc
      exact sound_short n c _ (allB_iff.1 h4 j c hj)
section
variable {w0 : World} {σ : Vw}

end
end Go.Proofs.YtkbhjejalkbogaaGreat

/- What is said of a tree part by part, in order: a list. -/
set_option linter.unusedVariables false
set_option linter.unusedSimpArgs false
namespace Go.Proofs.YtkbhjejalkbogaaGreat
open Go Go.Av

def linT {α : Type} (f : Nat → List ByteArray → Tr → α) : Nat → List ByteArray → Tr → List α
  | 0, _, _ => []
  | n + 1, ps, .mk d m t ns ks => f (n + 1) ps (.mk d m t ns ks) :: ((ns.zip ks).map fun y => linT f n (ps ++ [y.1]) y.2).flatten
theorem linT_step {α : Type} (f : Nat → List ByteArray → Tr → α) (n : Nat) (ps : List ByteArray) (d : Bool) (m : Int) (t : ByteArray) (ns : List ByteArray) (ks : List Tr) :
    linT f (n + 1) ps (.mk d m t ns ks) = f (n + 1) ps (.mk d m t ns ks) :: ((ns.zip ks).map fun y => linT f n (ps ++ [y.1]) y.2).flatten := rfl
theorem zip_sum {f : Tr → Nat} : ∀ {ns : List ByteArray} {ks : List Tr}, sumBy (fun y : ByteArray × Tr => f y.2 + 1) (ns.zip ks) ≤ ks.length + sumBy f ks
  | [], ks => by simp [sumBy]
  | _ :: _, [] => by simp [sumBy]
  | x :: ns, k :: ks => by
    have := zip_sum (f := f) (ns := ns) (ks := ks)
    simp only [List.zip_cons_cons, sumBy, List.length_cons]; omega
theorem flat_sum {α β : Type} {f : β → List α} {g : β → Nat} : ∀ {l : List β}, (∀ x, x ∈ l → (f x).length ≤ g x) → ((l.map f).flatten).length ≤ sumBy g l
  | [], _ => by simp [sumBy]
  | a :: r, h => by
    have h1 := h a (by simp)
    have h2 := flat_sum (l := r) fun x hx => h x (by simp [hx])
    simp only [List.map_cons, List.flatten_cons, List.length_append, sumBy]; omega
theorem linT_len {α : Type} (f : Nat → List ByteArray → Tr → α) : ∀ (n : Nat) (ps : List ByteArray) (x : Tr), (linT f n ps x).length ≤ cntT n x + 1
  | 0, _, _ => by simp [linT]
  | n + 1, ps, .mk d m t ns ks => by
    have h1 : (((ns.zip ks).map fun y => linT f n (ps ++ [y.1]) y.2).flatten).length ≤ sumBy (fun y : ByteArray × Tr => cntT n y.2 + 1) (ns.zip ks) := flat_sum fun y _ => linT_len f n _ _
    have h2 := zip_sum (f := cntT n) (ns := ns) (ks := ks)
    rw [linT_step, List.length_cons]
    show _ ≤ ks.length + sumBy (cntT n) ks + 1
    omega
theorem flat_take {α β : Type} {f : β → List α} {l : List β} {j : Nat} {y : β} (h : l[j]? = some y) : ((l.take (j + 1)).map f).flatten = ((l.take j).map f).flatten ++ f y := by
  rw [List.take_add_one, h, Option.toList_some, List.map_append, List.flatten_append]; simp
theorem sumS_snoc (y : ByteArray) : ∀ l : List ByteArray, sumS (l ++ [y]) = sumS l + y.size
  | [] => by simp [sumS]
  | a :: r => by simp only [List.cons_append, sumS, sumS_snoc y r]; omega

section
variable {w0 : World} {σ : Vw} {α : Type}

theorem none_old {σ s : Vw} (k : Keeps σ s) {i : Nat} (h : s i = none) : σ i = none := by
  cases hs : σ i with
  | none => rfl
  | some r => rw [k i r hs] at h; cases h

/-- One element, in a row of its own. -/
theorem OAcc.single {ety n b : Nat} {Rel : (Addr → Option Value) → List Value → α → Prop} {O : Vw → List Nat → List Value → α → Prop} (ok : OOk w0 n Rel O) {es : List Value} {f : List Nat} {y : α} (hb : w0.heap.size ≤ b) (hn : σ b = none) (hy : O σ f es y) :
    OAcc w0 ety n O (σ.put b ⟨ety, es, es.length, (0, 0)⟩) (b :: f) (.slice (some ⟨b, 0, none⟩) 1 1) [y] := by
  have hf : ∀ i, i ∈ f → i ≠ b := fun i hi e => (ok.dom _ _ _ _ hy i hi).2 (e ▸ hn)
  refine ⟨by simp, List.nodup_cons.2 ⟨fun h => hf b h rfl, ok.nodup _ _ _ _ hy⟩, .inr ⟨b, 1, [es], [f], rfl, by simp, hb, ?_, rfl, rfl, by simp, fun j c x g e1 e2 e3 => ?_⟩⟩
  · rw [put_at, ok.len _ _ _ _ hy]; simp
  · cases j with
    | zero =>
      simp at e1 e2 e3
      subst e1 e2 e3
      exact ok.frame _ _ _ _ _ hy fun i hi => put_ne (hf i hi)
    | succ j => simp at e1

/-- A path, and a name more. -/
theorem push_path {v : Value} {ps : List ByteArray} {y : ByteArray} (h : RSl 1 RS (Av.get w0 σ) v ps) (hl : ps.length ≤ 1000000) (hy : y.size ≤ 1000000) {R : Value → Vw → Prop}
    (hR : ∀ v' F σ', Keeps σ σ' → OStrs w0 σ' F v' (ps ++ [y]) → (∀ b, b ∈ F → σ b = none) → R v' σ') :
    pNew w0 t_string [] σ (fun n0 s1 => pAppendS w0 t_string 1 16 (.slice (some (Addr.mk n0 0 none)) 0 0) v s1 (fun v2 s3 => pVal false 1 (.string y) ((allOne [.string y]) ∧ (pAppend w0 t_string 1 16 v2 1 [.string y] s3 (fun v4 s5 => R v4 s5))))) := by
  intro b h1 h2
  have kb : Keeps σ (σ.put b ⟨t_string, [], 0, (0, 0)⟩) := Keeps.put h2
  have hb0 : ∀ i, i ∈ [b] → σ i = none := fun i hi => by rw [List.mem_singleton.1 hi]; exact h2
  refine (OAcc.new (w0 := w0) (σ := σ) (ety := t_string) (n := 1) (O := OStr) h1).all (ok_str w0) h kb.le (fun es y hy => ⟨rfl, hy⟩) (by simp; omega) (by omega) fun v1 F1 s1 k1 o1 f1 => ?_
  rw [List.nil_append] at o1
  have K1 := k1.old kb hb0
  have hF1 := fresh_in kb hb0 f1
  rw [pVal1 rfl]
  refine o1.one (ok_str w0) (f := []) (y := y) ⟨rfl, rfl, by omega⟩ (by simp) (by omega) (by omega) fun v2 F2 s2 k2 o2 f2 => ?_
  refine hR v2 F2 s2 (k2.old K1 hF1) o2.osl (fresh_in K1 hF1 fun j hj => ?_)
  rcases f2 j hj with h | h | h
  · exact .inl h
  · cases h
  · exact .inr h
theorem spec_path {v : Value} {ps : List ByteArray} {y : ByteArray} (h : RSl 1 RS (Av.get w0 σ) v ps) (hl : ps.length ≤ 1000000) (hy : y.size ≤ 1000000) {R : Value → Vw → Prop}
    (hR : ∀ v' F σ', Keeps σ σ' → OStrs w0 σ' F v' (ps ++ [y]) → (∀ b, b ∈ F → σ b = none) → R v' σ') : AC Tryz.prog w0 n_spec_l3Path [v, .string y] σ R := by
  refine ac_spec_l3Path ?_
  unfold vc_spec_l3Path
  exact push_path h hl hy hR
theorem below_path {v : Value} {ps : List ByteArray} {y : ByteArray} (h : RSl 1 RS (Av.get w0 σ) v ps) (hl : ps.length ≤ 1000000) (hy : y.size ≤ 1000000) {R : Value → Vw → Prop}
    (hR : ∀ v' F σ', Keeps σ σ' → OStrs w0 σ' F v' (ps ++ [y]) → (∀ b, b ∈ F → σ b = none) → R v' σ') : AC Tryz.prog w0 n_impl_below [v, .string y] σ R := by
  refine ac_impl_below ?_
  unfold vc_impl_below
  exact push_path h hl hy hR
theorem copy_strs {v : Value} {xs : List ByteArray} (h : RSl 1 RS (Av.get w0 σ) v xs) (hl : xs.length ≤ 1000000000) {K : Value → Vw → Prop}
    (hK : ∀ v' F σ', Keeps σ σ' → OStrs w0 σ' F v' xs → (∀ b, b ∈ F → σ b = none) → K v' σ') : pNew w0 t_string [] σ (fun n0 s1 => pAppendS w0 t_string 1 16 (.slice (some (Addr.mk n0 0 none)) 0 0) v s1 (fun v2 s3 => K v2 s3)) := by
  intro b h1 h2
  have kb : Keeps σ (σ.put b ⟨t_string, [], 0, (0, 0)⟩) := Keeps.put h2
  have hb0 : ∀ i, i ∈ [b] → σ i = none := fun i hi => by rw [List.mem_singleton.1 hi]; exact h2
  refine (OAcc.new (w0 := w0) (σ := σ) (ety := t_string) (n := 1) (O := OStr) h1).all (ok_str w0) h kb.le (fun es y hy => ⟨rfl, hy⟩) (by simp; omega) (by omega) fun v' F' σ' k1 o1 f1 => ?_
  exact hK v' F' σ' (k1.old kb hb0) (by simpa using o1.osl) (fresh_in kb hb0 f1)

/-! ### By the reference's hand: a loop over the kids -/
def BLin (w0 : World) (F ety : Nat) : List Value → (AX → List Value → Vw → Prop) → Vw → Prop := fun l6 K7 s8 =>
  pLen (vget l6 6) (fun v9 => pBin Tryz.prog 3 .lss (vget l6 2) v9 (fun v10 => pIf v10 (pIndexAddr 1 (vget l6 6) (vget l6 2) (fun v11 => pLoad w0 1 v11 s8 (fun g12 => pIndexAddr 5 (vget l6 7) (vget l6 2) (fun v13 => pLoad w0 5 v13 s8 (fun g14 =>
    AC Tryz.prog w0 n_spec_l3Path [vget l6 0, g12 0] s8 (fun v15 s16 => (Stay w0 s8 s16 v13 5) ∧ (AC Tryz.prog w0 F ([v15, .agg (⟨[g14 0, g14 1, g14 2, g14 3, g14 4]⟩)]) s16 (fun v17 s18 => pAppendS w0 ety 5 64 (vget l6 1) v17 s18 (fun v19 s20 => pBin Tryz.prog 3 .add (vget l6 2) (.int .i64 1) (fun v21 =>
    K7 AX.normal [vget l6 0, v19, v21, vget l6 3, vget l6 4, vget l6 5, vget l6 6, vget l6 7] s20)))))))))) (K7 (AX.exit 0) [vget l6 0, vget l6 1, vget l6 2, vget l6 3, vget l6 4, vget l6 5, vget l6 6, vget l6 7] s8)))

/-- What a function that lists a part and all below does. -/
def Lists (w0 : World) (F ety : Nat) (O : Vw → List Nat → List Value → α → Prop) (f : Nat → List ByteArray → Tr → α) (n : Nat) : Prop :=
  ∀ {s : Vw} {v : Value} {es : List Value} {qs : List ByteArray} {x : Tr} {R : Value → Vw → Prop}, RSl 1 RS (Av.get w0 s) v qs → RT n (Av.get w0 s) es x → shortT n x → cntT n x ≤ 100000 → qs.length + sumS qs + 6 * n ≤ 1000000 →
    (∀ v' G s', Keeps s s' → OAcc w0 ety 5 O s' G v' (linT f n qs x) → (∀ i, i ∈ G → s i = none) → R v' s') → AC Tryz.prog w0 F [v, .agg ⟨es⟩] s R

theorem lin_loop {F ety n : Nat} {Rel : (Addr → Option Value) → List Value → α → Prop} {O : Vw → List Nat → List Value → α → Prop} (ok : OOk w0 5 Rel O) {f : Nat → List ByteArray → Tr → α} (call : Lists w0 F ety O f n)
    {s0 : Vw} {v u w acc d m t : Value} {ps ns : List ByteArray} {ks : List Tr} {y : α} {G : List Nat}
    (hv : RSl 1 RS (Av.get w0 σ) v ps) (hu : RSl 1 RS (Av.get w0 σ) u ns) (hw : RSl 5 (RT n) (Av.get w0 σ) w ks) (hl : ns.length = ks.length) (hns : ∀ x, x ∈ ns → x.size ≤ 5) (hks : ∀ k, k ∈ ks → shortT n k)
    (hc : ks.length + sumBy (cntT n) ks ≤ 100000) (hps : ps.length + sumS ps + 6 * (n + 1) ≤ 1000000) (hacc : OAcc w0 ety 5 O s0 G acc [y]) (k0 : Keeps σ s0) (hG : ∀ i, i ∈ G → σ i = none) {K : AX → List Value → Vw → Prop}
    (hK : ∀ v' G' s', Keeps σ s' → OAcc w0 ety 5 O s' G' v' (y :: ((ns.zip ks).map fun z => linT f n (ps ++ [z.1]) z.2).flatten) → (∀ i, i ∈ G' → σ i = none) → K (.exit 0) [v, v', .int .i64 (ns.length : Nat), d, m, t, u, w] s') :
    pLoop (BLin w0 F ety) [v, acc, .int .i64 0, d, m, t, u, w] s0 K := by
  have hl4 := hu.le
  refine loop_rule (m := ns.length) (fun c l s => ∃ (j : Nat) (G' : List Nat) (a' : Value), c + j = ns.length ∧ Keeps σ s ∧ (∀ i, i ∈ G' → σ i = none) ∧ OAcc w0 ety 5 O s G' a' (y :: (((ns.zip ks).take j).map fun z => linT f n (ps ++ [z.1]) z.2).flatten) ∧
    l = [v, a', .int .i64 (j : Nat), d, m, t, u, w]) ?_ ⟨0, G, acc, by omega, k0, hG, by simpa using hacc, rfl⟩
  rintro c l s L ⟨j, G', a', hcj, ks1, hG', ho, rfl⟩ hL
  unfold BLin
  simp only [vget, List.getD_cons_zero, List.getD_cons_succ]
  have hu' := hu.mono ks1.le fun _ _ h => h
  have hv' := hv.mono ks1.le fun _ _ h => h
  have hw' := hw.mono ks1.le fun es x => mono_rt n _ _ es x ks1.le
  rw [hu'.len, pBin_lt, pIf_d]
  refine ⟨fun hi => ?_, fun hi => ?_⟩
  · have hx1 := List.getElem?_eq_getElem (show j < ns.length by omega)
    have hx2 := List.getElem?_eq_getElem (show j < ks.length by omega)
    generalize hxi : ns[j]'(by omega) = y1 at hx1
    generalize hxk : ks[j]'(by omega) = y2 at hx2
    have h5y := hns _ (List.mem_of_getElem? hx1)
    have hky := hks _ (List.mem_of_getElem? hx2)
    have hz : (ns.zip ks)[j]? = some (y1, y2) := by rw [List.getElem?_zip_eq_some]; exact ⟨hx1, hx2⟩
    have hcy : cntT n y2 ≤ 100000 := by
      have := sumBy_mem (f := cntT n) (List.mem_of_getElem? hx2); omega
    refine RSl.at1 hu' hx1 fun g hg hgs => ?_
    rw [hg]
    refine RSl.atp hw' hx2 fun p2 g2 hg2 => ?_
    refine spec_path hv' (by omega) (by omega) fun pv PF s2 k2 op fp => ⟨k2.stay, ?_⟩
    have o2 := ho.frame ok (k2.but_at fun b hb => (ho.dom ok b hb).2)
    refine call (op.rel (ok_str w0)) (mono_rt n _ _ _ _ k2.le hg2) hky hcy (by rw [List.length_append, sumS_snoc]; simp only [List.length_cons, List.length_nil]; omega) fun v3 G3 s3 k3 o3 f3 => ?_
    have o4 := o2.frame ok (k3.but_at fun b hb => (o2.dom ok b hb).2)
    have hlen1 : (((ns.zip ks).take j).map fun z => linT f n (ps ++ [z.1]) z.2).flatten.length ≤ 100000 := by
      have q1 : (((ns.zip ks).take j).map fun z => linT f n (ps ++ [z.1]) z.2).flatten.length ≤ sumBy (fun z : ByteArray × Tr => cntT n z.2 + 1) ((ns.zip ks).take j) := flat_sum fun z _ => linT_len f n _ _
      have q2 := sumBy_le (f := fun z : ByteArray × Tr => cntT n z.2 + 1) (xs := ns.zip ks) j
      have q3 := zip_sum (f := cntT n) (ns := ns) (ks := ks)
      omega
    have hlen2 := linT_len f n (ps ++ [y1]) y2
    refine o4.allOwn ok o3.osl (fun i hi hi' => (o2.dom ok i hi').2 (f3 i hi)) (by rw [List.length_cons]; omega) (by omega) fun v5 G5 s5 k5 o5 f5 => ?_
    rw [pBin_add (by omega)]
    have K3 := (ks1.trans k2).trans k3
    refine hL _ _ (c - 1) (by omega) ⟨j + 1, G5, v5, by omega, k5.old K3 hG', fun i hi => ?_, ?_, rfl⟩
    · rcases f5 i hi with h | h | h
      · exact hG' i h
      · exact none_old (ks1.trans k2) (f3 i h)
      · exact none_old K3 h
    · rw [flat_take hz]; exact o5
  · have e : j = ns.length := by omega
    subst e
    rw [List.take_of_length_le (by rw [List.length_zip]; omega)] at ho
    exact hK a' G' s ks1 ho hG'

/-! ### By the program's hand: a function value that is called part by part -/
/-- A path that is read whatever becomes of the rows of G. -/
def PathIn (w0 : World) (s : Vw) (G : List Nat) (v : Value) (ps : List ByteArray) : Prop := ∀ s', KeepsBut G s s' → RSl 1 RS (Av.get w0 s') v ps
theorem PathIn.of_keeps {s : Vw} {G : List Nat} {v : Value} {ps : List ByteArray} (h : RSl 1 RS (Av.get w0 σ) v ps) (k : Keeps σ s) (hG : ∀ i, i ∈ G → σ i = none) : PathIn w0 s G v ps :=
  fun s' k' => h.mono (k'.old k hG).le fun _ _ h => h
theorem PathIn.of_own {s : Vw} {G P : List Nat} {v : Value} {ps : List ByteArray} (h : OStrs w0 s P v ps) (hG : ∀ i, i ∈ P → i ∉ G) : PathIn w0 s G v ps :=
  fun s' k' => (h.frame (ok_str w0) (k'.at (fun b hb => (h.dom (ok_str w0) b hb).2) hG)).rel (ok_str w0)
theorem PathIn.next {s s1 : Vw} {G G' : List Nat} {v : Value} {ps : List ByteArray} (h : PathIn w0 s G v ps) (k : KeepsBut G s s1) (hG : ∀ i, i ∈ G' → i ∈ G ∨ s i = none) : PathIn w0 s1 G' v ps :=
  fun s' k' => h s' fun i r hi hn => k' i r (k i r hi hn) fun h => by
    rcases hG i h with h | h
    · exact hn h
    · rw [hi] at h; cases h
theorem PathIn.now {s : Vw} {G : List Nat} {v : Value} {ps : List ByteArray} (h : PathIn w0 s G v ps) : RSl 1 RS (Av.get w0 s) v ps := h s (KeepsBut.refl _ _)

/-- A box that holds a list. -/
def CB (w0 : World) (ety : Nat) (O : Vw → List Nat → List Value → α → Prop) (s : Vw) (b : Nat) (G : List Nat) (xs : List α) : Prop :=
  w0.heap.size ≤ b ∧ b ∉ G ∧ ∃ v e2, s b = some ⟨e2, [v], 1, (0, 0)⟩ ∧ OAcc w0 ety 5 O s G v xs
/-- What the function value does: one more is in the box. -/
def Puts (w0 : World) (c ety : Nat) (O : Vw → List Nat → List Value → α → Prop) (f : Nat → List ByteArray → Tr → α) : Prop :=
  ∀ {n b : Nat} {s : Vw} {G : List Nat} {ps : List ByteArray} {v : Value} {es : List Value} {x : Tr} {xs : List α} {R : Value → Vw → Prop}, n ≤ 5 → RT n (Av.get w0 s) es x → shortT n x → cntT n x ≤ 100000 → RSl 1 RS (Av.get w0 s) v ps → ps.length + sumS ps ≤ 1000000 →
    CB w0 ety O s b G xs → xs.length ≤ 1000000 → (∀ G' s', KeepsBut (b :: G) s s' → CB w0 ety O s' b G' (xs ++ [f n ps x]) → (∀ i, i ∈ G' → i ∈ G ∨ s i = none) → R (.tuple ⟨[]⟩) s') →
    AC Tryz.prog w0 c [v, .agg ⟨es⟩, .pointer (some ⟨b, 0, none⟩)] s R

theorem CB.frame {ety b : Nat} {Rel : (Addr → Option Value) → List Value → α → Prop} {O : Vw → List Nat → List Value → α → Prop} (ok : OOk w0 5 Rel O) {s s' : Vw} {G : List Nat} {xs : List α} (h : CB w0 ety O s b G xs) (k : Keeps s s') : CB w0 ety O s' b G xs := by
  obtain ⟨h1, h2, v, e2, h3, h4⟩ := h
  exact ⟨h1, h2, v, e2, k _ _ h3, h4.frame ok (k.but_at fun i hi => (h4.dom ok i hi).2)⟩
theorem CB.dom {ety b : Nat} {Rel : (Addr → Option Value) → List Value → α → Prop} {O : Vw → List Nat → List Value → α → Prop} (ok : OOk w0 5 Rel O) {s : Vw} {G : List Nat} {xs : List α} (h : CB w0 ety O s b G xs) : ∀ i, i ∈ b :: G → s i ≠ none := by
  obtain ⟨h1, h2, v, e2, h3, h4⟩ := h
  intro i hi
  rcases List.mem_cons.1 hi with rfl | hi
  · rw [h3]; simp
  · exact (h4.dom ok i hi).2

set_option maxRecDepth 20000 in
theorem each_list {c ety : Nat} {Rel : (Addr → Option Value) → List Value → α → Prop} {O : Vw → List Nat → List Value → α → Prop} (ok : OOk w0 5 Rel O) {f : Nat → List ByteArray → Tr → α} (clo : Puts w0 c ety O f) :
    ∀ (n : Nat) {σ0 s : Vw} {b : Nat} {G : List Nat} {xs : List α} {ps : List ByteArray} {v : Value} {es : List Value} {x : Tr} {R : Value → Vw → Prop}, n ≤ 5 →
    RT n (Av.get w0 σ0) es x → shortT n x → cntT n x ≤ 100000 → Keeps σ0 s → (∀ i, i ∈ b :: G → σ0 i = none) → CB w0 ety O s b G xs → PathIn w0 s (b :: G) v ps → ps.length + sumS ps + 6 * n ≤ 1000000 → xs.length + cntT n x ≤ 900000 →
    (∀ G' s', KeepsBut (b :: G) s s' → CB w0 ety O s' b G' (xs ++ linT f n ps x) → (∀ i, i ∈ G' → i ∈ G ∨ s i = none) → R (.tuple ⟨[]⟩) s') →
    AC Tryz.prog w0 n_impl_Tree_each [.agg ⟨es⟩, v, .func (.func c) ⟨[]⟩ ⟨[.pointer (some ⟨b, 0, none⟩)]⟩] s R := by
  intro n
  induction n with
  | zero => intro σ0 s b G xs ps v es x R _ h; exact h.elim
  | succ n ih =>
    intro σ0 s b G xs ps v es x R hn5 h hx hc k0 hG0 hB hP hps hlen hR
    obtain ⟨d, m, t, ns, ks⟩ := x
    have h0 := h
    have hx0 := hx
    obtain ⟨u, w, rfl, h2, h3, h4, h5⟩ := h
    obtain ⟨hm, ht, hl, hns, hks⟩ := hx
    have hcnt : cntT (n + 1) (.mk d m t ns ks) = ks.length + sumBy (cntT n) ks := rfl
    refine ac_impl_Tree_each ?_
    unfold vc_impl_Tree_each
    rw [pVal_5 rfl rfl rfl h4.one h5.one]
    simp only [cellOf_agg, List.getD_cons_zero, List.getD_cons_succ]
    refine ⟨c, [], [.pointer (some ⟨b, 0, none⟩)], rfl, ?_⟩
    refine clo hn5 (mono_rt _ _ _ _ _ k0.le h0) hx0 hc hP.now (by omega) hB (by omega) fun G1 s1 k1 hB1 hG1 => ?_
    rw [h4.len]
    have hl4 := h4.le
    have hG1σ : ∀ i, i ∈ b :: G1 → σ0 i = none := fun i hi => by
      rcases List.mem_cons.1 hi with rfl | hi
      · exact hG0 _ List.mem_cons_self
      · rcases hG1 i hi with h | h
        · exact hG0 i (List.mem_cons_of_mem _ h)
        · exact none_old k0 h
    have hG1' : ∀ i, i ∈ b :: G1 → i ∈ b :: G ∨ s i = none := fun i hi => by
      rcases List.mem_cons.1 hi with rfl | hi
      · exact .inl List.mem_cons_self
      · rcases hG1 i hi with h | h
        · exact .inl (List.mem_cons_of_mem _ h)
        · exact .inr h
    have hP1 := hP.next k1 hG1'
    rw [linT_step] at hR
    refine loop_rule (m := ns.length) (fun q l st => ∃ (j : Nat) (G' : List Nat), q + j = ns.length ∧ KeepsBut (b :: G) s st ∧ Keeps σ0 st ∧ (∀ i, i ∈ b :: G' → i ∈ b :: G ∨ s i = none) ∧
        CB w0 ety O st b G' (xs ++ f (n + 1) ps (.mk d m t ns ks) :: (((ns.zip ks).take j).map fun y => linT f n (ps ++ [y.1]) y.2).flatten) ∧ PathIn w0 st (b :: G') v ps ∧
        l = [v, .func (.func c) ⟨[]⟩ ⟨[.pointer (some ⟨b, 0, none⟩)]⟩, u, .int .i64 (ns.length : Nat), .int .i64 (j : Nat), .bool d, .int .i64 m, .string t, u, w]) ?_
      ⟨0, G1, by omega, k1, k1.old k0 hG0, hG1', by simpa using hB1, hP1, rfl⟩
    rintro q l st L ⟨j, G', hcj, kst, k0st, hG', hB', hP', rfl⟩ hL
    simp only [vget, List.getD_cons_zero, List.getD_cons_succ]
    rw [pBin_lt, pIf_d]
    refine ⟨fun hi => ?_, fun hi => ?_⟩
    · have hx1 := List.getElem?_eq_getElem (show j < ns.length by omega)
      have hx2 := List.getElem?_eq_getElem (show j < ks.length by omega)
      generalize hxi : ns[j]'(by omega) = y1 at hx1
      generalize hxk : ks[j]'(by omega) = y2 at hx2
      have h5y := hns _ (List.mem_of_getElem? hx1)
      have hky := hks _ (List.mem_of_getElem? hx2)
      have hz : (ns.zip ks)[j]? = some (y1, y2) := by rw [List.getElem?_zip_eq_some]; exact ⟨hx1, hx2⟩
      have hcy := sumBy_mem (f := cntT n) (List.mem_of_getElem? hx2)
      refine RSl.at1 (h4.mono k0st.le fun _ _ h => h) hx1 fun g hg hgs => ?_
      have h5b : RSl 5 (RB (RT n) (Av.get w0 σ0)) (Av.get w0 st) w ks := by
        obtain ⟨A, cap, e1, e2, e3⟩ := h5
        refine ⟨A, cap, e1, e2, fun j x hj => ?_⟩
        obtain ⟨a, es, q1, q2, q3, q4⟩ := e3 j x hj
        refine ⟨a, es, q1, q2, fun i hi => ?_, q4⟩
        have := q3 i hi
        rw [List.getElem?_eq_getElem (by omega)] at this ⊢
        exact k0st.le _ _ this
      refine RSl.atp h5b hx2 fun p2 g2 hg2 => ?_
      rw [hg]
      refine below_path hP'.now (by omega) (by omega) fun pv PF s2 k2 op fp => ⟨k2.stay, ?_⟩
      have hB2 := hB'.frame ok k2
      have hG'σ : ∀ i, i ∈ b :: G' → σ0 i = none := fun i hi => by
        rcases hG' i hi with h | h
        · exact hG0 i h
        · exact none_old k0 h
      have hq1 : (((ns.zip ks).take j).map fun y => linT f n (ps ++ [y.1]) y.2).flatten.length + (cntT n y2 + 1) ≤ ks.length + sumBy (cntT n) ks := by
        have q1 : (((ns.zip ks).take j).map fun z => linT f n (ps ++ [z.1]) z.2).flatten.length ≤ sumBy (fun z : ByteArray × Tr => cntT n z.2 + 1) ((ns.zip ks).take j) := flat_sum fun z _ => linT_len f n _ _
        have q2 := sumBy_le (f := fun z : ByteArray × Tr => cntT n z.2 + 1) (xs := ns.zip ks) (j + 1)
        have q4 := sumBy_take (f := fun z : ByteArray × Tr => cntT n z.2 + 1) hz
        have q3 := zip_sum (f := cntT n) (ns := ns) (ks := ks)
        simp only at q4
        omega
      refine ih (by omega) hg2 hky (by omega) (k0st.trans k2) hG'σ hB2 (PathIn.of_own op fun i hi hi' => hB'.dom ok i hi' (fp i hi)) (by rw [List.length_append, sumS_snoc]; simp only [List.length_cons, List.length_nil]; omega)
        (by rw [List.length_append, List.length_cons]; omega) fun G3 s3 k3 hB3 hG3 => ?_
      rw [pBin_add (by omega)]
      have hst : ∀ i, i ∈ G3 → i ∈ G' ∨ st i = none := fun i hi => by
        rcases hG3 i hi with h | h
        · exact .inl h
        · exact .inr (none_old k2 h)
      have k23 : KeepsBut (b :: G') st s3 := fun i r hi hn => k3 i r (k2 i r hi) hn
      have kall : KeepsBut (b :: G) s s3 := fun i r hi hiG => k23 i r (kst i r hi hiG) fun h => by
        rcases hG' i h with h | h
        · exact hiG h
        · rw [hi] at h; cases h
      have hsn : ∀ i, i ∈ b :: G3 → i ∈ b :: G' ∨ st i = none := fun i hi => by
        rcases List.mem_cons.1 hi with rfl | hi
        · exact .inl List.mem_cons_self
        · rcases hst i hi with h | h
          · exact .inl (List.mem_cons_of_mem _ h)
          · exact .inr h
      refine hL _ _ (q - 1) (by omega) ⟨j + 1, G3, by omega, kall, k23.old k0st hG'σ, fun i hi => ?_, ?_, hP'.next k23 hsn, by simp⟩
      · rcases hsn i hi with h | h
        · exact hG' i h
        · by_cases hiG : i ∈ b :: G
          · exact .inl hiG
          · refine .inr ?_
            cases hs : s i with
            | none => rfl
            | some r => rw [kst i r hs hiG] at h; cases h
      · rw [flat_take hz]
        have e : xs ++ f (n + 1) ps (.mk d m t ns ks) :: ((((ns.zip ks).take j).map fun y => linT f n (ps ++ [y.1]) y.2).flatten ++ linT f n (ps ++ [y1]) y2) = (xs ++ f (n + 1) ps (.mk d m t ns ks) :: (((ns.zip ks).take j).map fun y => linT f n (ps ++ [y.1]) y.2).flatten) ++ linT f n (ps ++ [y1]) y2 := by simp
        rw [e]; exact hB3
    · have e : j = ns.length := by omega
      subst e
      rw [List.take_of_length_le (by rw [List.length_zip]; omega)] at hB'
      refine hR G' st kst hB' fun i hi => ?_
      rcases hG' i (List.mem_cons_of_mem _ hi) with h | h
      · rcases List.mem_cons.1 h with h | h
        · exact absurd (h ▸ hi) hB'.2.1
        · exact .inl h
      · exact .inr h
end
end Go.Proofs.YtkbhjejalkbogaaGreat

/- A box into which one more is put; a row that stays. -/
set_option linter.unusedVariables false
set_option linter.unusedSimpArgs false
namespace Go.Proofs.YtkbhjejalkbogaaGreat
open Go Go.Av

section
variable {w0 : World} {σ : Vw} {α : Type}

theorem stay_row {s s' : Vw} {b n : Nat} {r : Row} (hb : w0.heap.size ≤ b) (h : s b = some r) (h' : s' b = some r) : Stay w0 s s' (.pointer (some ⟨b, 0, none⟩)) n := fun a g e hc j hj => by
  cases e
  have := hc j hj
  rw [addr_add, get_row hb h] at this
  rw [addr_add, get_row hb h']
  exact this
theorem load_row {s : Vw} {b : Nat} {r : Row} {v : Value} (hb : w0.heap.size ≤ b) (hr : s b = some r) (hc : r.cells = [v]) {K : (Nat → Value) → Prop} (hK : ∀ g : Nat → Value, g 0 = v → K g) : pLoad w0 1 (.pointer (some ⟨b, 0, none⟩)) s K := by
  refine ⟨⟨b, 0, none⟩, fun _ => v, rfl, fun i hi => ?_, hK _ rfl⟩
  have e : i = 0 := by omega
  subst e
  rw [addr_add, get_row hb hr, hc]; rfl

theorem box_push {ety b e2 : Nat} {Rel : (Addr → Option Value) → List Value → α → Prop} {O : Vw → List Nat → List Value → α → Prop} (ok : OOk w0 5 Rel O) {s : Vw} {G P : List Nat} {v : Value} {es : List Value} {xs : List α} {y : α}
    (hb : w0.heap.size ≤ b) (hbG : b ∉ G) (hr : s b = some ⟨e2, [v], 1, (0, 0)⟩) (ho : OAcc w0 ety 5 O s G v xs) (hy : O s P es y) (hP : ∀ i, i ∈ P → i ∉ b :: G) (hl : xs.length ≤ 1000000) {R : Value → Vw → Prop}
    (hR : ∀ G' s', KeepsBut (b :: G) s s' → CB w0 ety O s' b G' (xs ++ [y]) → (∀ i, i ∈ G' → i ∈ G ∨ i ∈ P ∨ s i = none) → R (.tuple ⟨[]⟩) s') :
    allOne es ∧ pAppend w0 ety 5 64 v 1 es s (fun v7 s8 => pVal false 1 v7 (pStore (.pointer (some ⟨b, 0, none⟩)) [v7] s8 (fun s9 => R (.tuple ⟨[]⟩) s9))) := by
  refine ho.one ok hy (fun i hi hi' => hP i hi (List.mem_cons_of_mem _ hi')) (by omega) (by omega) fun v' F' s8 k8 o8 f8 => ?_
  have hr8 := k8 b _ hr hbG
  have hbF : b ∉ F' := fun h => by
    rcases f8 b h with h | h | h
    · exact hbG h
    · exact hP b h List.mem_cons_self
    · rw [hr] at h; cases h
  refine elem_store (A := []) (C := []) (x := v) hr8 rfl rfl (OSl.one' o8.osl) ?_
  simp only [List.nil_append, List.append_nil]
  have kk : KeepsBut (b :: G) s (s8.put b ⟨e2, [v'], 1, (0, 0)⟩) := fun i r hi hn => by
    have h1 : i ≠ b := fun e => hn (e ▸ List.mem_cons_self)
    rw [put_ne h1]
    exact k8 i r hi fun h => hn (List.mem_cons_of_mem _ h)
  refine hR F' _ kk ⟨hb, hbF, v', e2, put_at, o8.frame ok fun i hi => put_ne fun e => hbF (e ▸ hi)⟩ f8

/-- A new box that holds no elements. -/
theorem box_new {ety e2 : Nat} {O : Vw → List Nat → List Value → α → Prop} {R : Nat → Vw → Prop} (hR : ∀ b b0 s', Keeps σ s' → CB w0 ety O s' b [b0] [] → σ b = none → σ b0 = none → R b s') :
    pNew w0 ety [] σ (fun n0 s1 => pNew w0 e2 [.slice none 0 0] s1 (fun n2 s3 => pVal false 1 (.slice (some (Addr.mk n0 0 none)) 0 0) (pStore (.pointer (some (Addr.mk n2 0 none))) [.slice (some (Addr.mk n0 0 none)) 0 0] s3 (fun s4 => R n2 s4)))) := by
  intro b0 h1 h2 b h3 h4
  refine elem_store (A := []) (C := []) (x := .slice none 0 0) put_at rfl rfl rfl ?_
  simp only [List.nil_append, List.append_nil]
  rw [put_put]
  have k0 : Keeps σ (σ.put b0 ⟨ety, [], 0, (0, 0)⟩) := Keeps.put h2
  have k1 : Keeps (σ.put b0 ⟨ety, [], 0, (0, 0)⟩) ((σ.put b0 ⟨ety, [], 0, (0, 0)⟩).put b ⟨e2, [.slice (some ⟨b0, 0, none⟩) 0 0], 1, (0, 0)⟩) := Keeps.put h4
  have hne : b ≠ b0 := fun e => by rw [e] at h4; simp [Vw.put] at h4
  have o0 : OAcc w0 ety 5 O (σ.put b0 ⟨ety, [], 0, (0, 0)⟩) [b0] (.slice (some ⟨b0, 0, none⟩) 0 0) [] := OAcc.new h1
  refine hR b b0 _ (k0.trans k1) ⟨h3, fun h => hne (List.mem_singleton.1 h), _, e2, put_at, ?_⟩ (none_old k0 h4) h2
  refine ⟨by simp, by simp, .inr ⟨b0, 0, [], [], rfl, by simp, h1, ?_, rfl, rfl, rfl, fun j c x f h => by simp at h⟩⟩
  rw [put_ne (Ne.symm hne), put_at]; simp
theorem box_read {ety b : Nat} {O : Vw → List Nat → List Value → α → Prop} {s : Vw} {G : List Nat} {xs : List α} (h : CB w0 ety O s b G xs) {K : Value → Prop} (hK : ∀ v, OAcc w0 ety 5 O s G v xs → K v) : pLoad w0 1 (.pointer (some (Addr.mk b 0 none))) s (fun g => K (g 0)) := by
  obtain ⟨h1, h2, v, e2, h3, h4⟩ := h
  refine load_row h1 h3 rfl fun g hg => ?_
  rw [hg]; exact hK v h4
theorem nil_in {s : Vw} {G : List Nat} : PathIn w0 s G (.slice none 0 0) [] := fun s' _ => ⟨none, 0, rfl, by simp, fun j x h => by simp at h⟩
end
theorem sumBy_bound {α : Type} {f : α → Nat} {c : Nat} : ∀ {xs : List α}, (∀ x, x ∈ xs → f x ≤ c) → sumBy f xs ≤ c * xs.length
  | [], _ => by simp [sumBy]
  | a :: r, h => by
    have h1 := h a (by simp)
    have h2 := sumBy_bound (xs := r) fun x hx => h x (by simp [hx])
    simp only [sumBy, List.length_cons, Nat.mul_add, Nat.mul_one]; omega
end Go.Proofs.YtkbhjejalkbogaaGreat

/- Texts in order; two lists of named parts in step. -/
set_option linter.unusedVariables false
set_option linter.unusedSimpArgs false
namespace Go.Proofs.YtkbhjejalkbogaaGreat
open Go Go.Av

theorem bl_trans : ∀ (a b c : List UInt8), Op.bytesLess a b = true → Op.bytesLess b c = true → Op.bytesLess a c = true
  | _, [], _, h, _ => by simp [Op.bytesLess] at h
  | _, _ :: _, [], _, h => by simp [Op.bytesLess] at h
  | [], _ :: _, _ :: _, _, _ => by simp [Op.bytesLess]
  | x :: r, y :: q, z :: s, h, h' => by
    simp only [Op.bytesLess, Bool.or_eq_true, Bool.and_eq_true, decide_eq_true_eq, beq_iff_eq, UInt8.lt_iff_toNat_lt] at h h' ⊢
    rcases h with h | ⟨rfl, h⟩ <;> rcases h' with h' | ⟨rfl, h'⟩
    · left; omega
    · left; exact h
    · left; exact h'
    · right; exact ⟨rfl, bl_trans r q s h h'⟩
theorem strLt_trans {a b c : ByteArray} (h : strLt a b = true) (h' : strLt b c = true) : strLt a c = true := bl_trans _ _ _ h h'
theorem strLt_asymm {a b : ByteArray} (h : strLt a b = true) : strLt b a = false := by
  cases h' : strLt b a with
  | false => rfl
  | true => have := strLt_trans h h'; rw [strLt_irrefl] at this; cases this
theorem strLt_ne {a b : ByteArray} (h : strLt a b = true) : a ≠ b := fun e => by rw [e, strLt_irrefl] at h; cases h

def AscS (l : List ByteArray) : Prop := l.Pairwise fun a b => strLt a b = true
theorem asc_unique : ∀ {l l' : List ByteArray}, AscS l → AscS l' → (∀ x, x ∈ l ↔ x ∈ l') → l = l'
  | [], [], _, _, _ => rfl
  | [], y :: q, _, _, h => absurd ((h y).2 List.mem_cons_self) (by simp)
  | x :: r, [], _, _, h => absurd ((h x).1 List.mem_cons_self) (by simp)
  | x :: r, y :: q, h1, h2, h => by
    obtain ⟨a1, a2⟩ := List.pairwise_cons.1 h1
    obtain ⟨b1, b2⟩ := List.pairwise_cons.1 h2
    have e : x = y := by
      rcases List.mem_cons.1 ((h x).1 List.mem_cons_self) with e | hx
      · exact e
      · rcases List.mem_cons.1 ((h y).2 List.mem_cons_self) with e | hy
        · exact e.symm
        · have := strLt_trans (a1 y hy) (b1 x hx)
          rw [strLt_irrefl] at this; cases this
    subst e
    rw [asc_unique a2 b2 fun z => ?_]
    constructor
    · intro hz
      rcases List.mem_cons.1 ((h z).1 (List.mem_cons_of_mem _ hz)) with e | h'
      · exact absurd e.symm (strLt_ne (a1 z hz))
      · exact h'
    · intro hz
      rcases List.mem_cons.1 ((h z).2 (List.mem_cons_of_mem _ hz)) with e | h'
      · exact absurd e.symm (strLt_ne (b1 z hz))
      · exact h'
theorem asc_of : ∀ {l : List ByteArray}, (∀ (j : Nat) (x y : ByteArray), l[j]? = some x → l[j + 1]? = some y → strLt x y = true) → AscS l
  | [], _ => List.Pairwise.nil
  | [a], _ => List.pairwise_singleton _ _
  | a :: b :: r, h => by
    have ih : AscS (b :: r) := asc_of fun j x y hx hy => h (j + 1) x y (by simpa using hx) (by simpa using hy)
    have hab := h 0 a b rfl rfl
    refine List.pairwise_cons.2 ⟨fun z hz => ?_, ih⟩
    rcases List.mem_cons.1 hz with rfl | hz
    · exact hab
    · exact strLt_trans hab ((List.pairwise_cons.1 ih).1 z hz)
theorem asc_names {ns : List ByteArray} (h : namesP ns) : AscS ns := asc_of fun j x y hx hy => by
  have := h (j + 1) y hy
  simp only [nameAt, Bool.and_eq_true] at this
  have h2 := this.2
  simp only [prevLt, hx] at h2
  exact h2

/-! ### Sorted and compacted -/
section
variable {α : Type} [DecidableEq α] [Inhabited α]
theorem compactUpTo_mem (d : Array α) : ∀ (m : Nat), ∀ x, x ∈ Lib.compactUpTo d m ↔ ∃ j, j < m ∧ d[j]! = x
  | 0, x => by simp [Lib.compactUpTo]
  | m + 1, x => by
    rw [Lib.compactUpTo_succ, List.mem_append, compactUpTo_mem d m x]
    constructor
    · rintro (⟨j, hj, e⟩ | h)
      · exact ⟨j, by omega, e⟩
      · split at h
        · simp at h; exact ⟨m, by omega, h.symm⟩
        · cases h
    · rintro ⟨j, hj, e⟩
      by_cases hjm : j = m
      · subst hjm
        by_cases hk : Lib.keeps d j = true
        · rw [if_pos hk]; simp [e]
        · left
          have hk' : ¬ (j = 0 ∨ d[j]! ≠ d[j - 1]!) := by simpa [Lib.keeps] using hk
          have h0 : ¬ j = 0 := fun h => hk' (.inl h)
          have h1 : d[j]! = d[j - 1]! := Decidable.not_not.1 fun h => hk' (.inr h)
          exact ⟨j - 1, by omega, by rw [← h1]; exact e⟩
      · exact .inl ⟨j, by omega, e⟩
theorem compactUpTo_asc {lt : α → α → Prop} (d : Array α) (trans : ∀ a b c, lt a b → lt b c → lt a c) (hle : ∀ i j, i < j → j < d.size → d[i]! = d[j]! ∨ lt d[i]! d[j]!) : ∀ (m : Nat), m ≤ d.size → (Lib.compactUpTo d m).Pairwise lt
  | 0, _ => by simp [Lib.compactUpTo]
  | m + 1, hm => by
    rw [Lib.compactUpTo_succ]
    have ih := compactUpTo_asc d trans hle m (by omega)
    refine List.pairwise_append.2 ⟨ih, by split <;> simp, fun a ha b hb => ?_⟩
    split at hb
    · rename_i hk
      simp at hb
      subst hb
      obtain ⟨j, hj, rfl⟩ := (compactUpTo_mem d m a).1 ha
      have hk' : m = 0 ∨ d[m]! ≠ d[m - 1]! := by simpa [Lib.keeps] using hk
      rcases hk' with h | h
      · omega
      · have h1 : lt d[m - 1]! d[m]! := (hle (m - 1) m (by omega) (by omega)).resolve_left fun e => h e.symm
        by_cases hjm : j = m - 1
        · subst hjm; exact h1
        · rcases hle j (m - 1) (by omega) (by omega) with e | e
          · rw [e]; exact h1
          · exact trans _ _ _ e h1
    · cases hb
end
theorem leL_iff {x y : List UInt8} : decide (x ≤ y) = true ↔ Op.bytesLess y x = false := by
  rw [bytesLess_eq, decide_eq_true_eq, decide_eq_false_iff_not]
  exact Iff.rfl
theorem sorted_str (zs : List (List UInt8)) : (zs.mergeSort fun x y => decide (x ≤ y)).Pairwise (fun a b => a = b ∨ Op.bytesLess a b = true) := by
  have h := List.pairwise_mergeSort (le := fun x y : List UInt8 => decide (x ≤ y)) (fun a b c h1 h2 => by
      rw [leL_iff] at h1 h2 ⊢
      cases h : Op.bytesLess c a with
      | false => rfl
      | true =>
        by_cases e : a = b
        · subst e; rw [h] at h2; cases h2
        · have : Op.bytesLess a b = true := by
            cases h3 : Op.bytesLess a b with
            | true => rfl
            | false => exact absurd (bl_total _ _ h3 h1) e
          rw [bl_trans _ _ _ h this] at h2; cases h2) (fun a b => by
      simp only [Bool.or_eq_true]
      rw [leL_iff, leL_iff]
      cases h : Op.bytesLess b a with
      | false => exact .inl rfl
      | true =>
        refine .inr ?_
        cases h' : Op.bytesLess a b with
        | false => rfl
        | true => have := bl_trans _ _ _ h h'; rw [bl_irrefl] at this; cases this) zs
  refine h.imp fun {a b} hab => ?_
  rw [leL_iff] at hab
  by_cases e : a = b
  · exact .inl e
  · refine .inr ?_
    cases h3 : Op.bytesLess a b with
    | true => rfl
    | false => exact absurd (bl_total _ _ h3 hab) e
def sortU (zs : List (List UInt8)) : List (List UInt8) := Lib.compact (zs.mergeSort fun x y => decide (x ≤ y))
theorem get_bang {l : List (List UInt8)} {j : Nat} (h : j < l.length) : l.toArray[j]! = l[j] := by rw [getElem!_pos _ j (by simpa using h)]; simp
theorem sortU_mem (zs : List (List UInt8)) (x : List UInt8) : x ∈ sortU zs ↔ x ∈ zs := by
  unfold sortU Lib.compact
  rw [compactUpTo_mem]
  have hp := List.mergeSort_perm zs (fun x y => decide (x ≤ y))
  generalize hl : (zs.mergeSort fun x y => decide (x ≤ y)) = l at hp
  rw [← hp.mem_iff]
  constructor
  · rintro ⟨j, hj, rfl⟩; rw [get_bang hj]; exact List.getElem_mem hj
  · intro hx
    obtain ⟨j, hj, rfl⟩ := List.getElem_of_mem hx
    exact ⟨j, hj, get_bang hj⟩
theorem sortU_asc (zs : List (List UInt8)) : (sortU zs).Pairwise (fun a b => Op.bytesLess a b = true) := by
  unfold sortU Lib.compact
  have hs := sorted_str zs
  generalize hl : (zs.mergeSort fun x y => decide (x ≤ y)) = l at hs
  refine compactUpTo_asc l.toArray bl_trans (fun i j hij hj => ?_) l.length (by simp)
  have hj' : j < l.length := by simpa using hj
  rw [get_bang hj', get_bang (show i < l.length by omega)]
  exact List.pairwise_iff_getElem.1 hs i j (by omega) hj' hij

/-! ### In step -/
def lk : List (ByteArray × Tr) → ByteArray → Option Tr
  | [], _ => none
  | (y, s) :: r, x => if y = x then some s else lk r x
theorem lk_none {l : List (ByteArray × Tr)} {x : ByteArray} (h : ∀ y, y ∈ l.map (·.1) → y ≠ x) : lk l x = none := by
  induction l with
  | nil => rfl
  | cons a r ih =>
    obtain ⟨y, s⟩ := a
    rw [lk, if_neg (h y (by simp)), ih fun z hz => h z (by simp at hz ⊢; exact .inr hz)]
theorem lk_zip : ∀ {ns : List ByteArray} {ks : List Tr}, ns.length = ks.length → ∀ x, lk (ns.zip ks) x = (nidx ns x).bind fun j => ks[j]?
  | [], [], _, x => rfl
  | [], _ :: _, h, _ => by simp at h
  | _ :: _, [], h, _ => by simp at h
  | n :: ns, k :: ks, h, x => by
    rw [List.zip_cons_cons, lk, nidx]
    split
    · rfl
    · rw [lk_zip (by simpa using h)]
      cases nidx ns x with
      | none => rfl
      | some j => simp
theorem zip_fst : ∀ {ns : List ByteArray} {ks : List Tr}, ns.length = ks.length → (ns.zip ks).map (·.1) = ns
  | [], [], _ => rfl
  | [], _ :: _, h => by simp at h
  | _ :: _, [], h => by simp at h
  | n :: ns, k :: ks, h => by rw [List.zip_cons_cons, List.map_cons, zip_fst (by simpa using h)]

abbrev Pr := ByteArray × Option Tr × Option Tr
def mrgK : List (ByteArray × Tr) → List (ByteArray × Tr) → List Pr
  | [], xb => xb.map fun y => (y.1, none, some y.2)
  | a :: xa, [] => (a :: xa).map fun y => (y.1, some y.2, none)
  | a :: xa, b :: xb =>
    if strLt a.1 b.1 = true then (a.1, some a.2, none) :: mrgK xa (b :: xb)
    else if strLt b.1 a.1 = true then (b.1, none, some b.2) :: mrgK (a :: xa) xb
    else (a.1, some a.2, some b.2) :: mrgK xa xb
termination_by xa xb => xa.length + xb.length

theorem lk_self : ∀ {l : List (ByteArray × Tr)}, AscS (l.map (·.1)) → ∀ y, y ∈ l → lk l y.1 = some y.2
  | (n, k) :: r, h, y, hy => by
    rw [List.map_cons] at h
    obtain ⟨h1, h2⟩ := List.pairwise_cons.1 h
    rw [lk]
    rcases List.mem_cons.1 hy with rfl | hy
    · rw [if_pos rfl]
    · rw [if_neg (strLt_ne (h1 y.1 (List.mem_map.2 ⟨y, hy, rfl⟩))), lk_self h2 y hy]
theorem mrgK_spec : ∀ (xa xb : List (ByteArray × Tr)), AscS (xa.map (·.1)) → AscS (xb.map (·.1)) →
    AscS ((mrgK xa xb).map (·.1)) ∧ (∀ x, x ∈ (mrgK xa xb).map (·.1) ↔ x ∈ xa.map (·.1) ∨ x ∈ xb.map (·.1)) ∧ ∀ z, z ∈ mrgK xa xb → z.2 = (lk xa z.1, lk xb z.1)
  | [], xb, ha, hb => by
    rw [mrgK]
    have e : ((xb.map fun y => ((y.1, none, some y.2) : Pr)).map (·.1)) = xb.map (·.1) := by simp [Function.comp_def]
    rw [e]
    refine ⟨hb, fun x => by simp, fun z hz => ?_⟩
    obtain ⟨y, hy, rfl⟩ := List.mem_map.1 hz
    simp only [lk, lk_self hb y hy]
  | a :: xa, [], ha, hb => by
    rw [mrgK]
    have e : (((a :: xa).map fun y => ((y.1, some y.2, none) : Pr)).map (·.1)) = (a :: xa).map (·.1) := by simp [Function.comp_def]
    rw [e]
    refine ⟨ha, fun x => by simp, fun z hz => ?_⟩
    obtain ⟨y, hy, rfl⟩ := List.mem_map.1 hz
    simp only [lk_self ha y hy]
    rfl
  | a :: xa, b :: xb, ha, hb => by
    obtain ⟨a1, a2⟩ := List.pairwise_cons.1 ha
    obtain ⟨b1, b2⟩ := List.pairwise_cons.1 hb
    rw [mrgK]
    split
    · rename_i h
      obtain ⟨i1, i2, i3⟩ := mrgK_spec xa (b :: xb) a2 hb
      have hlt : ∀ x, x ∈ (mrgK xa (b :: xb)).map (·.1) → strLt a.1 x = true := fun x hx => by
        rcases (i2 x).1 hx with h' | h'
        · exact a1 x h'
        · rcases List.mem_cons.1 h' with e | h'
          · rw [e]; exact h
          · exact strLt_trans h (b1 x h')
      refine ⟨List.pairwise_cons.2 ⟨hlt, i1⟩, fun x => ?_, fun z hz => ?_⟩
      · simp only [List.map_cons, List.mem_cons] at i2 ⊢
        rw [i2 x]
        constructor
        · rintro (h | h | h | h)
          · exact .inl (.inl h)
          · exact .inl (.inr h)
          · exact .inr (.inl h)
          · exact .inr (.inr h)
        · rintro ((h | h) | (h | h))
          · exact .inl h
          · exact .inr (.inl h)
          · exact .inr (.inr (.inl h))
          · exact .inr (.inr (.inr h))
      · rcases List.mem_cons.1 hz with rfl | hz
        · have e1 : lk (a :: xa) a.1 = some a.2 := lk_self ha a List.mem_cons_self
          have e2 : lk (b :: xb) a.1 = none := lk_none fun y hy => by
            rcases List.mem_cons.1 hy with e | hy
            · rw [e]; exact (strLt_ne h).symm
            · exact (strLt_ne (strLt_trans h (b1 y hy))).symm
          simp only [e1, e2]
        · have hz1 := hlt z.1 (List.mem_map.2 ⟨z, hz, rfl⟩)
          rw [i3 z hz]
          congr 1
          obtain ⟨an, ak⟩ := a
          rw [lk, if_neg (strLt_ne hz1)]
    · rename_i h
      split
      · rename_i h2
        obtain ⟨i1, i2, i3⟩ := mrgK_spec (a :: xa) xb ha b2
        have hlt : ∀ x, x ∈ (mrgK (a :: xa) xb).map (·.1) → strLt b.1 x = true := fun x hx => by
          rcases (i2 x).1 hx with h' | h'
          · rcases List.mem_cons.1 h' with e | h'
            · rw [e]; exact h2
            · exact strLt_trans h2 (a1 x h')
          · exact b1 x h'
        refine ⟨List.pairwise_cons.2 ⟨hlt, i1⟩, fun x => ?_, fun z hz => ?_⟩
        · simp only [List.map_cons, List.mem_cons] at i2 ⊢
          rw [i2 x]
          constructor
          · rintro (h | (h | h) | h)
            · exact .inr (.inl h)
            · exact .inl (.inl h)
            · exact .inl (.inr h)
            · exact .inr (.inr h)
          · rintro ((h | h) | (h | h))
            · exact .inr (.inl (.inl h))
            · exact .inr (.inl (.inr h))
            · exact .inl h
            · exact .inr (.inr h)
        · rcases List.mem_cons.1 hz with rfl | hz
          · have e1 : lk (b :: xb) b.1 = some b.2 := lk_self hb b List.mem_cons_self
            have e2 : lk (a :: xa) b.1 = none := lk_none fun y hy => by
              rcases List.mem_cons.1 hy with e | hy
              · rw [e]; exact (strLt_ne h2).symm
              · exact (strLt_ne (strLt_trans h2 (a1 y hy))).symm
            simp only [e1, e2]
          · have hz1 := hlt z.1 (List.mem_map.2 ⟨z, hz, rfl⟩)
            rw [i3 z hz]
            congr 1
            obtain ⟨bn, bk⟩ := b
            rw [lk, if_neg (strLt_ne hz1)]
      · rename_i h2
        have eab : a.1 = b.1 := strLt_total (by simpa using h) (by simpa using h2)
        obtain ⟨i1, i2, i3⟩ := mrgK_spec xa xb a2 b2
        have hlt : ∀ x, x ∈ (mrgK xa xb).map (·.1) → strLt a.1 x = true := fun x hx => by
          rcases (i2 x).1 hx with h' | h'
          · exact a1 x h'
          · rw [eab]; exact b1 x h'
        refine ⟨List.pairwise_cons.2 ⟨hlt, i1⟩, fun x => ?_, fun z hz => ?_⟩
        · simp only [List.map_cons, List.mem_cons] at i2 ⊢
          rw [i2 x]
          constructor
          · rintro (h | h | h)
            · exact .inl (.inl h)
            · exact .inl (.inr h)
            · exact .inr (.inr h)
          · rintro ((h | h) | (h | h))
            · exact .inl h
            · exact .inr (.inl h)
            · exact .inl (h.trans eab.symm)
            · exact .inr (.inr h)
        · rcases List.mem_cons.1 hz with rfl | hz
          · have e1 : lk (a :: xa) a.1 = some a.2 := lk_self ha a List.mem_cons_self
            have e2 : lk (b :: xb) a.1 = some b.2 := by rw [eab]; exact lk_self hb b List.mem_cons_self
            simp only [e1, e2]
          · have hz1 := hlt z.1 (List.mem_map.2 ⟨z, hz, rfl⟩)
            rw [i3 z hz]
            obtain ⟨an, ak⟩ := a
            obtain ⟨bn, bk⟩ := b
            simp only at eab hz1
            rw [lk, if_neg (strLt_ne hz1), lk, if_neg (by rw [← eab]; exact strLt_ne hz1)]
termination_by xa xb => xa.length + xb.length

/-- By the names of both, ascending. -/
theorem mrgK_names {xa xb : List (ByteArray × Tr)} (ha : AscS (xa.map (·.1))) (hb : AscS (xb.map (·.1))) {L : List ByteArray} (hL : AscS L) (hm : ∀ x, x ∈ L ↔ x ∈ xa.map (·.1) ∨ x ∈ xb.map (·.1)) :
    L.map (fun n => ((n, lk xa n, lk xb n) : Pr)) = mrgK xa xb := by
  obtain ⟨h1, h2, h3⟩ := mrgK_spec xa xb ha hb
  have e : L = (mrgK xa xb).map (·.1) := asc_unique hL h1 fun x => by rw [hm x, h2 x]
  rw [e, List.map_map]
  conv => rhs; rw [← List.map_id (mrgK xa xb)]
  apply List.map_congr_left
  intro z hz
  have := h3 z hz
  obtain ⟨n, p⟩ := z
  simp only [Function.comp_apply, id_eq]
  simp only at this
  rw [this]
theorem sum_left {A B : Option Tr → Nat} (hB : B none = 0) : ∀ l : List (ByteArray × Tr), sumBy (fun z : Pr => A z.2.1 + B z.2.2) (l.map fun y => (y.1, some y.2, none)) = sumBy (fun y => A (some y.2)) l
  | [] => rfl
  | b :: r => by simp only [List.map_cons, sumBy, sum_left hB r, hB]; omega
theorem sum_right {A B : Option Tr → Nat} (hA : A none = 0) : ∀ l : List (ByteArray × Tr), sumBy (fun z : Pr => A z.2.1 + B z.2.2) (l.map fun y => (y.1, none, some y.2)) = sumBy (fun y => B (some y.2)) l
  | [] => rfl
  | b :: r => by simp only [List.map_cons, sumBy, sum_right hA r, hA]; omega
/-- What is summed over both. -/
theorem mrgK_sum {A B : Option Tr → Nat} (hA : A none = 0) (hB : B none = 0) : ∀ (xa xb : List (ByteArray × Tr)), sumBy (fun z : Pr => A z.2.1 + B z.2.2) (mrgK xa xb) = sumBy (fun y => A (some y.2)) xa + sumBy (fun y => B (some y.2)) xb
  | [], xb => by rw [mrgK, sum_right hA]; simp [sumBy]
  | a :: xa, [] => by rw [mrgK, sum_left hB]; simp [sumBy]
  | a :: xa, b :: xb => by
    rw [mrgK]
    split
    · have := mrgK_sum hA hB xa (b :: xb)
      simp only [sumBy, this, hB]; omega
    · split
      · have := mrgK_sum hA hB (a :: xa) xb
        simp only [sumBy, this, hA]; omega
      · have := mrgK_sum hA hB xa xb
        simp only [sumBy, this]; omega
termination_by xa xb => xa.length + xb.length
end Go.Proofs.YtkbhjejalkbogaaGreat

/- slices.Sort and slices.Compact on texts in rows of our own; the names of either of two parts. -/
set_option linter.unusedVariables false
set_option linter.unusedSimpArgs false
namespace Go.Proofs.YtkbhjejalkbogaaGreat
open Go Go.Av Go.RowKit Go.Sort

section
variable {w0 : World} {σ : Vw} {α : Type}

theorem put_cells {enc : α → Value} [Inhabited α] {zs ds : List α} {cur : Array Value} (hp : zs.map enc <+: cur.toList) (hl : ds.length = zs.length) : (ds.map enc <+: (putCells enc 0 ds.toArray cur).toList) ∧ (putCells enc 0 ds.toArray cur).size = cur.size := by
  refine ⟨?_, by simp [putCells]⟩
  have hlen := hp.length_le
  simp only [List.length_map, Array.length_toList] at hlen
  rw [List.prefix_iff_getElem?]
  intro i hi
  have hi' : i < ds.length := by simpa using hi
  rw [Array.getElem?_toList]
  simp only [putCells, Array.getElem?_mapIdx]
  rw [Array.getElem?_eq_getElem (by omega), Option.map_some, if_pos ⟨by omega, by simp; omega⟩]
  simp only [Nat.sub_zero, List.getElem_map, Option.some.injEq]
  rw [getElem!_pos _ i (by simpa using hi')]
  simp
theorem put_aft {enc : α → Value} [Inhabited α] {w : World} {b e cap n : Nat} {zs ds : List α} {os : Array Obj} (hw : Sat w0 σ w) (hb : w0.heap.size ≤ b) (hr : σ b = some ⟨e, zs.map enc, cap, (0, 0)⟩) (hl : ds.length = zs.length) :
    Aft w0 σ w (σ.put b ⟨e, ds.map enc, cap, (0, 0)⟩) (Sort.grow (putRow enc (Sort.ahead w n) b 0 ds.toArray) os) := by
  obtain ⟨_, cur, hc, hpre, hcap, _⟩ := hw.row b _ hr
  simp only at hc hpre hcap
  have hlt := hw.lt hr
  obtain ⟨p1, p2⟩ := put_cells (enc := enc) hpre hl
  have hs : (putRow enc (Sort.ahead w n) b 0 ds.toArray).heap.size = w.heap.size := by simp [putRow, mapBlock, Sort.ahead]
  have hk : ∀ k, k < w.heap.size → k ≠ b → (Sort.grow (putRow enc (Sort.ahead w n) b 0 ds.toArray) os).heap[k]? = w.heap[k]? := fun k hk hkb => by
    rw [Sort.heap_grow_old _ _ (by omega)]
    have hkb' : ¬ b = k := fun e => hkb e.symm
    simp [putRow, mapBlock, Sort.ahead, Array.getElem?_modify, hkb']
  have hbk : (Sort.grow (putRow enc (Sort.ahead w n) b 0 ds.toArray) os).heap[b]? = some (.cells (putCells enc 0 ds.toArray cur) e (0, 0)) := by
    rw [Sort.heap_grow_old _ _ (by omega)]
    simp [putRow, mapBlock, Sort.ahead, Array.getElem?_modify, hc, onCells]
  have hsz : w.heap.size ≤ (Sort.grow (putRow enc (Sort.ahead w n) b 0 ds.toArray) os).heap.size := by simp [Sort.grow, hs]
  refine ⟨⟨?_, fun i r hi => ?_⟩, hsz, fun i hi hn => hk i hi (fun e => by rw [e, hr] at hn; cases hn), fun i r hi => ?_⟩
  · refine ⟨hw.bel.os, hw.bel.tape, hw.bel.output, Nat.le_trans hw.bel.size hsz, fun i hi => ?_⟩
    rw [hk i (Nat.lt_of_lt_of_le hi hw.bel.size) (by omega)]
    exact hw.bel.block i hi
  · by_cases e1 : i = b
    · subst e1
      rw [put_at] at hi; cases hi
      exact ⟨hb, _, hbk, p1, by rw [p2]; exact hcap, .inr (Nat.le_refl _)⟩
    · rw [put_ne e1] at hi
      obtain ⟨g1, cur', g2, g3⟩ := hw.row i r hi
      exact ⟨g1, cur', (hk i (hw.lt hi) e1).trans g2, g3⟩
  · by_cases e1 : i = b
    · subst e1; exact .inl (by rw [hr]; simp)
    · rw [put_ne e1] at hi; exact .inl (by rw [hi]; simp)

theorem enc_strs (l : List (List UInt8)) : l.map encStr = (l.map ofL).map Value.string := by rw [List.map_map]; rfl
theorem ofL_bls (l : List ByteArray) : (l.map bl).map ofL = l := by
  rw [List.map_map]
  have : ∀ l : List ByteArray, l.map (ofL ∘ bl) = l := fun l => by
    induction l with
    | nil => rfl
    | cons a r ih => simp only [List.map_cons, Function.comp_apply, ofL_bl, ih]
  exact this l
/-- The row behind a list of texts that may grow. -/
theorem acc_cells {F : List Nat} {v : Value} {xs : List ByteArray} (h : OAcc w0 t_string 1 OStr σ F v xs) : (v = .slice none 0 0 ∧ xs = [] ∧ F = []) ∨
    ∃ b cap, v = .slice (some ⟨b, 0, none⟩) xs.length cap ∧ (xs.length ≤ cap ∧ cap ≤ 9223372036854775807) ∧ w0.heap.size ≤ b ∧ σ b = some ⟨t_string, xs.map Value.string, cap, (0, 0)⟩ ∧ F = [b] ∧ ∀ x, x ∈ xs → x.size ≤ 9223372036854775807 := by
  obtain ⟨h1, h2, h3 | ⟨b, cap, css, Fs, g1, g2, g3, g4, g5, g6, g7, g8⟩⟩ := h
  · exact .inl h3
  · refine .inr ⟨b, cap, g1, g2, g3, ?_, ?_, fun x hx => ?_⟩
    · rw [g4, Nat.mul_one]
      have e : css.flatten = xs.map Value.string := by
        have e2 : css = xs.map fun s => [Value.string s] := by
          apply List.ext_getElem?
          intro j
          rw [List.getElem?_map]
          by_cases hj : j < xs.length
          · have hc := List.getElem?_eq_getElem (show j < css.length by omega)
            have := g8 j _ _ _ hc (List.getElem?_eq_getElem hj) (List.getElem?_eq_getElem (by omega))
            rw [hc, List.getElem?_eq_getElem hj, this.2.1]; rfl
          · rw [List.getElem?_eq_none (by omega), List.getElem?_eq_none (by omega)]; rfl
        rw [e2, ← flat_strs]
      rw [e]
    · rw [g7]
      congr 1
      refine List.eq_nil_iff_forall_not_mem.2 fun i hi => ?_
      obtain ⟨j, f, hf, hif⟩ := mem_flat hi
      have hjl := (List.getElem?_eq_some_iff.1 hf).1
      have := g8 j _ _ f (List.getElem?_eq_getElem (by omega)) (List.getElem?_eq_getElem (by omega)) hf
      rw [this.1] at hif; cases hif
    · obtain ⟨j, hj⟩ := List.getElem?_of_mem hx
      have hjl := (List.getElem?_eq_some_iff.1 hj).1
      exact (g8 j _ x _ (List.getElem?_eq_getElem (by omega)) hj (List.getElem?_eq_getElem (by omega))).2.2

def namesU (xs : List ByteArray) : List ByteArray := (sortU (xs.map bl)).map ofL
theorem namesU_mem (xs : List ByteArray) (x : ByteArray) : x ∈ namesU xs ↔ x ∈ xs := by
  unfold namesU
  constructor
  · intro h
    obtain ⟨l, hl, rfl⟩ := List.mem_map.1 h
    obtain ⟨y, hy, rfl⟩ := List.mem_map.1 ((sortU_mem _ _).1 hl)
    rw [ofL_bl]; exact hy
  · intro h
    exact List.mem_map.2 ⟨bl x, (sortU_mem _ _).2 (List.mem_map.2 ⟨x, h, rfl⟩), ofL_bl x⟩
theorem namesU_asc (xs : List ByteArray) : AscS (namesU xs) := by
  unfold namesU AscS
  rw [List.pairwise_map]
  refine (sortU_asc (xs.map bl)).imp fun {a b} h => ?_
  unfold strLt
  rw [ByteArray.toList_eq, ByteArray.toList_eq]
  exact h

theorem sort_compact {F : List Nat} {v : Value} {xs : List ByteArray} (h : OAcc w0 t_string 1 OStr σ F v xs) (hl : xs.length ≤ 1000000000000) {R : Value → Vw → Prop}
    (hR : ∀ v' σ', KeepsBut F σ σ' → OStrs w0 σ' F v' (namesU xs) → R v' σ') :
    AC Tryz.prog w0 n_slices_Sort_string_string [v] σ (fun _ s => AC Tryz.prog w0 n_slices_Compact_string_string [v] s R) := by
  refine ⟨is_slices_Sort_string_string, fun w hw => ?_⟩
  rcases acc_cells h with ⟨rfl, rfl, rfl⟩ | ⟨b, cap, rfl, hc, hb, hr, rfl, hsz⟩
  · refine (Tryz.slices_Sort_string_none none 0 w).mono ?_
    rintro e w' ⟨rfl, rfl⟩
    refine ⟨_, σ, rfl, ⟨is_slices_Compact_string_string, fun w2 hw2 => ?_⟩, Aft.refl hw⟩
    refine (Tryz.slices_Compact_string_empty none 0 w2).mono ?_
    rintro e w3 ⟨rfl, rfl⟩
    exact ⟨_, σ, rfl, hR _ _ (KeepsBut.refl _ _) ⟨by simp [namesU, sortU, Lib.compact, Lib.compactUpTo], by simp, .inl ⟨rfl, by simp [namesU, sortU, Lib.compact, Lib.compactUpTo], rfl⟩⟩, Aft.refl hw2⟩
  have e0 : xs.map Value.string = (xs.map bl).map encStr := by rw [enc_strs, ofL_bls]
  have hlz : (xs.map bl).length = xs.length := by simp
  have holds : ∀ {w : World} {s : Vw} {zs : List (List UInt8)}, Sat w0 s w → s b = some ⟨t_string, zs.map encStr, cap, (0, 0)⟩ → Holds encStr w b 0 zs.toArray := fun {w s zs} hw hr => by
    obtain ⟨_, cur, hc, hpre, hcap, _⟩ := hw.row b _ hr
    simp only at hc hpre hcap
    intro j hj
    have hj' : j < zs.length := by simpa using hj
    have hjc : j < cur.size := by have := hpre.length_le; simp at this; omega
    refine ⟨?_, ?_⟩
    · unfold World.cell?
      rw [hc]
      simp only [Option.isSome_none, Bool.false_eq_true, if_false, Nat.zero_add]
      have := hpre.getElem (i := j) (by simpa using hj')
      rw [← Array.getElem?_toList, List.getElem?_eq_getElem (by simpa using hjc), ← this, getElem!_pos _ j hj]
      simp
    · unfold World.frozen?
      rw [hc]
      simp
  rw [e0] at hr
  have h1 := Tryz.slices_Sort_string b 0 cap (xs.map bl) w (holds hw hr) (hw.lt hr) (by omega)
  rw [hlz] at h1
  refine h1.mono ?_
  rintro e w' ⟨rfl, n, os, rfl⟩
  have hlm : ((xs.map bl).mergeSort fun x y => decide (x ≤ y)).length = (xs.map bl).length := List.length_mergeSort _
  refine ⟨_, _, rfl, ⟨is_slices_Compact_string_string, fun w2 hw2 => ?_⟩, put_aft hw hb hr hlm⟩
  have hmz : ((xs.map bl).mergeSort fun x y => decide (x ≤ y)).length = xs.length := hlm.trans hlz
  have h2 := Tryz.slices_Compact_string b 0 cap ((xs.map bl).mergeSort fun x y => decide (x ≤ y)) w2 (holds hw2 put_at) (by omega) (by omega)
  rw [hmz] at h2
  refine h2.mono ?_
  rintro e w3 ⟨rfl, q, rfl⟩
  have hsu : Lib.compact ((xs.map bl).mergeSort fun x y => decide (x ≤ y)) = sortU (xs.map bl) := rfl
  have hsl : (sortU (xs.map bl)).length ≤ xs.length := by
    rw [← hsu, ← hmz]
    unfold Lib.compact Lib.compactUpTo
    rw [List.length_map]
    exact Nat.le_trans (List.length_filter_le _ _) (by simp)
  rw [hsu]
  have hln : (sortU (xs.map bl) ++ List.replicate (xs.length - (sortU (xs.map bl)).length) []).length = ((xs.map bl).mergeSort fun x y => decide (x ≤ y)).length := by
    rw [List.length_append, List.length_replicate, hmz]; omega
  have ha := put_aft (os := #[]) (n := q) hw2 hb (put_at (σ := σ) (r := ⟨t_string, ((xs.map bl).mergeSort fun x y => decide (x ≤ y)).map encStr, cap, (0, 0)⟩)) hln
  have eg : ∀ w : World, Sort.grow w #[] = w := fun w => by cases w; simp [Sort.grow]
  rw [eg] at ha
  have hnu : (sortU (xs.map bl)).length = (namesU xs).length := by simp [namesU]
  rw [hnu] at ha ⊢
  refine ⟨_, _, rfl, hR _ _ (fun i r hi hF => ?_) ?_, ha⟩
  · have : i ≠ b := fun e => hF (by simp [e])
    rw [put_ne this, put_ne this]; exact hi
  · refine ⟨by omega, by simp, .inr ⟨b, 0, cap, _, [], (List.replicate (xs.length - (namesU xs).length) []).map encStr, (namesU xs).map fun s => [Value.string s], List.replicate (namesU xs).length [], rfl, ⟨by omega, hc.2⟩, hb, put_at, ?_, rfl, by simp, by simp, by simp, fun j c x f e1 e2 e3 => ?_⟩⟩
    · simp only [List.nil_append]
      rw [List.map_append, ← flat_strs, enc_strs]; rfl
    · rw [List.getElem?_map, e2] at e1
      cases e1
      rw [List.getElem?_replicate] at e3
      split at e3
      · cases e3
        exact ⟨rfl, rfl, hsz x ((namesU_mem xs x).1 (List.mem_of_getElem? e2))⟩
      · cases e3

theorem ext_stay {s s' : Vw} {v : Value} {n : Nat} (h : Ext s s') : Stay w0 s s' v n := fun a g _ hc j hj => Ext.le h _ _ (hc j hj)
/-- A field behind a pointer is read; its address. -/
theorem PT.ldp {n : Nat} {p : Value} {x : Tr} (h : PT n (Av.get w0 σ) p x) (o : Nat) (ho : o < 5) {K : Value → (Nat → Value) → Prop} (hK : ∀ (q : Value) (es : List Value) (g : Nat → Value), RT n (Av.get w0 σ) es x → es[o]? = some (g 0) → K q g) : pNil p (pField o p fun q => pLoad w0 1 q σ (K q)) := by
  obtain ⟨a, es, rfl, h5, h6, h7⟩ := h
  rw [pNil_s, pField_s]
  refine ⟨_, fun _ => es.getD o undef, rfl, fun i hi => ?_, hK _ es _ h7 ?_⟩
  · have e : i = 0 := by omega
    subst e
    have := h6 o ho
    rw [add_add, Nat.add_zero, this, List.getElem?_eq_getElem (by omega)]
    simp only [List.getD_eq_getElem?_getD, List.getElem?_eq_getElem (show o < es.length by omega), Option.getD_some]
  · simp only [List.getD_eq_getElem?_getD, List.getElem?_eq_getElem (show o < es.length by omega), Option.getD_some]

theorem impl_either {n m : Nat} {p q : Value} {x y : Tr} (h : PT n (Av.get w0 σ) p x) (h' : PT m (Av.get w0 σ) q y) (hl : (namesOf x).length ≤ 1000000 ∧ (namesOf y).length ≤ 1000000) {R : Value → Vw → Prop}
    (hR : ∀ v F σ', Keeps σ σ' → OStrs w0 σ' F v (namesU (namesOf x ++ namesOf y)) → (∀ i, i ∈ F → σ i = none) → R v σ') : AC Tryz.prog w0 n_impl_either [p, q] σ R := by
  refine ac_impl_either ?_
  unfold vc_impl_either
  refine h.ldp 3 (by omega) fun qa es g he hg => ?_
  obtain ⟨u, w, rfl, _, _, h4, _, _⟩ := he.cells
  simp only [List.getElem?_cons_zero, List.getElem?_cons_succ, Option.some.injEq] at hg
  refine h'.ldp 3 (by omega) fun qb es' g' he' hg' => ?_
  obtain ⟨u', w', rfl, _, _, h4', _, _⟩ := he'.cells
  simp only [List.getElem?_cons_zero, List.getElem?_cons_succ, Option.some.injEq] at hg'
  intro b hb1 hb2
  have kb : Keeps σ (σ.put b ⟨t_string, [], 0, (0, 0)⟩) := Keeps.put hb2
  have hb0 : ∀ i, i ∈ [b] → σ i = none := fun i hi => by rw [List.mem_singleton.1 hi]; exact hb2
  refine ⟨kb.stay, kb.stay, ?_⟩
  rw [← hg]
  refine (OAcc.new (w0 := w0) (σ := σ) (ety := t_string) (n := 1) (O := OStr) hb1).allX (ok_str w0) h4 kb.le (fun es y hy => ⟨rfl, hy⟩) (by simp; omega) (by omega) fun v1 F1 s1 x1 k1 o1 f1 => ?_
  rw [List.nil_append] at o1
  refine ⟨ext_stay x1, ?_⟩
  have K1 := k1.old kb hb0
  have hF1 := fresh_in kb hb0 f1
  rw [← hg']
  refine o1.all (ok_str w0) h4' K1.le (fun es y hy => ⟨rfl, hy⟩) (by omega) (by omega) fun v2 F2 s2 k2 o2 f2 => ?_
  have K2 := k2.old K1 hF1
  have hF2 := fresh_in K1 hF1 f2
  refine sort_compact o2 (by rw [List.length_append]; omega) fun v3 s3 k3 o3 => ?_
  exact hR v3 F2 s3 (k3.old K2 hF2) o3 hF2
end
end Go.Proofs.YtkbhjejalkbogaaGreat

/- What becomes of a part, with all below: what it is; by the reference's hand. -/
set_option linter.unusedVariables false
set_option linter.unusedSimpArgs false
set_option maxRecDepth 20000
namespace Go.Proofs.YtkbhjejalkbogaaGreat
open Go Go.Av

def fNew (_ : Nat) (ps : List ByteArray) (x : Tr) : En := (ps, 2, isDir x, modeOf x, dataOf x)
def goneE (ps : List ByteArray) : En := (ps, 1, false, 0, ⟨#[]⟩)
noncomputable def partE (ps : List ByteArray) (a b : Tr) : List En :=
  (if modeOf a = modeOf b then [] else [(ps, 3, false, modeOf b, ⟨#[]⟩)]) ++ (if dataOf a = dataOf b then [] else [(ps, 4, false, 0, dataOf b)])
def partsOf (x : Tr) : List (ByteArray × Tr) := (namesOf x).zip (kidsOf x)
noncomputable def walkE : Nat → List ByteArray → Option Tr → Option Tr → List En
  | 0, _, _, _ => []
  | _ + 1, _, none, none => []
  | n + 1, ps, none, some b => linT fNew (n + 1) ps b
  | _ + 1, ps, some _, none => [goneE ps]
  | n + 1, ps, some a, some b => if isDir a = isDir b then partE ps a b ++ ((mrgK (partsOf a) (partsOf b)).map fun z => walkE n (ps ++ [z.1]) z.2.1 z.2.2).flatten else goneE ps :: linT fNew (n + 1) ps b
def cntO (n : Nat) : Option Tr → Nat
  | none => 0
  | some x => cntT n x + 1
theorem partE_len (ps : List ByteArray) (a b : Tr) : (partE ps a b).length ≤ 2 := by
  unfold partE
  split <;> split <;> simp
theorem walkE_len : ∀ (n : Nat) (ps : List ByteArray) (a b : Option Tr), (walkE n ps a b).length ≤ cntO n a + 2 * cntO n b
  | 0, _, _, _ => by simp [walkE]
  | _ + 1, _, none, none => by simp [walkE]
  | n + 1, ps, none, some b => by
    have := linT_len fNew (n + 1) ps b
    simp only [walkE, cntO]; omega
  | _ + 1, ps, some _, none => by simp [walkE, cntO]
  | n + 1, ps, some a, some b => by
    have h1 := linT_len fNew (n + 1) ps b
    simp only [walkE]
    split
    · have h2 := partE_len ps a b
      have h3 : ((mrgK (partsOf a) (partsOf b)).map fun z => walkE n (ps ++ [z.1]) z.2.1 z.2.2).flatten.length ≤ sumBy (fun z : Pr => cntO n z.2.1 + 2 * cntO n z.2.2) (mrgK (partsOf a) (partsOf b)) := flat_sum fun z _ => walkE_len n _ _ _
      rw [mrgK_sum (A := cntO n) (B := fun o => 2 * cntO n o) rfl rfl] at h3
      obtain ⟨d, m, t, ns, ks⟩ := a
      obtain ⟨d', m', t', ns', ks'⟩ := b
      have h4 := zip_sum (f := cntT n) (ns := ns) (ks := ks)
      have h5 := zip_sum (f := cntT n) (ns := ns') (ks := ks')
      have h6 : ∀ l : List (ByteArray × Tr), sumBy (fun y => 2 * cntO n (some y.2)) l = 2 * sumBy (fun y : ByteArray × Tr => cntT n y.2 + 1) l := fun l => by
        induction l with
        | nil => rfl
        | cons a r ih =>
          show 2 * (cntT n a.2 + 1) + _ = 2 * ((cntT n a.2 + 1) + _)
          rw [ih]; omega
      rw [h6] at h3
      have e1 : cntT (n + 1) (.mk d m t ns ks) = ks.length + sumBy (cntT n) ks := rfl
      have e2 : cntT (n + 1) (.mk d' m' t' ns' ks') = ks'.length + sumBy (cntT n) ks' := rfl
      simp only [cntO, partsOf, namesOf, kidsOf] at h3 ⊢
      rw [List.length_append]
      omega
    · simp only [cntO, List.length_cons]; omega

section
variable {w0 : World} {σ : Vw}

theorem fNew_own {s : Vw} {P : List Nat} {v : Value} {ps : List ByteArray} {x : Tr} {n : Nat} (ho : OStrs w0 s P v ps) (hm : -9223372036854775808 ≤ modeOf x ∧ modeOf x ≤ 9223372036854775807) (ht : (dataOf x).size ≤ 9223372036854775807) :
    OEn w0 s P [v, .int .i64 2, .bool (isDir x), .int .i64 (modeOf x), .string (dataOf x)] (fNew n ps x) := ⟨v, rfl, ho, ⟨by show _ ≤ (2 : Int) ∧ (2 : Int) ≤ _; omega, hm, ht⟩⟩
theorem gone_own {s : Vw} {P : List Nat} {v : Value} {ps : List ByteArray} (ho : OStrs w0 s P v ps) : OEn w0 s P [v, .int .i64 1, .bool false, .int .i64 0, .string ⟨#[]⟩] (goneE ps) :=
  ⟨v, rfl, ho, ⟨by show _ ≤ (1 : Int) ∧ (1 : Int) ≤ _; omega, by show _ ≤ (0 : Int) ∧ (0 : Int) ≤ _; omega, by show 0 ≤ _; omega⟩⟩

theorem spec_new (n : Nat) : Lists w0 n_spec_l3New t_impl_Entry (OEn w0) fNew n := by
  induction n with
  | zero => intro σ v es ps x R _ h; exact h.elim
  | succ n ih =>
    intro σ v es ps x R hv h hx hc hps hR
    obtain ⟨d, m, t, ns, ks⟩ := x
    have h0 := h
    have hx0 := hx
    obtain ⟨u, w, rfl, h2, h3, h4, h5⟩ := h
    obtain ⟨hm, ht, hl, hns, hks⟩ := hx
    have hcnt : cntT (n + 1) (.mk d m t ns ks) = ks.length + sumBy (cntT n) ks := rfl
    refine ac_spec_l3New ?_
    unfold vc_spec_l3New
    rw [pVal_5 rfl rfl rfl h4.one h5.one]
    simp only [cellOf_agg, List.getD_cons_zero, List.getD_cons_succ]
    refine copy_strs hv (by omega) fun v1 P s1 k1 o1 f1 => ?_
    rw [pVal1 (OSl.one' o1), pVal1 rfl, pVal1 rfl, pVal1 rfl, pVal1 rfl, pVal_5 (OSl.one' o1) rfl rfl rfl rfl]
    intro b hb1 hb2
    have hacc := OAcc.single (ok_en w0) (ety := t_impl_Entry) hb1 hb2 (fNew_own (n := n + 1) (x := .mk d m t ns ks) o1 h2 h3)
    have K3 := k1.trans (Keeps.put (r := ⟨t_impl_Entry, [v1, .int .i64 2, .bool d, .int .i64 m, .string t], 5, (0, 0)⟩) hb2)
    refine lin_loop (σ := σ) (ok_en w0) ih hv h4 h5 hl hns hks (by omega) hps hacc K3 (fun i hi => ?_) fun v' G' s' k' o' f' => ?_
    · rcases List.mem_cons.1 hi with rfl | hi
      · exact none_old k1 hb2
      · exact f1 i hi
    · exact hR v' G' s' k' o' f'

theorem spec_gone {v : Value} {ps : List ByteArray} (hv : RSl 1 RS (Av.get w0 σ) v ps) (hl : ps.length ≤ 1000000) {R : Value → Vw → Prop}
    (hR : ∀ v' G s', Keeps σ s' → OAcc w0 t_impl_Entry 5 (OEn w0) s' G v' [goneE ps] → (∀ i, i ∈ G → σ i = none) → R v' s') : AC Tryz.prog w0 n_spec_l3Gone [v] σ R := by
  refine ac_spec_l3Gone ?_
  unfold vc_spec_l3Gone
  refine copy_strs hv (by omega) fun v1 P s1 k1 o1 f1 => ?_
  rw [pVal1 (OSl.one' o1), pVal1 rfl, pVal_5 (OSl.one' o1) rfl rfl rfl rfl]
  intro b hb1 hb2
  refine hR _ _ _ (k1.trans (Keeps.put hb2)) (OAcc.single (ok_en w0) (ety := t_impl_Entry) hb1 hb2 (gone_own o1)) fun i hi => ?_
  rcases List.mem_cons.1 hi with rfl | hi
  · exact none_old k1 hb2
  · exact f1 i hi

/-- One more entry, its path copied. -/
theorem part_push {G : List Nat} {acc v : Value} {xs : List En} {ps : List ByteArray} {s : Vw} {X Y : Value} {k m : Int} {t : ByteArray} (hv : RSl 1 RS (Av.get w0 σ) v ps) (hl : ps.length ≤ 1000000) (k0 : Keeps σ s) (hG : ∀ i, i ∈ G → σ i = none)
    (ho : OAcc w0 t_impl_Entry 5 (OEn w0) s G acc xs) (hX : X.oneCell' = true) (hY : Y.oneCell' = true) (hok : enOk (ps, k, false, m, t)) (hxl : xs.length ≤ 1000000) {K : Value → Vw → Prop}
    (hK : ∀ v' G' s', Keeps σ s' → OAcc w0 t_impl_Entry 5 (OEn w0) s' G' v' (xs ++ [(ps, k, false, m, t)]) → (∀ i, i ∈ G' → σ i = none) → K v' s') :
    pNew w0 t_string [] s (fun n3 s4 => pAppendS w0 t_string 1 16 (.slice (some (Addr.mk n3 0 none)) 0 0) v s4 (fun v5 s6 => pVal false 1 v5 (pVal false 1 X (pVal false 1 Y (pVal true 5 (.agg (⟨[v5, .int .i64 k, .bool false, .int .i64 m, .string t]⟩)) ((allOne ([v5, .int .i64 k, .bool false, .int .i64 m, .string t])) ∧
      (pAppend w0 t_impl_Entry 5 64 acc 1 ([v5, .int .i64 k, .bool false, .int .i64 m, .string t]) s6 K))))))) := by
  refine copy_strs (hv.mono k0.le fun _ _ h => h) (by omega) fun v1 P s1 k1 o1 f1 => ?_
  rw [pVal1 (OSl.one' o1), pVal1 hX, pVal1 hY, pVal_5 (OSl.one' o1) rfl rfl rfl rfl]
  have ho1 := ho.frame (ok_en w0) (k1.but_at fun i hi => (ho.dom (ok_en w0) i hi).2)
  refine ho1.one (ok_en w0) (y := (ps, k, false, m, t)) ⟨v1, rfl, o1, hok⟩ (fun i hi hi' => (ho.dom (ok_en w0) i hi').2 (f1 i hi)) (by omega) (by omega) fun v' G' s' k' o' f' => ?_
  refine hK v' G' s' (k'.old (k0.trans k1) hG) o' fun i hi => ?_
  rcases f' i hi with h | h | h
  · exact hG i h
  · exact none_old k0 (f1 i h)
  · exact none_old (k0.trans k1) h

theorem spec_part {n m : Nat} {v : Value} {ps : List ByteArray} {es es' : List Value} {x y : Tr} (hv : RSl 1 RS (Av.get w0 σ) v ps) (hl : ps.length ≤ 1000000) (h : RT n (Av.get w0 σ) es x) (h' : RT m (Av.get w0 σ) es' y) {R : Value → Vw → Prop}
    (hR : ∀ v' G s', Keeps σ s' → OAcc w0 t_impl_Entry 5 (OEn w0) s' G v' (partE ps x y) → (∀ i, i ∈ G → σ i = none) → R v' s') : AC Tryz.prog w0 n_spec_l3Part [v, .agg ⟨es⟩, .agg ⟨es'⟩] σ R := by
  obtain ⟨u, w, rfl, hm, ht, _, _, hp⟩ := h.cells
  obtain ⟨u', w', rfl, hm', ht', _, _, hp'⟩ := h'.cells
  refine ac_spec_l3Part ?_
  unfold vc_spec_l3Part
  rw [hp, hp']
  simp only [cellOf_agg, List.getD_cons_zero, List.getD_cons_succ]
  intro b hb1 hb2
  have kb : Keeps σ (σ.put b ⟨t_impl_Entry, [], 0, (0, 0)⟩) := Keeps.put hb2
  have o0 : OAcc w0 t_impl_Entry 5 (OEn w0) (σ.put b ⟨t_impl_Entry, [], 0, (0, 0)⟩) [b] (.slice (some ⟨b, 0, none⟩) 0 0) [] := OAcc.new hb1
  have f0 : ∀ i, i ∈ [b] → σ i = none := fun i hi => by rw [List.mem_singleton.1 hi]; exact hb2
  have z0 : (0 : Nat) ≤ 9223372036854775807 := by omega
  rw [pBin_ne, pIf_d]
  refine ⟨fun hne => ?_, fun heq => ?_⟩
  · refine part_push (k := 3) (m := modeOf y) (t := ⟨#[]⟩) hv hl kb f0 o0 rfl rfl ⟨by show _ ≤ (3 : Int) ∧ (3 : Int) ≤ _; omega, hm', by show 0 ≤ _; omega⟩ (by simp) fun v1 G1 s1 k1 o1 f1 => ?_
    rw [List.nil_append] at o1
    rw [pBin_sne, pIf_d]
    refine ⟨fun hne2 => ?_, fun heq2 => ?_⟩
    · refine part_push (k := 4) (m := 0) (t := dataOf y) hv hl k1 f1 o1 rfl rfl ⟨by show _ ≤ (4 : Int) ∧ (4 : Int) ≤ _; omega, by show _ ≤ (0 : Int) ∧ (0 : Int) ≤ _; omega, ht'⟩ (by simp) fun v2 G2 s2 k2 o2 f2 => ?_
      have e : partE ps x y = [(ps, 3, false, modeOf y, ⟨#[]⟩)] ++ [(ps, 4, false, 0, dataOf y)] := by rw [partE, if_neg hne, if_neg hne2]
      exact hR v2 G2 s2 k2 (by rw [e]; exact o2) f2
    · have e : partE ps x y = [(ps, 3, false, modeOf y, ⟨#[]⟩)] := by rw [partE, if_neg hne, if_pos (Decidable.not_not.1 heq2)]; rfl
      exact hR v1 G1 s1 k1 (by rw [e]; exact o1) f1
  · rw [pBin_sne, pIf_d]
    have heq := Decidable.not_not.1 heq
    refine ⟨fun hne2 => ?_, fun heq2 => ?_⟩
    · refine part_push (k := 4) (m := 0) (t := dataOf y) hv hl kb f0 o0 rfl rfl ⟨by show _ ≤ (4 : Int) ∧ (4 : Int) ≤ _; omega, by show _ ≤ (0 : Int) ∧ (0 : Int) ≤ _; omega, ht'⟩ (by simp) fun v2 G2 s2 k2 o2 f2 => ?_
      have e : partE ps x y = [] ++ [(ps, 4, false, 0, dataOf y)] := by rw [partE, if_pos heq, if_neg hne2]
      exact hR v2 G2 s2 k2 (by rw [e]; exact o2) f2
    · have e : partE ps x y = [] := by rw [partE, if_pos heq, if_pos (Decidable.not_not.1 heq2)]; rfl
      exact hR _ [b] _ kb (by rw [e]; exact o0) f0

theorem zip_drop {ns : List ByteArray} {ks : List Tr} {j : Nat} {x : ByteArray} {k : Tr} (h : ns[j]? = some x) (h' : ks[j]? = some k) : (ns.zip ks).drop j = (x, k) :: (ns.zip ks).drop (j + 1) := by
  have hz : (ns.zip ks)[j]? = some (x, k) := by rw [List.getElem?_zip_eq_some]; exact ⟨h, h'⟩
  obtain ⟨hlt, e⟩ := List.getElem?_eq_some_iff.1 hz
  rw [List.drop_eq_getElem_cons hlt, e]
theorem mrgK_nil (l : List (ByteArray × Tr)) : mrgK l [] = l.map fun y => (y.1, some y.2, none) := by cases l <;> simp [mrgK]
theorem mrgK_gone {a : ByteArray × Tr} {xa xb : List (ByteArray × Tr)} (h : ∀ b r, xb = b :: r → strLt a.1 b.1 = true) : mrgK (a :: xa) xb = (a.1, some a.2, none) :: mrgK xa xb := by
  cases xb with
  | nil => rw [mrgK_nil, mrgK_nil]; rfl
  | cons b r => rw [mrgK, if_pos (h b r rfl)]
theorem mrgK_new {b : ByteArray × Tr} {xa xb : List (ByteArray × Tr)} (h : ∀ a r, xa = a :: r → strLt b.1 a.1 = true) : mrgK xa (b :: xb) = (b.1, none, some b.2) :: mrgK xa xb := by
  cases xa with
  | nil => rw [mrgK, mrgK]; rfl
  | cons a r => rw [mrgK, if_neg (by rw [strLt_asymm (h a r rfl)]; simp), if_pos (h a r rfl)]
theorem mrgK_both {a b : ByteArray × Tr} {xa xb : List (ByteArray × Tr)} (h : strLt a.1 b.1 = false) (h' : strLt b.1 a.1 = false) : mrgK (a :: xa) (b :: xb) = (a.1, some a.2, some b.2) :: mrgK xa xb := by
  rw [mrgK, if_neg (by rw [h]; simp), if_neg (by rw [h']; simp)]

set_option maxHeartbeats 4000000 in
theorem spec_walk : ∀ (n : Nat) {σ : Vw} {v : Value} {es es' : List Value} {ps : List ByteArray} {x y : Tr} {R : Value → Vw → Prop}, RSl 1 RS (Av.get w0 σ) v ps → RT n (Av.get w0 σ) es x → RT n (Av.get w0 σ) es' y → shortT n x → shortT n y → cntT n x ≤ 100000 → cntT n y ≤ 100000 →
    ps.length + sumS ps + 6 * n ≤ 1000000 → (∀ v' G s', Keeps σ s' → OAcc w0 t_impl_Entry 5 (OEn w0) s' G v' (walkE n ps (some x) (some y)) → (∀ i, i ∈ G → σ i = none) → R v' s') →
    AC Tryz.prog w0 n_spec_l3Walk [v, .agg ⟨es⟩, .agg ⟨es'⟩] σ R := by
  intro n
  induction n with
  | zero => intro σ v es es' ps x y R _ h; exact h.elim
  | succ n ih =>
    intro σ v es es' ps x y R hv h h' hx hx' hc hc' hps hR
    have hwl := walkE_len (n + 1) ps (some x) (some y)
    obtain ⟨d, m, t, ns, ks⟩ := x
    obtain ⟨d', m', t', ns', ks'⟩ := y
    have h0 := h
    have h0' := h'
    have hx0' := hx'
    obtain ⟨u, w, rfl, h2, h3, h4, h5⟩ := h
    obtain ⟨u', w', rfl, h2', h3', h4', h5'⟩ := h'
    obtain ⟨hm, ht, hl, hns, hks⟩ := hx
    obtain ⟨hm', ht', hl', hns', hks'⟩ := hx'
    have hcnt : cntT (n + 1) (.mk d m t ns ks) = ks.length + sumBy (cntT n) ks := rfl
    have hcnt' : cntT (n + 1) (.mk d' m' t' ns' ks') = ks'.length + sumBy (cntT n) ks' := rfl
    refine ac_spec_l3Walk ?_
    unfold vc_spec_l3Walk cs_spec_l3Walk_2 cs_spec_l3Walk_1 cs_spec_l3Walk_3
    rw [pVal_5 rfl rfl rfl h4.one h5.one, pVal_5 rfl rfl rfl h4'.one h5'.one]
    simp only [cellOf_agg, List.getD_cons_zero, List.getD_cons_succ]
    have eb : ∀ K : Value → Prop, pBin Tryz.prog 4 .neq (.bool d) (.bool d') K ↔ K (.bool !(d == d')) := fun K => pBin_b (by kernel_rfl) rfl
    rw [eb, pIf_b]
    refine ⟨fun hne => ?_, fun heq => ?_⟩
    · have hne' : ¬ d = d' := by simpa using hne
      have ew : walkE (n + 1) ps (some (.mk d m t ns ks)) (some (.mk d' m' t' ns' ks')) = [goneE ps] ++ linT fNew (n + 1) ps (.mk d' m' t' ns' ks') := by
        simp only [walkE]; rw [if_neg (show ¬ isDir (.mk d m t ns ks) = isDir (.mk d' m' t' ns' ks') from hne')]; rfl
      rw [ew] at hR hwl
      rw [List.length_append] at hwl
      refine spec_gone hv (by omega) fun v1 G1 s1 k1 o1 f1 => ?_
      refine spec_new (n + 1) (hv.mono k1.le fun _ _ h => h) (mono_rt _ _ _ _ _ k1.le h0') hx0' hc' hps fun v2 G2 s2 k2 o2 f2 => ?_
      have o1' := o1.frame (ok_en w0) (k2.but_at fun i hi => (o1.dom (ok_en w0) i hi).2)
      refine o1'.allOwn (ok_en w0) o2.osl (fun i hi hi' => (o1.dom (ok_en w0) i hi').2 (f2 i hi)) (by simp only [cntO] at hwl; omega) (by omega) fun v3 G3 s3 k3 o3 f3 => ?_
      refine hR v3 G3 s3 (k3.old (k1.trans k2) f1) o3 fun i hi => ?_
      rcases f3 i hi with h | h | h
      · exact f1 i h
      · exact none_old k1 (f2 i h)
      · exact none_old (k1.trans k2) h
    have heq' : d = d' := by simpa using heq
    have ew : walkE (n + 1) ps (some (.mk d m t ns ks)) (some (.mk d' m' t' ns' ks')) = partE ps (.mk d m t ns ks) (.mk d' m' t' ns' ks') ++ ((mrgK (ns.zip ks) (ns'.zip ks')).map fun z => walkE n (ps ++ [z.1]) z.2.1 z.2.2).flatten := by
      simp only [walkE]; rw [if_pos (show isDir (.mk d m t ns ks) = isDir (.mk d' m' t' ns' ks') from heq')]; rfl
    rw [ew] at hR hwl
    generalize hpe : partE ps (.mk d m t ns ks) (.mk d' m' t' ns' ks') = pe at hR hwl
    refine spec_part hv (by omega) h0 h0' fun v1 G1 s1 k1 o1 f1 => ?_
    rw [hpe] at o1
    have hl4 := h4.le
    have hl4' := h4'.le
    -- what is left to do
    generalize hW : (fun z : Pr => walkE n (ps ++ [z.1]) z.2.1 z.2.2) = W at hR hwl
    refine loop_rule (m := ns.length + ns'.length) (fun c l st => ∃ (i k : Nat) (G : List Nat) (acc : Value) (out : List En), ns.length + ns'.length ≤ c + i + k ∧ i ≤ ns.length ∧ k ≤ ns'.length ∧ Keeps σ st ∧ (∀ j, j ∈ G → σ j = none) ∧ OAcc w0 t_impl_Entry 5 (OEn w0) st G acc out ∧
        out ++ ((mrgK ((ns.zip ks).drop i) ((ns'.zip ks').drop k)).map W).flatten = pe ++ ((mrgK (ns.zip ks) (ns'.zip ks')).map W).flatten ∧
        l = [v, acc, .int .i64 (i : Nat), .int .i64 (k : Nat), .bool d, .int .i64 m, .string t, u, w, .bool d', .int .i64 m', .string t', u', w']) ?_
      ⟨0, 0, G1, v1, pe, by omega, by omega, by omega, k1, f1, o1, by simp, rfl⟩
    rintro c l st L ⟨i, k, G, acc, out, hcik, hi, hk, ks0, hG, ho, hout, rfl⟩ hL
    simp only [vget, List.getD_cons_zero, List.getD_cons_succ]
    have hv' := hv.mono ks0.le fun _ _ h => h
    have hu := h4.mono ks0.le fun _ _ h => h
    have hu' := h4'.mono ks0.le fun _ _ h => h
    have hw := h5.mono ks0.le fun es x => mono_rt n _ _ es x ks0.le
    have hw' := h5'.mono ks0.le fun es x => mono_rt n _ _ es x ks0.le
    have hoL : out.length + ((mrgK ((ns.zip ks).drop i) ((ns'.zip ks').drop k)).map W).flatten.length ≤ 900000 := by
      have := congrArg List.length hout
      rw [List.length_append, List.length_append] at this
      rw [List.length_append] at hwl
      simp only [cntO] at hwl
      omega
    -- a part that is gone
    have hGo : ∀ (xn : ByteArray) (xk : Tr), ns[i]? = some xn → ks[i]? = some xk → (∀ b r, (ns'.zip ks').drop k = b :: r → strLt xn b.1 = true) →
        pIndexAddr 1 u (.int .i64 (i : Nat)) (fun v16 => pLoad w0 1 v16 st (fun g17 => AC Tryz.prog w0 n_spec_l3Path [v, g17 0] st (fun v18 s19 => AC Tryz.prog w0 n_spec_l3Gone [v18] s19 (fun v20 s21 => pAppendS w0 t_impl_Entry 5 64 acc v20 s21 (fun v22 s23 => pBin Tryz.prog 3 .add (.int .i64 (i : Nat)) (.int .i64 1) (fun v24 =>
          L [v, v22, v24, .int .i64 (k : Nat), .bool d, .int .i64 m, .string t, u, w, .bool d', .int .i64 m', .string t', u', w'] s23)))))) := by
      intro xn xk hxn hxk hlt
      have hil := (List.getElem?_eq_some_iff.1 hxn).1
      have h5y := hns _ (List.mem_of_getElem? hxn)
      refine RSl.at1 hu hxn fun g hg hgs => ?_
      rw [hg]
      refine spec_path hv' (by omega) (by omega) fun pv PF s2 k2 op fp => ?_
      refine spec_gone (op.rel (ok_str w0)) (by rw [List.length_append]; simp only [List.length_cons, List.length_nil]; omega) fun v3 G3 s3 k3 o3 f3 => ?_
      have K23 := k2.trans k3
      have o4 := ho.frame (ok_en w0) (K23.but_at fun b hb => (ho.dom (ok_en w0) b hb).2)
      have hmk : mrgK ((ns.zip ks).drop i) ((ns'.zip ks').drop k) = (xn, some xk, none) :: mrgK ((ns.zip ks).drop (i + 1)) ((ns'.zip ks').drop k) := by
        rw [zip_drop hxn hxk, mrgK_gone hlt]
      have hn : n ≠ 0 := fun e => by subst e; exact hks _ (List.mem_of_getElem? hxk)
      have hw1 : W (xn, some xk, none) = [goneE (ps ++ [xn])] := by
        obtain ⟨n', rfl⟩ := Nat.exists_eq_succ_of_ne_zero hn
        rw [← hW]; simp only [walkE]
      rw [hmk, List.map_cons, List.flatten_cons, hw1] at hout hoL
      rw [List.length_append] at hoL
      refine o4.allOwn (ok_en w0) o3.osl (fun j hj hj' => (ho.dom (ok_en w0) j hj').2 (none_old k2 (f3 j hj))) (by simp only [List.length_cons, List.length_nil] at hoL ⊢; omega) (by omega) fun v5 G5 s5 k5 o5 f5 => ?_
      rw [pBin_add (by omega)]
      refine hL _ _ (c - 1) (by omega) ⟨i + 1, k, G5, v5, _, by omega, by omega, hk, k5.old (ks0.trans K23) hG, fun j hj => ?_, o5, by rw [List.append_assoc]; exact hout, by simp⟩
      rcases f5 j hj with h | h | h
      · exact hG j h
      · exact none_old (ks0.trans k2) (f3 j h)
      · exact none_old (ks0.trans K23) h
    -- a part that is new
    have hNe : ∀ (yn : ByteArray) (yk : Tr), ns'[k]? = some yn → ks'[k]? = some yk → (∀ a r, (ns.zip ks).drop i = a :: r → strLt yn a.1 = true) →
        pIndexAddr 1 u' (.int .i64 (k : Nat)) (fun v43 => pLoad w0 1 v43 st (fun g44 => pIndexAddr 5 w' (.int .i64 (k : Nat)) (fun v45 => pLoad w0 5 v45 st (fun g46 => AC Tryz.prog w0 n_spec_l3Path [v, g44 0] st (fun v47 s48 => (Stay w0 st s48 v45 5) ∧ (AC Tryz.prog w0 n_spec_l3New ([v47, .agg (⟨[g46 0, g46 1, g46 2, g46 3, g46 4]⟩)]) s48 (fun v49 s50 => pAppendS w0 t_impl_Entry 5 64 acc v49 s50 (fun v51 s52 => pBin Tryz.prog 3 .add (.int .i64 (k : Nat)) (.int .i64 1) (fun v53 =>
          L [v, v51, .int .i64 (i : Nat), v53, .bool d, .int .i64 m, .string t, u, w, .bool d', .int .i64 m', .string t', u', w'] s52))))))))) := by
      intro yn yk hyn hyk hlt
      have hkl := (List.getElem?_eq_some_iff.1 hyn).1
      have h5y := hns' _ (List.mem_of_getElem? hyn)
      have hky := hks' _ (List.mem_of_getElem? hyk)
      have hcy : cntT n yk ≤ 100000 := by
        have := sumBy_mem (f := cntT n) (List.mem_of_getElem? hyk); omega
      refine RSl.at1 hu' hyn fun g hg hgs => ?_
      rw [hg]
      refine RSl.atp hw' hyk fun p2 g2 hg2 => ?_
      refine spec_path hv' (by omega) (by omega) fun pv PF s2 k2 op fp => ⟨k2.stay, ?_⟩
      have hmk : mrgK ((ns.zip ks).drop i) ((ns'.zip ks').drop k) = (yn, none, some yk) :: mrgK ((ns.zip ks).drop i) ((ns'.zip ks').drop (k + 1)) := by
        rw [zip_drop hyn hyk, mrgK_new hlt]
      have hn : n ≠ 0 := fun e => by subst e; exact hky
      have hw1 : W (yn, none, some yk) = linT fNew n (ps ++ [yn]) yk := by
        obtain ⟨n', rfl⟩ := Nat.exists_eq_succ_of_ne_zero hn
        rw [← hW]; simp only [walkE]
      rw [hmk, List.map_cons, List.flatten_cons, hw1] at hout hoL
      rw [List.length_append] at hoL
      refine spec_new n (op.rel (ok_str w0)) (mono_rt _ _ _ _ _ k2.le hg2) hky hcy (by rw [List.length_append, sumS_snoc]; simp only [List.length_cons, List.length_nil]; omega) fun v3 G3 s3 k3 o3 f3 => ?_
      have K23 := k2.trans k3
      have o4 := ho.frame (ok_en w0) (K23.but_at fun b hb => (ho.dom (ok_en w0) b hb).2)
      refine o4.allOwn (ok_en w0) o3.osl (fun j hj hj' => (ho.dom (ok_en w0) j hj').2 (none_old k2 (f3 j hj))) (by omega) (by omega) fun v5 G5 s5 k5 o5 f5 => ?_
      rw [pBin_add (by omega)]
      refine hL _ _ (c - 1) (by omega) ⟨i, k + 1, G5, v5, _, by omega, hi, by omega, k5.old (ks0.trans K23) hG, fun j hj => ?_, o5, by rw [List.append_assoc]; exact hout, by simp⟩
      rcases f5 j hj with h | h | h
      · exact hG j h
      · exact none_old (ks0.trans k2) (f3 j h)
      · exact none_old (ks0.trans K23) h
    rw [hu.len, pBin_lt, pIf_d]
    refine ⟨fun hia => ?_, fun hia => ?_⟩
    · have hxn := List.getElem?_eq_getElem (show i < ns.length by omega)
      have hxk := List.getElem?_eq_getElem (show i < ks.length by omega)
      generalize ns[i]'(by omega) = xn at hxn
      generalize ks[i]'(by omega) = xk at hxk
      rw [hu'.len, pBin_ge, pIf_d]
      refine ⟨fun hkb => ?_, fun hkb => ?_⟩
      · refine hGo xn xk hxn hxk fun b r e => ?_
        rw [List.drop_of_length_le (by rw [List.length_zip]; omega)] at e
        cases e
      have hyn := List.getElem?_eq_getElem (show k < ns'.length by omega)
      have hyk := List.getElem?_eq_getElem (show k < ks'.length by omega)
      generalize ns'[k]'(by omega) = yn at hyn
      generalize ks'[k]'(by omega) = yk at hyk
      rw [hu.len, pBin_lt, pIf_d]
      refine ⟨fun _ => ?_, fun h => absurd hia h⟩
      refine RSl.at1 hu hxn fun g hg hgs => ?_
      refine RSl.at1 hu' hyn fun g' hg' hgs' => ?_
      rw [hg, hg', pBin_slt, pIf_b]
      refine ⟨fun hlt => ?_, fun hnlt => ?_⟩
      · refine hGo xn xk hxn hxk fun b r e => ?_
        rw [zip_drop hyn hyk] at e
        cases e; exact hlt
      rw [hu.len, pBin_ge, pIf_d]
      refine ⟨fun h => by omega, fun _ => ?_⟩
      refine RSl.at1 hu' hyn fun g2 hg2 hgs2 => ?_
      refine RSl.at1 hu hxn fun g3 hg3 hgs3 => ?_
      rw [hg2, hg3, pBin_slt, pIf_b]
      refine ⟨fun hlt => ?_, fun hnlt2 => ?_⟩
      · refine hNe yn yk hyn hyk fun a r e => ?_
        rw [zip_drop hxn hxk] at e
        cases e; exact hlt
      -- in both
      have h5y := hns _ (List.mem_of_getElem? hxn)
      have hkx := hks _ (List.mem_of_getElem? hxk)
      have hky := hks' _ (List.mem_of_getElem? hyk)
      have hcx : cntT n xk ≤ 100000 := by
        have := sumBy_mem (f := cntT n) (List.mem_of_getElem? hxk); omega
      have hcy : cntT n yk ≤ 100000 := by
        have := sumBy_mem (f := cntT n) (List.mem_of_getElem? hyk); omega
      refine RSl.at1 hu hxn fun g hg hgs => ?_
      rw [hg]
      refine RSl.atp hw hxk fun p1 g1 hg1 => ?_
      refine RSl.atp hw' hyk fun p2 g2 hg2 => ?_
      refine spec_path hv' (by omega) (by omega) fun pv PF s2 k2 op fp => ⟨k2.stay, k2.stay, ?_⟩
      have hmk : mrgK ((ns.zip ks).drop i) ((ns'.zip ks').drop k) = (xn, some xk, some yk) :: mrgK ((ns.zip ks).drop (i + 1)) ((ns'.zip ks').drop (k + 1)) := by
        rw [zip_drop hxn hxk, zip_drop hyn hyk, mrgK_both hnlt hnlt2]
      have hw1 : W (xn, some xk, some yk) = walkE n (ps ++ [xn]) (some xk) (some yk) := by rw [← hW]
      rw [hmk, List.map_cons, List.flatten_cons, hw1] at hout hoL
      rw [List.length_append] at hoL
      refine ih (op.rel (ok_str w0)) (mono_rt _ _ _ _ _ k2.le hg1) (mono_rt _ _ _ _ _ k2.le hg2) hkx hky hcx hcy (by rw [List.length_append, sumS_snoc]; simp only [List.length_cons, List.length_nil]; omega) fun v3 G3 s3 k3 o3 f3 => ?_
      have K23 := k2.trans k3
      have o4 := ho.frame (ok_en w0) (K23.but_at fun b hb => (ho.dom (ok_en w0) b hb).2)
      refine o4.allOwn (ok_en w0) o3.osl (fun j hj hj' => (ho.dom (ok_en w0) j hj').2 (none_old k2 (f3 j hj))) (by omega) (by omega) fun v5 G5 s5 k5 o5 f5 => ?_
      rw [pBin_add (by omega), pBin_add (by omega)]
      refine hL _ _ (c - 1) (by omega) ⟨i + 1, k + 1, G5, v5, _, by omega, by omega, by omega, k5.old (ks0.trans K23) hG, fun j hj => ?_, o5, by rw [List.append_assoc]; exact hout, by simp⟩
      rcases f5 j hj with h | h | h
      · exact hG j h
      · exact none_old (ks0.trans k2) (f3 j h)
      · exact none_old (ks0.trans K23) h
    · rw [hu'.len, pBin_lt, pIf_d]
      refine ⟨fun hkb => ?_, fun hkb => ?_⟩
      · have hyn := List.getElem?_eq_getElem (show k < ns'.length by omega)
        have hyk := List.getElem?_eq_getElem (show k < ks'.length by omega)
        generalize ns'[k]'(by omega) = yn at hyn
        generalize ks'[k]'(by omega) = yk at hyk
        rw [hu'.len, pBin_ge, pIf_d]
        refine ⟨fun h => by omega, fun _ => ?_⟩
        rw [hu.len, pBin_lt, pIf_d]
        refine ⟨fun h => absurd h hia, fun _ => ?_⟩
        rw [hu.len, pBin_ge, pIf_d]
        refine ⟨fun _ => ?_, fun h => by omega⟩
        refine hNe yn yk hyn hyk fun a r e => ?_
        rw [List.drop_of_length_le (by rw [List.length_zip]; omega)] at e
        cases e
      · rw [List.drop_of_length_le (by rw [List.length_zip]; omega), List.drop_of_length_le (by rw [List.length_zip]; omega), mrgK] at hout
        simp only [List.map_nil, List.flatten_nil, List.append_nil] at hout
        exact hR acc G st ks0 (by rw [← hout]; exact ho) hG
end
end Go.Proofs.YtkbhjejalkbogaaGreat

/- What becomes of a part, with all below: by the program's hand. -/
set_option linter.unusedVariables false
set_option linter.unusedSimpArgs false
set_option maxRecDepth 20000
namespace Go.Proofs.YtkbhjejalkbogaaGreat
open Go Go.Av

/-- The names ascend, all the way down. -/
def ascT : Nat → Tr → Prop
  | 0, _ => True
  | n + 1, .mk d m t ns ks => AscS ns ∧ ∀ k, k ∈ ks → ascT n k
theorem sound_asc : ∀ (m n : Nat) (x : Tr) (k : Int), soundB n x k = true → ascT m x
  | 0, _, _, _, _ => trivial
  | m + 1, 0, x, k, h => by simp [soundB] at h
  | m + 1, n + 1, .mk d mo t ns ks, k, h => by
    simp only [soundB, plainB, Bool.and_eq_true, decide_eq_true_eq] at h
    refine ⟨?_, fun c hc => ?_⟩
    · cases d
      · have := h.1.2.2
        simp at this
        rw [this.2]; exact List.Pairwise.nil
      · have := h.1.2.2
        simp at this
        exact asc_names this.1
    · obtain ⟨j, hj⟩ := List.getElem?_of_mem hc
      exact sound_asc m n c _ (allB_iff.1 h.2.2 j c hj)
theorem sound_down5 : ∀ (m n : Nat) (x : Tr) (k : Int), soundB n x k = true → 5 ≤ k + (m : Int) → (∀ rd es, RT n rd es x → RT m rd es x) ∧ shortT m x ∧ cntT m x ≤ cntT n x
  | m, 0, x, k, h, _ => by simp [soundB] at h
  | 0, n + 1, .mk d mo t ns ks, k, h, hk => by
    simp only [soundB, Bool.and_eq_true, decide_eq_true_eq] at h
    exact absurd h.2.1 (by omega)
  | m + 1, n + 1, .mk d mo t ns ks, k, h, hk => by
    have hs := sound_short (n + 1) _ k h
    simp only [soundB, Bool.and_eq_true, decide_eq_true_eq] at h
    have ih : ∀ y, y ∈ ks → (∀ rd es, RT n rd es y → RT m rd es y) ∧ shortT m y ∧ cntT m y ≤ cntT n y := fun y hy => by
      obtain ⟨j, hj⟩ := List.getElem?_of_mem hy
      exact sound_down5 m n y (k + 1) (allB_iff.1 h.2.2 j y hj) (by omega)
    refine ⟨fun rd es hr => ?_, ⟨hs.1, hs.2.1, hs.2.2.1, hs.2.2.2.1, fun y hy => (ih y hy).2.1⟩, ?_⟩
    · obtain ⟨u, w, h1, h2, h3, h4, A, cap, e1, e2, e3⟩ := hr
      refine ⟨u, w, h1, h2, h3, h4, A, cap, e1, e2, fun j y hj => ?_⟩
      obtain ⟨a, es', q1, q2, q3, q4⟩ := e3 j y hj
      exact ⟨a, es', q1, q2, q3, (ih y (List.mem_of_getElem? hj)).1 _ _ q4⟩
    · have := sumBy_mono (f := cntT m) (g := cntT n) (xs := ks) fun y hy => (ih y hy).2.2
      show ks.length + sumBy (cntT m) ks ≤ ks.length + sumBy (cntT n) ks
      omega
theorem short_wf : ∀ (n : Nat) (x : Tr), shortT n x → wfT n x
  | 0, _, _ => trivial
  | n + 1, .mk d m t ns ks, h => ⟨h.2.2.1, fun k hk => short_wf n k (h.2.2.2.2 k hk)⟩
theorem nidx_mem : ∀ {ns : List ByteArray} {x : ByteArray}, x ∈ ns → ∃ j, nidx ns x = some j
  | s :: r, x, h => by
    unfold nidx
    by_cases e : s = x
    · exact ⟨0, if_pos e⟩
    · obtain ⟨j, hj⟩ := nidx_mem ((List.mem_cons.1 h).resolve_left fun h => e h.symm)
      exact ⟨j + 1, by rw [if_neg e, hj]; rfl⟩
theorem kid_lk {n : Nat} {x : Tr} (h : shortT n x) (nm : ByteArray) : kidT x nm = lk (partsOf x) nm := by
  obtain _ | n := n
  · exact h.elim
  obtain ⟨d, m, t, ns, ks⟩ := x
  exact (lk_zip h.2.2.1 nm).symm
theorem part_names {n : Nat} {x : Tr} (h : shortT n x) : (partsOf x).map (·.1) = namesOf x := by
  obtain _ | n := n
  · exact h.elim
  obtain ⟨d, m, t, ns, ks⟩ := x
  exact zip_fst h.2.2.1

section
variable {w0 : World} {σ : Vw}

theorem impl_gone {v : Value} {ps : List ByteArray} (hv : RSl 1 RS (Av.get w0 σ) v ps) (hl : ps.length ≤ 1000000) {R : Value → Vw → Prop}
    (hR : ∀ v' P s', Keeps σ s' → OStrs w0 s' P v' ps → (∀ i, i ∈ P → σ i = none) → R (.agg ⟨[v', .int .i64 1, .bool false, .int .i64 0, .string ⟨#[]⟩]⟩) s') : AC Tryz.prog w0 n_impl_gone [v] σ R := by
  refine ac_impl_gone ?_
  unfold vc_impl_gone
  refine copy_strs hv (by omega) fun v1 P s1 k1 o1 f1 => ?_
  rw [pVal1 (OSl.one' o1), pVal1 rfl, pVal_5 (OSl.one' o1) rfl rfl rfl rfl]
  exact hR v1 P s1 k1 o1 f1

theorem fresh_puts : Puts w0 n_impl_fresh_c1 t_impl_Entry (OEn w0) fNew := by
  intro n b s G ps v es x xs R hn5 h hx hc hv hps hB hl hR
  obtain ⟨hb, hbG, u, e2, hr, ho⟩ := hB
  have h0 := h
  obtain ⟨q1, q2, rfl, hm, ht, _, _, hpv⟩ := h.cells
  refine ac_impl_fresh_c1 ?_
  unfold vc_impl_fresh_c1
  rw [hpv]
  simp only [cellOf_agg, List.getD_cons_zero, List.getD_cons_succ]
  refine load_row hb hr rfl fun g hg => ?_
  rw [hg]
  intro n1 h1 h2
  have kb : Keeps s (s.put n1 ⟨t_string, [], 0, (0, 0)⟩) := Keeps.put h2
  have hb0 : ∀ i, i ∈ [n1] → s i = none := fun i hi => by rw [List.mem_singleton.1 hi]; exact h2
  refine ⟨stay_row hb hr (kb _ _ hr), ?_⟩
  refine (OAcc.new (w0 := w0) (σ := s) (ety := t_string) (n := 1) (O := OStr) h1).all (ok_str w0) hv kb.le (fun es y hy => ⟨rfl, hy⟩) (by simp; omega) (by omega) fun v3 P s4 k4 o4 f4 => ?_
  have K4 : Keeps s s4 := k4.old kb hb0
  have hP := fresh_in kb hb0 f4
  rw [List.nil_append] at o4
  refine ⟨stay_row hb (kb _ _ hr) (K4 _ _ hr), ?_⟩
  rw [pVal1 (OSl.one' o4.osl), pVal1 rfl, pVal1 rfl, pVal1 rfl, pVal1 rfl, pVal_5 (OSl.one' o4.osl) rfl rfl rfl rfl]
  refine box_push (ok_en w0) (y := fNew n ps x) hb hbG (K4 _ _ hr) (ho.frame (ok_en w0) (K4.but_at fun i hi => (ho.dom (ok_en w0) i hi).2)) (fNew_own o4.osl hm ht) (fun i hi hi' => ?_) hl fun G' s' kk hB' f' => ?_
  · have := hP i hi
    rcases List.mem_cons.1 hi' with rfl | hi'
    · rw [hr] at this; cases this
    · exact (ho.dom (ok_en w0) i hi').2 this
  · refine hR G' s' (fun i r hi hn => kk i r (K4 i r hi) hn) hB' fun i hi => ?_
    rcases f' i hi with h | h | h
    · exact .inl h
    · exact .inr (hP i h)
    · exact .inr (none_old K4 h)

theorem impl_fresh {n : Nat} {v : Value} {ps : List ByteArray} {es : List Value} {x : Tr} (hv : RSl 1 RS (Av.get w0 σ) v ps) (h : RT n (Av.get w0 σ) es x) (hn : n ≤ 5) (hx : shortT n x) (hc : cntT n x ≤ 100000) (hps : ps.length + sumS ps + 6 * n ≤ 1000000) {R : Value → Vw → Prop}
    (hR : ∀ v' G σ', Keeps σ σ' → OAcc w0 t_impl_Entry 5 (OEn w0) σ' G v' (linT fNew n ps x) → (∀ i, i ∈ G → σ i = none) → R v' σ') : AC Tryz.prog w0 n_impl_fresh [v, .agg ⟨es⟩] σ R := by
  have h0 := h
  obtain ⟨e0, e1, e2, e3, e4, rfl, _, hpv⟩ := RT.five h
  refine ac_impl_fresh ?_
  unfold vc_impl_fresh
  rw [hpv]
  simp only [cellOf_agg, List.getD_cons_zero, List.getD_cons_succ]
  refine box_new (O := OEn w0) fun b b0 s1 k1 hB hb hb0 => ?_
  have hf : ∀ i, i ∈ [b, b0] → σ i = none := fun i hi => by
    simp at hi
    rcases hi with rfl | rfl
    · exact hb
    · exact hb0
  refine each_list (ok_en w0) fresh_puts n (σ0 := σ) (ps := ps) hn h0 hx hc k1 hf hB (PathIn.of_keeps hv k1 hf) hps (by simp only [List.length_nil]; omega) fun G' s2 k2 hB2 f2 => ?_
  refine box_read (K := fun v => R v s2) hB2 fun v' ho => ?_
  rw [List.nil_append] at ho
  refine hR v' G' s2 (k2.old k1 hf) ho fun i hi => ?_
  rcases f2 i hi with h | h
  · exact hf i (List.mem_cons_of_mem _ h)
  · exact none_old k1 h

theorem impl_changes {n m : Nat} {v : Value} {ps : List ByteArray} {es es' : List Value} {x y : Tr} (hv : RSl 1 RS (Av.get w0 σ) v ps) (hl : ps.length ≤ 1000000) (h : RT n (Av.get w0 σ) es x) (h' : RT m (Av.get w0 σ) es' y) {R : Value → Vw → Prop}
    (hR : ∀ v' G s', Keeps σ s' → OAcc w0 t_impl_Entry 5 (OEn w0) s' G v' (partE ps x y) → (∀ i, i ∈ G → σ i = none) → R v' s') : AC Tryz.prog w0 n_impl_changes [v, .agg ⟨es⟩, .agg ⟨es'⟩] σ R := by
  obtain ⟨u, w, rfl, hm, ht, _, _, hp⟩ := h.cells
  obtain ⟨u', w', rfl, hm', ht', _, _, hp'⟩ := h'.cells
  refine ac_impl_changes ?_
  unfold vc_impl_changes
  rw [hp, hp']
  simp only [cellOf_agg, List.getD_cons_zero, List.getD_cons_succ]
  intro b hb1 hb2
  have kb : Keeps σ (σ.put b ⟨t_impl_Entry, [], 0, (0, 0)⟩) := Keeps.put hb2
  have o0 : OAcc w0 t_impl_Entry 5 (OEn w0) (σ.put b ⟨t_impl_Entry, [], 0, (0, 0)⟩) [b] (.slice (some ⟨b, 0, none⟩) 0 0) [] := OAcc.new hb1
  have f0 : ∀ i, i ∈ [b] → σ i = none := fun i hi => by rw [List.mem_singleton.1 hi]; exact hb2
  have z0 : (0 : Nat) ≤ 9223372036854775807 := by omega
  rw [pBin_ne, pIf_d]
  refine ⟨fun hne => ?_, fun heq => ?_⟩
  · refine part_push (k := 3) (m := modeOf y) (t := ⟨#[]⟩) hv hl kb f0 o0 rfl rfl ⟨by show _ ≤ (3 : Int) ∧ (3 : Int) ≤ _; omega, hm', by show 0 ≤ _; omega⟩ (by simp) fun v1 G1 s1 k1 o1 f1 => ?_
    rw [List.nil_append] at o1
    rw [pBin_sne, pIf_d]
    refine ⟨fun hne2 => ?_, fun heq2 => ?_⟩
    · refine part_push (k := 4) (m := 0) (t := dataOf y) hv hl k1 f1 o1 rfl rfl ⟨by show _ ≤ (4 : Int) ∧ (4 : Int) ≤ _; omega, by show _ ≤ (0 : Int) ∧ (0 : Int) ≤ _; omega, ht'⟩ (by simp) fun v2 G2 s2 k2 o2 f2 => ?_
      have e : partE ps x y = [(ps, 3, false, modeOf y, ⟨#[]⟩)] ++ [(ps, 4, false, 0, dataOf y)] := by rw [partE, if_neg hne, if_neg hne2]
      exact hR v2 G2 s2 k2 (by rw [e]; exact o2) f2
    · have e : partE ps x y = [(ps, 3, false, modeOf y, ⟨#[]⟩)] := by rw [partE, if_neg hne, if_pos (Decidable.not_not.1 heq2)]; rfl
      exact hR v1 G1 s1 k1 (by rw [e]; exact o1) f1
  · rw [pBin_sne, pIf_d]
    have heq := Decidable.not_not.1 heq
    refine ⟨fun hne2 => ?_, fun heq2 => ?_⟩
    · refine part_push (k := 4) (m := 0) (t := dataOf y) hv hl kb f0 o0 rfl rfl ⟨by show _ ≤ (4 : Int) ∧ (4 : Int) ≤ _; omega, by show _ ≤ (0 : Int) ∧ (0 : Int) ≤ _; omega, ht'⟩ (by simp) fun v2 G2 s2 k2 o2 f2 => ?_
      have e : partE ps x y = [] ++ [(ps, 4, false, 0, dataOf y)] := by rw [partE, if_pos heq, if_neg hne2]
      exact hR v2 G2 s2 k2 (by rw [e]; exact o2) f2
    · have e : partE ps x y = [] := by rw [partE, if_pos heq, if_pos (Decidable.not_not.1 heq2)]; rfl
      exact hR _ [b] _ kb (by rw [e]; exact o0) f0

/-- What is asked of a part, if it is there. -/
def fineO (n : Nat) (o : Option Tr) : Prop := ∀ x, o = some x → shortT n x ∧ cntT n x ≤ 100000 ∧ ascT n x

theorem names_len {n : Nat} {x : Tr} (h : shortT n x) (hc : cntT n x ≤ 100000) : (namesOf x).length ≤ 100000 := by
  obtain _ | n := n
  · exact h.elim
  obtain ⟨d, m, t, ns, ks⟩ := x
  have e1 : cntT (n + 1) (.mk d m t ns ks) = ks.length + sumBy (cntT n) ks := rfl
  have := h.2.2.1
  show ns.length ≤ _
  omega
theorem kid_fine {n : Nat} {x : Tr} (h : fineO (n + 1) (some x)) (nm : ByteArray) : fineO n (kidT x nm) := by
  intro k hk
  obtain ⟨h1, h2, h3⟩ := h x rfl
  have hm := kid_mem hk
  obtain ⟨d, m, t, ns, ks⟩ := x
  have hm' : k ∈ ks := hm
  have e1 : cntT (n + 1) (.mk d m t ns ks) = ks.length + sumBy (cntT n) ks := rfl
  have := sumBy_mem (f := cntT n) hm'
  exact ⟨h1.2.2.2.2 k hm', by omega, h3.2 k hm'⟩
theorem name_short {n : Nat} {x : Tr} (h : shortT n x) {nm : ByteArray} (hm : nm ∈ namesOf x) : nm.size ≤ 5 := by
  obtain _ | n := n
  · exact h.elim
  obtain ⟨d, m, t, ns, ks⟩ := x
  exact h.2.2.2.1 nm hm
theorem kid_there {n : Nat} {x : Tr} (h : shortT n x) {nm : ByteArray} (hm : nm ∈ namesOf x) : kidT x nm ≠ none := by
  obtain _ | n := n
  · exact h.elim
  obtain ⟨d, m, t, ns, ks⟩ := x
  obtain ⟨j, hj⟩ := nidx_mem (show nm ∈ ns from hm)
  obtain ⟨k, _, hk, _⟩ := kid_some (short_wf (n + 1) _ h) hj
  rw [hk]; simp

set_option maxHeartbeats 4000000 in
theorem impl_walk : ∀ (n : Nat) {σ : Vw} {v p q : Value} {ps : List ByteArray} {a b : Option Tr} {R : Value → Vw → Prop}, n ≤ 5 → RSl 1 RS (Av.get w0 σ) v ps → PO n (Av.get w0 σ) p a → PO n (Av.get w0 σ) q b → fineO n a → fineO n b → ¬ (a = none ∧ b = none) →
    ps.length + sumS ps + 6 * n ≤ 1000000 → (∀ v' G s', Keeps σ s' → OAcc w0 t_impl_Entry 5 (OEn w0) s' G v' (walkE n ps a b) → (∀ i, i ∈ G → σ i = none) → R v' s') →
    AC Tryz.prog w0 n_impl_walk [v, p, q] σ R := by
  intro n
  induction n with
  | zero =>
    intro σ v p q ps a b R _ _ ha hb _ _ hne
    exfalso
    cases a with
    | some x => obtain ⟨_, _, _, _, _, h⟩ := ha; exact h
    | none => cases b with
      | some x => obtain ⟨_, _, _, _, _, h⟩ := hb; exact h
      | none => exact hne ⟨rfl, rfl⟩
  | succ n ih =>
    intro σ v p q ps a b R hn5 hv ha hb hfa hfb hne hps hR
    have hwl := walkE_len (n + 1) ps a b
    refine ac_impl_walk ?_
    unfold vc_impl_walk
    cases a with
    | none =>
      obtain rfl : p = .pointer none := ha
      cases b with
      | none => exact absurd ⟨rfl, rfl⟩ hne
      | some y =>
        obtain ⟨f1, f2, f3⟩ := hfb y rfl
        have hb' := hb
        obtain ⟨ad, es, rfl, _⟩ := hb'
        rw [pBin_nil ptr_tree, pIf_b]
        refine ⟨fun _ => ?_, fun h => by cases h⟩
        rw [pNil_s]
        refine PT.load hb fun g hg => ?_
        exact impl_fresh hv hg hn5 f1 f2 hps hR
    | some x =>
      obtain ⟨a1, a2, a3⟩ := hfa x rfl
      have ha' := ha
      obtain ⟨ad, es, rfl, _⟩ := ha'
      rw [pBin_nil ptr_tree, pIf_b]
      refine ⟨fun h => (by cases h), fun _ => ?_⟩
      cases b with
      | none =>
        obtain rfl : q = .pointer none := hb
        rw [pBin_nil ptr_tree, pIf_b]
        refine ⟨fun _ => ?_, fun h => by cases h⟩
        refine impl_gone hv (by omega) fun v1 P s1 k1 o1 f1 => ?_
        rw [pVal_5 (OSl.one' o1) rfl rfl rfl rfl]
        simp only [cellOf_agg, List.getD_cons_zero, List.getD_cons_succ]
        intro b hb1 hb2
        refine hR _ _ _ (k1.trans (Keeps.put hb2)) (OAcc.single (ok_en w0) (ety := t_impl_Entry) hb1 hb2 (gone_own o1)) fun i hi => ?_
        rcases List.mem_cons.1 hi with rfl | hi
        · exact none_old k1 hb2
        · exact f1 i hi
      | some y =>
        obtain ⟨b1, b2, b3⟩ := hfb y rfl
        have hb' := hb
        obtain ⟨bd, es', rfl, _⟩ := hb'
        have ha : PT (n + 1) (Av.get w0 σ) (.pointer (some ad)) x := ha
        have hb : PT (n + 1) (Av.get w0 σ) (.pointer (some bd)) y := hb
        rw [pBin_nil ptr_tree, pIf_b]
        refine ⟨fun h => (by cases h), fun _ => ?_⟩
        refine PT.ld ha 0 (by omega) fun es1 g1 he1 hg1 => ?_
        obtain ⟨u1, w1, rfl, _⟩ := he1.cells
        simp only [List.getElem?_cons_zero, Option.some.injEq] at hg1
        refine PT.ld hb 0 (by omega) fun es2 g2 he2 hg2 => ?_
        obtain ⟨u2, w2, rfl, _⟩ := he2.cells
        simp only [List.getElem?_cons_zero, Option.some.injEq] at hg2
        have eb : ∀ K : Value → Prop, pBin Tryz.prog 4 .neq (.bool (isDir x)) (.bool (isDir y)) K ↔ K (.bool !(isDir x == isDir y)) := fun K => pBin_b (by kernel_rfl) rfl
        rw [← hg1, ← hg2, eb, pIf_b]
        refine ⟨fun hd => ?_, fun hd => ?_⟩
        · have hd' : ¬ isDir x = isDir y := by simpa using hd
          have ew : walkE (n + 1) ps (some x) (some y) = [goneE ps] ++ linT fNew (n + 1) ps y := by
            simp only [walkE]; rw [if_neg hd']; rfl
          rw [ew] at hR hwl
          rw [List.length_append] at hwl
          rw [pNil_s]
          refine PT.load hb fun g hg => ?_
          refine impl_gone hv (by omega) fun v1 P s1 k1 o1 f1 => ⟨k1.stay, ?_, ?_⟩
          · rw [pVal_5 (OSl.one' o1) rfl rfl rfl rfl]
            simp only [cellOf_agg, List.getD_cons_zero, List.getD_cons_succ]
            intro b hb1 hb2
            have kb : Keeps s1 (s1.put b ⟨t_impl_Entry, [v1, .int .i64 1, .bool false, .int .i64 0, .string ⟨#[]⟩], 5, (0, 0)⟩) := Keeps.put hb2
            have K2 := k1.trans kb
            refine ⟨kb.stay, ?_⟩
            have oo := OAcc.single (ok_en w0) (ety := t_impl_Entry) hb1 hb2 (gone_own o1)
            refine impl_fresh (hv.mono K2.le fun _ _ h => h) (mono_rt _ _ _ _ _ K2.le hg) hn5 b1 b2 hps fun v2 G2 s2 k2 o2 f2 => ?_
            have oo' := oo.frame (ok_en w0) (k2.but_at fun i hi => (oo.dom (ok_en w0) i hi).2)
            have hfp : ∀ i, i ∈ b :: P → σ i = none := fun i hi => by
              rcases List.mem_cons.1 hi with rfl | hi
              · exact none_old k1 hb2
              · exact f1 i hi
            refine oo'.allOwn (ok_en w0) o2.osl (fun i hi hi' => (oo.dom (ok_en w0) i hi').2 (f2 i hi)) (by simp only [cntO] at hwl; omega) (by omega) fun v3 G3 s3 k3 o3 f3 => ?_
            refine hR v3 G3 s3 (k3.old (K2.trans k2) hfp) o3 fun i hi => ?_
            rcases f3 i hi with h | h | h
            · exact hfp i h
            · exact none_old K2 (f2 i h)
            · exact none_old (K2.trans k2) h
          · refine impl_fresh (hv.mono k1.le fun _ _ h => h) (mono_rt _ _ _ _ _ k1.le hg) hn5 b1 b2 hps fun v2 G2 s2 k2 o2 f2 => ?_
            have o1' := o1.frame (ok_str w0) (k2.but_at fun i hi => (o1.dom (ok_str w0) i hi).2)
            rw [pVal_5 (OSl.one' o1) rfl rfl rfl rfl]
            simp only [cellOf_agg, List.getD_cons_zero, List.getD_cons_succ]
            intro b hb1 hb2
            have kb : Keeps s2 (s2.put b ⟨t_impl_Entry, [v1, .int .i64 1, .bool false, .int .i64 0, .string ⟨#[]⟩], 5, (0, 0)⟩) := Keeps.put hb2
            refine ⟨kb.stay, ?_⟩
            have oo := OAcc.single (ok_en w0) (ety := t_impl_Entry) hb1 hb2 (gone_own o1')
            have o2' := o2.frame (ok_en w0) (kb.but_at fun i hi => (o2.dom (ok_en w0) i hi).2)
            have hfp : ∀ i, i ∈ b :: P → σ i = none := fun i hi => by
              rcases List.mem_cons.1 hi with rfl | hi
              · exact none_old (k1.trans k2) hb2
              · exact f1 i hi
            refine oo.allOwn (ok_en w0) o2'.osl (fun i hi hi' => ?_) (by simp only [cntO] at hwl; omega) (by omega) fun v3 G3 s3 k3 o3 f3 => ?_
            · rcases List.mem_cons.1 hi' with rfl | hi'
              · exact (o2.dom (ok_en w0) _ hi).2 hb2
              · exact (o1.dom (ok_str w0) i hi').2 (f2 i hi)
            have K2 := (k1.trans k2).trans kb
            refine hR v3 G3 s3 (k3.old K2 hfp) o3 fun i hi => ?_
            rcases f3 i hi with h | h | h
            · exact hfp i h
            · exact none_old k1 (f2 i h)
            · exact none_old K2 h
        have hd' : isDir x = isDir y := by simpa using hd
        have ew : walkE (n + 1) ps (some x) (some y) = partE ps x y ++ ((mrgK (partsOf x) (partsOf y)).map fun z => walkE n (ps ++ [z.1]) z.2.1 z.2.2).flatten := by
          simp only [walkE]; rw [if_pos hd']
        have hasc : ∀ {z : Tr}, ascT (n + 1) z → AscS (namesOf z) := fun {z} h => by obtain ⟨d, m, t, ns, ks⟩ := z; exact h.1
        have emk := mrgK_names (xa := partsOf x) (xb := partsOf y) (by rw [part_names a1]; exact hasc a3) (by rw [part_names b1]; exact hasc b3) (namesU_asc (namesOf x ++ namesOf y)) (fun z => by rw [namesU_mem, part_names a1, part_names b1, List.mem_append])
        rw [ew, ← emk, List.map_map] at hR hwl
        have eW : ((fun z : Pr => walkE n (ps ++ [z.1]) z.2.1 z.2.2) ∘ fun nm => ((nm, lk (partsOf x) nm, lk (partsOf y) nm) : Pr)) = fun nm => walkE n (ps ++ [nm]) (kidT x nm) (kidT y nm) := by
          funext nm
          simp only [Function.comp_apply]
          rw [kid_lk a1, kid_lk b1]
        rw [eW] at hR hwl
        have hLm : ∀ z, z ∈ namesU (namesOf x ++ namesOf y) → z ∈ namesOf x ∨ z ∈ namesOf y := fun z hz => by rw [namesU_mem, List.mem_append] at hz; exact hz
        generalize hL : namesU (namesOf x ++ namesOf y) = L at hR hwl hLm
        generalize hpe : partE ps x y = pe at hR hwl
        generalize hW : (fun nm => walkE n (ps ++ [nm]) (kidT x nm) (kidT y nm)) = W at hR hwl
        rw [pNil_s]
        refine PT.load ha fun g3 hg3 => ?_
        rw [pNil_s]
        refine PT.load hb fun g4 hg4 => ?_
        refine impl_changes hv (by omega) hg3 hg4 fun v1 G1 s1 k1 o1 f1 => ?_
        rw [hpe] at o1
        have nl1 := names_len a1 a2
        have nl2 := names_len b1 b2
        refine impl_either (ha.mono k1.le) (hb.mono k1.le) (by omega) fun nv F s2 k2 on fn => ?_
        rw [hL] at on
        have onr := on.rel (ok_str w0)
        have o1' := o1.frame (ok_en w0) (k2.but_at fun i hi => (o1.dom (ok_en w0) i hi).2)
        rw [onr.len]
        have hll := onr.le
        refine loop_rule (m := L.length) (fun c l st => ∃ (j : Nat) (G : List Nat) (acc : Value), c + j = L.length ∧ Keeps σ st ∧ (∀ i, i ∈ G → σ i = none) ∧ OAcc w0 t_impl_Entry 5 (OEn w0) st G acc (pe ++ ((L.take j).map W).flatten) ∧
            OStrs w0 st F nv L ∧ (∀ i, i ∈ F → i ∉ G) ∧ l = [v, .pointer (some ad), .pointer (some bd), acc, nv, .int .i64 (L.length : Nat), .int .i64 (j : Nat)]) ?_
          ⟨0, G1, v1, by omega, k1.trans k2, f1, by simpa using o1', on, fun i hi hi' => (o1.dom (ok_en w0) i hi').2 (fn i hi), rfl⟩
        rintro c l st L' ⟨j, G, acc, hcj, ks0, hG, ho, hon, hFG, rfl⟩ hL'
        simp only [vget, List.getD_cons_zero, List.getD_cons_succ]
        rw [pBin_lt, pIf_d]
        refine ⟨fun hj => ?_, fun hj => ?_⟩
        · have hnm := List.getElem?_eq_getElem (show j < L.length by omega)
          generalize L[j]'(by omega) = nm at hnm
          have hmem := hLm nm (List.mem_of_getElem? hnm)
          have hsz : nm.size ≤ 5 := by
            rcases hmem with h | h
            · exact name_short a1 h
            · exact name_short b1 h
          refine RSl.at1 (hon.rel (ok_str w0)) hnm fun g hg hgs => ?_
          rw [hg]
          refine below_path (hv.mono ks0.le fun _ _ h => h) (by omega) (by omega) fun pv PF s3 k3 op fp => ?_
          have K3 := ks0.trans k3
          refine impl_kid (ha.mono K3.le) (short_wf _ _ a1) fun qa hqa => ?_
          refine impl_kid (hb.mono K3.le) (short_wf _ _ b1) fun qb hqb => ?_
          have hne' : ¬ (kidT x nm = none ∧ kidT y nm = none) := fun h => by
            rcases hmem with hm | hm
            · exact kid_there a1 hm h.1
            · exact kid_there b1 hm h.2
          have hW1 : W nm = walkE n (ps ++ [nm]) (kidT x nm) (kidT y nm) := by rw [← hW]
          have ho3 := ho.frame (ok_en w0) (k3.but_at fun i hi => (ho.dom (ok_en w0) i hi).2)
          have hon3 := hon.frame (ok_str w0) (k3.but_at fun i hi => (hon.dom (ok_str w0) i hi).2)
          refine ih (by omega) (op.rel (ok_str w0)) hqa hqb (kid_fine hfa nm) (kid_fine hfb nm) hne' (by rw [List.length_append, sumS_snoc]; simp only [List.length_cons, List.length_nil]; omega) fun v4 G4 s4 k4 o4 f4 => ?_
          rw [← hW1] at o4
          have ho4 := ho3.frame (ok_en w0) (k4.but_at fun i hi => (ho3.dom (ok_en w0) i hi).2)
          have hon4 := hon3.frame (ok_str w0) (k4.but_at fun i hi => (hon3.dom (ok_str w0) i hi).2)
          have hlen : (pe ++ ((L.take j).map W).flatten).length + (W nm).length ≤ 900000 := by
            have e1 := flat_take (f := W) hnm
            have e2 : ((L.map W).flatten).length = (((L.take (j + 1)).map W).flatten).length + (((L.drop (j + 1)).map W).flatten).length := by
              rw [← List.length_append, ← List.flatten_append, ← List.map_append, List.take_append_drop]
            rw [e1, List.length_append] at e2
            rw [List.length_append] at hwl ⊢
            simp only [cntO] at hwl
            omega
          have K4 := K3.trans k4
          refine ho4.allOwn (ok_en w0) o4.osl (fun i hi hi' => (ho3.dom (ok_en w0) i hi').2 (f4 i hi)) (by omega) (by omega) fun v5 G5 s5 k5 o5 f5 => ?_
          rw [pBin_add (by omega)]
          refine hL' _ _ (c - 1) (by omega) ⟨j + 1, G5, v5, by omega, k5.old K4 hG, fun i hi => ?_, ?_, hon4.frame (ok_str w0) (k5.at (fun i hi => (hon4.dom (ok_str w0) i hi).2) hFG), fun i hi hi' => ?_, by simp⟩
          · rcases f5 i hi with h | h | h
            · exact hG i h
            · exact none_old K3 (f4 i h)
            · exact none_old K4 h
          · rw [flat_take hnm, ← List.append_assoc]; exact o5
          · rcases f5 i hi' with h | h | h
            · exact hFG i hi h
            · exact (hon3.dom (ok_str w0) i hi).2 (f4 i h)
            · exact (hon4.dom (ok_str w0) i hi).2 h
        · have e : j = L.length := by omega
          subst e
          rw [List.take_length] at ho
          exact hR acc G st ks0 ho hG
end
end Go.Proofs.YtkbhjejalkbogaaGreat

/- A call done in a tree by the reference's hand: that it gives a tree, and not too large a one. -/
set_option linter.unusedVariables false
set_option linter.unusedSimpArgs false
namespace Go.Proofs.YtkbhjejalkbogaaGreat
open Go Go.Av

theorem short_sz : ∀ (n : Nat) (x : Tr), shortT n x → szT n x ≤ 24 + 31 * cntT n x
  | 0, _, h => h.elim
  | n + 1, .mk d m t ns ks, h => by
    obtain ⟨_, h2, h3, h4, h5⟩ := h
    have hk : ∀ l : List Tr, (∀ k, k ∈ l → shortT n k) → sumBy (szT n) l ≤ 24 * l.length + 31 * sumBy (cntT n) l := fun l hl => by
      induction l with
      | nil => simp [sumBy]
      | cons a r ih =>
        have := short_sz n a (hl a List.mem_cons_self)
        have := ih fun k hk => hl k (List.mem_cons_of_mem _ hk)
        simp only [sumBy, List.length_cons]; omega
    have hn : ∀ l : List ByteArray, (∀ s, s ∈ l → s.size ≤ 5) → sumS l ≤ 5 * l.length := fun l hl => by
      induction l with
      | nil => simp [sumS]
      | cons a r ih =>
        have := hl a List.mem_cons_self
        have := ih fun k hk => hl k (List.mem_cons_of_mem _ hk)
        simp only [sumS, List.length_cons]; omega
    have h6 := hk ks h5
    have h7 := hn ns h4
    show t.size + (ns.length + sumS ns) + (ks.length + sumBy (szT n) ks) ≤ 24 + 31 * (ks.length + sumBy (cntT n) ks)
    omega
theorem ok_smallT {n : Nat} {rd : Addr → Option Value} {es : List Value} {x : Tr} (h : RT n rd es x) (hok : treeOk n x = true) : RT 5 rd es x ∧ wfT 5 x ∧ szT 5 x ≤ 1000 := by
  simp only [treeOk, Bool.and_eq_true, decide_eq_true_eq] at hok
  obtain ⟨h1, h2, h3⟩ := sound_down5 5 n x 0 hok.2.1 (by omega)
  have := short_sz 5 x h2
  have := hok.2.2
  exact ⟨h1 _ _ h, short_wf 5 x h2, by omega⟩
theorem RT.data {n : Nat} {rd : Addr → Option Value} {a b u w : Value} {s t : ByteArray} {x : Tr} (h : RT n rd [a, b, .string s, u, w] x) (ht : t.size ≤ 9223372036854775807) : ∃ y, RT n rd [a, b, .string t, u, w] y ∧ (wfT n x → wfT n y) ∧ szT n y + s.size = szT n x + t.size := by
  obtain _ | n := n
  · exact h.elim
  · obtain ⟨d, m, t0, ns, ks⟩ := x
    obtain ⟨u', w', e, h2, h3, h4, h5⟩ := h
    simp only [List.cons.injEq, and_true, Value.string.injEq] at e
    obtain ⟨rfl, rfl, rfl, rfl, rfl⟩ := e
    refine ⟨.mk d m t ns ks, ⟨_, _, rfl, h2, ht, h4, h5⟩, fun h => h, ?_⟩
    show t.size + (ns.length + sumS ns) + (ks.length + sumBy (szT n) ks) + s.size = s.size + (ns.length + sumS ns) + (ks.length + sumBy (szT n) ks) + t.size
    omega
theorem RT.mode {n : Nat} {rd : Addr → Option Value} {a b u w c : Value} {k : Int} {x : Tr} (h : RT n rd [a, b, c, u, w] x) (hk : -9223372036854775808 ≤ k ∧ k ≤ 9223372036854775807) : ∃ y, RT n rd [a, .int .i64 k, c, u, w] y ∧ (wfT n x → wfT n y) ∧ szT n y = szT n x := by
  obtain _ | n := n
  · exact h.elim
  · obtain ⟨d, m, t0, ns, ks⟩ := x
    obtain ⟨u', w', e, h2, h3, h4, h5⟩ := h
    simp only [List.cons.injEq, and_true] at e
    obtain ⟨rfl, rfl, rfl, rfl, rfl⟩ := e
    exact ⟨.mk d k t0 ns ks, ⟨_, _, rfl, hk, h3, h4, h5⟩, fun h => h, rfl⟩
theorem wf_zero : ∀ n, wfT n zeroT
  | 0 => trivial
  | n + 1 => ⟨rfl, fun k hk => by cases hk⟩
theorem pathB_ok {xs : List ByteArray} (h : pathB xs = true) : xs ≠ [] ∧ ∀ s, s ∈ xs → s.size ≤ 5 := by
  simp only [pathB, Bool.and_eq_true, inB, decide_eq_true_eq] at h
  refine ⟨fun e => by rw [e] at h; simp at h, fun s hs => ?_⟩
  obtain ⟨j, hj⟩ := List.getElem?_of_mem hs
  have := allNames_iff.1 h.1 j s hj
  simp only [nameOk, Bool.and_eq_true, inB, decide_eq_true_eq] at this
  omega
theorem callOk_facts {c : Cl} (h : callOk c = true) : (c.2.1 ≠ [] ∧ ∀ s, s ∈ c.2.1 → s.size ≤ 5) ∧ (c.1 = 5 → c.2.2.1 ≠ [] ∧ ∀ s, s ∈ c.2.2.1 → s.size ≤ 5) ∧ ((c.1 = 2 ∨ c.1 = 3) → 0 ≤ c.2.2.2.1 ∧ c.2.2.2.1 ≤ 24) := by
  simp only [callOk, Bool.and_eq_true] at h
  obtain ⟨_, h1, h2⟩ := h
  refine ⟨pathB_ok h1, fun e => ?_, fun e => ?_⟩
  · rw [if_neg (by omega), if_neg (by omega), if_pos e] at h2
    exact pathB_ok h2
  · rw [if_neg (by omega), if_pos e] at h2
    simpa [inB] using h2

section
variable {w0 : World} {σ : Vw}

/-- What such a step gives. -/
abbrev OutD (w0 : World) (σ : Vw) (R : Value → Vw → Prop) : Prop := ∀ es y σ' (k : Int), Keeps σ σ' → RT 11 (Av.get w0 σ') es y → szT 11 y ≤ 40000000 → (0 ≤ k ∧ k ≤ 7) → R (.tuple ⟨[.agg ⟨es⟩, .int .i64 k]⟩) σ'

theorem spec_l2Parent {n : Nat} {es : List Value} {u : Value} {x : Tr} {ps : List ByteArray} (h : RT n (Av.get w0 σ) es x) (hw : wfT n x) (hu : RSl 1 RS (Av.get w0 σ) u ps) (hne : ps ≠ []) {R : Value → Vw → Prop} (hR : ∀ k : Int, 0 ≤ k ∧ k ≤ 7 → R (.int .i64 k) σ) : AC Tryz.prog w0 n_spec_l2Parent [.agg ⟨es⟩, u] σ R := by
  refine ac_spec_l2Parent ?_
  unfold vc_spec_l2Parent
  have hl := hu.le
  have hpos := List.length_pos_iff.2 hne
  have h0 := h
  obtain ⟨a, b, c, d, e, rfl, hp⟩ := h.shape
  rw [hp, hu.len, pBin_sub (by omega), show ((ps.length : Nat) : Int) - 1 = ((ps.length - 1 : Nat) : Int) by omega]
  refine RSl.take hu (by omega) fun v' hv' => ?_
  simp only [cellOf_agg, List.getD_cons_zero, List.getD_cons_succ]
  refine spec_At _ h0 hw hv' fun es' hy => ?_
  obtain ⟨u', w', rfl, _, _, _, _, hp'⟩ := hy.cells
  rw [pExtract_s rfl, pExtract_s rfl, hp', pUn_not, pIf_b]
  refine ⟨fun _ => hR 3 (by omega), fun _ => ?_⟩
  simp only [cellOf_agg, List.getD_cons_zero, List.getD_cons_succ]
  rw [pUn_not, pIf_b]
  exact ⟨fun _ => hR 4 (by omega), fun _ => hR 0 (by omega)⟩

theorem spec_l2Fits {n m : Nat} {es et : List Value} {x t : Tr} (h : RT n (Av.get w0 σ) es x) (ht : RT m (Av.get w0 σ) et t) (hc : cntT n x ≤ 1000000000000) {R : Value → Vw → Prop} (h6 : R (.tuple ⟨[.agg ⟨et⟩, .int .i64 6]⟩) σ) (h0 : R (.tuple ⟨[.agg ⟨es⟩, .int .i64 0]⟩) σ) : AC Tryz.prog w0 n_spec_l2Fits [.agg ⟨es⟩, .agg ⟨et⟩] σ R := by
  refine ac_spec_l2Fits ?_
  unfold vc_spec_l2Fits
  have h1 := h
  obtain ⟨a, b, c, d, e, rfl, hp⟩ := h.shape
  obtain ⟨a', b', c', d', e', rfl, hp'⟩ := ht.shape
  rw [hp, hp']
  simp only [cellOf_agg, List.getD_cons_zero, List.getD_cons_succ]
  refine spec_TreeOk h1 hc ?_
  rw [pUn_not, pIf_b, hp, hp']
  exact ⟨fun _ => h6, fun _ => h0⟩

theorem set_fits {n : Nat} {et ez : List Value} {u : Value} {t z tb : Tr} {eb : List Value} {ps : List ByteArray} (hn : n ≤ 6) (ht : RT n (Av.get w0 σ) et t) (hw : wfT n t) (hsz : szT n t ≤ 10000) (hb : RT 5 (Av.get w0 σ) eb tb) (hbs : szT 5 tb ≤ 1000) (hu : RSl 1 RS (Av.get w0 σ) u ps) (hne : ps ≠ []) (hps : ∀ s, s ∈ ps → s.size ≤ 5)
    (hz : RT 5 (Av.get w0 σ) ez z) (hwz : wfT 5 z) (hzs : szT 5 z ≤ 3000) {R : Value → Vw → Prop} (hR : OutD w0 σ R) :
    AC Tryz.prog w0 n_spec_l2Set [.agg ⟨et⟩, u, .agg ⟨ez⟩, .bool false] σ (fun v12 s13 => AC Tryz.prog w0 n_spec_l2Fits [v12, .agg ⟨eb⟩] s13 (fun v14 s15 => pExtract v14 0 (fun v16 => pExtract v14 1 (fun v17 => pVal true 5 v16 (R (.tuple (⟨[.agg (⟨[cellOf v16 0, cellOf v16 1, cellOf v16 2, cellOf v16 3, cellOf v16 4]⟩), v17]⟩)) s15))))) := by
  have hmul : (szT n t + 1) * (5 + szT 5 z + 4) ≤ 10001 * 3009 := Nat.mul_le_mul (by omega) (by omega)
  refine spec_l2Set (k := 5) (P := 5) n ht hw hu hne hz hwz hps (by omega) fun es' y σ' k hy hwy hys => ?_
  have hy11 : RT 11 (Av.get w0 σ') es' y := RT_le (by omega) hy
  have hys11 : szT 11 y ≤ 40000000 := by rw [sz_more hy.isT (by omega)]; omega
  have hb' := mono_rt 5 _ _ _ _ k.le hb
  have hcnt := cnt_le (n + 5) y
  have hb11 : RT 11 (Av.get w0 σ') eb tb := RT_le (by omega) hb'
  have hbs11 : szT 11 tb ≤ 40000000 := by rw [sz_more hb.isT (by omega)]; omega
  refine spec_l2Fits hy hb' (by omega) ?_ ?_
  · obtain ⟨a, b, c, d, e, rfl, hp⟩ := hb'.shape
    rw [pExtract_s rfl, pExtract_s rfl, hp]
    simp only [cellOf_agg, List.getD_cons_zero, List.getD_cons_succ]
    exact hR _ _ _ 6 k hb11 hbs11 (by omega)
  · obtain ⟨a, b, c, d, e, rfl, hp⟩ := hy.shape
    rw [pExtract_s rfl, pExtract_s rfl, hp]
    simp only [cellOf_agg, List.getD_cons_zero, List.getD_cons_succ]
    exact hR _ _ _ 0 k hy11 hys11 (by omega)
end
end Go.Proofs.YtkbhjejalkbogaaGreat

/- A call done in a tree by the reference's hand: files, moves, all of it. -/
set_option linter.unusedVariables false
set_option linter.unusedSimpArgs false
namespace Go.Proofs.YtkbhjejalkbogaaGreat
open Go Go.Av

theorem wf_at : ∀ (ps : List ByteArray) {n : Nat} {x y : Tr}, IsT n x → wfT n x → atT x ps = some y → wfT n y
  | [], _, _, _, _, hw, e => by cases e; exact hw
  | p :: r, 0, x, y, ⟨_, _, h⟩, _, e => h.elim
  | p :: r, n + 1, .mk d m t ns ks, y, h, hw, e => by
    simp only [atT, Option.bind_eq_some_iff] at e
    obtain ⟨k, hk, e⟩ := e
    have hm := kid_mem hk
    have hi := isT_kid h hm
    obtain ⟨rd, es, h1⟩ := (sz_at r hi e).1
    exact wf_more h1 (wf_at r hi (hw.2 k hm) e) (by omega)

section
variable {w0 : World} {σ : Vw}

theorem OutD.same {es : List Value} {x : Tr} {R : Value → Vw → Prop} (hR : OutD w0 σ R) (h : RT 5 (Av.get w0 σ) es x) (hs : szT 5 x ≤ 1000) {k : Int} (hk : 0 ≤ k ∧ k ≤ 7) : R (.tuple ⟨[.agg ⟨es⟩, .int .i64 k]⟩) σ :=
  hR _ _ _ k (Keeps.refl _) (RT_le (by omega) h) (by rw [sz_more h.isT (by omega)]; omega) hk
theorem OutD.keep {R : Value → Vw → Prop} (hR : OutD w0 σ R) {s : Vw} (k : Keeps σ s) : OutD w0 s R := fun es y s' c k' h1 h2 h3 => hR es y s' c (k.trans k') h1 h2 h3

set_option maxHeartbeats 4000000 in
theorem spec_l2File {es cs : List Value} {x : Tr} {c : Cl} (h : RT 5 (Av.get w0 σ) es x) (hw : wfT 5 x) (hs : szT 5 x ≤ 1000) (hc : RCl (Av.get w0 σ) cs c) (hok : callOk c = true) (hk : c.1 = 2 ∨ c.1 = 3) (hdl : c.2.2.2.2.size ≤ 1000000) {R : Value → Vw → Prop} (hR : OutD w0 σ R) : AC Tryz.prog w0 n_spec_l2File [.agg ⟨es⟩, .agg ⟨cs⟩] σ R := by
  obtain ⟨⟨hne, hps⟩, _, hat⟩ := callOk_facts hok
  obtain ⟨k, p, t, a, d⟩ := c
  simp only at hne hps hat hk
  have hat := hat hk
  refine ac_spec_l2File ?_
  unfold vc_spec_l2File cs_spec_l2File_1 cs_spec_l2File_2
  have h0 := h
  obtain ⟨u, w, rfl, hu, hw', hkk, haa, hdd⟩ := hc
  simp only at hu hw' hkk haa hdd hdl
  obtain ⟨a0, a1, a2, a3, a4, rfl, hp⟩ := h.shape
  rw [hp, pVal_5 rfl hu.one hw'.one rfl rfl]
  simp only [cellOf_agg, List.getD_cons_zero, List.getD_cons_succ]
  refine spec_At _ h0 hw hu fun ez hz => ?_
  generalize hzz : (atT x p).getD zeroT = z at hz
  have hzsz : szT 5 z ≤ 1000 ∧ wfT 5 z := by
    cases hat2 : atT x p with
    | none => rw [hat2] at hzz; rw [← hzz]; exact ⟨by rw [show (none : Option Tr).getD zeroT = zeroT from rfl, sz_zero]; omega, wf_zero 5⟩
    | some y =>
      rw [hat2] at hzz
      have := (sz_at p h0.isT hat2).2
      have hwz : wfT 5 y := wf_at p h0.isT hw hat2
      rw [← hzz]; exact ⟨by show szT 5 y ≤ 1000; omega, hwz⟩
  obtain ⟨zu, zw, rfl, hz1, hz2, hz3, hz4, hzp⟩ := hz.cells
  rw [pExtract_s rfl, pExtract_s rfl, hzp]
  simp only [cellOf_agg, List.getD_cons_zero, List.getD_cons_succ]
  have hdz : (dataOf z).size ≤ 1000 := by
    obtain ⟨d', m', t', ns', ks'⟩ := z
    have : szT 5 (.mk d' m' t' ns' ks') = t'.size + (ns'.length + sumS ns') + (ks'.length + sumBy (szT 4) ks') := rfl
    show t'.size ≤ 1000
    omega
  have same : ∀ k : Int, 0 ≤ k ∧ k ≤ 7 → pVal true 5 (.agg (⟨[a0, a1, a2, a3, a4]⟩)) (R (.tuple (⟨[.agg (⟨[a0, a1, a2, a3, a4]⟩), .int .i64 k]⟩)) σ) := fun k hk => by
    rw [hp]; exact hR.same h0 hs hk
  have SET : ∀ (t' : ByteArray) (s : Vw), Keeps σ s → t'.size ≤ 1100 → pVal false 1 (.string t') (AC Tryz.prog w0 n_spec_l2Set [.agg ⟨[a0, a1, a2, a3, a4]⟩, u, .agg ⟨[.bool (isDir z), .int .i64 (modeOf z), .string t', zu, zw]⟩, .bool false] s (fun v12 s13 => AC Tryz.prog w0 n_spec_l2Fits [v12, .agg ⟨[a0, a1, a2, a3, a4]⟩] s13 (fun v14 s15 => pExtract v14 0 (fun v16 => pExtract v14 1 (fun v17 => pVal true 5 v16 (R (.tuple (⟨[.agg (⟨[cellOf v16 0, cellOf v16 1, cellOf v16 2, cellOf v16 3, cellOf v16 4]⟩), v17]⟩)) s15)))))) := fun t' s ks ht' => by
    rw [pVal1 rfl]
    obtain ⟨y, hy, hwy, hys⟩ := (mono_rt 5 _ _ _ _ ks.le hz).data (t := t') (by omega)
    have h0' := mono_rt 5 _ _ _ _ ks.le h0
    exact set_fits (by omega) h0' hw (by omega) h0' hs (hu.mono ks.le fun _ _ h => h) hne hps hy (hwy hzsz.2) (by omega) (hR.keep ks)
  obtain ⟨at', rfl⟩ : ∃ n : Nat, a = n := ⟨a.toNat, by omega⟩
  have TRUNC : pLenS (.string (dataOf z)) (fun v7 => pBin Tryz.prog 3 .gtr v7 (.int .i64 (at' : Nat)) (fun v8 => pIf v8 (pSliceStr (.string (dataOf z)) none (some (.int .i64 (at' : Nat))) (fun v9 => AC Tryz.prog w0 n_spec_l2Write ([v9, .int .i64 (at' : Nat), .string ({ data := #[] })]) σ (fun v10 s11 => pVal false 1 v10 (AC Tryz.prog w0 n_spec_l2Set [.agg ⟨[a0, a1, a2, a3, a4]⟩, u, .agg ⟨[.bool (isDir z), .int .i64 (modeOf z), v10, zu, zw]⟩, .bool false] s11 (fun v12 s13 => AC Tryz.prog w0 n_spec_l2Fits [v12, .agg ⟨[a0, a1, a2, a3, a4]⟩] s13 (fun v14 s15 => pExtract v14 0 (fun v16 => pExtract v14 1 (fun v17 => pVal true 5 v16 (R (.tuple (⟨[.agg (⟨[cellOf v16 0, cellOf v16 1, cellOf v16 2, cellOf v16 3, cellOf v16 4]⟩), v17]⟩)) s15)))))))))
      (AC Tryz.prog w0 n_spec_l2Write ([.string (dataOf z), .int .i64 (at' : Nat), .string ({ data := #[] })]) σ (fun v10 s11 => pVal false 1 v10 (AC Tryz.prog w0 n_spec_l2Set [.agg ⟨[a0, a1, a2, a3, a4]⟩, u, .agg ⟨[.bool (isDir z), .int .i64 (modeOf z), v10, zu, zw]⟩, .bool false] s11 (fun v12 s13 => AC Tryz.prog w0 n_spec_l2Fits [v12, .agg ⟨[a0, a1, a2, a3, a4]⟩] s13 (fun v14 s15 => pExtract v14 0 (fun v16 => pExtract v14 1 (fun v17 => pVal true 5 v16 (R (.tuple (⟨[.agg (⟨[cellOf v16 0, cellOf v16 1, cellOf v16 2, cellOf v16 3, cellOf v16 4]⟩), v17]⟩)) s15))))))))))  := by
    have e0 : (⟨#[]⟩ : ByteArray).size = 0 := rfl
    rw [pLenS_s, pBin_gt, pIf_d]
    refine ⟨fun hgt => ?_, fun hle => ?_⟩
    · refine pSliceStr_s (l := 0) (h := at') rfl rfl (by omega) ?_
      have hxs : ((dataOf z).extract (0 : Int).toNat ((at' : Nat) : Int).toNat).size ≤ 24 := by
        rw [ByteArray.size_extract]; omega
      exact spec_l2Write (by omega) (by omega) (by omega) fun t' s' k' ht' => SET t' s' k' (by omega)
    · exact spec_l2Write (by omega) (by omega) (by omega) fun t' s' k' ht' => SET t' s' k' (by omega)
  have WRITE : pLenS (.string d) (fun v26 => pBin Tryz.prog 3 .add v26 (.int .i64 (at' : Nat)) (fun v27 => pBin Tryz.prog 3 .gtr v27 (.int .i64 24) (fun v28 => pIf v28 (pVal true 5 (.agg (⟨[a0, a1, a2, a3, a4]⟩)) (R (.tuple (⟨[.agg (⟨[a0, a1, a2, a3, a4]⟩), .int .i64 6]⟩)) σ))
      (AC Tryz.prog w0 n_spec_l2Write ([.string (dataOf z), .int .i64 (at' : Nat), .string d]) σ (fun v10 s11 => pVal false 1 v10 (AC Tryz.prog w0 n_spec_l2Set [.agg ⟨[a0, a1, a2, a3, a4]⟩, u, .agg ⟨[.bool (isDir z), .int .i64 (modeOf z), v10, zu, zw]⟩, .bool false] s11 (fun v12 s13 => AC Tryz.prog w0 n_spec_l2Fits [v12, .agg ⟨[a0, a1, a2, a3, a4]⟩] s13 (fun v14 s15 => pExtract v14 0 (fun v16 => pExtract v14 1 (fun v17 => pVal true 5 v16 (R (.tuple (⟨[.agg (⟨[cellOf v16 0, cellOf v16 1, cellOf v16 2, cellOf v16 3, cellOf v16 4]⟩), v17]⟩)) s15))))))))))) := by
    rw [pLenS_s, pBin_add (by omega), pBin_gt, pIf_d]
    refine ⟨fun _ => same 6 (by omega), fun hle => ?_⟩
    exact spec_l2Write (by omega) (by omega) (by omega) fun t' s' k' ht' => SET t' s' k' (by omega)
  refine pIf_b.2 ⟨fun _ => pIf_b.2 ⟨fun _ => same 4 (by omega), fun _ => ?_⟩, fun _ => ?_⟩
  all_goals
    rw [pUn_not, pIf_b]
    refine ⟨fun _ => ?_, fun _ => ?_⟩
    · rw [pBin_eq, pIf_d]
      refine ⟨fun _ => same 3 (by omega), fun _ => ?_⟩
      rw [pBin_eq, pIf_d]
      exact ⟨fun _ => TRUNC, fun _ => WRITE⟩
    · rw [pBin_eq, pIf_d]
      exact ⟨fun _ => TRUNC, fun _ => WRITE⟩

theorem at_small {ps : List ByteArray} {x : Tr} {rd : Addr → Option Value} {es : List Value} (h : RT 5 rd es x) (hw : wfT 5 x) (hs : szT 5 x ≤ 1000) : szT 5 ((atT x ps).getD zeroT) ≤ 1000 ∧ wfT 5 ((atT x ps).getD zeroT) := by
  cases hat2 : atT x ps with
  | none => exact ⟨by rw [show (none : Option Tr).getD zeroT = zeroT from rfl, sz_zero]; omega, wf_zero 5⟩
  | some y => exact ⟨by have := (sz_at ps h.isT hat2).2; show szT 5 y ≤ 1000; omega, wf_at ps h.isT hw hat2⟩

set_option maxHeartbeats 4000000 in
theorem spec_l2Rename {es cs : List Value} {x : Tr} {c : Cl} (h : RT 5 (Av.get w0 σ) es x) (hw : wfT 5 x) (hs : szT 5 x ≤ 1000) (hc : RCl (Av.get w0 σ) cs c) (hok : callOk c = true) (hk : c.1 = 5) {R : Value → Vw → Prop} (hR : OutD w0 σ R) : AC Tryz.prog w0 n_spec_l2Rename [.agg ⟨es⟩, .agg ⟨cs⟩] σ R := by
  obtain ⟨⟨hne, hps⟩, hto, _⟩ := callOk_facts hok
  obtain ⟨k, p, t, a, d⟩ := c
  simp only at hne hps hto hk
  obtain ⟨hne2, hpt⟩ := hto hk
  refine ac_spec_l2Rename ?_
  unfold vc_spec_l2Rename
  have h0 := h
  obtain ⟨u, w, rfl, hu, hw', hkk, haa, hdd⟩ := hc
  simp only at hu hw' hkk haa hdd
  obtain ⟨a0, a1, a2, a3, a4, rfl, hp⟩ := h.shape
  rw [hp, pVal_5 rfl hu.one hw'.one rfl rfl]
  simp only [cellOf_agg, List.getD_cons_zero, List.getD_cons_succ]
  have same : ∀ k : Int, 0 ≤ k ∧ k ≤ 7 → pVal true 5 (.agg (⟨[a0, a1, a2, a3, a4]⟩)) (R (.tuple (⟨[.agg (⟨[a0, a1, a2, a3, a4]⟩), .int .i64 k]⟩)) σ) := fun k hk => by
    rw [hp]; exact hR.same h0 hs hk
  refine spec_At _ h0 hw hu fun ez hz => ?_
  obtain ⟨hzs, hzw⟩ := at_small (ps := p) h0 hw hs
  generalize (atT x p).getD zeroT = z at *
  have hz0 := hz
  obtain ⟨z0, z1, z2, z3, z4, rfl, hzp⟩ := hz.shape
  rw [pExtract_s rfl, pExtract_s rfl, hzp, pUn_not, pIf_b]
  refine ⟨fun _ => same 3 (by omega), fun _ => ?_⟩
  refine spec_Within hw' hu (pIf_b.2 ⟨fun _ => same 7 (by omega), fun _ => ?_⟩)
  refine spec_l2Parent h0 hw hw' hne2 fun k hk => ?_
  rw [pBin_ne, pIf_d]
  refine ⟨fun _ => same k hk, fun _ => ?_⟩
  refine spec_At _ h0 hw hw' fun ey hy => ?_
  obtain ⟨y0, y1, y2, y3, y4, rfl, hyp⟩ := hy.shape
  rw [pExtract_s rfl, pExtract_s rfl, hyp, pIf_b]
  refine ⟨fun _ => same 5 (by omega), fun _ => ?_⟩
  simp only [cellOf_agg, List.getD_cons_zero, List.getD_cons_succ]
  have hmul : (szT 5 x + 1) * (5 + szT 1 zeroT + 4) ≤ 1001 * 9 := by rw [sz_zero]; exact Nat.mul_le_mul (by omega) (by omega)
  refine spec_l2Set (k := 1) (P := 5) 5 h0 hw hu hne (RT_zero 0 _) (wf_zero 1) hps (by omega) fun es' y σ' k' hy' hwy hys => ?_
  have hys : szT 6 y + 1 ≤ (szT 5 x + 1) * (5 + szT 1 zeroT + 4) := hys
  refine set_fits (n := 6) (by omega) hy' hwy (by omega) (mono_rt 5 _ _ _ _ k'.le h0) hs (hw'.mono k'.le fun _ _ h => h) hne2 hpt (mono_rt 5 _ _ _ _ k'.le hz0) hzw (by omega) (hR.keep k')

theorem set_out {es ez : List Value} {u : Value} {x z : Tr} {ps : List ByteArray} {gone : Bool} (h : RT 5 (Av.get w0 σ) es x) (hw : wfT 5 x) (hs : szT 5 x ≤ 1000) (hu : RSl 1 RS (Av.get w0 σ) u ps) (hne : ps ≠ []) (hps : ∀ s, s ∈ ps → s.size ≤ 5) (hz : RT 5 (Av.get w0 σ) ez z) (hwz : wfT 5 z) (hzs : szT 5 z ≤ 1000) {R : Value → Vw → Prop} (hR : OutD w0 σ R) :
    AC Tryz.prog w0 n_spec_l2Set [.agg ⟨es⟩, u, .agg ⟨ez⟩, .bool gone] σ (fun v28 s29 => pVal true 5 v28 (R (.tuple (⟨[.agg (⟨[cellOf v28 0, cellOf v28 1, cellOf v28 2, cellOf v28 3, cellOf v28 4]⟩), .int .i64 0]⟩)) s29)) := by
  have hmul : (szT 5 x + 1) * (5 + szT 5 z + 4) ≤ 1001 * 1009 := Nat.mul_le_mul (by omega) (by omega)
  refine spec_l2Set (k := 5) (P := 5) 5 h hw hu hne hz hwz hps (by omega) fun es' y σ' k' hy hwy hys => ?_
  have hy11 : RT 11 (Av.get w0 σ') es' y := RT_le (by omega) hy
  have hs11 : szT 11 y ≤ 40000000 := by rw [sz_more hy.isT (by omega)]; omega
  obtain ⟨a, b, c, d, e, rfl, hp⟩ := hy.shape
  rw [hp]
  simp only [cellOf_agg, List.getD_cons_zero, List.getD_cons_succ]
  exact hR _ _ _ 0 k' hy11 hs11 (by omega)

theorem out_pass {R : Value → Vw → Prop} (hR : OutD w0 σ R) : OutD w0 σ (fun v15 s16 => pExtract v15 0 (fun v17 => pExtract v15 1 (fun v18 => pVal true 5 v17 (R (.tuple (⟨[.agg (⟨[cellOf v17 0, cellOf v17 1, cellOf v17 2, cellOf v17 3, cellOf v17 4]⟩), v18]⟩)) s16)))) := fun es y s' k k' h1 h2 h3 => by
  have h0 := h1
  obtain ⟨a, b, c, d, e, rfl, hp⟩ := h1.shape
  show pExtract _ _ _
  rw [pExtract_s rfl, pExtract_s rfl, hp]
  simp only [cellOf_agg, List.getD_cons_zero, List.getD_cons_succ]
  exact hR _ _ _ k k' h0 h2 h3

set_option maxHeartbeats 4000000 in
theorem spec_l2Do {es cs : List Value} {x : Tr} {c : Cl} (h : RT 5 (Av.get w0 σ) es x) (hw : wfT 5 x) (hs : szT 5 x ≤ 1000) (hc : RCl (Av.get w0 σ) cs c) (hok : callOk c = true) (hdl : c.2.2.2.2.size ≤ 1000000) {R : Value → Vw → Prop} (hR : OutD w0 σ R) : AC Tryz.prog w0 n_spec_l2Do [.agg ⟨es⟩, .agg ⟨cs⟩] σ R := by
  obtain ⟨⟨hne, hps⟩, _, _⟩ := callOk_facts hok
  have hc0 := hc
  obtain ⟨k, p, t, a, d⟩ := c
  simp only at hne hps
  refine ac_spec_l2Do ?_
  unfold vc_spec_l2Do cs_spec_l2Do_1
  have h0 := h
  obtain ⟨u, w, rfl, hu, hw', hkk, haa, hdd⟩ := hc
  simp only at hu hw' hkk haa hdd hdl
  obtain ⟨a0, a1, a2, a3, a4, rfl, hp⟩ := h.shape
  rw [hp, pVal_5 rfl hu.one hw'.one rfl rfl]
  simp only [cellOf_agg, List.getD_cons_zero, List.getD_cons_succ]
  have same : ∀ k : Int, 0 ≤ k ∧ k ≤ 7 → pVal true 5 (.agg (⟨[a0, a1, a2, a3, a4]⟩)) (R (.tuple (⟨[.agg (⟨[a0, a1, a2, a3, a4]⟩), .int .i64 k]⟩)) σ) := fun k hk => by
    rw [hp]; exact hR.same h0 hs hk
  refine spec_l2Parent h0 hw hu hne fun k2 hk2 => ?_
  rw [pBin_ne, pIf_d]
  refine ⟨fun _ => same k2 hk2, fun _ => ?_⟩
  refine spec_At _ h0 hw hu fun ez hz => ?_
  obtain ⟨hzs, hzw⟩ := at_small (ps := p) h0 hw hs
  generalize (atT x p).getD zeroT = z at *
  generalize (atT x p).isSome = there
  have hz0 := hz
  obtain ⟨zu, zw, rfl, hz1, hz2, hz3, hz4, hzp⟩ := hz.cells
  rw [pExtract_s rfl, pExtract_s rfl, hzp]
  simp only [cellOf_agg, List.getD_cons_zero, List.getD_cons_succ]
  have hnew : RT 5 (Av.get w0 σ) [.bool true, .int .i64 a, .string ⟨#[]⟩, .slice none 0 0, .slice none 0 0] (.mk true a ⟨#[]⟩ [] []) :=
    ⟨_, _, rfl, haa, by show 0 ≤ _; omega, ⟨none, 0, rfl, by simp, fun j x h => by simp at h⟩, ⟨none, 0, rfl, by simp, fun j x h => by simp at h⟩⟩
  have hnw : wfT 5 (.mk true a ⟨#[]⟩ [] []) := ⟨rfl, fun k hk => by cases hk⟩
  have hns : szT 5 (.mk true a ⟨#[]⟩ [] []) ≤ 1000 := by show 0 + (0 + 0) + (0 + 0) ≤ 1000; omega
  have FILE : k = 2 ∨ k = 3 → _ := fun hk => spec_l2File h0 hw hs hc0 hok hk hdl (out_pass hR)
  rw [pBin_eq, pIf_d]
  refine ⟨fun _ => pIf_b.2 ⟨fun _ => same 5 (by omega), fun _ => ?_⟩, fun _ => ?_⟩
  · rw [pVal1 rfl, pVal1 rfl]
    exact set_fits (by omega) h0 hw (by omega) h0 hs hu hne hps hnew hnw (by omega) hR
  rw [pBin_eq, pIf_d]
  have REST : pBin Tryz.prog 3 .eql (.int .i64 k) (.int .i64 5) (fun v37 => pIf v37 (AC Tryz.prog w0 n_spec_l2Rename ([.agg (⟨[a0, a1, a2, a3, a4]⟩), .agg (⟨[.int .i64 k, u, w, .int .i64 a, .string d]⟩)]) σ (fun v38 s39 => pExtract v38 0 (fun v40 => pExtract v38 1 (fun v41 => pVal true 5 v40 (R (.tuple (⟨[.agg (⟨[cellOf v40 0, cellOf v40 1, cellOf v40 2, cellOf v40 3, cellOf v40 4]⟩), v41]⟩)) s39)))))
      (pUn UnOp.not (.bool there) (fun v42 => pIf v42 (pVal true 5 (.agg (⟨[a0, a1, a2, a3, a4]⟩)) (R (.tuple (⟨[.agg (⟨[a0, a1, a2, a3, a4]⟩), .int .i64 3]⟩)) σ)) (pBin Tryz.prog 3 .eql (.int .i64 k) (.int .i64 4) (fun v43 => pIf v43 (pLen zu (fun v44 => pBin Tryz.prog 3 .gtr v44 (.int .i64 0) (fun v45 => pIf v45 (pVal true 5 (.agg (⟨[a0, a1, a2, a3, a4]⟩)) (R (.tuple (⟨[.agg (⟨[a0, a1, a2, a3, a4]⟩), .int .i64 5]⟩)) σ))
        (AC Tryz.prog w0 n_spec_l2Set ([.agg (⟨[a0, a1, a2, a3, a4]⟩), u, .agg (⟨[.bool false, .int .i64 0, .string ({ data := #[] }), .slice none 0 0, .slice none 0 0]⟩), .bool true]) σ (fun v46 s47 => pVal true 5 v46 (R (.tuple (⟨[.agg (⟨[cellOf v46 0, cellOf v46 1, cellOf v46 2, cellOf v46 3, cellOf v46 4]⟩), .int .i64 0]⟩)) s47))))))
        (pVal false 1 (.int .i64 a) (AC Tryz.prog w0 n_spec_l2Set ([.agg (⟨[a0, a1, a2, a3, a4]⟩), u, .agg (⟨[.bool (isDir z), .int .i64 a, .string (dataOf z), zu, zw]⟩), .bool false]) σ (fun v48 s49 => pVal true 5 v48 (R (.tuple (⟨[.agg (⟨[cellOf v48 0, cellOf v48 1, cellOf v48 2, cellOf v48 3, cellOf v48 4]⟩), .int .i64 0]⟩)) s49))))))))) := by
    rw [pBin_eq, pIf_d]
    refine ⟨fun hk => spec_l2Rename h0 hw hs hc0 hok hk (out_pass hR), fun _ => ?_⟩
    rw [pUn_not, pIf_b]
    refine ⟨fun _ => same 3 (by omega), fun _ => ?_⟩
    rw [pBin_eq, pIf_d]
    refine ⟨fun _ => ?_, fun _ => ?_⟩
    · rw [hz3.len, pBin_gt, pIf_d]
      refine ⟨fun _ => same 5 (by omega), fun _ => ?_⟩
      exact set_out h0 hw hs hu hne hps (RT_zero 4 _) (wf_zero 5) (by rw [sz_zero]; omega) hR
    · rw [pVal1 rfl]
      obtain ⟨y, hy, hyw, hys⟩ := hz0.mode haa
      exact set_out h0 hw hs hu hne hps hy (hyw hzw) (by omega) hR
  refine ⟨fun hk => ?_, fun hk => ?_⟩
  · rw [pIf_d]
    exact ⟨fun _ => FILE (by omega), fun h => absurd hk h⟩
  · rw [pBin_eq, pIf_d]
    exact ⟨fun hk => FILE (by omega), fun _ => REST⟩
end
end Go.Proofs.YtkbhjejalkbogaaGreat

/- The reader of a code that a draw is drawn from: a row of its own that is hidden from all else; its picks. -/
set_option linter.unusedVariables false
set_option linter.unusedSimpArgs false
namespace Go.Av
open Go Go.RowKit

/-- A view without a row. -/
def Vw.del (σ : Vw) (b : Nat) : Vw := fun i => if i = b then none else σ i
theorem del_at {σ : Vw} {b : Nat} : (σ.del b) b = none := by simp [Vw.del]
theorem del_ne {σ : Vw} {b i : Nat} (h : i ≠ b) : (σ.del b) i = σ i := by simp [Vw.del, h]
theorem del_put {σ : Vw} {b : Nat} {r : Row} (h : σ b = none) : (σ.put b r).del b = σ := by
  funext i
  by_cases e : i = b
  · subst e; simp [Vw.del, h]
  · simp [Vw.del, Vw.put, e]
theorem del_some {σ : Vw} {b i : Nat} {r : Row} (h : (σ.del b) i = some r) : i ≠ b ∧ σ i = some r := by
  by_cases e : i = b
  · subst e; rw [del_at] at h; cases h
  · exact ⟨e, by rw [del_ne e] at h; exact h⟩
theorem del_keeps {σ : Vw} {b : Nat} : Keeps (σ.del b) σ := fun i r h => (del_some h).2
theorem del_le {w0 : World} {σ : Vw} {b : Nat} : Le (Av.get w0 (σ.del b)) (Av.get w0 σ) := del_keeps.le

/-- A call does not see a row that is kept from it, and leaves it. -/
theorem AC.hide {P : Program} {w0 : World} {f : FuncId} {args : List Value} {σ : Vw} {R R' : Value → Vw → Prop} {b : Nat} {r : Row} (hb : σ b = some r) (h : AC P w0 f args (σ.del b) R) (hR : ∀ v σ', σ' b = none → R v σ' → R' v (σ'.put b r)) : AC P w0 f args σ R' := by
  refine ⟨h.1, fun w hw => ?_⟩
  have hs : Sat w0 (σ.del b) w := ⟨hw.bel, fun i r' hi => hw.row i r' (del_some hi).2⟩
  refine (h.2 w hs).mono ?_
  rintro e w' ⟨v, σ', he, hRv, ha⟩
  have hlt := hw.lt hb
  have hn : σ' b = none := by
    cases hc : σ' b with
    | none => rfl
    | some r' =>
      rcases ha.dom b r' hc with h1 | h1
      · exact absurd del_at h1
      · omega
  refine ⟨v, σ'.put b r, he, hR v σ' hn hRv, ⟨⟨ha.sat.bel, fun i r' hi => ?_⟩, ha.size, fun i hi hni => ?_, fun i r' hi => ?_⟩⟩
  · by_cases e : i = b
    · subst e
      rw [put_at] at hi; cases hi
      obtain ⟨h1, cur, h2, h3⟩ := hw.row i _ hb
      exact ⟨h1, cur, (ha.fr i hlt del_at).trans h2, h3⟩
    · rw [put_ne e] at hi
      exact ha.sat.row i r' hi
  · refine ha.fr i hi ?_
    by_cases e : i = b
    · subst e; exact del_at
    · rw [del_ne e]; exact hni
  · by_cases e : i = b
    · subst e; exact .inl (by rw [hb]; simp)
    · rw [put_ne e] at hi
      rcases ha.dom i r' hi with h1 | h1
      · exact .inl (by rw [del_ne e] at h1; exact h1)
      · exact .inr h1
end Go.Av
namespace Go.Proofs.YtkbhjejalkbogaaGreat
open Go Go.Av Go.RowKit

theorem pBin_xor {P : Program} {T : Nat} {a b : Int} {K : Value → Prop} (ha : 0 ≤ a ∧ a ≤ 9223372036854775807) (hb : 0 ≤ b ∧ b ≤ 9223372036854775807) (hK : ∀ c : Int, 0 ≤ c ∧ c ≤ 9223372036854775807 → K (.int .i64 c)) : pBin P T .xor (.int .i64 a) (.int .i64 b) K := by
  obtain ⟨m, rfl⟩ : ∃ m : Nat, a = m := ⟨a.toNat, by omega⟩
  obtain ⟨n, rfl⟩ : ∃ n : Nat, b = n := ⟨b.toNat, by omega⟩
  refine ⟨_, rfl, ?_⟩
  have h1 : (BitVec.ofInt 64 (m : Int) ^^^ BitVec.ofInt 64 (n : Int)).toNat = m ^^^ n := by
    rw [BitVec.toNat_xor]
    simp only [BitVec.ofInt_natCast, BitVec.toNat_ofNat]
    rw [Nat.mod_eq_of_lt (by omega), Nat.mod_eq_of_lt (by omega)]
  have h2 : m ^^^ n < 2 ^ 63 := Nat.xor_lt_two_pow (by omega) (by omega)
  show K (.int .i64 (IntKind.i64.wrap ((BitVec.ofInt 64 (m : Int) ^^^ BitVec.ofInt 64 (n : Int)).toNat : Int)))
  rw [h1, IntWalk.i64_in _ (by omega)]
  exact hK _ (by omega)
section
variable {w0 : World} {σ : Vw}

/-- A byte that is read. -/
def RU8 (rd : Addr → Option Value) (es : List Value) (x : Nat) : Prop := es = [.int .u8 (x : Int)] ∧ x ≤ 255
/-- The reader: its row, how far it has come at most. -/
def RD (w0 : World) (σ : Vw) (b p : Nat) : Prop := ∃ (u : Value) (q ety cap : Nat) (bs : List Nat), w0.heap.size ≤ b ∧ σ b = some ⟨ety, [u, .int .i64 (q : Nat)], cap, (0, 0)⟩ ∧ q ≤ p ∧ RSl 1 RU8 (Av.get w0 (fun _ => none)) u bs ∧ bs.length ≤ 2000

theorem RD.more {b p p' : Nat} (h : RD w0 σ b p) (hp : p ≤ p') : RD w0 σ b p' := by
  obtain ⟨u, q, ety, cap, bs, h1, h2, h3, h4⟩ := h
  exact ⟨u, q, ety, cap, bs, h1, h2, by omega, h4⟩
/-- The reader's row is not touched, the rest is kept. -/
theorem RD.keep {b p : Nat} {s : Vw} (h : RD w0 σ b p) (hb : s b = σ b) : RD w0 s b p := by
  obtain ⟨u, q, ety, cap, bs, h1, h2, h3, h4, h5⟩ := h
  exact ⟨u, q, ety, cap, bs, h1, by rw [hb]; exact h2, h3, h4, h5⟩
/-- Calls that have nothing to do with the reader. -/
theorem RD.hide {b p : Nat} (h : RD w0 σ b p) {f : FuncId} {args : List Value} {R R' : Value → Vw → Prop} (hc : AC Tryz.prog w0 f args (σ.del b) R) (hR : ∀ v s, Keeps (σ.del b) (s.del b) → RD w0 s b p → R v (s.del b) → R' v s) (hk : ∀ v s, R v s → Keeps (σ.del b) s) : AC Tryz.prog w0 f args σ R' := by
  obtain ⟨u, q, ety, cap, bs, h1, h2, h3, h4, h5⟩ := h
  refine AC.hide h2 hc fun v s hs hRv => ?_
  have hd : (s.put b ⟨ety, [u, .int .i64 (q : Nat)], cap, (0, 0)⟩).del b = s := del_put hs
  have k := hk v s hRv
  refine hR v _ (by rw [hd]; exact k) ⟨u, q, ety, cap, bs, h1, put_at, h3, h4, h5⟩ (by rw [hd]; exact hRv)
end
end Go.Proofs.YtkbhjejalkbogaaGreat

/- What is drawn from a code: numbers, names, bytes; a call done in a tree, in all. -/
set_option linter.unusedVariables false
set_option linter.unusedSimpArgs false
namespace Go.Proofs.YtkbhjejalkbogaaGreat
open Go Go.Av Go.RowKit

section
variable {w0 : World} {σ : Vw}

theorem spec_TreeDo {n : Nat} {es cs : List Value} {x : Tr} {c : Cl} (h : RT n (Av.get w0 σ) es x) (hs : szT n x ≤ 1000000000) (hc : RCl (Av.get w0 σ) cs c) (hdl : c.2.2.2.2.size ≤ 1000000) {R : Value → Vw → Prop} (hR : OutD w0 σ R) : AC Tryz.prog w0 n_spec_TreeDo [.agg ⟨es⟩, .agg ⟨cs⟩] σ R := by
  refine ac_spec_TreeDo ?_
  unfold vc_spec_TreeDo
  have h0 := h
  have hc0 := hc
  have hcnt := cnt_le n x
  obtain ⟨u, w, rfl, hu, hw', hkk, haa, hdd⟩ := hc
  obtain ⟨a0, a1, a2, a3, a4, rfl, hp⟩ := h.shape
  rw [hp, pVal_5 rfl hu.one hw'.one rfl rfl]
  simp only [cellOf_agg, List.getD_cons_zero, List.getD_cons_succ]
  refine spec_TreeOk h0 (by omega) ?_
  rw [pUn_not, pIf_b]
  refine ⟨fun _ => ?_, fun e => ?_⟩
  · rw [pVal_5 rfl rfl rfl rfl rfl]
    exact hR _ zeroT _ 1 (Keeps.refl _) (RT_zero 10 _) (by rw [sz_zero]; omega) (by omega)
  have hok : treeOk n x = true := by simpa using e
  obtain ⟨h5, hw5, hs5⟩ := ok_smallT h0 hok
  have pack : ∀ {m : Nat} {s : Vw} {ey : List Value} {y : Tr} {k : Int}, Keeps σ s → RT m (Av.get w0 s) ey y → m ≤ 11 → szT m y ≤ 40000000 → (0 ≤ k ∧ k ≤ 7) → AC Tryz.prog w0 n_spec_l1Copy [.agg ⟨ey⟩] s (fun v6 s7 => pVal true 5 v6 (R (.tuple (⟨[.agg (⟨[cellOf v6 0, cellOf v6 1, cellOf v6 2, cellOf v6 3, cellOf v6 4]⟩), .int .i64 k]⟩)) s7)) := fun {m s ey y k} ks hy hm hsz hk => by
    refine spec_l1Copy m hy (fit_of m y (by omega)) fun es' F s' k' o f => ?_
    have ho := (ok_rt w0 m).rel _ _ _ _ o
    have ho11 : RT 11 (Av.get w0 s') es' y := RT_le hm ho
    have hs11 : szT 11 y ≤ 40000000 := by rw [sz_more ho.isT hm]; omega
    obtain ⟨a, b, c, d, e, rfl, hp'⟩ := ho.shape
    rw [hp']
    simp only [cellOf_agg, List.getD_cons_zero, List.getD_cons_succ]
    exact hR _ _ _ k (ks.trans k') ho11 hs11 hk
  refine spec_l2CallOk hc0 ?_
  rw [pUn_not, pIf_b]
  refine ⟨fun _ => pack (Keeps.refl _) h5 (by omega) (by omega) (by omega), fun e => ?_⟩
  have hco : callOk c = true := by simpa using e
  refine spec_l2Do h5 hw5 hs5 hc0 hco hdl fun ey y s k ks hy hsy hk => ?_
  have hy0 := hy
  obtain ⟨b0, b1, b2, b3, b4, rfl, hp2⟩ := hy.shape
  rw [pExtract_s rfl, pExtract_s rfl, hp2]
  simp only [cellOf_agg, List.getD_cons_zero, List.getD_cons_succ]
  exact pack ks hy0 (by omega) hsy hk

/-! ### Picks -/
abbrev ptr (b : Nat) : Value := .pointer (some (Addr.mk b 0 none))
theorem spec_pick {b p n : Nat} (h : RD w0 σ b p) (hp : p ≤ 100000000) (hn : 0 < n ∧ n ≤ 1000000000) {R : Value → Vw → Prop} (hR : ∀ (k : Nat) s, k < n → RD w0 s b (p + 1) → s.del b = σ.del b → (∀ i, i ≠ b → s i = σ i) → R (.int .i64 (k : Nat)) s) : AC Tryz.prog w0 n_p_spec_l1Rd_pick [ptr b, .int .i64 (n : Nat)] σ R := by
  obtain ⟨u, q, ety, cap, bs, h1, h2, h3, h4, h5⟩ := h
  refine ac_p_spec_l1Rd_pick ?_
  unfold vc_p_spec_l1Rd_pick
  refine ⟨_, rfl, field_load (A := []) (C := []) (c := [u, .int .i64 (q : Nat)]) h1 h2 rfl rfl rfl fun g hg => ?_⟩
  rw [hg, pBin_add (by omega)]
  refine ⟨_, rfl, field_store (A := []) (C := []) (c := [u, .int .i64 (q : Nat)]) h2 rfl rfl (by show 1 < 2; omega) rfl ?_⟩
  simp only [List.nil_append, List.append_nil, List.set_cons_zero, List.set_cons_succ]
  generalize hs4 : σ.put b ⟨ety, [u, .int .i64 ((q : Int) + 1)], cap, (0, 0)⟩ = s4
  have hr4 : s4 b = some ⟨ety, [u, .int .i64 ((q : Int) + 1)], cap, (0, 0)⟩ := by rw [← hs4]; exact put_at
  have hd4 : s4.del b = σ.del b := by
    rw [← hs4]; funext i
    by_cases e : i = b
    · subst e; simp [Vw.del]
    · simp [Vw.del, Vw.put, e]
  have ho4 : ∀ i, i ≠ b → s4 i = σ i := fun i hi => by rw [← hs4, put_ne hi]
  have hu4 : RSl 1 RU8 (Av.get w0 s4) u bs := h4.mono (Keeps.le fun i r h => by cases h) fun _ _ h => h
  have hRD : RD w0 s4 b (p + 1) := ⟨u, q + 1, ety, cap, bs, h1, by rw [hr4]; rfl, by omega, h4, h5⟩
  have out : ∀ (k : Nat), k < n → R (.int .i64 (k : Nat)) s4 := fun k hk => hR k s4 hk hRD hd4 ho4
  clear hR hs4
  have ld0 : ∀ {K : (Nat → Value) → Prop}, (∀ g : Nat → Value, g 0 = u → K g) → pNil (ptr b) (pField 0 (ptr b) fun v => pLoad w0 1 v s4 K) := fun hK => ⟨_, rfl, field_load (A := []) (C := []) (c := [u, .int .i64 ((q : Int) + 1)]) h1 hr4 rfl rfl rfl hK⟩
  have ld1 : ∀ {K : (Nat → Value) → Prop}, (∀ g : Nat → Value, g 0 = .int .i64 ((q : Int) + 1) → K g) → pNil (ptr b) (pField 1 (ptr b) fun v => pLoad w0 1 v s4 K) := fun hK => ⟨_, rfl, field_load (A := []) (C := []) (c := [u, .int .i64 ((q : Int) + 1)]) h1 hr4 rfl rfl rfl hK⟩
  rw [pBin_lt, pIf_d]
  refine ⟨fun h => by omega, fun _ => ?_⟩
  refine ld0 fun g hg => ?_
  rw [hg, hu4.len, pBin_eq, pIf_d]
  refine ⟨fun _ => out 0 (by omega), fun hne => ?_⟩
  have hpos : 0 < bs.length := by omega
  refine ld1 fun g hg => ?_
  rw [hg, pBin_sub (by omega), show (q : Int) + 1 - 1 = (q : Nat) by omega]
  refine ld0 fun g hg => ?_
  rw [hg, hu4.len, pBin_lt, pIf_d]
  have byte : ∀ (j : Nat) (x : Nat), bs[j]? = some x → x ≤ 255 := fun j x hj => by
    obtain ⟨_, _, _, _, hh⟩ := h4
    obtain ⟨_, _, _, _, _, hx⟩ := hh j x hj
    exact hx.2
  refine ⟨fun hlt => ?_, fun hge => ?_⟩
  · refine ld0 fun g hg => ?_
    rw [hg]
    have hx := List.getElem?_eq_getElem (show q < bs.length by omega)
    generalize bs[q]'(by omega) = x at hx
    have hxb := byte q x hx
    refine hu4.at hx fun g hg => ?_
    obtain ⟨hg, _⟩ := hg
    simp only [expl, List.cons.injEq, and_true] at hg
    rw [hg, pConv_i64 (by omega), pBin_rem (by omega)]
    have : ((x : Nat) : Int) % ((n : Nat) : Int) = ((x % n : Nat) : Int) := by omega
    rw [this]
    exact out _ (Nat.mod_lt _ (by omega))
  · refine ld0 fun g hg => ?_
    rw [hg]
    refine ld0 fun g hg => ?_
    rw [hg, hu4.len, pBin_rem (by omega), show ((q : Nat) : Int) % ((bs.length : Nat) : Int) = ((q % bs.length : Nat) : Int) by omega]
    have hx := List.getElem?_eq_getElem (Nat.mod_lt q hpos)
    generalize bs[q % bs.length]'(Nat.mod_lt q hpos) = x at hx
    have hxb := byte _ x hx
    refine hu4.at hx fun g hg => ?_
    obtain ⟨hg, _⟩ := hg
    simp only [expl, List.cons.injEq, and_true] at hg
    rw [hg, pConv_i64 (by omega), pBin_mul (by omega)]
    refine ld0 fun g hg => ?_
    rw [hg, pBin_mul (by omega), pBin_add (by omega)]
    refine ld0 fun g hg => ?_
    have hm7 : (((q : Nat) : Int) * 7 + 3) % ((bs.length : Nat) : Int) = (((q * 7 + 3) % bs.length : Nat) : Int) := by
      have := Int.natCast_emod (q * 7 + 3) bs.length
      rw [show (((q * 7 + 3 : Nat)) : Int) = (q : Int) * 7 + 3 by omega] at this
      exact this.symm
    rw [hg, hu4.len, pBin_rem (by omega), hm7]
    have hy := List.getElem?_eq_getElem (Nat.mod_lt (q * 7 + 3) hpos)
    generalize bs[(q * 7 + 3) % bs.length]'(Nat.mod_lt (q * 7 + 3) hpos) = y at hy
    have hyb := byte _ y hy
    refine hu4.at hy fun g hg => ?_
    obtain ⟨hg, _⟩ := hg
    simp only [expl, List.cons.injEq, and_true] at hg
    rw [hg, pConv_i64 (by omega), pBin_mul (by omega), pBin_add (by omega), pBin_mul (by omega), pBin_add (by omega)]
    refine ld0 fun g hg => ?_
    have hq0 : ((q : Nat) : Int) / ((bs.length : Nat) : Int) = ((q / bs.length : Nat) : Int) := by omega
    have hq1 : q / bs.length ≤ q := Nat.div_le_self _ _
    rw [hg, hu4.len, pBin_quo (by omega), hq0]
    clear hq0
    generalize q / bs.length = z at hq1 ⊢
    rw [pBin_mul (by omega), pBin_add (by omega), pBin_quo (by omega)]
    refine pBin_xor (by omega) (by omega) fun c hc => ?_
    rw [pBin_rem (by omega)]
    obtain ⟨m, rfl⟩ : ∃ m : Nat, c = m := ⟨c.toNat, by omega⟩
    rw [show ((m : Nat) : Int) % ((n : Nat) : Int) = ((m % n : Nat) : Int) by omega]
    exact out _ (Nat.mod_lt _ (by omega))

theorem spec_of {b p : Nat} {w : Value} {xs : List ByteArray} (h : RD w0 σ b p) (hp : p ≤ 100000000) (hw : RSl 1 RS (Av.get w0 (σ.del b)) w xs) (hx : 0 < xs.length ∧ xs.length ≤ 1000000000) {R : Value → Vw → Prop} (hR : ∀ (x : ByteArray) s, x ∈ xs → RD w0 s b (p + 1) → s.del b = σ.del b → (∀ i, i ≠ b → s i = σ i) → R (.string x) s) : AC Tryz.prog w0 n_p_spec_l1Rd_of [ptr b, w] σ R := by
  refine ac_p_spec_l1Rd_of ?_
  unfold vc_p_spec_l1Rd_of
  rw [hw.len]
  refine spec_pick h hp hx fun k s hk hrd hd ho => ?_
  have hw' : RSl 1 RS (Av.get w0 s) w xs := hw.mono (by rw [← hd]; exact del_le) fun _ _ h => h
  have hkx := List.getElem?_eq_getElem hk
  refine RSl.at1 hw' hkx fun g hg _ => ?_
  rw [hg]
  exact hR _ s (List.mem_of_getElem? hkx) hrd hd ho
end
end Go.Proofs.YtkbhjejalkbogaaGreat

/- Names, bytes and paths that are drawn. -/
set_option linter.unusedVariables false
set_option linter.unusedSimpArgs false
namespace Go.Proofs.YtkbhjejalkbogaaGreat
open Go Go.Av Go.RowKit

theorem del_put_ne {σ : Vw} {b n : Nat} {r : Row} (h : n ≠ b) : (σ.put n r).del b = (σ.del b).put n r := by
  funext i
  by_cases e : i = b
  · subst e
    have : ¬ i = n := fun e => h e.symm
    simp [Vw.del, Vw.put, this]
  · simp [Vw.del, Vw.put, e]
theorem keeps_out {σ s : Vw} {b : Nat} (k : Keeps (σ.del b) (s.del b)) {i : Nat} {r : Row} (hi : i ≠ b) (h : σ i = some r) : s i = some r := by
  have := k i r (by rw [del_ne hi]; exact h)
  rw [del_ne hi] at this; exact this
theorem none_out {σ s : Vw} {b : Nat} (k : Keeps (σ.del b) (s.del b)) {i : Nat} (hi : i ≠ b) (h : s i = none) : σ i = none := by
  cases hs : σ i with
  | none => rfl
  | some r => rw [keeps_out k hi hs] at h; cases h

section
variable {w0 : World} {σ : Vw}

theorem RD.at {b p : Nat} (h : RD w0 σ b p) : σ b ≠ none := by obtain ⟨u, q, ety, cap, bs, h1, h2, _⟩ := h; rw [h2]; simp
/-- A new row beside the reader. -/
theorem RD.new {b p n : Nat} {r : Row} (h : RD w0 σ b p) (hn : σ n = none) : n ≠ b ∧ RD w0 (σ.put n r) b p ∧ Keeps (σ.del b) ((σ.put n r).del b) := by
  have hne : n ≠ b := fun e => h.at (e ▸ hn)
  have k : Keeps (σ.del b) ((σ.put n r).del b) := by rw [del_put_ne hne]; exact Keeps.put (by rw [del_ne hne]; exact hn)
  exact ⟨hne, h.keep (put_ne fun e => hne e.symm), k⟩
theorem row_strs {s : Vw} {b e c k : Nat} {z : Nat × Nat} {xs : List ByteArray} (hb : w0.heap.size ≤ b) (hr : s b = some ⟨e, xs.map Value.string, c, z⟩) (hx : ∀ x, x ∈ xs → x.size ≤ 9223372036854775807) (hk : xs.length ≤ k ∧ k ≤ 9223372036854775807) : RSl 1 RS (Av.get w0 s) (.slice (some ⟨b, 0, none⟩) xs.length k) xs := by
  refine ⟨some ⟨b, 0, none⟩, k, rfl, hk, fun j x hj => ⟨_, [.string x], rfl, rfl, fun i hi => ?_, rfl, hx x (List.mem_of_getElem? hj)⟩⟩
  have e : i = 0 := by omega
  subst e
  rw [addr_add, get_row hb hr]
  simp only [Nat.mul_one, Nat.add_zero, Nat.zero_add, List.getElem?_map, hj, Option.map_some]
  rfl
/-- One of some texts. -/
theorem of_lit {b p k : Nat} {xs : List ByteArray} (h : RD w0 σ b p) (hp : p ≤ 100000000) (hx : 0 < xs.length ∧ xs.length ≤ 1000) (hsz : ∀ x, x ∈ xs → x.size ≤ 1000000) (hk : xs.length = k) {cells : List Value} (hc : cells = xs.map Value.string) {R : Value → Vw → Prop} (hR : ∀ (x : ByteArray) s, x ∈ xs → RD w0 s b (p + 1) → Keeps (σ.del b) (s.del b) → R (.string x) s) :
    pNew w0 t_string cells σ (fun n0 s1 => AC Tryz.prog w0 n_p_spec_l1Rd_of [ptr b, .slice (some (Addr.mk n0 0 none)) k k] s1 R) := by
  intro n h1 h2
  subst hc hk
  obtain ⟨hne, hrd, kk⟩ := h.new (r := ⟨t_string, xs.map Value.string, (xs.map Value.string).length, (0, 0)⟩) h2
  refine spec_of hrd hp (row_strs h1 (by rw [del_ne hne]; exact put_at) (fun x hx => by have := hsz x hx; omega) (by omega)) (by omega) fun x s hx hrd' hd _ => hR x s hx hrd' (by rw [hd]; exact kk)

theorem spec_l4Name {b p : Nat} (h : RD w0 σ b p) (hp : p ≤ 100000000) {R : Value → Vw → Prop} (hR : ∀ (x : ByteArray) s, x.size ≤ 2 → RD w0 s b (p + 1) → Keeps (σ.del b) (s.del b) → R (.string x) s) : AC Tryz.prog w0 n_spec_l4Name [ptr b] σ R := by
  refine ac_spec_l4Name ?_
  unfold vc_spec_l4Name
  rw [pVal1 rfl, pVal1 rfl, pVal1 rfl, pVal1 rfl, pVal1 rfl]
  have hsz : ∀ x, x ∈ [(⟨#[97]⟩ : ByteArray), ⟨#[98]⟩, ⟨#[99]⟩, ⟨#[100, 49]⟩, ⟨#[101]⟩] → x.size ≤ 2 := by
    intro x hx
    simp at hx
    rcases hx with rfl | rfl | rfl | rfl | rfl <;> decide
  exact of_lit (xs := [(⟨#[97]⟩ : ByteArray), ⟨#[98]⟩, ⟨#[99]⟩, ⟨#[100, 49]⟩, ⟨#[101]⟩]) h hp (by simp) (fun x hx => by have := hsz x hx; omega) rfl rfl fun x s hx hrd k => hR x s (hsz x hx) hrd k

theorem spec_l1Many {s0 : ByteArray} {n : Nat} (hs : s0.size * n ≤ 1000000) (hs0 : s0.size ≤ 1000000) (hn : n ≤ 1000000) {R : Value → Vw → Prop} (hR : ∀ t : ByteArray, t.size ≤ s0.size * n → R (.string t) σ) : AC Tryz.prog w0 n_spec_l1Many [.string s0, .int .i64 (n : Nat)] σ R := by
  refine ac_spec_l1Many ?_
  unfold vc_spec_l1Many
  refine loop_rule (m := n) (fun m l st => ∃ (s out : ByteArray) (k : Nat), st = σ ∧ k ≤ m ∧ k ≤ n ∧ out.size + s.size * k ≤ s0.size * n ∧ l = [.string s, .int .i64 (k : Nat), .string out]) ?_ ⟨s0, ⟨#[]⟩, n, rfl, Nat.le_refl _, Nat.le_refl _, by show 0 + _ ≤ _; omega, rfl⟩
  rintro m l st L ⟨s, out, k, rfl, hk, hkn, hsz, rfl⟩ hL
  simp only [vget, List.getD_cons_zero, List.getD_cons_succ]
  rw [pBin_gt, pIf_d]
  refine ⟨fun hpos => ?_, fun _ => hR out (by omega)⟩
  have h1 : s.size ≤ s.size * k := Nat.le_mul_of_pos_right _ (by omega)
  have h2 : s.size * k = s.size * (k % 2) + 2 * (s.size * (k / 2)) := by
    have : k = k % 2 + 2 * (k / 2) := by omega
    conv => lhs; rw [this, Nat.mul_add]
    rw [Nat.mul_left_comm]
  have h3 : (s ++ s).size * (k / 2) = 2 * (s.size * (k / 2)) := by rw [ByteArray.size_append, ← Nat.two_mul, Nat.mul_assoc]
  have hq : ((k : Nat) : Int) / 2 = ((k / 2 : Nat) : Int) := by omega
  rw [pBin_rem (by omega), pBin_eq, pIf_d]
  refine ⟨fun hodd => ?_, fun heven => ?_⟩
  · have hk1 : k % 2 = 1 := by omega
    rw [hk1, Nat.mul_one] at h2
    rw [pBin_cat (by omega), pBin_cat (by omega), pBin_quo (by omega), hq]
    refine hL _ _ (m - 1) (by omega) ⟨s ++ s, out ++ s, k / 2, rfl, by omega, by omega, ?_, rfl⟩
    rw [h3, ByteArray.size_append]; omega
  · have hk1 : k % 2 = 0 := by omega
    rw [hk1, Nat.mul_zero] at h2
    rw [pBin_cat (by omega), pBin_quo (by omega), hq]
    refine hL _ _ (m - 1) (by omega) ⟨s ++ s, out, k / 2, rfl, by omega, by omega, ?_, rfl⟩
    rw [h3]; omega

theorem spec_l4Data {b p : Nat} (h : RD w0 σ b p) (hp : p ≤ 10000000) {R : Value → Vw → Prop} (hR : ∀ (x : ByteArray) s, x.size ≤ 1000 → RD w0 s b (p + 2) → Keeps (σ.del b) (s.del b) → R (.string x) s) : AC Tryz.prog w0 n_spec_l4Data [ptr b] σ R := by
  refine ac_spec_l4Data ?_
  unfold vc_spec_l4Data
  refine spec_pick (n := 25) h (by omega) (by omega) fun k s hk hrd hd _ => ?_
  have e1 : (⟨#[122]⟩ : ByteArray).size = 1 := rfl
  refine spec_l1Many (s0 := ⟨#[122]⟩) (n := k) (by rw [e1]; omega) (by rw [e1]; omega) (by omega) fun t ht => ?_
  rw [e1] at ht
  rw [pVal1 rfl, pVal1 rfl, pVal1 rfl, pVal1 rfl, pVal1 rfl, pVal1 rfl]
  have hsz : ∀ x, x ∈ [(⟨#[]⟩ : ByteArray), ⟨#[120]⟩, ⟨#[104, 101, 108, 108, 111]⟩, ⟨#[0, 255]⟩, ⟨#[48, 49, 50, 51, 52, 53, 54, 55, 56, 57]⟩, t] → x.size ≤ 24 := by
    intro x hx
    simp at hx
    rcases hx with rfl | rfl | rfl | rfl | rfl | rfl
    · decide
    · decide
    · decide
    · decide
    · decide
    · omega
  refine of_lit (xs := [(⟨#[]⟩ : ByteArray), ⟨#[120]⟩, ⟨#[104, 101, 108, 108, 111]⟩, ⟨#[0, 255]⟩, ⟨#[48, 49, 50, 51, 52, 53, 54, 55, 56, 57]⟩, t]) hrd (by omega) (by simp) (fun x hx => by have := hsz x hx; omega) rfl rfl fun x s' hx hrd' k' => hR x s' (by have := hsz x hx; omega) hrd' (by rw [← hd]; exact k')

theorem spec_l1Open {u : Value} {bs : List Nat} (h : RSl 1 RU8 (Av.get w0 (fun _ => none)) u bs) {R : Value → Vw → Prop} (hR : ∀ b s, RD w0 s b 0 → s.del b = σ → σ b = none → R (ptr b) s) : AC Tryz.prog w0 n_spec_l1Open [u] σ R := by
  refine ac_spec_l1Open ?_
  unfold vc_spec_l1Open
  have go : ∀ (v : Value) (cs : List Nat) (ety : Nat), RSl 1 RU8 (Av.get w0 (fun _ => none)) v cs → cs.length ≤ 2000 → pVal false 1 v (pVal true 2 (.agg (⟨[v, .int .i64 0]⟩)) (pNew w0 ety [v, .int .i64 0] σ (fun n3 s4 => R (.pointer (some (Addr.mk n3 0 none))) s4))) := fun v cs ety hv hl => by
    rw [pVal1 hv.one, pVal_2 hv.one rfl]
    intro n h1 h2
    have hd : (σ.put n ⟨ety, [v, .int .i64 0], 2, (0, 0)⟩).del n = σ := del_put h2
    exact hR n _ ⟨v, 0, ety, 2, cs, h1, put_at, Nat.le_refl _, hv, hl⟩ hd h2
  rw [h.len, pBin_gt, pIf_d]
  refine ⟨fun hgt => ?_, fun hle => go u bs _ h (by omega)⟩
  refine RSl.take (σ := fun _ => none) (j := 2000) h (by omega) fun v' hv' => go v' _ _ hv' (by rw [List.length_take]; omega)
end
end Go.Proofs.YtkbhjejalkbogaaGreat

/- Paths that are drawn in a tree. -/
set_option linter.unusedVariables false
set_option linter.unusedSimpArgs false
namespace Go.Proofs.YtkbhjejalkbogaaGreat
open Go Go.Av Go.RowKit

theorem kid_sz : ∀ {n : Nat} {y k : Tr}, IsT n y → k ∈ kidsOf y → szT n k ≤ szT n y
  | 0, _, _, ⟨_, _, h⟩, _ => h.elim
  | n + 1, .mk d m t ns ks, k, h, hk => by
    have h1 := sz_up (isT_kid h hk)
    have h2 := sumBy_mem (f := szT n) (show k ∈ ks from hk)
    rw [h1]
    show _ ≤ t.size + (ns.length + sumS ns) + (ks.length + sumBy (szT n) ks)
    omega
theorem names_sz {n : Nat} {y : Tr} (h : IsT n y) : (namesOf y).length ≤ szT n y := by
  obtain _ | n := n
  · obtain ⟨_, _, h⟩ := h; exact h.elim
  · obtain ⟨d, m, t, ns, ks⟩ := y
    show ns.length ≤ t.size + (ns.length + sumS ns) + (ks.length + sumBy (szT n) ks)
    omega
theorem kids_sz {n : Nat} {y : Tr} (h : IsT n y) : (kidsOf y).length ≤ szT n y := by
  obtain _ | n := n
  · obtain ⟨_, _, h⟩ := h; exact h.elim
  · obtain ⟨d, m, t, ns, ks⟩ := y
    show ks.length ≤ t.size + (ns.length + sumS ns) + (ks.length + sumBy (szT n) ks)
    omega

section
variable {w0 : World} {σ : Vw}

set_option maxHeartbeats 4000000 in
theorem spec_l4Path {b p n : Nat} {es : List Value} {x : Tr} (h : RD w0 σ b p) (hp : p ≤ 10000000) (ht : RT n (Av.get w0 (σ.del b)) es x) (hsz : szT n x ≤ 1000000000) {R : Value → Vw → Prop} (hR : ∀ (v : Value) (ps : List ByteArray) s, RD w0 s b (p + 20) → Keeps (σ.del b) (s.del b) → RSl 1 RS (Av.get w0 (s.del b)) v ps → (0 < ps.length ∧ ps.length ≤ 4) → R v s) : AC Tryz.prog w0 n_spec_l4Path [ptr b, .agg ⟨es⟩] σ R := by
  have ht0 := ht
  obtain ⟨c0, c1, c2, c3, c4, rfl, hp5⟩ := ht.shape
  refine ac_spec_l4Path ?_
  unfold vc_spec_l4Path cs_spec_l4Path_1 cs_spec_l4Path_2
  rw [hp5]
  simp only [cellOf_agg, List.getD_cons_zero, List.getD_cons_succ]
  intro nb h1 h2
  obtain ⟨hne, hrd, kk⟩ := h.new (r := ⟨t_string, [], 0, (0, 0)⟩) h2
  rw [hp5]
  refine loop_rule (m := 4) (fun m l s => ∃ (v : Value) (F : List Nat) (out : List ByteArray) (y : Tr) (d0 d1 d2 d3 d4 : Value) (q : Nat), m + out.length = 4 ∧ RD w0 s b q ∧ q ≤ p + 5 * out.length ∧ Keeps (σ.del b) (s.del b) ∧ OAcc w0 t_string 1 OStr s F v out ∧ (∀ i, i ∈ F → σ i = none ∧ i ≠ b) ∧
      RT n (Av.get w0 (σ.del b)) [d0, d1, d2, d3, d4] y ∧ szT n y ≤ 1000000000 ∧ l = [ptr b, v, d0, d1, d2, d3, d4]) ?_
    ⟨_, [nb], [], x, c0, c1, c2, c3, c4, p, rfl, hrd, by simp, kk, OAcc.new h1, fun i hi => by rw [List.mem_singleton.1 hi]; exact ⟨h2, hne⟩, ht0, hsz, rfl⟩
  rintro m l s L ⟨v, F, out, y, d0, d1, d2, d3, d4, q, hm, hrd, hq, ks, ho, hF, hy, hys, rfl⟩ hL
  simp only [vget, List.getD_cons_zero, List.getD_cons_succ]
  have okS := ok_str w0
  have hlen : ∀ {K : Value → Prop}, pLen v K ↔ K (.int .i64 (out.length : Nat)) := (ho.osl.rel okS).len
  -- what is handed back
  have ret : ∀ {s' : Vw} {v' : Value} {F' : List Nat} {out' : List ByteArray} {q' : Nat}, RD w0 s' b q' → q' ≤ p + 20 → Keeps (σ.del b) (s'.del b) → OAcc w0 t_string 1 OStr s' F' v' out' → (∀ i, i ∈ F' → σ i = none ∧ i ≠ b) → (0 < out'.length ∧ out'.length ≤ 4) → R v' s' := fun {s' v' F' out' q'} hrd' hq' k' ho' hF' hl' => by
    refine hR v' out' s' (hrd'.more hq') k' ?_ hl'
    exact (OSl.frame okS ho'.osl fun i hi => del_ne (hF' i hi).2).rel okS
  rw [hlen, pBin_lt, pIf_d]
  have hy0 := hy
  obtain ⟨uu, ww, hcells, _, _, hnm, hkd, hp5'⟩ := hy.cells
  simp only [List.cons.injEq, and_true] at hcells
  obtain ⟨rfl, rfl, rfl, rfl, rfl⟩ := hcells
  have hn1 := names_sz hy.isT
  have hk1 := kids_sz hy.isT
  have hkB : RSl 5 (RB (RT n) (Av.get w0 (σ.del b))) (Av.get w0 (σ.del b)) d4 (kidsOf y) := hkd.imp fun es x hx => hx
  have mv : ∀ {s' : Vw}, Keeps (s.del b) (s'.del b) → OAcc w0 t_string 1 OStr s' F v out := fun {s'} k => OAcc.frame okS ho fun i hi => by
    cases hs : s i with
    | none => exact absurd hs (ho.dom okS i hi).2
    | some r => exact keeps_out k (hF i hi).2 hs
  obtain ⟨AP, hAP⟩ : ∃ AP : Value → Vw → Prop, AP = fun nmv s' => pVal false 1 nmv ((allOne [nmv]) ∧ (pAppend w0 t_string 1 16 v 1 [nmv] s' (fun v21 s22 => AC Tryz.prog w0 n_spec_l1Find ([.agg (⟨[.bool (isDir y), .int .i64 (modeOf y), .string (dataOf y), d3, d4]⟩), nmv]) s22 (fun v23 s24 => pBin Tryz.prog 3 .lss v23 (.int .i64 0) (fun v25 => pIf v25 (R v21 s24) (pLen d4 (fun v26 => pBin Tryz.prog 3 .geq v23 v26 (fun v27 => pIf v27 (R v21 s24) (pIndexAddr 5 d4 v23 (fun v28 => pLoad w0 5 v28 s24 (fun g29 => pVal true 5 (.agg (⟨[g29 0, g29 1, g29 2, g29 3, g29 4]⟩)) (L [ptr b, v21, g29 0, g29 1, g29 2, g29 3, g29 4] s24)))))))))))) := ⟨_, rfl⟩
  have APP : ∀ (nm : ByteArray) (s' : Vw) (q' : Nat), RD w0 s' b q' → q' ≤ p + 5 * out.length + 5 → Keeps (s.del b) (s'.del b) → out.length < 4 → nm.size ≤ 9223372036854775807 → AP (.string nm) s' := fun nm s' q' hrd' hq' k' hol hnm' => by
    rw [hAP]
    show pVal false 1 (.string nm) _
    rw [pVal1 rfl]
    refine (mv k').one okS (f := []) (y := nm) ⟨rfl, rfl, hnm'⟩ (fun i hi => by cases hi) (by omega) (by omega) fun v2 F2 s2 k2 o2 f2 => ?_
    have hbF : b ∉ F := fun hb => (hF b hb).2 rfl
    have hs2b : s2 b = s' b := by
      cases hb' : s' b with
      | none => exact absurd hb' hrd'.at
      | some r => exact k2 b r hb' hbF
    have ks' := ks.trans k'
    have K2 : Keeps (σ.del b) (s2.del b) := fun i r hi => by
      obtain ⟨e1, e2⟩ := del_some hi
      rw [del_ne e1]
      exact k2 i r (keeps_out ks' e1 e2) fun hi' => by rw [(hF i hi').1] at e2; cases e2
    have hF2 : ∀ i, i ∈ F2 → σ i = none ∧ i ≠ b := fun i hi => by
      rcases f2 i hi with e | e | e
      · exact hF i e
      · cases e
      · have hib : i ≠ b := fun e' => hrd'.at (e' ▸ e)
        exact ⟨none_out ks' hib e, hib⟩
    have hrd2 := hrd'.keep hs2b
    have hleB : Le (Av.get w0 (σ.del b)) (Av.get w0 s2) := (K2.trans del_keeps).le
    obtain ⟨dd, mm, tt, nn, kk'⟩ := y
    have hol2 : (out ++ [nm]).length = out.length + 1 := by simp
    refine spec_Find (mono_rt n _ _ _ _ hleB hy0) ?_
    rw [pBin_lt, pIf_d]
    refine ⟨fun _ => ret hrd2 (by omega) K2 o2 hF2 (by omega), fun hpos => ?_⟩
    rw [hkd.len, pBin_ge, pIf_d]
    refine ⟨fun _ => ret hrd2 (by omega) K2 o2 hF2 (by omega), fun hlt2 => ?_⟩
    obtain ⟨j, hj⟩ : ∃ j : Nat, placeI (nidx nn nm) = (j : Nat) := ⟨(placeI (nidx nn nm)).toNat, by omega⟩
    rw [hj] at hlt2 ⊢
    have hx := List.getElem?_eq_getElem (show j < (kidsOf (.mk dd mm tt nn kk')).length by omega)
    refine (hkB.mono hleB fun _ _ h => h).at hx fun g hg => ?_
    simp only [expl] at hg
    have hg : RT n (Av.get w0 (σ.del b)) [g 0, g 1, g 2, g 3, g 4] _ := hg
    obtain ⟨_, _, _, _, _, _, _, hpg⟩ := hg.five
    rw [hpg]
    refine hL _ _ (m - 1) (by omega) ⟨v2, F2, out ++ [nm], _, g 0, g 1, g 2, g 3, g 4, q', by omega, hrd2, by omega, K2, o2, hF2, hg, ?_, rfl⟩
    have := kid_sz hy0.isT (List.mem_of_getElem? hx)
    omega
  have STEP : ∀ (s' : Vw) (q' : Nat), RD w0 s' b q' → q' ≤ p + 5 * out.length + 1 → Keeps (s.del b) (s'.del b) → out.length < 4 →
      AC Tryz.prog w0 n_spec_l4Name [ptr b] s' (fun v9 s10 => pLen d3 (fun v11 => pBin Tryz.prog 3 .gtr v11 (.int .i64 0) (fun v12 => pIf v12 (AC Tryz.prog w0 n_p_spec_l1Rd_pick [ptr b, .int .i64 4] s10 (fun v13 s14 => pBin Tryz.prog 3 .gtr v13 (.int .i64 0) (fun v15 => pIf v15 (pLen d3 (fun v16 => AC Tryz.prog w0 n_p_spec_l1Rd_pick [ptr b, v16] s14 (fun v17 s18 => pIndexAddr 1 d3 v17 (fun v19 => pLoad w0 1 v19 s18 (fun g20 => AP (g20 0) s18)))))
        (AP v9 s14)))) (AP v9 s10)))) := fun s' q' hrd' hq' k' hol => by
    refine spec_l4Name hrd' (by omega) fun nm s1 hnm1 hrd1 k1 => ?_
    rw [hnm.len, pBin_gt, pIf_d]
    refine ⟨fun hpos => ?_, fun _ => APP nm s1 _ hrd1 (by omega) (k'.trans k1) hol (by omega)⟩
    refine spec_pick (n := 4) hrd1 (by omega) (by omega) fun j s2 hj hrd2 hd2 _ => ?_
    have k2 : Keeps (s1.del b) (s2.del b) := by rw [hd2]; exact Keeps.refl _
    rw [pBin_gt, pIf_d]
    refine ⟨fun _ => ?_, fun _ => APP nm s2 _ hrd2 (by omega) ((k'.trans k1).trans k2) hol (by omega)⟩
    rw [hnm.len]
    refine spec_pick hrd2 (by omega) (by omega) fun j3 s3 hj3 hrd3 hd3 _ => ?_
    have k3 : Keeps (s2.del b) (s3.del b) := by rw [hd3]; exact Keeps.refl _
    have K3 := ((k'.trans k1).trans k2).trans k3
    have hx := List.getElem?_eq_getElem hj3
    refine RSl.at1 (hnm.mono ((ks.trans K3).trans del_keeps).le fun _ _ h => h) hx fun g hg hgs => ?_
    rw [hg]
    exact APP _ s3 _ hrd3 (by omega) K3 hol hgs
  clear APP
  subst hAP
  refine ⟨fun hlt => ?_, fun hge => ret hrd (by omega) ks ho hF (by omega)⟩
  rw [hlen, pBin_eq, pIf_d]
  refine ⟨fun _ => STEP s q hrd (by omega) (Keeps.refl _) (by omega), fun hne0 => ?_⟩
  refine spec_pick (n := 3) hrd (by omega) (by omega) fun j s1 hj hrd1 hd1 _ => ?_
  have k1 : Keeps (s.del b) (s1.del b) := by rw [hd1]; exact Keeps.refl _
  rw [pBin_gt, pIf_d]
  refine ⟨fun _ => STEP s1 _ hrd1 (by omega) k1 (by omega), fun _ => ?_⟩
  exact ret hrd1 (by omega) (ks.trans k1) (mv k1) hF (by omega)
end
end Go.Proofs.YtkbhjejalkbogaaGreat
