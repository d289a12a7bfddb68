/- What is at a path of a tree, by either reading. -/
import Derived.Test.YtpplljcblgnnhaaE1
import Derived.Test.YtpplljcblgnnhaaD5
set_option linter.unusedVariables false
set_option linter.unusedSimpArgs false
namespace Go.Proofs.Ytpplljcblgnnhaa
open Go Go.Av

/-- The first place of a text. -/
def nidx : List ByteArray → ByteArray → Option Nat
  | [], _ => none
  | s :: r, x => if s = x then some 0 else (nidx r x).map (· + 1)
theorem nidx_some {ns : List ByteArray} {x : ByteArray} : ∀ {j : Nat}, nidx ns x = some j → ns[j]? = some x := by
  induction ns with
  | nil => intro j h; simp [nidx] at h
  | cons s r ih =>
    intro j h
    unfold nidx at h
    split at h
    · rename_i e; cases h; simp [e]
    · cases hr : nidx r x with
      | none => rw [hr] at h; cases h
      | some i => rw [hr] at h; cases h; simpa using ih hr
theorem nidx_at {ns : List ByteArray} {x : ByteArray} : ∀ {j : Nat}, ns[j]? = some x → (∀ (i : Nat) (y : ByteArray), i < j → ns[i]? = some y → y ≠ x) → nidx ns x = some j := by
  induction ns with
  | nil => intro j h; simp at h
  | cons s r ih =>
    intro j h hn
    unfold nidx
    cases j with
    | zero => simp at h; rw [if_pos h]
    | succ j =>
      rw [if_neg (hn 0 s (by omega) rfl), ih (by simpa using h) fun i y hi hy => hn (i + 1) y (by omega) (by simpa using hy)]
      rfl
theorem nidx_none {ns : List ByteArray} {x : ByteArray} (h : ∀ (i : Nat) (y : ByteArray), ns[i]? = some y → y ≠ x) : nidx ns x = none := by
  induction ns with
  | nil => rfl
  | cons s r ih =>
    unfold nidx
    rw [if_neg (h 0 s rfl), ih fun i y hy => h (i + 1) y (by simpa using hy)]
    rfl
/-- A place as a number, -1 for none. -/
def placeI : Option Nat → Int
  | some j => j
  | none => -1

/-- Names and parts are as many, all the way down. -/
def wfT : Nat → Tr → Prop
  | 0, _ => True
  | n + 1, .mk d m t ns ks => ns.length = ks.length ∧ ∀ k, k ∈ ks → wfT n k
theorem sound_wf : ∀ (n : Nat) (x : Tr) (k : Int), soundB n x k = true → wfT n x
  | 0, _, _, _ => trivial
  | n + 1, .mk d m t ns ks, k, h => by
    simp only [soundB, plainB, Bool.and_eq_true, decide_eq_true_eq] at h
    refine ⟨h.1.2.1, fun x hx => ?_⟩
    obtain ⟨j, hj⟩ := List.getElem?_of_mem hx
    exact sound_wf n x (k + 1) (allB_iff.1 h.2.2 j x hj)
def kidT : Tr → ByteArray → Option Tr
  | .mk _ _ _ ns ks, x => (nidx ns x).bind fun j => ks[j]?
def atT : Tr → List ByteArray → Option Tr
  | t, [] => some t
  | t, x :: r => (kidT t x).bind fun k => atT k r
def zeroT : Tr := .mk false 0 ⟨#[]⟩ [] []
theorem RT_zero (n : Nat) (rd : Addr → Option Value) : RT (n + 1) rd [.bool false, .int .i64 0, .string ⟨#[]⟩, .slice none 0 0, .slice none 0 0] zeroT :=
  ⟨_, _, rfl, by omega, by show 0 ≤ _; omega, ⟨none, 0, rfl, by simp, fun j x h => by simp at h⟩, ⟨none, 0, rfl, by simp, fun j x h => by simp at h⟩⟩
theorem wf_up : ∀ {n : Nat} {x : Tr}, wfT (n + 1) x → wfT n x
  | 0, _, _ => trivial
  | n + 1, .mk d m t ns ks, h => ⟨h.1, fun k hk => wf_up (h.2 k hk)⟩

section
variable {w0 : World} {σ : Vw}

theorem find_names {v : Value} {ns : List ByteArray} {x : ByteArray} (h : RSl 1 RS (Av.get w0 σ) v ns) {R : Value → Vw → Prop} (hR : R (.int .i64 (placeI (nidx ns x))) σ) : AC Try.prog w0 n_slices_Index_string_string [v, .string x] σ R := by
  refine ac_slices_Index_string_string ?_
  unfold vc_slices_Index_string_string
  have hl := h.le
  rw [h.len]
  refine loop_rule (m := ns.length) (fun c l s => ∃ j, s = σ ∧ c + j = ns.length ∧ (∀ (i : Nat) (y : ByteArray), i < j → ns[i]? = some y → y ≠ x) ∧ l = [v, .string x, .int .i64 0, .int .i64 ns.length, .int .i64 (j : Nat)]) ?_ ⟨0, rfl, by omega, fun i y h => by omega, rfl⟩
  rintro c l s L ⟨j, rfl, hc, ht, rfl⟩ hL
  simp only [vget, List.getD_cons_zero, List.getD_cons_succ]
  rw [pBin_lt, pIf_d]
  refine ⟨fun hj => ?_, fun hj => ?_⟩
  · have hx := List.getElem?_eq_getElem (show j < ns.length by omega)
    generalize hxj : ns[j] = y at hx
    refine RSl.at1 h hx fun g hg hs => ?_
    rw [hg, pBin_seq, pIf_d]
    refine ⟨fun he => ?_, fun hne => ?_⟩
    · subst he
      rw [nidx_at hx ht] at hR
      exact hR
    · rw [pBin_add (by omega)]
      refine hL _ _ (c - 1) (by omega) ⟨j + 1, rfl, by omega, fun i z hi hz => ?_, rfl⟩
      by_cases e : i = j
      · subst e; rw [hx] at hz; cases hz; exact fun e => hne e.symm
      · exact ht i z (by omega) hz
  · rw [nidx_none fun i y hy => ht i y (by have := (List.getElem?_eq_some_iff.1 hy).1; omega) hy] at hR
    exact hR

theorem spec_Find {n : Nat} {es : List Value} {d : Bool} {m : Int} {t : ByteArray} {ns : List ByteArray} {ks : List Tr} {x : ByteArray} (h : RT n (Av.get w0 σ) es (.mk d m t ns ks)) {R : Value → Vw → Prop} (hR : R (.int .i64 (placeI (nidx ns x))) σ) : AC Try.prog w0 n_spec_l1Find [.agg ⟨es⟩, .string x] σ R := by
  obtain _ | n := n
  · exact h.elim
  obtain ⟨u, w, rfl, h2, h3, h4, h5⟩ := h
  refine ac_spec_l1Find ?_
  unfold vc_spec_l1Find
  have hl := h4.le
  rw [pVal_5 rfl rfl rfl h4.one h5.one]
  simp only [cellOf_agg, List.getD_cons_zero, List.getD_cons_succ]
  refine loop_rule (m := ns.length) (fun c l s => ∃ j, s = σ ∧ c + j = ns.length ∧ (∀ (i : Nat) (y : ByteArray), i < j → ns[i]? = some y → y ≠ x) ∧ l = [.string x, .int .i64 0, .int .i64 (j : Nat), .bool d, .int .i64 m, .string t, u, w]) ?_ ⟨0, rfl, by omega, fun i y h => by omega, rfl⟩
  rintro c l s L ⟨j, rfl, hc, ht, rfl⟩ hL
  simp only [vget, List.getD_cons_zero, List.getD_cons_succ]
  rw [h4.len, pBin_lt, pIf_d]
  refine ⟨fun hj => ?_, fun hj => ?_⟩
  · have hx := List.getElem?_eq_getElem (show j < ns.length by omega)
    generalize hxj : ns[j] = y at hx
    refine RSl.at1 h4 hx fun g hg hs => ?_
    rw [hg, pBin_seq, pIf_d]
    refine ⟨fun he => ?_, fun hne => ?_⟩
    · subst he
      rw [nidx_at hx ht] at hR
      exact hR
    · rw [pBin_add (by omega)]
      refine hL _ _ (c - 1) (by omega) ⟨j + 1, rfl, by omega, fun i z hi hz => ?_, rfl⟩
      by_cases e : i = j
      · subst e; rw [hx] at hz; cases hz; exact hne
      · exact ht i z (by omega) hz
  · rw [nidx_none fun i y hy => ht i y (by have := (List.getElem?_eq_some_iff.1 hy).1; omega) hy] at hR
    exact hR

/-- What a kid is read as. -/
theorem kid_some {n : Nat} {d : Bool} {m : Int} {t : ByteArray} {ns : List ByteArray} {ks : List Tr} {x : ByteArray} (hw : wfT (n + 1) (.mk d m t ns ks)) {j : Nat} (hj : nidx ns x = some j) : ∃ k, ks[j]? = some k ∧ kidT (.mk d m t ns ks) x = some k ∧ wfT n k := by
  have h1 := nidx_some hj
  have hlt := (List.getElem?_eq_some_iff.1 h1).1
  have hw1 := hw.1
  have hk := List.getElem?_eq_getElem (show j < ks.length by omega)
  refine ⟨_, hk, ?_, hw.2 _ (List.getElem_mem _)⟩
  simp only [kidT, hj, Option.bind_some, hk]

theorem spec_At : ∀ (ps : List ByteArray) {n : Nat} {σ : Vw} {es : List Value} {v : Value} {x : Tr} {R : Value → Vw → Prop}, RT n (Av.get w0 σ) es x → wfT n x → RSl 1 RS (Av.get w0 σ) v ps →
    (∀ es', RT n (Av.get w0 σ) es' ((atT x ps).getD zeroT) → R (.tuple ⟨[.agg ⟨es'⟩, .bool (atT x ps).isSome]⟩) σ) → AC Try.prog w0 n_spec_l1At [.agg ⟨es⟩, v] σ R
  | ps, 0, _, _, _, _, _, h, _, _, _ => h.elim
  | ps, n + 1, σ, es, v, .mk d m t ns ks, R, h, hw, hp, hR => by
    have h0 := h
    obtain ⟨u, w, rfl, h2, h3, h4, h5⟩ := h
    refine ac_spec_l1At ?_
    unfold vc_spec_l1At
    have e5 : ∀ A : Prop, pVal true 5 (.agg ⟨[.bool d, .int .i64 m, .string t, u, w]⟩) A ↔ A := fun A => pVal_5 rfl rfl rfl h4.one h5.one
    rw [e5]
    simp only [cellOf_agg, List.getD_cons_zero, List.getD_cons_succ]
    rw [hp.len, pBin_eq, pIf_d]
    cases ps with
    | nil =>
      refine ⟨fun _ => ?_, fun h => absurd rfl h⟩
      rw [e5]
      exact hR _ h0
    | cons p r =>
      refine ⟨fun h => by simp at h; omega, fun _ => ?_⟩
      refine RSl.at1 (w0 := w0) (σ := σ) hp (j := 0) (x := p) rfl fun g hg hs => ?_
      rw [hg]
      refine spec_Find h0 ?_
      rw [pBin_lt, pIf_d]
      cases hj : nidx ns p with
      | none =>
        refine ⟨fun _ => ?_, fun h => absurd (show (-1 : Int) < 0 by omega) h⟩
        rw [pVal_5 rfl rfl rfl rfl rfl]
        have : atT (.mk d m t ns ks) (p :: r) = none := by simp [atT, kidT, hj]
        rw [this] at hR
        exact hR _ (RT_zero n _)
      | some j =>
        refine ⟨fun h => by simp only [placeI] at h; omega, fun _ => ?_⟩
        obtain ⟨k, hk1, hk2, hk3⟩ := kid_some hw hj
        have hat : atT (.mk d m t ns ks) (p :: r) = atT k r := by simp only [atT, hk2, Option.bind_some]
        rw [hat] at hR
        refine h5.at hk1 fun g8 hg8 => ?_
        refine hp.slice (l := 1) (u := (p :: r).length) rfl rfl (by simp) (Nat.le_refl _) fun v9 hv9 => ?_
        rw [List.take_length, List.drop_one, List.tail_cons] at hv9
        refine spec_At r hg8 hk3 hv9 fun es' he' => ?_
        rw [pExtract_s rfl, pExtract_s rfl]
        have hn : RT (n + 1) (Av.get w0 σ) es' ((atT k r).getD zeroT) := RT_up _ _ _ _ he'
        obtain ⟨a, b, c, d', e, rfl, _, hpv⟩ := RT.five hn
        rw [hpv]
        exact hR _ hn

/-- A pointer to a tree. -/
def PT (n : Nat) (rd : Addr → Option Value) (p : Value) (x : Tr) : Prop := ∃ a es, p = .pointer (some a) ∧ es.length = 5 ∧ (∀ i, i < 5 → rd (a.add i) = es[i]?) ∧ RT n rd es x
theorem PT.mono {n : Nat} {rd rd' : Addr → Option Value} {p : Value} {x : Tr} (h : PT n rd p x) (hl : Le rd rd') : PT n rd' p x := by
  obtain ⟨a, es, h1, h2, h3, h4⟩ := h
  refine ⟨a, es, h1, h2, fun i hi => ?_, mono_rt n _ _ _ _ hl h4⟩
  have := h3 i hi
  rw [List.getElem?_eq_getElem (by omega)] at this ⊢
  exact hl _ _ this
theorem PT.up {n : Nat} {rd : Addr → Option Value} {p : Value} {x : Tr} (h : PT n rd p x) : PT (n + 1) rd p x := by
  obtain ⟨a, es, h1, h2, h3, h4⟩ := h
  exact ⟨a, es, h1, h2, h3, RT_up _ _ _ _ h4⟩
/-- A field behind a pointer is read. -/
theorem PT.ld {n : Nat} {p : Value} {x : Tr} (h : PT n (Av.get w0 σ) p x) (o : Nat) (ho : o < 5) {K : (Nat → Value) → Prop} (hK : ∀ (es : List Value) (g : Nat → Value), RT n (Av.get w0 σ) es x → es[o]? = some (g 0) → K g) : pNil p (pField o p fun q => pLoad w0 1 q σ K) := by
  obtain ⟨a, es, rfl, h5, h6, h7⟩ := h
  rw [pNil_s, pField_s]
  refine ⟨_, fun _ => es.getD o undef, rfl, fun i hi => ?_, hK es _ h7 ?_⟩
  · have e : i = 0 := by omega
    subst e
    have := h6 o ho
    rw [add_add, Nat.add_zero, this, List.getElem?_eq_getElem (by omega)]
    simp only [List.getD_eq_getElem?_getD, List.getElem?_eq_getElem (show o < es.length by omega), Option.getD_some]
  · simp only [List.getD_eq_getElem?_getD, List.getElem?_eq_getElem (show o < es.length by omega), Option.getD_some]
/-- The address of an element. -/
theorem RSl.ptr {n k : Nat} {v : Value} {xs : List Tr} (h : RSl 5 (RT n) (Av.get w0 σ) v xs) {j : Nat} {x : Tr} (hj : xs[j]? = some x) {K : Value → Prop} (hK : ∀ p, PT n (Av.get w0 σ) p x → K p) : pIndexAddr 5 v (.int .i64 j) K := by
  obtain ⟨A, cap, rfl, _, h3⟩ := h
  obtain ⟨a, es, rfl, h5, h6, h7⟩ := h3 j x hj
  have hlt : j < xs.length := (List.getElem?_eq_some_iff.1 hj).1
  refine ⟨a, xs.length, cap, .i64, j, rfl, rfl, by omega, by omega, hK _ ⟨_, es, rfl, h5, fun i hi => ?_, h7⟩⟩
  have := h6 i hi
  rw [Int.toNat_natCast, add_add]; exact this

/-- What is at a name, by pointers: a pointer, or nil. -/
def PO (n : Nat) (rd : Addr → Option Value) (p : Value) : Option Tr → Prop
  | some x => PT n rd p x
  | none => p = .pointer none
theorem PO.mono {n : Nat} {rd rd' : Addr → Option Value} {p : Value} {o : Option Tr} (h : PO n rd p o) (hl : Le rd rd') : PO n rd' p o := by
  cases o with
  | none => exact h
  | some x => exact PT.mono h hl

theorem impl_kid {n : Nat} {p : Value} {x : Tr} {name : ByteArray} {R : Value → Vw → Prop} (h : PT (n + 1) (Av.get w0 σ) p x) (hw : wfT (n + 1) x) (hR : ∀ q, PO n (Av.get w0 σ) q (kidT x name) → R q σ) : AC Try.prog w0 n_p_impl_Tree_kid [p, .string name] σ R := by
  obtain ⟨d, m, t, ns, ks⟩ := x
  refine ac_p_impl_Tree_kid ?_
  unfold vc_p_impl_Tree_kid
  refine h.ld 3 (by omega) fun es g he hg => ?_
  obtain ⟨u, w, rfl, h2, h3, h4, h5⟩ := he
  simp only [List.getElem?_cons_zero, List.getElem?_cons_succ, Option.some.injEq] at hg
  rw [← hg]
  refine find_names h4 ?_
  rw [pBin_lt, pIf_d]
  cases hj : nidx ns name with
  | none =>
    refine ⟨fun _ => hR _ (by simp only [kidT, hj, Option.bind_none]; rfl), fun h => absurd (show (-1 : Int) < 0 by omega) h⟩
  | some j =>
    refine ⟨fun h => by simp only [placeI] at h; omega, fun _ => ?_⟩
    obtain ⟨k, hk1, hk2, hk3⟩ := kid_some hw hj
    have hlt := (List.getElem?_eq_some_iff.1 hk1).1
    refine h.ld 4 (by omega) fun es g he hg => ?_
    obtain ⟨u', w', rfl, h2', h3', h4', h5'⟩ := he
    simp only [List.getElem?_cons_zero, List.getElem?_cons_succ, Option.some.injEq] at hg
    rw [← hg, h5'.len]
    simp only [placeI]
    rw [pBin_ge, pIf_d]
    refine ⟨fun h => by omega, fun _ => ?_⟩
    refine h.ld 4 (by omega) fun es g he hg => ?_
    obtain ⟨u2, w2, rfl, h22, h32, h42, h52⟩ := he
    simp only [List.getElem?_cons_zero, List.getElem?_cons_succ, Option.some.injEq] at hg
    rw [← hg]
    refine RSl.ptr (k := 0) h52 hk1 fun q hq => hR q ?_
    rw [hk2]; exact hq

theorem wf_RT_up : ∀ {n : Nat} {rd : Addr → Option Value} {es : List Value} {x : Tr}, RT n rd es x → wfT n x → wfT (n + 1) x
  | 0, _, _, _, h, _ => h.elim
  | n + 1, rd, es, .mk d m t ns ks, h, hw => by
    obtain ⟨u, w, h1, h2, h3, h4, A, cap, _, _, h5⟩ := h
    refine ⟨hw.1, fun k hk => ?_⟩
    obtain ⟨j, hj⟩ := List.getElem?_of_mem hk
    obtain ⟨a, es', _, _, _, h6⟩ := h5 j k hj
    exact wf_RT_up h6 (hw.2 k hk)

theorem pBin_nil {T : Nat} {p : Option Addr} {K : Value → Prop} (hT : ∃ e, Try.prog.underlying T = some (.pointer e)) : pBin Try.prog T .eql (.pointer p) (.pointer none) K ↔ K (.bool p.isNone) := by
  obtain ⟨e, he⟩ := hT
  have h : abinT Try.prog T .eql (.pointer p) (.pointer none) = some (.bool p.isNone) := by simp only [abinT, he]
  exact ⟨fun ⟨_, h', hK⟩ => by rw [h] at h'; cases h'; exact hK, fun hK => ⟨_, h, hK⟩⟩
theorem ptr_tree : ∃ e, Try.prog.underlying t_p_impl_Tree = some (.pointer e) := ⟨t_impl_Tree, by kernel_rfl⟩

theorem impl_at {n : Nat} {p v : Value} {x : Tr} {ps : List ByteArray} {R : Value → Vw → Prop} (h : PT (n + 1) (Av.get w0 σ) p x) (hw : wfT (n + 1) x) (hp : RSl 1 RS (Av.get w0 σ) v ps) (hR : ∀ q, PO (n + 1) (Av.get w0 σ) q (atT x ps) → R q σ) : AC Try.prog w0 n_p_impl_Tree_at [p, v] σ R := by
  refine ac_p_impl_Tree_at ?_
  unfold vc_p_impl_Tree_at
  have hl := hp.le
  rw [hp.len]
  refine loop_rule (m := ps.length) (fun c l s => ∃ (j : Nat) (q : Value) (y : Tr), s = σ ∧ c + j = ps.length ∧ PT (n + 1) (Av.get w0 σ) q y ∧ wfT (n + 1) y ∧ atT y (ps.drop j) = atT x ps ∧ l = [q, .pointer none, v, .int .i64 ps.length, .int .i64 (j : Nat)]) ?_ ⟨0, p, x, rfl, by omega, h, hw, rfl, rfl⟩
  rintro c l s L ⟨j, q, y, rfl, hc, hq, hy, hat, rfl⟩ hL
  simp only [vget, List.getD_cons_zero, List.getD_cons_succ]
  rw [pBin_lt, pIf_d]
  refine ⟨fun hj => ?_, fun hj => ?_⟩
  · have hx := List.getElem?_eq_getElem (show j < ps.length by omega)
    have hd : ps.drop j = ps[j] :: ps.drop (j + 1) := List.drop_eq_getElem_cons (by omega)
    rw [hd] at hat
    generalize hxj : ps[j] = z at hx hat
    refine RSl.at1 hp hx fun g hg hs => ?_
    rw [hg]
    refine impl_kid hq hy fun q' hq' => ?_
    cases hk : kidT y z with
    | none =>
      rw [hk] at hq'
      obtain rfl : q' = .pointer none := hq'
      rw [pBin_nil ptr_tree]
      rw [pIf_b]
      refine ⟨fun _ => hR _ ?_, fun h => by cases h⟩
      have : atT x ps = none := by rw [← hat]; simp only [atT, hk, Option.bind_none]
      rw [this]; exact rfl
    | some y' =>
      rw [hk] at hq'
      have hq2 : PT n (Av.get w0 s) q' y' := hq'
      obtain ⟨a, es, rfl, r1, r2, r3⟩ := hq2
      rw [pBin_nil ptr_tree]
      rw [pIf_b]
      refine ⟨fun h => (by cases h), fun _ => ?_⟩
      rw [pBin_add (by omega)]
      have hw' : wfT n y' := by
        obtain ⟨d, m, t, ns, ks⟩ := y
        cases hj : nidx ns z with
        | none => simp only [kidT, hj, Option.bind_none] at hk; cases hk
        | some i =>
          obtain ⟨k, _, hk2, hk3⟩ := kid_some hy hj
          rw [hk] at hk2; cases hk2; exact hk3
      refine hL _ _ (c - 1) (by omega) ⟨j + 1, _, y', rfl, by omega, PT.up ⟨a, es, rfl, r1, r2, r3⟩, wf_RT_up r3 hw', ?_, rfl⟩
      rw [← hat]; simp only [atT, hk, Option.bind_some]
  · have hj' : j = ps.length := by omega
    subst hj'
    rw [List.drop_length] at hat
    have : atT x ps = some y := by rw [← hat]; rfl
    refine hR q ?_
    rw [this]; exact hq
end
end Go.Proofs.Ytpplljcblgnnhaa
