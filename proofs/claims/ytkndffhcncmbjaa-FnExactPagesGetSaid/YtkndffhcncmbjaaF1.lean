/- Pages: what is read of them; the chain of a text, by either reading. -/
import Derived.Test.YtkndffhcncmbjaaC5
import Derived.Test.YtkndffhcncmbjaaE2
import Derived.Test.YtkndffhcncmbjaaD5
set_option linter.unusedVariables false
set_option linter.unusedSimpArgs false
namespace Go.Proofs.Ytkndffhcncmbjaa
open Go Go.Av

structure Pg where
  used : Bool
  data : ByteArray
  next : Int
structure Pn where
  name : ByteArray
  first : Int
  size : Int
noncomputable instance : DecidableEq Pg := fun _ _ => Classical.propDecidable _
noncomputable instance : DecidableEq Pn := fun _ _ => Classical.propDecidable _
def rng (n : Int) : Prop := -9223372036854775808 ≤ n ∧ n ≤ 9223372036854775807
def encPg (x : Pg) : List Value := [.bool x.used, .string x.data, .int .i64 x.next]
def goodPg (x : Pg) : Prop := x.data.size ≤ 9223372036854775807 ∧ rng x.next
def encPn (x : Pn) : List Value := [.string x.name, .int .i64 x.first, .int .i64 x.size]
def goodPn (x : Pn) : Prop := x.name.size ≤ 9223372036854775807 ∧ rng x.first ∧ rng x.size
abbrev RPg := RFl encPg goodPg
abbrev OPg := OFl encPg goodPg
abbrev RPn := RFl encPn goodPn
abbrev OPn := OFl encPn goodPn
theorem rok_pg : ROk 3 RPg := rok_fl (n := 3) (enc := encPg) (good := goodPg) (fun _ => rfl) (fun x c h => by simp [encPg] at h; rcases h with rfl | rfl | rfl <;> rfl)
theorem ok_pg (w0 : World) : OOk w0 3 RPg OPg := ok_fl (n := 3) (enc := encPg) (good := goodPg) (fun _ => rfl) (fun x c h => by simp [encPg] at h; rcases h with rfl | rfl | rfl <;> rfl) w0
theorem rok_pn : ROk 3 RPn := rok_fl (n := 3) (enc := encPn) (good := goodPn) (fun _ => rfl) (fun x c h => by simp [encPn] at h; rcases h with rfl | rfl | rfl <;> rfl)
theorem ok_pn (w0 : World) : OOk w0 3 RPn OPn := ok_fl (n := 3) (enc := encPn) (good := goodPn) (fun _ => rfl) (fun x c h => by simp [encPn] at h; rcases h with rfl | rfl | rfl <;> rfl) w0
/-- Pages and names. -/
abbrev Pgs := List Pg × List Pn
def RPgs (rd : Addr → Option Value) (es : List Value) (x : Pgs) : Prop := ∃ u v, es = [u, v] ∧ RSl 3 RPg rd u x.1 ∧ RSl 3 RPn rd v x.2
def OPgs (w0 : World) (σ : Vw) (F : List Nat) (es : List Value) (x : Pgs) : Prop := ∃ u v F1 F2, es = [u, v] ∧ OSl w0 3 OPg σ F1 u x.1 ∧ OSl w0 3 OPn σ F2 v x.2 ∧ F = F1 ++ F2 ∧ F.Nodup
theorem mono_pgs {rd rd' : Addr → Option Value} {es : List Value} {x : Pgs} (hl : Le rd rd') (h : RPgs rd es x) : RPgs rd' es x := by
  obtain ⟨u, v, h1, h2, h3⟩ := h
  exact ⟨u, v, h1, h2.mono hl fun _ _ h => h, h3.mono hl fun _ _ h => h⟩
/-- Places. -/
def encN (n : Nat) : List Value := [.int .i64 n]
def goodN (n : Nat) : Prop := n ≤ 9223372036854775807
abbrev RN := RFl encN goodN
abbrev ON := OFl encN goodN
theorem ok_n (w0 : World) : OOk w0 1 RN ON := ok_fl (n := 1) (enc := encN) (good := goodN) (fun _ => rfl) (fun x c h => by simp [encN] at h; rw [h]; rfl) w0
/-- Bools. -/
def encB (b : Bool) : List Value := [.bool b]
abbrev RBo := RFl encB fun _ => True
abbrev OBo := OFl encB fun _ => True
theorem ok_bo (w0 : World) : OOk w0 1 RBo OBo := ok_fl (n := 1) (enc := encB) (good := fun _ => True) (fun _ => rfl) (fun x c h => by simp [encB] at h; rw [h]; rfl) w0

/-- A chain of pages from a place on, with so many bytes left; the last says what ends it. -/
def Ch (e : Int → Prop) (ps : List Pg) : List Nat → Int → Int → Prop
  | [], a, l => e a ∧ l = 0
  | i :: r, a, l => a = i ∧ 0 < l ∧ ∃ p, ps[i]? = some p ∧ p.used = true ∧ (p.data.size : Int) = min 40 l ∧ Ch e ps r p.next (l - min 40 l)
theorem Ch.uniq {e : Int → Prop} (he : ∀ a, e a → a < 0) {ps : List Pg} : ∀ {r s : List Nat} {a l : Int}, Ch e ps r a l → Ch e ps s a l → r = s
  | [], [], _, _, _, _ => rfl
  | [], i :: s, a, l, h, h' => by have := h.2; have := h'.2.1; omega
  | i :: r, [], a, l, h, h' => by have := h.2.1; have := h'.2; omega
  | i :: r, j :: s, a, l, h, h' => by
    obtain ⟨h1, h2, p, h3, h4, h5, h6⟩ := h
    obtain ⟨g1, g2, q, g3, g4, g5, g6⟩ := h'
    have : i = j := by omega
    subst this
    rw [h3] at g3; cases g3
    rw [Ch.uniq he h6 g6]

open Classical in
/-- The chain, if there is one that is good. -/
noncomputable def chOf (e : Int → Prop) (g : List Nat → Prop) (ps : List Pg) (a l : Int) : Option (List Nat) := if h : ∃ r, Ch e ps r a l ∧ g r then some (Classical.choose h) else none
theorem chOf_some {e : Int → Prop} (he : ∀ a, e a → a < 0) {g : List Nat → Prop} {ps : List Pg} {a l : Int} {r : List Nat} (h : Ch e ps r a l) (hg : g r) : chOf e g ps a l = some r := by
  have hx : ∃ r, Ch e ps r a l ∧ g r := ⟨r, h, hg⟩
  unfold chOf
  rw [dif_pos hx, Ch.uniq he (Classical.choose_spec hx).1 h]
theorem chOf_none {e : Int → Prop} {g : List Nat → Prop} {ps : List Pg} {a l : Int} (h : ∀ r, Ch e ps r a l → g r → False) : chOf e g ps a l = none := by
  unfold chOf
  rw [dif_neg]
  rintro ⟨r, h1, h2⟩; exact h r h1 h2
theorem chOf_spec {e : Int → Prop} {g : List Nat → Prop} {ps : List Pg} {a l : Int} {r : List Nat} (h : chOf e g ps a l = some r) : Ch e ps r a l ∧ g r := by
  unfold chOf at h
  split at h
  · rename_i hx; cases h; exact Classical.choose_spec hx
  · cases h
noncomputable abbrev chS (ps : List Pg) (n : Pn) : Option (List Nat) := chOf (fun a => a < 0) (fun _ => True) ps n.first n.size
noncomputable abbrev chI (ps : List Pg) (n : Pn) : Option (List Nat) := chOf (fun a => a = -1) (fun r => r.Nodup) ps n.first n.size
/-- Where one stands in a chain. -/
def At (e : Int → Prop) (ps : List Pg) (a0 l0 : Int) (out : List Nat) (a l : Int) : Prop := ∀ r, Ch e ps r a0 l0 ↔ ∃ s, r = out ++ s ∧ Ch e ps s a l
theorem At.start {e : Int → Prop} {ps : List Pg} {a l : Int} : At e ps a l [] a l := fun r => ⟨fun h => ⟨r, rfl, h⟩, fun ⟨s, h, h'⟩ => by rw [h]; exact h'⟩
theorem At.step {e : Int → Prop} (he : ∀ a, e a → a < 0) {ps : List Pg} {a0 l0 a l : Int} {out : List Nat} (h : At e ps a0 l0 out a l) {i : Nat} {p : Pg} (hi : a = i) (hl : 0 < l) (hp : ps[i]? = some p) (hu : p.used = true) (hs : (p.data.size : Int) = min 40 l) : At e ps a0 l0 (out ++ [i]) p.next (l - min 40 l) := fun r => by
  rw [h r]
  constructor
  · rintro ⟨s, rfl, hs'⟩
    cases s with
    | nil => have := he a hs'.1; omega
    | cons j s =>
      obtain ⟨h1, h2, q, h3, h4, h5, h6⟩ := hs'
      have : j = i := by omega
      subst this
      rw [hp] at h3; cases h3
      exact ⟨s, by simp, h6⟩
  · rintro ⟨s, rfl, hs'⟩
    exact ⟨i :: s, by simp, hi, hl, p, hp, hu, hs, hs'⟩
theorem At.fail {e : Int → Prop} {g : List Nat → Prop} {ps : List Pg} {a0 l0 a l : Int} {out : List Nat} (h : At e ps a0 l0 out a l) (hn : ∀ s, Ch e ps s a l → g (out ++ s) → False) : chOf e g ps a0 l0 = none :=
  chOf_none fun r hr hg => by obtain ⟨s, rfl, hs⟩ := (h r).1 hr; exact hn s hs hg
theorem At.done {e : Int → Prop} (he : ∀ a, e a → a < 0) {g : List Nat → Prop} {ps : List Pg} {a0 l0 a : Int} {out : List Nat} (h : At e ps a0 l0 out a 0) (ha : e a) (hg : g out) : chOf e g ps a0 l0 = some out :=
  chOf_some he ((h out).2 ⟨[], by simp, ha, rfl⟩) hg

section
variable {w0 : World} {σ : Vw}

theorem fl_at {α : Type} {n : Nat} {enc : α → List Value} {good : α → Prop} {v : Value} {xs : List α} (h : RSl n (RFl enc good) (Av.get w0 σ) v xs) {j : Nat} {x : α} (hj : xs[j]? = some x) (o : Nat) (ho : o < n) {y : Value} (hy : (enc x)[o]? = some y) {K : (Nat → Value) → Prop} (hK : ∀ g : Nat → Value, g 0 = y → good x → K g) :
    pIndexAddr n v (.int .i64 j) fun p => pField o p fun q => pLoad w0 1 q σ K :=
  h.atf hj o ho fun es g ⟨h1, h2⟩ hg => hK g (by rw [h1, hy] at hg; cases hg; rfl) h2

/-- A part of two slices. -/
theorem RPgs.two {rd : Addr → Option Value} {es : List Value} {x : Pgs} (h : RPgs rd es x) {A : Prop} : pVal true 2 (.agg ⟨es⟩) A ↔ A := by
  obtain ⟨u, v, rfl, h1, h2⟩ := h
  exact pVal_2 h1.one h2.one
theorem pn_three {x : Pn} {A : Prop} : pVal true 3 (.agg ⟨encPn x⟩) A ↔ A := pVal_3 rfl rfl rfl
theorem pg_three {x : Pg} {A : Prop} : pVal true 3 (.agg ⟨encPg x⟩) A ↔ A := pVal_3 rfl rfl rfl

theorem spec_Chain {es : List Value} {x : Pgs} {n : Pn} (h : RPgs (Av.get w0 σ) es x) (hn : goodPn n) (h96 : x.1.length = 96) (hsz : 0 ≤ n.size ∧ n.size ≤ 3000) {R : Value → Vw → Prop}
    (hR : ∀ v F σ', Keeps σ σ' → OSl w0 1 ON σ' F v ((chS x.1 n).getD []) ∨ chS x.1 n = none → (∀ i, i ∈ F → σ i = none) → R (.tuple ⟨[v, .bool (chS x.1 n).isSome]⟩) σ') : AC Try.prog w0 n_spec_l32Chain [.agg ⟨es⟩, .agg ⟨encPn n⟩] σ R := by
  refine ac_spec_l32Chain ?_
  unfold vc_spec_l32Chain
  have he : ∀ a : Int, (fun a : Int => a < 0) a → a < 0 := fun a h => h
  rw [h.two, pn_three]
  obtain ⟨u, w, rfl, hu, hw⟩ := h
  simp only [cellOf_agg, List.getD_cons_zero, List.getD_cons_succ, encPn]
  intro b h1 h2
  have ha := OAcc.new (w0 := w0) (σ := σ) (ety := t_int) (n := 1) (O := ON) h1
  have bad : ∀ (v : Value) (F : List Nat) (s : Vw), Keeps σ s → (∀ i, i ∈ F → σ i = none) → chS x.1 n = none → R (.tuple ⟨[v, .bool false]⟩) s := fun v F s hk hF hc => by
    have := hR v F s hk (.inr hc) hF
    rw [hc] at this; exact this
  refine loop_rule (m := n.size.toNat + 1) (fun c l s => ∃ (out : List Nat) (v : Value) (F : List Nat) (a lf : Int) (v0 : Value), 0 ≤ lf ∧ lf < c ∧ lf + 40 * out.length ≤ 3040 ∧ (lf = 0 ∨ lf + 40 * out.length ≤ 3000) ∧ rng a ∧ Keeps σ s ∧ (∀ i, i ∈ F → σ i = none) ∧ OAcc w0 t_int 1 ON s F v out ∧ At (fun a => a < 0) x.1 n.first n.size out a lf ∧ l = [v0, .bool false, v, .int .i64 a, .int .i64 lf, u, w]) ?_
    ⟨[], _, [b], n.first, n.size, _, hsz.1, by omega, by simp; omega, by simp; omega, hn.2.1, Keeps.put h2, fun i hi => by rw [List.mem_singleton.1 hi]; exact h2, ha, At.start, rfl⟩
  rintro c l s L ⟨out, v, F, a, lf, v0, hl0, hlc, hl1, hl2, hra, hk, hF, ho, hat, rfl⟩ hL
  simp only [vget, List.getD_cons_zero, List.getD_cons_succ]
  have hus := hu.mono hk.le fun _ _ h => h
  rw [pBin_ge, pIf_d]
  refine ⟨fun hge => ?_, fun hlt => ?_⟩
  · obtain ⟨i, hi⟩ : ∃ i : Nat, a = i := ⟨a.toNat, by omega⟩
    subst hi
    rw [hus.len, h96, pBin_ge, pIf_d]
    refine ⟨fun hbig => bad v F s hk hF (hat.fail fun r hr _ => ?_), fun hsm => ?_⟩
    · cases r with
      | nil => have := hr.1; omega
      | cons j r =>
        obtain ⟨g1, g2, p, g3, _⟩ := hr
        have := (List.getElem?_eq_some_iff.1 g3).1
        omega
    have hx := List.getElem?_eq_getElem (show i < x.1.length by omega)
    generalize hxi : x.1[i]'(by omega) = p at hx
    have nop : ∀ (P : Prop), (0 < lf → p.used = true → (p.data.size : Int) = min 40 lf → False) → chS x.1 n = none := fun P hP => hat.fail fun r hr _ => by
      cases r with
      | nil => have := hr.1; omega
      | cons j r =>
        obtain ⟨g1, g2, q, g3, g4, g5, _⟩ := hr
        have : i = j := by omega
        subst this
        rw [hx] at g3; cases g3
        exact hP g2 g4 g5
    refine fl_at hus hx 0 (by omega) rfl fun g hg hgood => ?_
    rw [hg, pUn_not, pIf_b]
    refine ⟨fun hb => bad v F s hk hF (nop True fun _ h _ => by rw [h] at hb; cases hb), fun hb => ?_⟩
    have hused : p.used = true := by simpa using hb
    have hov := ho.osl.rel (ok_n w0)
    rw [hov.len, pBin_gt, pIf_d]
    refine ⟨fun h => by omega, fun _ => ?_⟩
    rw [pBin_gt, pIf_d]
    have next : ∀ (sz : Int), sz = min 40 lf → 0 < lf → (p.data.size : Int) = sz → pVal false 1 (Value.int .i64 (i : Nat)) ((allOne [Value.int .i64 (i : Nat)]) ∧ (pAppend w0 3 1 8 v 1 [Value.int .i64 (i : Nat)] s (fun v21 s22 => pBin Try.prog 3 .sub (.int .i64 lf) (.int .i64 sz) (fun v23 => pIndexAddr 3 u (.int .i64 (i : Nat)) (fun v24 => pField 2 v24 (fun v25 => pLoad w0 1 v25 s22 (fun g26 => L [v0, .bool false, v21, g26 0, v23, u, w] s22))))))) := by
      rintro sz rfl hpos hds
      rw [pVal1 rfl]
      refine ho.one (ok_n w0) (f := []) (y := i) ⟨rfl, rfl, show i ≤ _ by omega⟩ (by simp) (by omega) (by omega) fun v' F' s' k' o' f' => ?_
      have hk' : Keeps σ s' := k'.old hk hF
      rw [pBin_sub (by omega)]
      refine fl_at (hu.mono hk'.le fun _ _ h => h) hx 2 (by omega) rfl fun g hg hgood => ?_
      rw [hg]
      refine hL _ _ (c - 1) (by omega) ⟨out ++ [i], v', F', p.next, lf - min 40 lf, v0, by omega, by omega, ?_, ?_, hgood.2, hk', fun j hj => ?_, o', hat.step he rfl hpos hx hused hds, rfl⟩
      · simp only [List.length_append, List.length_singleton]; omega
      · simp only [List.length_append, List.length_singleton]; omega
      · rcases f' j hj with h | h | h
        · exact hF j h
        · cases h
        · cases hs : σ j with
          | none => rfl
          | some r => rw [hk j r hs] at h; cases h
    refine ⟨fun h40 => ?_, fun h40 => ?_⟩
    · refine fl_at hus hx 1 (by omega) rfl fun g hg hgood => ?_
      rw [hg, pLenS_s, pBin_ne, pIf_d]
      refine ⟨fun hne => bad v F s hk hF (nop True fun _ _ h => by omega), fun heq => ?_⟩
      rw [pBin_eq, pIf_d]
      refine ⟨fun h => by omega, fun _ => ?_⟩
      exact next 40 (by omega) (by omega) (by omega)
    · refine fl_at hus hx 1 (by omega) rfl fun g hg hgood => ?_
      rw [hg, pLenS_s, pBin_ne, pIf_d]
      refine ⟨fun hne => bad v F s hk hF (nop True fun _ _ h => by omega), fun heq => ?_⟩
      rw [pBin_eq, pIf_d]
      refine ⟨fun h0 => bad v F s hk hF (nop True fun h _ _ => by omega), fun h0 => ?_⟩
      exact next lf (by omega) (by omega) (by omega)
  · show pBin Try.prog 3 .eql (.int .i64 lf) (.int .i64 0) _
    rw [pBin_eq]
    by_cases h0 : lf = 0
    · subst h0
      have hc : chS x.1 n = some out := hat.done he (show a < 0 by omega) trivial
      have := hR v F s hk (.inl (by rw [hc]; exact ho.osl)) hF
      rw [hc] at this
      simpa using this
    · have hc : chS x.1 n = none := hat.fail fun r hr _ => by
        cases r with
        | nil => exact h0 hr.2
        | cons j r => have := hr.1; omega
      have := bad v F s hk hF hc
      simpa [h0] using this
end
end Go.Proofs.Ytkndffhcncmbjaa
