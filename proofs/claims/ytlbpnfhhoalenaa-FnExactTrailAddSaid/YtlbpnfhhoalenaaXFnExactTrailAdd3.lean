/- The law FnExactTrailAdd holds: it returns true, and the input reads as it did. No condition. This is part 3 of 3 of its proof. -/
import Derived.Test.YtlbpnfhhoalenaaXFnExactTrailAdd2
import Derived.WideShapes
import Derived.ProofKit
import Derived.Below
import Derived.Lib.SlicesCompact
import Derived.Sort.Walk0
import Derived.Shelf.Strings.Builder1
import Derived.Shelf.Strings.Builder2
import Derived.Shelf.Strings.OnBuilder
import Derived.Shelf.Small.Bits
import Derived.Shelf.Strconv.Itoa0
import Derived.Shelf.Sort.Plain
import Derived.Shelf.Slices.CompactS
import Derived.Shelf.Slices.Cells
import Derived.Shelf.Slices.In.SortNone
import Derived.Test.YtlbpnfhhoalenaaProg
import Derived.Test.YtlbpnfhhoalenaaRows
import Derived.WalkKit
import Derived.OpenShut
import Derived.ShutString
import Derived.ChangeOld
import Derived.Carry
import Derived.SizedLaws

/- Trails: when one is sound; the law 'TrailOk', of the functions alone. -/
set_option linter.unusedVariables false
set_option linter.unusedSimpArgs false
namespace Go.Proofs.Ytlbpnfhhoalenaa
open Go Go.Av

def underB (ms : List Mk) (p : List ByteArray) : Bool := ms.any fun m => m.2 && within p m.1
def afterB (ms : List Mk) (j : Nat) (x : Mk) : Bool :=
  match j with
  | 0 => true
  | i + 1 => match ms[i]? with
    | some y => lexLt y.1 x.1
    | none => true
noncomputable def goodAt (ms : List Mk) (j : Nat) (x : Mk) : Bool := markOkB x && (afterB ms j x && !underB (ms.take j) x.1)
def allGood (ms : List Mk) : Prop := ∀ (j : Nat) (x : Mk), ms[j]? = some x → goodAt ms j x = true
open Classical in
noncomputable def trailOk (ms : List Mk) : Bool := decide (allGood ms) && decide ((ms.length : Int) ≤ 6)
theorem trail_bad {ms : List Mk} {j : Nat} {x : Mk} (h : ms[j]? = some x) (hb : goodAt ms j x = false) : trailOk ms = false := by
  have : ¬ allGood ms := fun h' => by rw [h' j x h] at hb; cases hb
  simp [trailOk, this]
theorem trail_good {ms : List Mk} (h : allGood ms) : trailOk ms = decide ((ms.length : Int) ≤ 6) := by simp [trailOk, h]

section
variable {w0 : World} {σ : Vw}

theorem RSl.fld {α : Type} {n : Nat} {Rl : (Addr → Option Value) → List Value → α → Prop} {v : Value} {xs : List α} (h : RSl n Rl (Av.get w0 σ) v xs) {j : Nat} {x : α} (hj : xs[j]? = some x) {off : Nat} (ho : off < n) {K : (Nat → Value) → Prop} (hK : ∀ (g : Nat → Value) (es : List Value), Rl (Av.get w0 σ) es x → es[off]? = some (g 0) → K g) :
    pIndexAddr n v (.int .i64 j) fun p => pField off p fun q => pLoad w0 1 q σ K := by
  obtain ⟨A, cap, rfl, _, h3⟩ := h
  obtain ⟨a, es, rfl, h5, h6, h7⟩ := h3 j x hj
  have hlt : j < xs.length := (List.getElem?_eq_some_iff.1 hj).1
  have he : es[off]? = some (es.getD off undef) := by
    rw [List.getD_eq_getElem?_getD, List.getElem?_eq_getElem (by omega)]; rfl
  refine ⟨a, xs.length, cap, .i64, j, rfl, rfl, by omega, by omega, _, rfl, (a.add (j * n)).add off, fun _ => es.getD off undef, rfl, fun i hi => ?_, hK _ es h7 he⟩
  have : i = 0 := by omega
  subst this
  rw [add_add, add_add, Nat.add_zero]
  rw [h6 off ho]; exact he

theorem RSl.take {α : Type} {n : Nat} {Rl : (Addr → Option Value) → List Value → α → Prop} {v : Value} {xs : List α} (h : RSl n Rl (Av.get w0 σ) v xs) {j : Nat} (hj : j ≤ xs.length) {K : Value → Prop} (hK : ∀ v', RSl n Rl (Av.get w0 σ) v' (xs.take j) → K v') : pSlice n v none (some (.int .i64 j)) K := by
  obtain ⟨A, cap, rfl, hc, h3⟩ := h
  refine ⟨A, xs.length, cap, 0, j, rfl, rfl, rfl, by omega, by omega, by omega, hK _ ?_⟩
  have hl : (xs.take j).length = j := by simp; omega
  refine ⟨if cap = (0 : Int).toNat then A else A.map (·.add ((0 : Int).toNat * n)), cap - (0 : Int).toNat, by rw [hl]; simp, ⟨by rw [hl]; simp; omega, by simp; omega⟩, fun i x hi => ?_⟩
  have hij : i < j := by have := (List.getElem?_eq_some_iff.1 hi).1; rw [hl] at this; exact this
  rw [List.getElem?_take_of_lt hij] at hi
  obtain ⟨a, es, rfl, h5, h6, h7⟩ := h3 i x hi
  refine ⟨a, es, ?_, h5, h6, h7⟩
  split
  · rfl
  · simp [Addr.add]

theorem underB_take {ms : List Mk} {p : List ByteArray} {j : Nat} {x : Mk} (h : ms[j]? = some x) : underB (ms.take (j + 1)) p = (underB (ms.take j) p || (x.2 && within p x.1)) := by
  rw [List.take_add_one, h]
  simp [underB, List.any_append]
theorem under_hit {ms : List Mk} {p : List ByteArray} {j : Nat} {x : Mk} (h : ms[j]? = some x) (h1 : x.2 = true) (h2 : within p x.1 = true) : underB ms p = true := by
  simp only [underB, List.any_eq_true]
  exact ⟨x, List.mem_of_getElem? h, by simp [h1, h2]⟩

theorem impl_under {v v' : Value} {ms : List Mk} {p : List ByteArray} (h : RSl 2 RMk (Av.get w0 σ) v ms) (h' : RSl 1 RS (Av.get w0 σ) v' p) {R : Value → Vw → Prop} (hR : R (.bool (underB ms p)) σ) : AC Try.prog w0 n_impl_under [v, v'] σ R := by
  refine ac_impl_under ?_
  unfold vc_impl_under
  have hl := h.le
  rw [h.len]
  refine loop_rule (m := ms.length) (fun m l t => ∃ j, t = σ ∧ m + j = ms.length ∧ underB (ms.take j) p = false ∧ l = [v', .bool false, v, .int .i64 ms.length, .int .i64 (j : Nat)]) ?_ ⟨0, rfl, by omega, rfl, rfl⟩
  rintro m l t L ⟨j, rfl, hm, ht, rfl⟩ hL
  simp only [vget, List.getD_cons_zero, List.getD_cons_succ]
  rw [pBin_lt, pIf_d]
  refine ⟨fun hj => ?_, fun hj => ?_⟩
  · have hx := List.getElem?_eq_getElem (show j < ms.length by omega)
    refine h.at hx fun g hg => ?_
    obtain ⟨u, hu, hur⟩ := hg
    simp only [expl, List.cons.injEq, and_true] at hu
    obtain ⟨hu0, hu1⟩ := hu
    rw [hu0, hu1, pVal_2 hur.one rfl, pIf_b]
    have next : underB (ms.take (j + 1)) p = false → L [v', .bool false, v, .int .i64 ms.length, .int .i64 ((j : Int) + 1)] t := fun hf => hL _ _ (m - 1) (by omega) ⟨j + 1, rfl, by omega, hf, rfl⟩
    have hstep := underB_take (p := p) hx
    refine ⟨fun hheld => ?_, fun hheld => ?_⟩
    · refine impl_begins h' hur ?_
      rw [pIf_b]
      refine ⟨fun hw => ?_, fun hw => ?_⟩
      · rw [under_hit hx hheld hw] at hR; exact hR
      · rw [pBin_add (by omega)]
        exact next (by rw [hstep, ht, hw]; simp)
    · rw [pBin_add (by omega)]
      exact next (by rw [hstep, ht, hheld]; simp)
  · have hj' : j = ms.length := by omega
    subst hj'
    rw [List.take_length] at ht
    rw [ht] at hR; exact hR

theorem impl_TrailOk {v : Value} {ms : List Mk} (h : RSl 2 RMk (Av.get w0 σ) v ms) {R : Value → Vw → Prop} (hR : R (.bool (trailOk ms)) σ) : AC Try.prog w0 n_impl_TrailOk [v] σ R := by
  refine ac_impl_TrailOk ?_
  unfold vc_impl_TrailOk
  have hl := h.le
  rw [h.len]
  refine loop_rule (m := ms.length) (fun m l t => ∃ j, t = σ ∧ m + j = ms.length ∧ (∀ (i : Nat) (x : Mk), i < j → ms[i]? = some x → goodAt ms i x = true) ∧ l = [v, .bool false, v, .int .i64 ms.length, .int .i64 (j : Nat)]) ?_ ⟨0, rfl, by omega, fun i x h => by omega, rfl⟩
  rintro m l t L ⟨j, rfl, hm, ht, rfl⟩ hL
  simp only [vget, List.getD_cons_zero, List.getD_cons_succ]
  rw [pBin_lt, pIf_d]
  refine ⟨fun hj => ?_, fun hj => ?_⟩
  · have hx := List.getElem?_eq_getElem (show j < ms.length by omega)
    generalize hxj : ms[j] = x at hx
    refine h.at hx fun g hg => ?_
    have hg0 := hg
    obtain ⟨u, hu, hur⟩ := hg
    simp only [expl, List.cons.injEq, and_true] at hu
    obtain ⟨hu0, hu1⟩ := hu
    rw [hu0, hu1, pVal_2 hur.one rfl]
    have bad : goodAt ms j x = false → R (.bool false) t := fun hb => by rw [trail_bad hx hb] at hR; exact hR
    refine impl_markOk (x := x) ⟨u, rfl, hur⟩ ?_
    rw [pUn_not, pIf_b]
    refine ⟨fun hmk => bad (by simp at hmk; simp [goodAt, hmk]), fun hmk => ?_⟩
    have hmk' : markOkB x = true := by simpa using hmk
    have last : afterB ms j x = true → pSlice 2 v none (some (.int .i64 j)) (fun v18 => AC Try.prog w0 n_impl_under [v18, u] t (fun v19 s20 => pIf v19 (R (.bool false) s20) (pBin Try.prog 3 .add (.int .i64 j) (.int .i64 1) (fun v21 => L [v, .bool false, v, .int .i64 ms.length, v21] s20)))) := by
      intro haf
      refine RSl.take h (by omega) fun v' hv' => ?_
      refine impl_under hv' hur ?_
      rw [pIf_b]
      refine ⟨fun hb => bad (by simp [goodAt, hb]), fun hb => ?_⟩
      rw [pBin_add (by omega)]
      refine hL _ _ (m - 1) (by omega) ⟨j + 1, rfl, by omega, fun i y hi he => ?_, rfl⟩
      by_cases e : i = j
      · subst e; rw [hx] at he; cases he; simp [goodAt, hmk', haf, hb]
      · exact ht i y (by omega) he
    rw [pBin_gt, pIf_d]
    refine ⟨fun hpos => ?_, fun h0 => ?_⟩
    · obtain ⟨i, rfl⟩ : ∃ i, j = i + 1 := ⟨j - 1, by omega⟩
      rw [pBin_sub (by omega)]
      have hy := List.getElem?_eq_getElem (show i < ms.length by omega)
      generalize hyi : ms[i] = y at hy
      rw [show ((i + 1 : Nat) : Int) - 1 = (i : Nat) by omega]
      refine RSl.fld h hy (by omega) fun g2 es hes he => ?_
      obtain ⟨u2, rfl, hu2⟩ := hes
      simp at he
      rw [← he]
      refine Compare hu2 hur fun c hc => ?_
      have haf : afterB ms (i + 1) x = lexLt y.1 x.1 := by simp [afterB, hy]
      rw [pBin_ge, pIf_d]
      refine ⟨fun hge => bad ?_, fun hlt => last ?_⟩
      · have : lexLt y.1 x.1 = false := by
          cases hc2 : lexLt y.1 x.1 with
          | false => rfl
          | true => have := hc.2 hc2; omega
        simp [goodAt, haf, this]
      · rw [haf]; exact hc.1 (by omega)
    · have : j = 0 := by omega
      subst this
      exact last rfl
  · have hj' : j = ms.length := by omega
    subst hj'
    show pLen v _
    rw [h.len, pBin_le]
    rw [trail_good fun i x he => ht i x (List.getElem?_eq_some_iff.1 he).1 he] at hR
    exact hR

theorem spec_TrailOk {v : Value} {ms : List Mk} (h : RSl 2 RMk (Av.get w0 σ) v ms) {R : Value → Vw → Prop} (hR : R (.bool (trailOk ms)) σ) : AC Try.prog w0 n_spec_TrailOk [v] σ R := by
  refine ac_spec_TrailOk ?_
  unfold vc_spec_TrailOk
  have hl := h.le
  refine loop_rule (m := ms.length) (fun m l t => ∃ j, t = σ ∧ m + j = ms.length ∧ (∀ (i : Nat) (x : Mk), i < j → ms[i]? = some x → goodAt ms i x = true) ∧ l = [v, .bool false, .int .i64 (j : Nat)]) ?_ ⟨0, rfl, by omega, fun i x h => by omega, rfl⟩
  rintro m l t L ⟨j, rfl, hm, ht, rfl⟩ hL
  simp only [vget, List.getD_cons_zero, List.getD_cons_succ]
  rw [h.len, pBin_lt, pIf_d]
  refine ⟨fun hj => ?_, fun hj => ?_⟩
  · have hx := List.getElem?_eq_getElem (show j < ms.length by omega)
    generalize hxj : ms[j] = x at hx
    refine h.at hx fun g hg => ?_
    obtain ⟨u, hu, hur⟩ := hg
    simp only [expl, List.cons.injEq, and_true] at hu
    obtain ⟨hu0, hu1⟩ := hu
    rw [hu0, hu1]
    have bad : goodAt ms j x = false → R (.bool false) t := fun hb => by rw [trail_bad hx hb] at hR; exact hR
    refine spec_MarkOk (x := x) ⟨u, rfl, hur⟩ ?_
    rw [pUn_not, pIf_b]
    refine ⟨fun hmk => bad (by simp at hmk; simp [goodAt, hmk]), fun hmk => ?_⟩
    have hmk' : markOkB x = true := by simpa using hmk
    have next : afterB ms j x = true → underB (ms.take j) x.1 = false → L [v, .bool false, .int .i64 ((j : Int) + 1)] t := fun haf hb => hL _ _ (m - 1) (by omega) ⟨j + 1, rfl, by omega, fun i y hi he => by
      by_cases e : i = j
      · subst e; rw [hx] at he; cases he; simp [goodAt, hmk', haf, hb]
      · exact ht i y (by omega) he, rfl⟩
    have split : (0 < (j : Int) → afterB ms j x = true → True) := fun _ _ => trivial
    rw [pBin_gt, pIf_d]
    have step : ∀ {K : AX → List Value → Vw → Prop} {B : List Value → (AX → List Value → Vw → Prop) → Vw → Prop}, B = (fun l21 K22 s23 => pBin Try.prog 3 .lss (vget l21 3) (vget l21 2) (fun v24 => pIf v24 (pIndexAddr 2 (vget l21 0) (vget l21 3) (fun v25 => pField 1 v25 (fun v26 => pLoad w0 1 v26 s23 (fun g27 => pIf (g27 0)
          (pIndexAddr 2 (vget l21 0) (vget l21 2) (fun v28 => pField 0 v28 (fun v29 => pLoad w0 1 v29 s23 (fun g30 => pIndexAddr 2 (vget l21 0) (vget l21 3) (fun v31 => pField 0 v31 (fun v32 => pLoad w0 1 v32 s23 (fun g33 => AC Try.prog w0 n_spec_l2Within [g30 0, g33 0] s23 (fun v34 s35 => pIf v34 (K22 .ret [vget l21 0, .bool false, vget l21 2, vget l21 3] s35)
            (pBin Try.prog 3 .add (vget l21 3) (.int .i64 1) (fun v36 => K22 .normal [vget l21 0, vget l21 1, vget l21 2, v36] s35))))))))))
          (pBin Try.prog 3 .add (vget l21 3) (.int .i64 1) (fun v37 => K22 .normal [vget l21 0, vget l21 1, vget l21 2, v37] s23)))))) (K22 (.exit 2) [vget l21 0, vget l21 1, vget l21 2, vget l21 3] s23))) →
        afterB ms j x = true → (∀ k : Value, R (.bool false) t → K .ret [v, .bool false, .int .i64 j, k] t) → (∀ k : Value, underB (ms.take j) x.1 = false → K (.exit 2) [v, .bool false, .int .i64 j, k] t) →
        pLoop B [v, .bool false, .int .i64 j, .int .i64 0] t K := by
      rintro K B rfl haf hret hex
      refine loop_rule (m := j) (fun m' l s => ∃ k, s = t ∧ m' + k = j ∧ underB (ms.take k) x.1 = false ∧ l = [v, .bool false, .int .i64 j, .int .i64 (k : Nat)]) ?_ ⟨0, rfl, by omega, rfl, rfl⟩
      rintro m' l s L' ⟨k, rfl, hm', hu', rfl⟩ hL'
      simp only [vget, List.getD_cons_zero, List.getD_cons_succ]
      rw [pBin_lt, pIf_d]
      refine ⟨fun hk => ?_, fun hk => ?_⟩
      · have hy := List.getElem?_eq_getElem (show k < ms.length by omega)
        generalize hyk : ms[k] = y at hy
        have hstep := underB_take (p := x.1) hy
        have nx : underB (ms.take (k + 1)) x.1 = false → L' [v, .bool false, .int .i64 j, .int .i64 ((k : Int) + 1)] s := fun hf => hL' _ _ (m' - 1) (by omega) ⟨k + 1, rfl, by omega, hf, rfl⟩
        refine RSl.fld h hy (by omega) fun g1 es hes he => ?_
        obtain ⟨u1, rfl, hu1'⟩ := hes
        simp at he
        rw [← he, pIf_b]
        refine ⟨fun hheld => ?_, fun hheld => ?_⟩
        · refine RSl.fld h hx (by omega) fun g2 es hes he => ?_
          obtain ⟨u2, rfl, hu2'⟩ := hes
          simp at he
          refine RSl.fld h hy (by omega) fun g3 es hes he' => ?_
          obtain ⟨u3, rfl, hu3'⟩ := hes
          simp at he'
          rw [← he, ← he']
          refine spec_Within hu2' hu3' ?_
          rw [pIf_b]
          refine ⟨fun hw => hret _ (bad ?_), fun hw => ?_⟩
          · have : underB (ms.take j) x.1 = true := under_hit (j := k) (x := y) (by rw [List.getElem?_take_of_lt (by omega)]; exact hy) hheld hw
            simp [goodAt, this]
          · rw [pBin_add (by omega)]
            exact nx (by rw [hstep, hu', hw]; simp)
        · rw [pBin_add (by omega)]
          exact nx (by rw [hstep, hu', hheld]; simp)
      · have : k = j := by omega
        subst this
        exact hex _ hu'
    refine ⟨fun hpos => ?_, fun h0 => ?_⟩
    · obtain ⟨i, rfl⟩ : ∃ i, j = i + 1 := ⟨j - 1, by omega⟩
      rw [pBin_sub (by omega)]
      have hy := List.getElem?_eq_getElem (show i < ms.length by omega)
      generalize hyi : ms[i] = y at hy
      rw [show ((i + 1 : Nat) : Int) - 1 = (i : Nat) by omega]
      refine RSl.fld h hy (by omega) fun g2 es hes he => ?_
      obtain ⟨u2, rfl, hu2⟩ := hes
      simp at he
      refine RSl.fld h hx (by omega) fun g3 es hes he3 => ?_
      obtain ⟨u3, rfl, hu3⟩ := hes
      simp at he3
      rw [← he, ← he3]
      have haf : afterB ms (i + 1) x = lexLt y.1 x.1 := by simp [afterB, hy]
      refine spec_Less hu2 hu3 ?_
      rw [pUn_not, pIf_b]
      refine ⟨fun hb => bad (by simp at hb; simp [goodAt, haf, hb]), fun hg => ?_⟩
      have hg' : afterB ms (i + 1) x = true := by rw [haf]; simpa using hg
      refine step rfl hg' (fun k hr => hr) (fun k hu => ?_)
      show pBin Try.prog 3 .add (.int .i64 ((i + 1 : Nat) : Int)) (.int .i64 1) _
      rw [pBin_add (by omega)]
      exact next hg' hu
    · have : j = 0 := by omega
      subst this
      refine step rfl rfl (fun k hr => hr) (fun k hu => ?_)
      show pBin Try.prog 3 .add (.int .i64 ((0 : Nat) : Int)) (.int .i64 1) _
      rw [pBin_add (by omega)]
      exact next rfl hu
  · have hj' : j = ms.length := by omega
    subst hj'
    show pLen v _
    rw [h.len, pBin_le]
    rw [trail_good fun i x he => ht i x (List.getElem?_eq_some_iff.1 he).1 he] at hR
    exact hR
end
end Go.Proofs.Ytlbpnfhhoalenaa

/- The law 'TrailOk', of the functions alone. -/
set_option linter.unusedVariables false
set_option linter.unusedSimpArgs false
namespace Go.Proofs.Ytlbpnfhhoalenaa
open Go Go.Av

section
variable {w0 : World} {σ : Vw}

theorem sumBy_mem {α : Type} {f : α → Nat} : ∀ {xs : List α} {x : α}, x ∈ xs → f x ≤ sumBy f xs
  | a :: r, x, h => by
    simp only [sumBy]
    rcases List.mem_cons.1 h with e | e
    · subst e; omega
    · have := sumBy_mem (f := f) e; omega

end
end Go.Proofs.Ytlbpnfhhoalenaa

/- Trees: what is read of one; their size, their copy, their comparison. -/
set_option linter.unusedVariables false
set_option linter.unusedSimpArgs false
namespace Go.Proofs.Ytlbpnfhhoalenaa
open Go Go.Av

inductive Tr where
  | mk (dir : Bool) (mode : Int) (text : ByteArray) (names : List ByteArray) (kids : List Tr)
noncomputable instance : DecidableEq Tr := fun _ _ => Classical.propDecidable _

/-- What is read: n bounds the depth. -/
def RT : Nat → (Addr → Option Value) → List Value → Tr → Prop
  | 0, _, _, _ => False
  | n + 1, rd, es, .mk d m t ns ks => ∃ u w, es = [.bool d, .int .i64 m, .string t, u, w] ∧ (-9223372036854775808 ≤ m ∧ m ≤ 9223372036854775807) ∧ t.size ≤ 9223372036854775807 ∧ RSl 1 RS rd u ns ∧ RSl 5 (RT n) rd w ks
theorem mono_rt : ∀ (n : Nat) (rd rd' : Addr → Option Value) (es : List Value) (x : Tr), Le rd rd' → RT n rd es x → RT n rd' es x
  | 0, _, _, _, _, _, h => h
  | n + 1, rd, rd', es, .mk d m t ns ks, hl, h => by
    obtain ⟨u, w, h1, h2, h3, h4, h5⟩ := h
    exact ⟨u, w, h1, h2, h3, h4.mono hl fun _ _ h => h, h5.mono hl fun es x => mono_rt n _ _ es x hl⟩

section
variable {w0 : World} {σ : Vw}

theorem pVal_5 {a b c d e : Value} {A : Prop} (h1 : a.oneCell' = true) (h2 : b.oneCell' = true) (h3 : c.oneCell' = true) (h4 : d.oneCell' = true) (h5 : e.oneCell' = true) : pVal true 5 (.agg ⟨[a, b, c, d, e]⟩) A ↔ A := pValN rfl (by simp [h1, h2, h3, h4, h5])

end
end Go.Proofs.Ytlbpnfhhoalenaa

/- Trees: their copy, their comparison. -/
set_option linter.unusedVariables false
set_option linter.unusedSimpArgs false
namespace Go.Proofs.Ytlbpnfhhoalenaa
open Go Go.Av

section
variable {w0 : World}

end
end Go.Proofs.Ytlbpnfhhoalenaa

/- Trees: when one is sound. -/
set_option linter.unusedVariables false
set_option linter.unusedSimpArgs false
namespace Go.Proofs.Ytlbpnfhhoalenaa
open Go Go.Av

section
variable {w0 : World} {σ : Vw}

end
end Go.Proofs.Ytlbpnfhhoalenaa

/- Trees: sound by either reading. -/
set_option linter.unusedVariables false
set_option linter.unusedSimpArgs false
namespace Go.Proofs.Ytlbpnfhhoalenaa
open Go Go.Av

section
variable {w0 : World}

end
end Go.Proofs.Ytlbpnfhhoalenaa

/- Trees: sound by the program's own reading. -/
set_option linter.unusedVariables false
set_option linter.unusedSimpArgs false
namespace Go.Proofs.Ytlbpnfhhoalenaa
open Go Go.Av

section
variable {w0 : World}

end
end Go.Proofs.Ytlbpnfhhoalenaa

/- Trees: how many paths; the laws 'TreeOk' and 'TreeCount', of the functions alone. -/
set_option linter.unusedVariables false
set_option linter.unusedSimpArgs false
namespace Go.Proofs.Ytlbpnfhhoalenaa
open Go Go.Av

section
variable {w0 : World}

end
end Go.Proofs.Ytlbpnfhhoalenaa

/- Trees: the laws 'TreeOk' and 'TreeCount', of the functions alone. -/
set_option linter.unusedVariables false
set_option linter.unusedSimpArgs false
namespace Go.Proofs.Ytlbpnfhhoalenaa
open Go Go.Av

def isDir : Tr → Bool
  | .mk d _ _ _ _ => d
section
variable {w0 : World} {σ : Vw}

theorem RT.five {n : Nat} {rd : Addr → Option Value} {es : List Value} {x : Tr} (h : RT n rd es x) : ∃ a b c d e, es = [a, b, c, d, e] ∧ a = .bool (isDir x) ∧ ∀ A : Prop, pVal true 5 (.agg ⟨es⟩) A ↔ A := by
  obtain _ | n := n
  · exact h.elim
  · obtain ⟨d', m', t', ns', ks'⟩ := x
    obtain ⟨u', w', rfl, _, _, q4, q5⟩ := h
    exact ⟨_, _, _, _, _, rfl, rfl, fun A => pVal_5 rfl rfl rfl q4.one q5.one⟩

end
end Go.Proofs.Ytlbpnfhhoalenaa

/- The plain side, part 3: what the statement's reading of an argument says of the cells. -/
set_option linter.unusedVariables false
set_option linter.unusedSimpArgs false
namespace Go.Av
open Go Go.RowKit

def σ0 : Vw := fun _ => none

section
variable {H : Type} {enc : TypeId × Value → H} {P : Program} {W : World} {fuel : Nat} {cs : List Value} {x : DataW H × List MemPlace}

theorem sat0 (W : World) : Sat W σ0 W := ⟨Below.refl _ _, fun b r h => by cases h⟩

theorem get0 {a : Addr} {v : Value} (h : W.cell? a = some v) {σ : Vw} : Av.get W σ a = some v := by
  have hlt : a.block < W.heap.size := by
    rcases Nat.lt_or_ge a.block W.heap.size with h1 | h1
    · exact h1
    · have : W.heap[a.block]? = none := Array.getElem?_eq_none h1
      unfold World.cell? at h
      simp [this] at h
  unfold Av.get
  rw [if_pos hlt]; exact h

theorem listOf {α : Type} (p : Nat → α → Prop) : ∀ (n : Nat), (∀ i, i < n → ∃ x, p i x) → ∃ xs : List α, xs.length = n ∧ ∀ (j : Nat) (x : α), xs[j]? = some x → p j x
  | 0, _ => ⟨[], rfl, fun j x h => by simp at h⟩
  | n + 1, h => by
    obtain ⟨xs, hl, hx⟩ := listOf p n (fun i hi => h i (by omega))
    obtain ⟨y, hy⟩ := h n (by omega)
    refine ⟨xs ++ [y], by simp [hl], fun j x hj => ?_⟩
    by_cases e : j < xs.length
    · rw [List.getElem?_append_left e] at hj; exact hx j x hj
    · rw [List.getElem?_append_right (by omega)] at hj
      have : j - xs.length = 0 := by
        rcases Nat.eq_zero_or_pos (j - xs.length) with h0 | h0
        · exact h0
        · rw [List.getElem?_eq_none (by simp; omega)] at hj; cases hj
      rw [this] at hj
      simp at hj
      subst hj
      have : j = n := by omega
      subst this; exact hy

/-- A slice is opened, its elements by a rule of their own. -/
theorem open_rsl {α : Type} {t e n : Nat} {R : (Addr → Option Value) → List Value → α → Prop} {spare : Nat → Bool} (ht : P.underlying t = some (.slice e)) (hc : P.cellsOf e = n)
    (hR : ∀ (fuel : Nat) (es : List Value) (y : DataW H × List MemPlace), DataW.trod enc P W 0 spare true fuel e es = some y → es.length = n → ∃ x, R (Av.get W σ0) es x) (h : DataW.trod enc P W 0 spare true fuel t cs = some x) : ∃ v xs, cs = [v] ∧ RSl n R (Av.get W σ0) v xs := by
  rcases DataW.trod_slice ht h with ⟨rfl, _⟩ | ⟨a, len, cap, elems, rest, m, _, rfl, _, hb, hl, hm, hlen, hel, _, _⟩
  · exact ⟨_, [], rfl, none, 0, rfl, by simp, fun j x hj => by simp at hj⟩
  · have each : ∀ i, i < len → ∃ x : α, ∃ es : List Value, es.length = n ∧ (∀ k, k < n → Av.get W σ0 (a.add (i * n + k)) = es[k]?) ∧ R (Av.get W σ0) es x := by
      intro i hi
      have h1 := hel i hi
      rw [hc, List.getElem?_eq_getElem (by omega), Option.bind_eq_some_iff] at h1
      obtain ⟨es, h2, h3⟩ := h1
      obtain ⟨_, hes, hcell⟩ := World.cells?_some h2
      obtain ⟨x, hx⟩ := hR m es _ h3 hes
      refine ⟨x, es, hes, fun k hk => ?_, hx⟩
      have := hcell k hk
      rw [add_add] at this
      have hlt : k < es.length := by omega
      rw [List.getElem?_eq_getElem hlt] at this ⊢
      exact get0 this
    obtain ⟨xs, hxl, hxs⟩ := listOf _ len each
    have hmax : cap ≤ 9223372036854775807 := by have : maxLen = 9223372036854775807 := by decide
                                                omega
    refine ⟨_, xs, rfl, some a, cap, by rw [hxl], ⟨by omega, hmax⟩, fun j x hj => ?_⟩
    obtain ⟨es, g1, g2, g3⟩ := hxs j x hj
    exact ⟨a, es, rfl, g1, g2, g3⟩

theorem open_rs {e : Nat} {spare : Nat → Bool} (he : P.underlying e = some .string) : ∀ (fuel : Nat) (es : List Value) (y : DataW H × List MemPlace), DataW.trod enc P W 0 spare true fuel e es = some y → es.length = 1 → ∃ s, RS (Av.get W σ0) es s := by
  intro fuel es y h _
  obtain ⟨s, rfl, _, hm⟩ := DataW.trod_string he h
  exact ⟨s, rfl, by have : maxLen = 9223372036854775807 := by decide
                    omega⟩

def fsOf (P : Program) (t : Nat) : Array Field := match P.underlying t with | some (.struct fs) => fs | _ => #[]

/-- From the functions to the statement. -/
theorem AC.calls {f : FuncId} {args : List Value} {R : Value → Vw → Prop} (h : AC P W f args σ0 R) : Calls P f args.toArray W fun e W' => ∃ v σ', e = .returned v ∧ R v σ' ∧ Below W.heap.size W W' :=
  (h.2 W (sat0 W)).mono fun e W' ⟨v, σ', h1, h2, h3⟩ => ⟨v, σ', h1, h2, h3.sat.bel⟩
end
end Go.Av

/- The plain side, part 4: what the statement's reading of an argument says, with the fuel told; numbers, bools, texts. -/
set_option linter.unusedVariables false
set_option linter.unusedSimpArgs false
namespace Go.Av
open Go Go.RowKit

theorem RSl.imp {α : Type} {n : Nat} {R R' : (Addr → Option Value) → List Value → α → Prop} {rd : Addr → Option Value} {v : Value} {xs : List α} (h : RSl n R rd v xs) (hR : ∀ es x, R rd es x → R' rd es x) : RSl n R' rd v xs := by
  obtain ⟨A, cap, h1, h2, h3⟩ := h
  refine ⟨A, cap, h1, h2, fun j x hj => ?_⟩
  obtain ⟨a, es, h4, h5, h6, h7⟩ := h3 j x hj
  exact ⟨a, es, h4, h5, h6, hR _ _ h7⟩

section
variable {H : Type} {enc : TypeId × Value → H} {P : Program} {W : World} {fuel : Nat} {cs : List Value} {x : DataW H × List MemPlace}

theorem open_field' {t : Nat} {spare : Nat → Bool} (ht : P.underlying t = some (.struct (fsOf P t))) (i ft off n : Nat) (hf : (fsOf P t)[i]?.map (fun f => (f.type, f.offset)) = some (ft, off)) (hn : P.cellsOf ft = n) (h : DataW.trod enc P W 0 spare true fuel t cs = some x) :
    ∃ (fuel' : Nat) (y : DataW H × List MemPlace), fuel' < fuel ∧ DataW.trod enc P W 0 spare true fuel' ft ((cs.drop off).take n) = some y := by
  obtain ⟨xs, m, hm, _, _, hl, hall⟩ := DataW.trod_struct ht h
  cases hc : (fsOf P t)[i]? with
  | none => rw [hc] at hf; cases hf
  | some f =>
    rw [hc] at hf
    simp only [Option.map_some, Option.some.injEq, Prod.mk.injEq] at hf
    obtain ⟨rfl, rfl⟩ := hf
    have h1 := hall i f hc
    have hlt : i < xs.length := by rw [hl]; exact (Array.getElem?_eq_some_iff.1 hc).1
    rw [List.getElem?_eq_getElem hlt, hn] at h1
    exact ⟨m, _, by omega, h1⟩

theorem open_bool {t : Nat} {spare : Nat → Bool} (ht : P.underlying t = some .bool) (h : DataW.trod enc P W 0 spare true fuel t cs = some x) : ∃ b : Bool, cs = [.bool b] := by
  obtain ⟨b, rfl, _⟩ := DataW.trod_bool ht h
  exact ⟨b, rfl⟩
end
end Go.Av

/- How a tree is opened that came with the call. -/
set_option linter.unusedVariables false
set_option linter.unusedSimpArgs false
namespace Go.Proofs.Ytlbpnfhhoalenaa
open Go Go.Av Go.RowKit

theorem RT_up : ∀ (n : Nat) (rd : Addr → Option Value) (es : List Value) (x : Tr), RT n rd es x → RT (n + 1) rd es x
  | 0, _, _, _, h => h.elim
  | n + 1, rd, es, .mk d m t ns ks, h => by
    obtain ⟨u, w, h1, h2, h3, h4, h5⟩ := h
    exact ⟨u, w, h1, h2, h3, h4, h5.imp fun es x h => RT_up n rd es x h⟩
end Go.Proofs.Ytlbpnfhhoalenaa

/- Lists in rows of our own, written element by element: the focus on one element, and the loops that mark and that look at marks. -/
set_option linter.unusedVariables false
set_option linter.unusedSimpArgs false
namespace Go.Av
open Go Go.RowKit

/-- Every row but those of F stays as it is. -/
def KeepsBut (F : List Nat) (σ σ' : Vw) : Prop := ∀ b r, σ b = some r → b ∉ F → σ' b = some r
theorem KeepsBut.refl (F : List Nat) (σ : Vw) : KeepsBut F σ σ := fun _ _ h _ => h
theorem Keeps.but {F : List Nat} {σ σ' : Vw} (h : Keeps σ σ') : KeepsBut F σ σ' := fun b r hb _ => h b r hb
theorem KeepsBut.trans {F : List Nat} {σ σ' σ'' : Vw} (h : KeepsBut F σ σ') (h' : KeepsBut F σ' σ'') : KeepsBut F σ σ'' := fun b r hb hF => h' b r (h b r hb hF) hF
theorem KeepsBut.mono {F F' : List Nat} {σ σ' : Vw} (h : KeepsBut F σ σ') (hF : ∀ b, b ∈ F → b ∈ F') : KeepsBut F' σ σ' := fun b r hb h' => h b r hb fun hb' => h' (hF b hb')
/-- What is older than F stays. -/
theorem KeepsBut.old {F : List Nat} {σ0 σ σ' : Vw} (h : KeepsBut F σ σ') (h0 : Keeps σ0 σ) (hF : ∀ b, b ∈ F → σ0 b = none) : Keeps σ0 σ' := fun b r hb => h b r (h0 b r hb) fun hb' => by rw [hF b hb'] at hb; cases hb
theorem KeepsBut.at {F G : List Nat} {σ σ' : Vw} (h : KeepsBut F σ σ') (hG : ∀ b, b ∈ G → σ b ≠ none) (hd : ∀ b, b ∈ G → b ∉ F) : ∀ b, b ∈ G → σ' b = σ b := fun b hb => by
  cases hs : σ b with
  | none => exact absurd hs (hG b hb)
  | some r => exact h b r hs (hd b hb)
theorem KeepsBut.put {F : List Nat} {σ : Vw} {b : Nat} {r : Row} (hb : b ∈ F) : KeepsBut F σ (σ.put b r) := fun i x hi hF => by
  have : i ≠ b := fun e => hF (e ▸ hb)
  simp [Vw.put, this, hi]

section
variable {P : Program} {w0 : World} {σ σ' : Vw} {α : Type}

theorem nodup_at {l : List (List Nat)} {i j : Nat} {f g : List Nat} (h : l.flatten.Nodup) (hi : l[i]? = some f) (hj : l[j]? = some g) (hij : i ≠ j) : ∀ b, b ∈ f → b ∉ g := by
  induction l generalizing i j with
  | nil => simp at hi
  | cons a r ih =>
    rw [List.flatten_cons, List.nodup_append] at h
    intro b hb hb'
    cases i with
    | zero =>
      cases j with
      | zero => exact hij rfl
      | succ j =>
        simp at hi hj
        subst hi
        exact h.2.2 b hb b (List.mem_flatten.2 ⟨g, List.mem_of_getElem? hj, hb'⟩) rfl
    | succ i =>
      cases j with
      | zero =>
        simp at hi hj
        subst hj
        exact h.2.2 b hb' b (List.mem_flatten.2 ⟨f, List.mem_of_getElem? hi, hb⟩) rfl
      | succ j =>
        simp at hi hj
        exact ih h.2.1 hi hj (fun e => hij (by rw [e])) b hb hb'

theorem split_at {l : List (List Value)} {j : Nat} {c : List Value} (hj : l[j]? = some c) : l.flatten = (l.take j).flatten ++ (c ++ (l.drop (j + 1)).flatten) := by
  have hlt := (List.getElem?_eq_some_iff.1 hj).1
  have e : l = l.take j ++ (c :: l.drop (j + 1)) := by
    have := List.take_append_drop j l
    rw [List.drop_eq_getElem_cons hlt] at this
    have hc : l[j] = c := (List.getElem?_eq_some_iff.1 hj).2
    rw [hc] at this
    exact this.symm
  calc l.flatten = (l.take j ++ (c :: l.drop (j + 1))).flatten := by rw [← e]
    _ = _ := by rw [List.flatten_append, List.flatten_cons]

/-- One element of a list of our own, and how the list is put together again behind a change of it. -/
theorem OSl.focus {n : Nat} {Rel : (Addr → Option Value) → List Value → α → Prop} {O : Vw → List Nat → List Value → α → Prop} (ok : OOk w0 n Rel O) {F : List Nat} {v : Value} {xs : List α} (h : OSl w0 n O σ F v xs) {j : Nat} {x : α} (hj : xs[j]? = some x) :
    ∃ (b o : Nat) (f : List Nat) (c A C : List Value) (r : Row), (∀ K : Value → Prop, K (.pointer (some ⟨b, o, none⟩)) → pIndexAddr n v (.int .i64 j) K) ∧ w0.heap.size ≤ b ∧ σ b = some r ∧ r.cells = A ++ (c ++ C) ∧ A.length = o ∧ O σ f c x ∧ b ∈ F ∧ (∀ i, i ∈ f → i ∈ F ∧ i ≠ b) ∧
      ∀ (σ' : Vw) (c' : List Value) (x' : α) (r' : Row), σ' b = some r' → r'.cells = A ++ (c' ++ C) → O σ' f c' x' → (∀ i, i ∈ F → i ≠ b → i ∉ f → σ' i = σ i) → OSl w0 n O σ' F v (xs.set j x') := by
  obtain ⟨h1, h2, ⟨rfl, rfl, _⟩ | ⟨b, off, cap, r, pre, post, css, Fs, rfl, gc, g2, g3, g4, g5, g6, g7, g8, g9⟩⟩ := h
  · simp at hj
  have hlt : j < xs.length := (List.getElem?_eq_some_iff.1 hj).1
  have hcj := List.getElem?_eq_getElem (show j < css.length by omega)
  have hfj := List.getElem?_eq_getElem (show j < Fs.length by omega)
  generalize hce : css[j]'(by omega) = c at hcj
  generalize hfe : Fs[j]'(by omega) = f at hfj
  have hO := g9 j c x f hcj hj hfj
  have hn : ∀ c, c ∈ css → c.length = n := fun c hc => by
    obtain ⟨i, hi⟩ := List.getElem?_of_mem hc
    have hil : i < css.length := (List.getElem?_eq_some_iff.1 hi).1
    exact ok.len _ _ _ _ (g9 i c _ _ hi (List.getElem?_eq_getElem (by omega)) (List.getElem?_eq_getElem (by omega)))
  have hA : (pre ++ (css.take j).flatten).length = off + j * n := by
    rw [List.length_append, g5, flat_len _ fun c hc => hn c (List.mem_of_mem_take hc), List.length_take]
    congr 2; omega
  rw [g8] at h2
  have hbf : b ∉ f := fun hb => (List.nodup_cons.1 h2).1 (List.mem_flatten.2 ⟨f, List.mem_of_getElem? hfj, hb⟩)
  refine ⟨b, off + j * n, f, c, pre ++ (css.take j).flatten, (css.drop (j + 1)).flatten ++ post, r, fun K hK => ?_, g2, g3, ?_, hA, hO, by rw [g8]; exact List.mem_cons_self, fun i hi => ⟨?_, fun e => hbf (e ▸ hi)⟩, ?_⟩
  · refine ⟨⟨b, off, none⟩, xs.length, cap, .i64, j, rfl, rfl, by omega, by omega, ?_⟩
    rw [addr_add]; exact hK
  · rw [g4, split_at hcj]; simp only [List.append_assoc]
  · rw [g8]; exact List.mem_cons_of_mem _ (List.mem_flatten.2 ⟨f, List.mem_of_getElem? hfj, hi⟩)
  · intro σ' c' x' r' hr' hcells hO' hrest
    have hlen' := ok.len _ _ _ _ hO'
    refine ⟨by rw [List.length_set]; exact h1, by rw [g8]; exact h2, .inr ⟨b, off, cap, r', pre, post, css.set j c', Fs, by rw [List.length_set], by rw [List.length_set]; exact gc, g2, hr', ?_, g5, by rw [List.length_set, List.length_set]; exact g6, by rw [List.length_set]; exact g7, g8, ?_⟩⟩
    · have hcj' : (css.set j c')[j]? = some c' := List.getElem?_set_self (by omega)
      rw [hcells, split_at hcj', List.take_set_of_le (Nat.le_refl j), List.drop_set_of_lt (by omega)]
      simp only [List.append_assoc]
    · intro i ci y fi e1 e2 e3
      by_cases hij : j = i
      · subst hij
        rw [List.getElem?_set_self (by omega)] at e1 e2
        cases e1; cases e2
        rw [hfj] at e3; cases e3
        exact hO'
      · rw [List.getElem?_set_ne hij] at e1 e2
        refine ok.frame _ _ _ _ _ (g9 i ci y fi e1 e2 e3) fun k hk => ?_
        have hkF : k ∈ Fs.flatten := List.mem_flatten.2 ⟨fi, List.mem_of_getElem? e3, hk⟩
        exact hrest k (by rw [g8]; exact List.mem_cons_of_mem _ hkF) (fun e => (List.nodup_cons.1 h2).1 (e ▸ hkF)) (nodup_at (List.nodup_cons.1 h2).2 e3 hfj (fun e => hij e.symm) k hk)

/-- A field of an element is written. -/
theorem field_store {b o off : Nat} {r : Row} {A c C : List Value} {y : Value} {K : Vw → Prop} (hr : σ b = some r) (hc : r.cells = A ++ (c ++ C)) (hA : A.length = o) (hoff : off < c.length) (hy : y.oneCell' = true)
    (hK : K (σ.put b { r with cells := A ++ (c.set off y ++ C) })) : pField off (.pointer (some ⟨b, o, none⟩)) fun q => pVal false 1 y (pStore q [y] σ K) := by
  rw [pField_s, pVal1 hy, addr_add]
  refine ⟨b, o + off, r, rfl, hr, ?_, ?_⟩
  · rw [hc]; simp only [List.length_append, List.length_singleton]; omega
  · have e : setAt r.cells (o + off) [y] = A ++ (c.set off y ++ C) := by
      simp only [setAt]
      rw [hc, List.set_append_right _ _ (by omega), List.set_append_left _ _ (by omega), hA]
      congr 3; omega
    rw [e]; exact hK
theorem elem_store {b o : Nat} {r : Row} {A C : List Value} {x y : Value} {K : Vw → Prop} (hr : σ b = some r) (hc : r.cells = A ++ ([x] ++ C)) (hA : A.length = o) (hy : y.oneCell' = true)
    (hK : K (σ.put b { r with cells := A ++ ([y] ++ C) })) : pVal false 1 y (pStore (.pointer (some ⟨b, o, none⟩)) [y] σ K) := by
  rw [pVal1 hy]
  refine ⟨b, o, r, rfl, hr, ?_, ?_⟩
  · rw [hc]; simp only [List.length_append, List.length_singleton]; omega
  · have e : setAt r.cells o [y] = A ++ ([y] ++ C) := by
      simp only [setAt]
      rw [hc, List.set_append_right _ _ (by omega), hA, Nat.sub_self]; rfl
    rw [e]; exact hK
/-- A field of an element is read. -/
theorem field_load {b o off : Nat} {r : Row} {A c C : List Value} {y : Value} {K : (Nat → Value) → Prop} (hb : w0.heap.size ≤ b) (hr : σ b = some r) (hc : r.cells = A ++ (c ++ C)) (hA : A.length = o) (hoff : c[off]? = some y)
    (hK : ∀ g : Nat → Value, g 0 = y → K g) : pField off (.pointer (some ⟨b, o, none⟩)) fun q => pLoad w0 1 q σ K := by
  rw [pField_s, addr_add]
  refine ⟨_, fun _ => y, rfl, fun j hj => ?_, hK _ rfl⟩
  have : j = 0 := by omega
  subst this
  have hlt : off < c.length := (List.getElem?_eq_some_iff.1 hoff).1
  rw [addr_add, get_row hb hr, hc, List.getElem?_append_right (by omega), List.getElem?_append_left (by omega)]
  rw [show o + off + 0 - A.length = off by omega]; exact hoff

/-! ### Marks -/
def mkS (mk : Nat → α → α) (cnt : α → Nat) : Nat → List α → List α
  | _, [] => []
  | k, x :: r => mk k x :: mkS mk cnt (k + cnt x) r
theorem mkS_len {mk : Nat → α → α} {cnt : α → Nat} : ∀ {xs : List α} {k : Nat}, (mkS mk cnt k xs).length = xs.length
  | [], _ => rfl
  | x :: r, k => by simp [mkS, mkS_len (xs := r)]
theorem mkS_snoc {mk : Nat → α → α} {cnt : α → Nat} {x : α} : ∀ {xs : List α} {k : Nat}, mkS mk cnt k (xs ++ [x]) = mkS mk cnt k xs ++ [mk (k + sumBy cnt xs) x]
  | [], k => by simp [mkS, sumBy]
  | y :: r, k => by simp [mkS, sumBy, mkS_snoc (xs := r), Nat.add_assoc]
theorem mkS_get {mk : Nat → α → α} {cnt : α → Nat} : ∀ {xs : List α} {k j : Nat} {x : α}, xs[j]? = some x → (mkS mk cnt k xs)[j]? = some (mk (k + sumBy cnt (xs.take j)) x)
  | [], k, j, x, h => by simp at h
  | y :: r, k, 0, x, h => by simp at h; subst h; simp [mkS, sumBy]
  | y :: r, k, j + 1, x, h => by
    have := mkS_get (mk := mk) (cnt := cnt) (k := k + cnt y) (xs := r) (j := j) (by simpa using h)
    simp only [mkS, List.getElem?_cons_succ, this, List.take_succ_cons, sumBy, Nat.add_assoc]

/-- A loop that marks. -/
theorem mark_loop {T n : Nat} {Rel : (Addr → Option Value) → List Value → α → Prop} {O : Vw → List Nat → List Value → α → Prop} (ok : OOk w0 n Rel O) {mk : Nat → α → α} {cnt : α → Nat} {F : List Nat} {v : Value} {xs : List α} {k : Nat} {R : Value → Vw → Prop}
    {BODY : List Value → (AX → List Value → Vw → Prop) → Vw → Prop}
    (h : OSl w0 n O σ F v xs) (hk : k + sumBy cnt xs ≤ 1000000000000)
    (hB : ∀ (j : Nat) (x : α) (k' : Nat) (s : Vw) (ys : List α) (K : AX → List Value → Vw → Prop), j < ys.length → ys.length = xs.length → KeepsBut F σ s → x ∈ xs → k' + cnt x ≤ 1000000000000 → OSl w0 n O s F v ys → ys[j]? = some x →
      (∀ s', KeepsBut F s s' → OSl w0 n O s' F v (ys.set j (mk k' x)) → K .normal [v, .int .i64 ((k' + cnt x : Nat) : Int), .int .i64 ((j : Int) + 1)] s') → BODY [v, .int .i64 (k' : Nat), .int .i64 (j : Nat)] K s)
    (hR : ∀ s', KeepsBut F σ s' → OSl w0 n O s' F v (mkS mk cnt k xs) → R (.int .i64 ((k + sumBy cnt xs : Nat) : Int)) s') :
    pLoop (fun l K s => pLen (vget l 0) (fun v3 => pBin P T .lss (vget l 2) v3 (fun v4 => pIf v4 (BODY l K s) (K (.exit 0) [vget l 0, vget l 1, vget l 2] s)))) [v, .int .i64 (k : Nat), .int .i64 0] σ
      (fun x l s => match x with | .normal => R (vget l 1) s | .ret => False | .exit i => (match Nat.beq i 0 with | true => R (vget l 1) s | false => False)) := by
  have hl : xs.length ≤ 9223372036854775807 := h.1
  refine loop_rule (m := xs.length) (fun c l s => ∃ j, c + j = xs.length ∧ KeepsBut F σ s ∧ OSl w0 n O s F v (mkS mk cnt k (xs.take j) ++ xs.drop j) ∧ l = [v, .int .i64 ((k + sumBy cnt (xs.take j) : Nat) : Int), .int .i64 (j : Nat)]) ?_ ⟨0, by omega, KeepsBut.refl _ _, by simpa [mkS] using h, by simp [sumBy]⟩
  rintro c l s L ⟨j, hc, hkb, hO, rfl⟩ hL
  simp only [vget, List.getD_cons_zero, List.getD_cons_succ]
  have hlen : (mkS mk cnt k (xs.take j) ++ xs.drop j).length = xs.length := by simp [mkS_len]; omega
  have hrel := hO.rel ok
  rw [hrel.len, hlen, pBin_lt, pIf_d]
  refine ⟨fun hj => ?_, fun hj => ?_⟩
  · have hj' : j < xs.length := by omega
    have hx := List.getElem?_eq_getElem hj'
    have ht := sumBy_take (f := cnt) hx
    have hle := sumBy_le (f := cnt) (xs := xs) (j + 1)
    have htl : (mkS mk cnt k (xs.take j)).length = j := by rw [mkS_len, List.length_take]; omega
    refine hB j xs[j] (k + sumBy cnt (xs.take j)) s _ _ (by rw [hlen]; exact hj') hlen hkb (List.getElem_mem hj') (by omega) hO ?_ fun s' hk' hO' => ?_
    · rw [List.getElem?_append_right (by omega), htl, Nat.sub_self, List.getElem?_drop, Nat.add_zero, hx]
    · refine hL _ _ (c - 1) (by omega) ⟨j + 1, by omega, hkb.trans hk', ?_, ?_⟩
      · have e : (mkS mk cnt k (xs.take j) ++ xs.drop j).set j (mk (k + sumBy cnt (xs.take j)) xs[j]) = mkS mk cnt k (xs.take (j + 1)) ++ xs.drop (j + 1) := by
          rw [List.set_append_right _ _ (by omega), htl, Nat.sub_self, List.drop_eq_getElem_cons hj', List.set_cons_zero, List.take_add_one, hx, Option.toList_some, mkS_snoc]
          simp
        rw [e] at hO'; exact hO'
      · rw [ht]
        congr 2
        · congr 1; omega
  · have hj' : j = xs.length := by omega
    subst hj'
    rw [List.take_length] at hO ⊢
    rw [List.drop_length, List.append_nil] at hO
    exact hR s hkb hO

/-- A loop that looks at marks. -/
theorem held_loop {T n : Nat} {Rel : (Addr → Option Value) → List Value → α → Prop} (hmono : ∀ rd rd' es x, Le rd rd' → Rel rd es x → Rel rd' es x) {mk : Nat → α → α} {cnt : α → Nat} {v : Value} {xs : List α} {k : Nat} {R : Value → Vw → Prop}
    {BODY : List Value → (AX → List Value → Vw → Prop) → Vw → Prop}
    (h : RSl n Rel (Av.get w0 σ) v (mkS mk cnt k xs)) (hk : k + sumBy cnt xs ≤ 1000000000000)
    (hB : ∀ (j : Nat) (x : α) (k' : Nat) (s : Vw) (K : AX → List Value → Vw → Prop), j < xs.length → Keeps σ s → x ∈ xs → k' + cnt x ≤ 1000000000000 → RSl n Rel (Av.get w0 s) v (mkS mk cnt k xs) → (mkS mk cnt k xs)[j]? = some (mk k' x) →
      (∀ s', Keeps s s' → K .normal [v, .int .i64 ((k' + cnt x : Nat) : Int), .int .i64 0, .int .i64 ((j : Int) + 1)] s') → BODY [v, .int .i64 (k' : Nat), .int .i64 0, .int .i64 (j : Nat)] K s)
    (hR : ∀ s', Keeps σ s' → R (.int .i64 ((k + sumBy cnt xs : Nat) : Int)) s') :
    pLoop (fun l K s => pLen (vget l 0) (fun v3 => pBin P T .lss (vget l 3) v3 (fun v4 => pIf v4 (BODY l K s) (K (.exit 0) [vget l 0, vget l 1, vget l 2, vget l 3] s)))) [v, .int .i64 (k : Nat), .int .i64 0, .int .i64 0] σ
      (fun x l s => match x with | .normal => R (vget l 1) s | .ret => R (vget l 2) s | .exit i => (match Nat.beq i 0 with | true => R (vget l 1) s | false => False)) := by
  have hl : xs.length ≤ 9223372036854775807 := by have := h.le; rwa [mkS_len] at this
  refine loop_rule (m := xs.length) (fun c l s => ∃ j, c + j = xs.length ∧ Keeps σ s ∧ l = [v, .int .i64 ((k + sumBy cnt (xs.take j) : Nat) : Int), .int .i64 0, .int .i64 (j : Nat)]) ?_ ⟨0, by omega, Keeps.refl _, by simp [sumBy]⟩
  rintro c l s L ⟨j, hc, hkb, rfl⟩ hL
  simp only [vget, List.getD_cons_zero, List.getD_cons_succ]
  have h' := h.mono hkb.le fun es x => hmono _ _ es x hkb.le
  rw [h'.len, mkS_len, pBin_lt, pIf_d]
  refine ⟨fun hj => ?_, fun hj => ?_⟩
  · have hj' : j < xs.length := by omega
    have hx := List.getElem?_eq_getElem hj'
    have ht := sumBy_take (f := cnt) hx
    have hle := sumBy_le (f := cnt) (xs := xs) (j + 1)
    refine hB j xs[j] (k + sumBy cnt (xs.take j)) s _ hj' hkb (List.getElem_mem hj') (by omega) h' (mkS_get hx) fun s' hk' => ?_
    refine hL _ _ (c - 1) (by omega) ⟨j + 1, by omega, hkb.trans hk', ?_⟩
    rw [ht]
    congr 2
    · congr 1; omega
  · have hj' : j = xs.length := by omega
    subst hj'
    rw [List.take_length]
    exact hR s hkb
end
end Go.Av

/- The plain side, part 5: more operations at known values. -/
set_option linter.unusedVariables false
set_option linter.unusedSimpArgs false
namespace Go.Av
open Go Go.RowKit IntWalk

section
variable {P : Program} {w0 : World} {σ σ' : Vw}
theorem pConv_s {k k' : IntKind} {n : Int} {K : Value → Prop} : pConvInt k (.int k' n) K ↔ K (.int k (k.wrap n)) :=
  ⟨fun ⟨_, _, h, hK⟩ => by cases h; exact hK, fun h => ⟨_, _, rfl, h⟩⟩
theorem pConv_u8 {k' : IntKind} {n : Int} {K : Value → Prop} (h : 0 ≤ n ∧ n ≤ 255) : pConvInt .u8 (.int k' n) K ↔ K (.int .u8 n) := by rw [pConv_s, u8_in n h]
theorem pConv_u64 {k' : IntKind} {n : Int} {K : Value → Prop} (h : 0 ≤ n ∧ n ≤ 18446744073709551615) : pConvInt .u64 (.int k' n) K ↔ K (.int .u64 n) := by rw [pConv_s, u64_in n h]
theorem pBin_rem {T : Nat} {k : IntKind} {a b : Int} {K : Value → Prop} (h : 0 ≤ a ∧ 0 < b) : pBin P T .rem (.int k a) (.int k b) K ↔ K (.int k (a % b)) :=
  pBin_i (by simp only [aint]; rw [if_neg (by omega), Int.tmod_eq_emod_of_nonneg h.1])
theorem pBin_quo {T : Nat} {a b : Int} {K : Value → Prop} (h : 0 ≤ a ∧ a ≤ 9223372036854775807 ∧ 0 < b) : pBin P T .quo (.int .i64 a) (.int .i64 b) K ↔ K (.int .i64 (a / b)) :=
  pBin_i (by simp only [aint]; rw [if_neg (by omega), i64_quo a b (by omega)])
theorem pBin_cat {T : Nat} {a b : ByteArray} {K : Value → Prop} (h : a.size + b.size ≤ 9223372036854775807) : pBin P T .add (.string a) (.string b) K ↔ K (.string (a ++ b)) :=
  pBin_s (by
    have e : IntKind.i64.max = 9223372036854775807 := by decide
    simp only [astr, e]
    rw [if_neg (by omega)])
theorem pIndexStr_s {s : ByteArray} {j : Nat} {K : Value → Prop} (h : j < s.size) (hK : K (.int .u8 ((s[j]'h).toNat : Int))) : pIndexStr (.string s) (.int .i64 j) K :=
  ⟨s, .i64, j, rfl, rfl, by omega, h, hK⟩
end
end Go.Av

/- Lists that grow by append, in a row of our own; elements that need no row; elements that are read in what is older. -/
set_option linter.unusedVariables false
set_option linter.unusedSimpArgs false
namespace Go.Av
open Go Go.RowKit

section
variable {P : Program} {w0 : World} {σ σ' : Vw} {α : Type}

/-! ### Elements that are read by a reader that is fixed -/
def RB (Rel : (Addr → Option Value) → List Value → α → Prop) (rd0 : Addr → Option Value) (rd : Addr → Option Value) (es : List Value) (x : α) : Prop := Rel rd0 es x
def OB (Rel : (Addr → Option Value) → List Value → α → Prop) (rd0 : Addr → Option Value) (σ : Vw) (F : List Nat) (es : List Value) (x : α) : Prop := F = [] ∧ Rel rd0 es x
/-- What a rule of reading must keep. -/
structure ROk (n : Nat) (Rel : (Addr → Option Value) → List Value → α → Prop) : Prop where
  mono : ∀ rd rd' es x, Le rd rd' → Rel rd es x → Rel rd' es x
  len : ∀ rd es x, Rel rd es x → es.length = n
  one : ∀ rd es x, Rel rd es x → ∀ c, c ∈ es → c.oneCell' = true
theorem ok_base {n : Nat} {Rel : (Addr → Option Value) → List Value → α → Prop} (ok : ROk n Rel) (w0 : World) (rd0 : Addr → Option Value) : OOk w0 n (RB Rel rd0) (OB Rel rd0) := by
  refine ⟨?_, ?_, ?_, ?_, ?_, ?_⟩
  · rintro σ F es x ⟨_, h⟩; exact h
  · rintro σ σ' F es x h _; exact h
  · rintro σ F es x ⟨rfl, _⟩ b hb; cases hb
  · rintro σ F es x ⟨rfl, _⟩; exact List.nodup_nil
  · rintro σ F es x ⟨_, h⟩; exact ok.len _ _ _ h
  · rintro σ F es x ⟨_, h⟩; exact ok.one _ _ _ h
theorem RSl.unbase {n : Nat} {Rel : (Addr → Option Value) → List Value → α → Prop} (ok : ROk n Rel) {rd0 rd : Addr → Option Value} {v : Value} {xs : List α} (h : RSl n (RB Rel rd0) rd v xs) (hle : Le rd0 rd) : RSl n Rel rd v xs :=
  h.imp fun es x hx => ok.mono _ _ _ _ hle hx

/-! ### Elements that need no row -/
/-! ### Growing lists -/
def OAcc (w0 : World) (ety n : Nat) (O : Vw → List Nat → List Value → α → Prop) (σ : Vw) (F : List Nat) (v : Value) (xs : List α) : Prop :=
  xs.length ≤ 9223372036854775807 ∧ F.Nodup ∧ ((v = .slice none 0 0 ∧ xs = [] ∧ F = []) ∨
  ∃ (b cap : Nat) (css : List (List Value)) (Fs : List (List Nat)), v = .slice (some ⟨b, 0, none⟩) xs.length cap ∧ (xs.length ≤ cap ∧ cap ≤ 9223372036854775807) ∧ w0.heap.size ≤ b ∧ σ b = some ⟨ety, css.flatten, cap * n, (0, 0)⟩ ∧
    css.length = xs.length ∧ Fs.length = xs.length ∧ F = b :: Fs.flatten ∧ ∀ (j : Nat) (c : List Value) (x : α) (f : List Nat), css[j]? = some c → xs[j]? = some x → Fs[j]? = some f → O σ f c x)

theorem OAcc.osl {ety n : Nat} {O : Vw → List Nat → List Value → α → Prop} {F : List Nat} {v : Value} {xs : List α} (h : OAcc w0 ety n O σ F v xs) : OSl w0 n O σ F v xs := by
  obtain ⟨h1, h2, h3 | ⟨b, cap, css, Fs, g1, g2, g3, g4, g5, g6, g7, g8⟩⟩ := h
  · exact ⟨h1, h2, .inl h3⟩
  · exact ⟨h1, h2, .inr ⟨b, 0, cap, _, [], [], css, Fs, g1, g2, g3, g4, by simp, rfl, g5, g6, g7, g8⟩⟩
theorem OAcc.frame {ety n : Nat} {Rel : (Addr → Option Value) → List Value → α → Prop} {O : Vw → List Nat → List Value → α → Prop} (ok : OOk w0 n Rel O) {F : List Nat} {v : Value} {xs : List α} (h : OAcc w0 ety n O σ F v xs) (hF : ∀ b, b ∈ F → σ' b = σ b) : OAcc w0 ety n O σ' F v xs := by
  obtain ⟨h1, h2, h3 | ⟨b, cap, css, Fs, g1, g2, g3, g4, g5, g6, g7, g8⟩⟩ := h
  · exact ⟨h1, h2, .inl h3⟩
  · refine ⟨h1, h2, .inr ⟨b, cap, css, Fs, g1, g2, g3, by rw [hF b (by rw [g7]; exact List.mem_cons_self)]; exact g4, g5, g6, g7, fun j c x f e1 e2 e3 => ?_⟩⟩
    refine ok.frame _ _ _ _ _ (g8 j c x f e1 e2 e3) fun i hi => hF i ?_
    rw [g7]
    exact List.mem_cons_of_mem _ (List.mem_flatten.2 ⟨f, List.mem_of_getElem? e3, hi⟩)
theorem OAcc.dom {ety n : Nat} {Rel : (Addr → Option Value) → List Value → α → Prop} {O : Vw → List Nat → List Value → α → Prop} (ok : OOk w0 n Rel O) {F : List Nat} {v : Value} {xs : List α} (h : OAcc w0 ety n O σ F v xs) : ∀ b, b ∈ F → w0.heap.size ≤ b ∧ σ b ≠ none := h.osl.dom ok
theorem OAcc.nil {ety n : Nat} {O : Vw → List Nat → List Value → α → Prop} : OAcc w0 ety n O σ [] (.slice none 0 0) [] := ⟨by simp, by simp, .inl ⟨rfl, rfl, rfl⟩⟩
theorem OAcc.new {ety n b : Nat} {O : Vw → List Nat → List Value → α → Prop} (hb : w0.heap.size ≤ b) : OAcc w0 ety n O (σ.put b ⟨ety, [], 0, (0, 0)⟩) [b] (.slice (some ⟨b, 0, none⟩) 0 0) [] :=
  ⟨by simp, by simp, .inr ⟨b, 0, [], [], rfl, by simp, hb, by rw [put_at]; simp, rfl, rfl, rfl, fun j c x f h => by simp at h⟩⟩

theorem Keeps.but_at {F : List Nat} (h : Keeps σ σ') (hF : ∀ b, b ∈ F → σ b ≠ none) : ∀ b, b ∈ F → σ' b = σ b := fun b hb => by
  cases hs : σ b with
  | none => exact absurd hs (hF b hb)
  | some r => exact h b r hs

/-- Elements are appended, each with rows of its own. -/
theorem OAcc.pushX {ety n bytes m : Nat} {Rel : (Addr → Option Value) → List Value → α → Prop} {O : Vw → List Nat → List Value → α → Prop} (ok : OOk w0 n Rel O) {F : List Nat} {v : Value} {xs ys : List α} {nss : List (List Value)} {Gs : List (List Nat)} {new : List Value}
    (h : OAcc w0 ety n O σ F v xs) (hm : ys.length = m) (hnl : nss.length = m) (hGl : Gs.length = m) (hnew : new = nss.flatten) (hO : ∀ (j : Nat) (c : List Value) (y : α) (g : List Nat), nss[j]? = some c → ys[j]? = some y → Gs[j]? = some g → O σ g c y)
    (hG : Gs.flatten.Nodup) (hGF : ∀ i, i ∈ Gs.flatten → i ∉ F) (hlen : xs.length + m ≤ 1000000000000) (hbytes : bytes ≤ 140) {K : Value → Vw → Prop}
    (hK : ∀ v' F' σ', Ext σ σ' → KeepsBut F σ σ' → OAcc w0 ety n O σ' F' v' (xs ++ ys) → (∀ i, i ∈ F' → i ∈ F ∨ i ∈ Gs.flatten ∨ σ i = none) → K v' σ') : pAppend w0 ety n bytes v m new σ K := by
  have hb47 : (xs.length + m) * bytes ≤ 2 ^ 47 := by
    have h1 : (xs.length + m) * bytes ≤ 1000000000000 * 140 := Nat.mul_le_mul hlen hbytes
    have h2 : (2 : Nat) ^ 47 = 140737488355328 := by decide
    omega
  have hn2 : ∀ c, c ∈ nss → c.length = n := fun c hc => by
    obtain ⟨i, hi⟩ := List.getElem?_of_mem hc
    have hil : i < nss.length := (List.getElem?_eq_some_iff.1 hi).1
    exact ok.len _ _ _ _ (hO i c _ _ hi (List.getElem?_eq_getElem (by omega)) (List.getElem?_eq_getElem (by omega)))
  have hnewl : new.length = m * n := by rw [hnew, flat_len _ hn2, hnl]
  have hGdom : ∀ i, i ∈ Gs.flatten → σ i ≠ none := fun i hi => by
    obtain ⟨j, f, e1, e2⟩ := mem_flat hi
    have hj : j < Gs.length := (List.getElem?_eq_some_iff.1 e1).1
    exact (ok.dom _ _ _ _ (hO j _ _ f (List.getElem?_eq_getElem (by omega)) (List.getElem?_eq_getElem (by omega)) e1) i e2).2
  obtain ⟨h1, h2, ⟨rfl, rfl, rfl⟩ | ⟨b, cap, css, Fs, rfl, g2, g3, g4, g5, g6, g7, g8⟩⟩ := h
  · refine .inr ⟨0, [], ⟨by simp, .inl ⟨rfl, rfl⟩⟩, hnewl, by simpa using (by omega : m ≤ 9223372036854775807), by simpa using hb47, fun v' σ' hg => ?_⟩
    rcases hg with ⟨rfl, rfl, _, h0, _⟩ | ⟨b', c', rfl, g1, g2, rfl, g3, g4⟩
    · have : m = 0 := by omega
      subst this
      have hy : ys = [] := List.length_eq_zero_iff.1 hm
      subst hy
      exact hK _ [] _ (Ext.refl _) (KeepsBut.refl _ _) (by simpa using OAcc.nil) (fun i hi => by cases hi)
    · have hb' : σ b' = none := by
        rcases g4 with h | ⟨n0, c0, h⟩
        · exact h
        · cases h
      have hbG : b' ∉ Gs.flatten := fun hi => hGdom b' hi hb'
      refine hK _ (b' :: Gs.flatten) _ (Keeps.put hb').ext (Keeps.put hb').but ?_ fun i hi => ?_
      · refine ⟨by simp; omega, List.nodup_cons.2 ⟨hbG, hG⟩, .inr ⟨b', c', nss, Gs, by simp [hm], by simp [hm]; omega, g3, by rw [put_at]; simp [hnew], by simp [hm, hnl], by simp [hm, hGl], rfl, fun j c x f e1 e2 e3 => ?_⟩⟩
        simp only [List.nil_append] at e2
        refine ok.frame _ _ _ _ _ (hO j c x f e1 e2 e3) fun i hi => ?_
        have : i ≠ b' := fun e => hbG (e ▸ List.mem_flatten.2 ⟨f, List.mem_of_getElem? e3, hi⟩)
        simp [Vw.put, this]
      · rcases List.mem_cons.1 hi with e | e
        · rw [e]; exact .inr (.inr hb')
        · exact .inr (.inl e)
  · have hn1 : ∀ c, c ∈ css → c.length = n := fun c hc => by
      obtain ⟨i, hi⟩ := List.getElem?_of_mem hc
      have hil : i < css.length := (List.getElem?_eq_some_iff.1 hi).1
      exact ok.len _ _ _ _ (g8 i c _ _ hi (List.getElem?_eq_getElem (by omega)) (List.getElem?_eq_getElem (by omega)))
    have g4' := g4
    rw [g7] at h2
    have hbFs : b ∉ Fs.flatten := (List.nodup_cons.1 h2).1
    have hbG : b ∉ Gs.flatten := fun hi => hGF b hi (by rw [g7]; exact List.mem_cons_self)
    have hFsdom : ∀ i, i ∈ Fs.flatten → σ i ≠ none := fun i hi => by
      obtain ⟨j, f, e1, e2⟩ := mem_flat hi
      have hj : j < Fs.length := (List.getElem?_eq_some_iff.1 e1).1
      exact (ok.dom _ _ _ _ (g8 j _ _ f (List.getElem?_eq_getElem (by omega)) (List.getElem?_eq_getElem (by omega)) e1) i e2).2
    refine .inr ⟨xs.length, css.flatten, ⟨by rw [flat_len _ hn1, g5], .inr ⟨b, cap, rfl, g4, g2.1, g2.2⟩⟩, hnewl, by omega, hb47, fun v' σ' hg => ?_⟩
    rcases hg with ⟨rfl, rfl, h, _⟩ | ⟨b', c', rfl, k1, k2, rfl, k3, k4⟩
    · cases h
    · have hb' : b' ∉ Fs.flatten ∧ b' ∉ Gs.flatten ∧ (b' = b ∨ σ b' = none) := by
        rcases k4 with h | ⟨n0, c0, h⟩
        · exact ⟨fun hi => hFsdom b' hi h, fun hi => hGdom b' hi h, .inr h⟩
        · cases h; exact ⟨hbFs, hbG, .inl rfl⟩
      refine hK _ (b' :: (Fs ++ Gs).flatten) _ ?_ ?_ ?_ fun i hi => ?_
      · rcases hb'.2.2 with rfl | h
        · intro i r hi
          by_cases e : i = b'
          · subst e
            rw [g4'] at hi; cases hi
            exact ⟨_, put_at, List.prefix_append _ _⟩
          · exact ⟨r, by simp [Vw.put, e, hi], List.prefix_refl _⟩
        · exact (Keeps.put h).ext
      · rcases hb'.2.2 with rfl | h
        · exact KeepsBut.put (by rw [g7]; exact List.mem_cons_self)
        · exact (Keeps.put h).but
      · refine ⟨by simp; omega, ?_, .inr ⟨b', c', css ++ nss, Fs ++ Gs, by simp [hm], by simp [hm]; omega, k3, by rw [put_at, hnew]; simp, by simp [hm, hnl, g5], by simp [hm, hGl, g6], rfl, fun j c x f e1 e2 e3 => ?_⟩⟩
        · rw [List.flatten_append, List.nodup_cons]
          refine ⟨fun hi => ?_, List.nodup_append.2 ⟨(List.nodup_cons.1 h2).2, hG, fun a ha d hd e => hGF d hd (by rw [g7, ← e]; exact List.mem_cons_of_mem _ ha)⟩⟩
          rcases List.mem_append.1 hi with h | h
          · exact hb'.1 h
          · exact hb'.2.1 h
        · have hput : ∀ i, i ≠ b' → (σ.put b' ⟨ety, css.flatten ++ new, c' * n, (0, 0)⟩) i = σ i := fun i hi => by simp [Vw.put, hi]
          by_cases hj : j < xs.length
          · rw [List.getElem?_append_left (by omega)] at e1 e2 e3
            exact ok.frame _ _ _ _ _ (g8 j c x f e1 e2 e3) fun i hi => hput i fun e => hb'.1 (e ▸ List.mem_flatten.2 ⟨f, List.mem_of_getElem? e3, hi⟩)
          · rw [List.getElem?_append_right (by omega)] at e1 e2 e3
            rw [g5] at e1; rw [g6] at e3
            exact ok.frame _ _ _ _ _ (hO _ c x f e1 e2 e3) fun i hi => hput i fun e => hb'.2.1 (e ▸ List.mem_flatten.2 ⟨f, List.mem_of_getElem? e3, hi⟩)
      · rw [g7]
        rcases List.mem_cons.1 hi with e | e
        · rw [e]
          rcases hb'.2.2 with rfl | h
          · exact .inl List.mem_cons_self
          · exact .inr (.inr h)
        · rw [List.flatten_append] at e
          rcases List.mem_append.1 e with h | h
          · exact .inl (List.mem_cons_of_mem _ h)
          · exact .inr (.inl h)

/-- One element is appended. -/
theorem OAcc.oneX {ety n bytes : Nat} {Rel : (Addr → Option Value) → List Value → α → Prop} {O : Vw → List Nat → List Value → α → Prop} (ok : OOk w0 n Rel O) {F f : List Nat} {v : Value} {xs : List α} {y : α} {es : List Value}
    (h : OAcc w0 ety n O σ F v xs) (hy : O σ f es y) (hf : ∀ i, i ∈ f → i ∉ F) (hlen : xs.length + 1 ≤ 1000000000000) (hbytes : bytes ≤ 140) {K : Value → Vw → Prop}
    (hK : ∀ v' F' σ', Ext σ σ' → KeepsBut F σ σ' → OAcc w0 ety n O σ' F' v' (xs ++ [y]) → (∀ i, i ∈ F' → i ∈ F ∨ i ∈ f ∨ σ i = none) → K v' σ') : allOne es ∧ pAppend w0 ety n bytes v 1 es σ K := by
  refine ⟨ok.one _ _ _ _ hy, ?_⟩
  refine h.pushX ok (ys := [y]) (nss := [es]) (Gs := [f]) rfl rfl rfl (by simp) (fun j c z g e1 e2 e3 => ?_) (by simpa using ok.nodup _ _ _ _ hy) (by simpa using hf) hlen hbytes (by simpa using hK)
  cases j with
  | zero => simp at e1 e2 e3; subst e1 e2 e3; exact hy
  | succ j => simp at e1

/-- All elements of a list that is read are appended; they need no rows of their own. -/
theorem OAcc.allX {ety n bytes : Nat} {Rel Rel0 : (Addr → Option Value) → List Value → α → Prop} {O : Vw → List Nat → List Value → α → Prop} (ok : OOk w0 n Rel O) {rd0 : Addr → Option Value} {F : List Nat} {v s : Value} {xs ys : List α}
    (h : OAcc w0 ety n O σ F v xs) (hs : RSl n Rel0 rd0 s ys) (hle : Le rd0 (Av.get w0 σ)) (hO : ∀ es y, Rel0 rd0 es y → O σ [] es y) (hlen : xs.length + ys.length ≤ 1000000000000) (hbytes : bytes ≤ 140) {K : Value → Vw → Prop}
    (hK : ∀ v' F' σ', Ext σ σ' → KeepsBut F σ σ' → OAcc w0 ety n O σ' F' v' (xs ++ ys) → (∀ i, i ∈ F' → i ∈ F ∨ σ i = none) → K v' σ') : pAppendS w0 ety n bytes v s σ K := by
  obtain ⟨A, cap, rfl, hc, hel⟩ := hs
  obtain ⟨css, hcl, hcs⟩ := listOf (fun i (c : List Value) => ∃ a y, A = some a ∧ ys[i]? = some y ∧ c.length = n ∧ (∀ k, k < n → rd0 (a.add (i * n + k)) = c[k]?) ∧ Rel0 rd0 c y) ys.length (fun i hi => by
    obtain ⟨a, es, h1, h2, h3, h4⟩ := hel i _ (List.getElem?_eq_getElem hi)
    exact ⟨es, a, _, h1, List.getElem?_eq_getElem hi, h2, h3, h4⟩)
  have hn : ∀ c, c ∈ css → c.length = n := fun c hc => by
    obtain ⟨i, hi⟩ := List.getElem?_of_mem hc
    obtain ⟨_, _, _, _, h, _⟩ := hcs i c hi
    exact h
  refine ⟨A, ys.length, cap, css.flatten, rfl, by rw [flat_len _ hn, hcl], ?_, ?_, ?_⟩
  · intro c hc
    obtain ⟨es, he, hce⟩ := List.mem_flatten.1 hc
    obtain ⟨i, hi⟩ := List.getElem?_of_mem he
    obtain ⟨a, y, _, _, _, _, hR⟩ := hcs i es hi
    exact ok.one _ _ _ _ (hO _ _ hR) c hce
  · intro j hj
    rw [flat_len _ hn, hcl] at hj
    have hn0 : 0 < n := by
      rcases Nat.eq_zero_or_pos n with e | e
      · subst e; omega
      · exact e
    have hq : j / n < css.length := by rw [hcl]; exact (Nat.div_lt_iff_lt_mul hn0).2 hj
    obtain ⟨a, y, hA, hy, hl, hk, hR⟩ := hcs (j / n) _ (List.getElem?_eq_getElem hq)
    have hr : j % n < n := Nat.mod_lt _ hn0
    have hdm : j / n * n + j % n = j := by rw [Nat.mul_comm]; exact Nat.div_add_mod j n
    refine ⟨a, hA, ?_⟩
    have e1 := flat_get css hn (j / n) _ (List.getElem?_eq_getElem hq) (j % n) hr
    rw [hdm] at e1
    have e2 := hk (j % n) hr
    rw [hdm, ← e1] at e2
    have hj' : j < css.flatten.length := by rw [flat_len _ hn, hcl]; exact hj
    rw [List.getElem?_eq_getElem hj'] at e2
    exact hle _ _ e2
  · refine h.pushX ok (ys := ys) (nss := css) (Gs := List.replicate ys.length []) rfl hcl (by simp) rfl (fun j c y g e1 e2 e3 => ?_) (by simp) (by simp) hlen hbytes (by simpa using hK)
    obtain ⟨a, y', _, hy, _, _, hR⟩ := hcs j c e1
    rw [e2] at hy; cases hy
    rw [List.getElem?_replicate] at e3
    split at e3
    · cases e3; exact hO _ _ hR
    · cases e3

theorem OAcc.push {ety n bytes m : Nat} {Rel : (Addr → Option Value) → List Value → α → Prop} {O : Vw → List Nat → List Value → α → Prop} (ok : OOk w0 n Rel O) {F : List Nat} {v : Value} {xs ys : List α} {nss : List (List Value)} {Gs : List (List Nat)} {new : List Value}
    (h : OAcc w0 ety n O σ F v xs) (hm : ys.length = m) (hnl : nss.length = m) (hGl : Gs.length = m) (hnew : new = nss.flatten) (hO : ∀ (j : Nat) (c : List Value) (y : α) (g : List Nat), nss[j]? = some c → ys[j]? = some y → Gs[j]? = some g → O σ g c y)
    (hG : Gs.flatten.Nodup) (hGF : ∀ i, i ∈ Gs.flatten → i ∉ F) (hlen : xs.length + m ≤ 1000000000000) (hbytes : bytes ≤ 140) {K : Value → Vw → Prop}
    (hK : ∀ v' F' σ', KeepsBut F σ σ' → OAcc w0 ety n O σ' F' v' (xs ++ ys) → (∀ i, i ∈ F' → i ∈ F ∨ i ∈ Gs.flatten ∨ σ i = none) → K v' σ') : pAppend w0 ety n bytes v m new σ K :=
  OAcc.pushX ok h hm hnl hGl hnew hO hG hGF hlen hbytes fun v' F' σ' _ => hK v' F' σ'
theorem OAcc.one {ety n bytes : Nat} {Rel : (Addr → Option Value) → List Value → α → Prop} {O : Vw → List Nat → List Value → α → Prop} (ok : OOk w0 n Rel O) {F f : List Nat} {v : Value} {xs : List α} {y : α} {es : List Value}
    (h : OAcc w0 ety n O σ F v xs) (hy : O σ f es y) (hf : ∀ i, i ∈ f → i ∉ F) (hlen : xs.length + 1 ≤ 1000000000000) (hbytes : bytes ≤ 140) {K : Value → Vw → Prop}
    (hK : ∀ v' F' σ', KeepsBut F σ σ' → OAcc w0 ety n O σ' F' v' (xs ++ [y]) → (∀ i, i ∈ F' → i ∈ F ∨ i ∈ f ∨ σ i = none) → K v' σ') : allOne es ∧ pAppend w0 ety n bytes v 1 es σ K :=
  OAcc.oneX ok h hy hf hlen hbytes fun v' F' σ' _ => hK v' F' σ'
theorem OAcc.all {ety n bytes : Nat} {Rel Rel0 : (Addr → Option Value) → List Value → α → Prop} {O : Vw → List Nat → List Value → α → Prop} (ok : OOk w0 n Rel O) {rd0 : Addr → Option Value} {F : List Nat} {v s : Value} {xs ys : List α}
    (h : OAcc w0 ety n O σ F v xs) (hs : RSl n Rel0 rd0 s ys) (hle : Le rd0 (Av.get w0 σ)) (hO : ∀ es y, Rel0 rd0 es y → O σ [] es y) (hlen : xs.length + ys.length ≤ 1000000000000) (hbytes : bytes ≤ 140) {K : Value → Vw → Prop}
    (hK : ∀ v' F' σ', KeepsBut F σ σ' → OAcc w0 ety n O σ' F' v' (xs ++ ys) → (∀ i, i ∈ F' → i ∈ F ∨ σ i = none) → K v' σ') : pAppendS w0 ety n bytes v s σ K :=
  OAcc.allX ok h hs hle hO hlen hbytes fun v' F' σ' _ => hK v' F' σ'
end
end Go.Av

/- A part of a list that is read; slices of texts. -/
set_option linter.unusedVariables false
set_option linter.unusedSimpArgs false
namespace Go.Av
open Go Go.RowKit

section
variable {P : Program} {w0 : World} {σ σ' : Vw} {α : Type}

theorem RSl.slice {n : Nat} {R : (Addr → Option Value) → List Value → α → Prop} {rd : Addr → Option Value} {v : Value} {xs : List α} (h : RSl n R rd v xs) {lo hi : Option Value} {l u : Nat} (hl : boundOf 0 lo = some (l : Int)) (hu : boundOf xs.length hi = some (u : Int)) (hlu : l ≤ u) (hux : u ≤ xs.length) {K : Value → Prop}
    (hK : ∀ v', RSl n R rd v' ((xs.take u).drop l) → K v') : pSlice n v lo hi K := by
  obtain ⟨A, cap, rfl, h2, h3⟩ := h
  refine ⟨A, xs.length, cap, l, u, rfl, hl, hu, by omega, by omega, by omega, hK _ ?_⟩
  have hlen : ((xs.take u).drop l).length = u - l := by rw [List.length_drop, List.length_take]; omega
  simp only [Int.toNat_natCast]
  refine ⟨if cap = l then A else Option.map (fun x => x.add (l * n)) A, cap - l, by rw [hlen], by rw [hlen]; omega, fun j x hj => ?_⟩
  rw [List.getElem?_drop] at hj
  have hlt : l + j < u := by
    rcases Nat.lt_or_ge (l + j) u with h | h
    · exact h
    · rw [List.getElem?_eq_none (by rw [List.length_take]; omega)] at hj; cases hj
  rw [List.getElem?_take_of_lt hlt] at hj
  obtain ⟨a, es, rfl, g1, g2, g3⟩ := h3 _ x hj
  refine ⟨a.add (l * n), es, ?_, g1, fun i hi => ?_, g3⟩
  · rw [if_neg (by omega)]; rfl
  · rw [add_add, ← g2 i hi]
    congr 2
    rw [Nat.add_mul]; omega

/-- A field of an element is read. -/
theorem RSl.atp {n : Nat} {R : (Addr → Option Value) → List Value → α → Prop} {v : Value} {xs : List α} (h : RSl n R (Av.get w0 σ) v xs) {j : Nat} {x : α} (hj : xs[j]? = some x) {K : Value → (Nat → Value) → Prop} (hK : ∀ (p : Value) (g : Nat → Value), R (Av.get w0 σ) (expl g 0 n) x → K p g) :
    pIndexAddr n v (.int .i64 j) fun p => pLoad w0 n p σ (K p) := by
  have h' := h
  obtain ⟨A, cap, rfl, _, h3⟩ := h
  obtain ⟨a, es, rfl, h5, h6, h7⟩ := h3 j x hj
  have hlt : j < xs.length := (List.getElem?_eq_some_iff.1 hj).1
  refine ⟨a, xs.length, cap, .i64, j, rfl, rfl, by omega, by omega, a.add (j * n), fun i => es.getD i undef, rfl, fun i hi => ?_, hK _ _ ?_⟩
  · have := h6 i hi
    have hlt : i < es.length := by omega
    rw [add_add]
    show Av.get w0 σ (a.add (j * n + i)) = _
    rw [this, List.getElem?_eq_getElem hlt]
    simp only [List.getD_eq_getElem?_getD, List.getElem?_eq_getElem hlt, Option.getD_some]
  · have : expl (fun i => es.getD i undef) 0 n = es := by
      apply List.ext_getElem?
      intro i
      by_cases hi : i < n
      · rw [expl_get _ _ _ _ hi, Nat.zero_add, List.getD_eq_getElem?_getD]
        have hlt : i < es.length := by omega
        rw [List.getElem?_eq_getElem hlt]; rfl
      · rw [List.getElem?_eq_none (by rw [length_expl]; omega), List.getElem?_eq_none (by omega)]
    rw [this]; exact h7
theorem RSl.atfp {n : Nat} {R : (Addr → Option Value) → List Value → α → Prop} {v : Value} {xs : List α} (h : RSl n R (Av.get w0 σ) v xs) {j : Nat} {x : α} (hj : xs[j]? = some x) (o : Nat) (ho : o < n) {K : Value → (Nat → Value) → Prop} (hK : ∀ (q : Value) (es : List Value) (g : Nat → Value), R (Av.get w0 σ) es x → es[o]? = some (g 0) → K q g) :
    pIndexAddr n v (.int .i64 j) fun p => pField o p fun q => pLoad w0 1 q σ (K q) := by
  obtain ⟨A, cap, rfl, _, h3⟩ := h
  obtain ⟨a, es, rfl, h5, h6, h7⟩ := h3 j x hj
  have hlt : j < xs.length := (List.getElem?_eq_some_iff.1 hj).1
  refine ⟨a, xs.length, cap, .i64, j, rfl, rfl, by omega, by omega, a.add (j * n), rfl, (a.add (j * n)).add o, fun _ => es.getD o undef, rfl, fun i hi => ?_, hK _ es _ h7 ?_⟩
  · have e : i = 0 := by omega
    subst e
    have := h6 o ho
    rw [add_add, add_add, Nat.add_zero, this, List.getElem?_eq_getElem (by omega)]
    simp only [List.getD_eq_getElem?_getD, List.getElem?_eq_getElem (show o < es.length by omega), Option.getD_some]
  · simp only [List.getD_eq_getElem?_getD, List.getElem?_eq_getElem (show o < es.length by omega), Option.getD_some]

theorem RSl.atf {n : Nat} {R : (Addr → Option Value) → List Value → α → Prop} {v : Value} {xs : List α} (h : RSl n R (Av.get w0 σ) v xs) {j : Nat} {x : α} (hj : xs[j]? = some x) (o : Nat) (ho : o < n) {K : (Nat → Value) → Prop} (hK : ∀ (es : List Value) (g : Nat → Value), R (Av.get w0 σ) es x → es[o]? = some (g 0) → K g) :
    pIndexAddr n v (.int .i64 j) fun p => pField o p fun q => pLoad w0 1 q σ K :=
  h.atfp hj o ho fun q => hK

end
end Go.Av

/- What is at a path of a tree, by either reading. -/
set_option linter.unusedVariables false
set_option linter.unusedSimpArgs false
namespace Go.Proofs.Ytlbpnfhhoalenaa
open Go Go.Av

section
variable {w0 : World} {σ : Vw}

/-- A pointer to a tree. -/
def PT (n : Nat) (rd : Addr → Option Value) (p : Value) (x : Tr) : Prop := ∃ a es, p = .pointer (some a) ∧ es.length = 5 ∧ (∀ i, i < 5 → rd (a.add i) = es[i]?) ∧ RT n rd es x
theorem PT.mono {n : Nat} {rd rd' : Addr → Option Value} {p : Value} {x : Tr} (h : PT n rd p x) (hl : Le rd rd') : PT n rd' p x := by
  obtain ⟨a, es, h1, h2, h3, h4⟩ := h
  refine ⟨a, es, h1, h2, fun i hi => ?_, mono_rt n _ _ _ _ hl h4⟩
  have := h3 i hi
  rw [List.getElem?_eq_getElem (by omega)] at this ⊢
  exact hl _ _ this
/-- What is at a name, by pointers: a pointer, or nil. -/
def PO (n : Nat) (rd : Addr → Option Value) (p : Value) : Option Tr → Prop
  | some x => PT n rd p x
  | none => p = .pointer none
theorem PO.mono {n : Nat} {rd rd' : Addr → Option Value} {p : Value} {o : Option Tr} (h : PO n rd p o) (hl : Le rd rd') : PO n rd' p o := by
  cases o with
  | none => exact h
  | some x => exact PT.mono h hl

end
end Go.Proofs.Ytlbpnfhhoalenaa

/- Marks of texts. -/
set_option linter.unusedVariables false
set_option linter.unusedSimpArgs false
namespace Go.Proofs.Ytlbpnfhhoalenaa
open Go Go.Av

/-- How many figures a number has. -/
def figs (k : Nat) : Nat := if h : k = 0 then 0 else figs (k / 10) + 1
termination_by k
theorem figs_le (k : Nat) : figs k ≤ k := by
  induction k using Nat.strongRecOn with
  | _ k ih =>
    rw [figs]
    by_cases h : k = 0
    · simp [h]
    · rw [dif_neg h]
      have := ih (k / 10) (by omega)
      omega
def digit (n : Nat) : ByteArray := strOfNums [((48 + n % 10 : Nat) : Int)]
theorem size_strOfNums (xs : List Int) : (strOfNums xs).size = xs.length := by
  simp [strOfNums, ByteArray.size]
/-- The figures of a number, ahead of a text. -/
def mtxt (k : Nat) (out : ByteArray) : ByteArray := if h : k = 0 then out else mtxt (k / 10) (digit k ++ out)
termination_by k
theorem mtxt_size (k : Nat) : ∀ out, (mtxt k out).size = out.size + figs k := by
  induction k using Nat.strongRecOn with
  | _ k ih =>
    intro out
    rw [mtxt, figs]
    by_cases h : k = 0
    · simp [h]
    · rw [dif_neg h, dif_neg h, ih (k / 10) (by omega), ByteArray.size_append, digit, size_strOfNums]
      simp; omega
/-- What marks the number k. -/
def mtext (k : Nat) : ByteArray := if k = 0 then ⟨#[109, 48]⟩ else ⟨#[109]⟩ ++ mtxt k ⟨#[]⟩
theorem mtext_size {k : Nat} (h : k ≤ 1000000000000) : (mtext k).size ≤ 9223372036854775807 := by
  unfold mtext
  split
  · show 2 ≤ _; omega
  · rw [ByteArray.size_append, mtxt_size]
    have := figs_le k
    show 1 + (0 + _) ≤ _
    omega

section
variable {w0 : World} {σ : Vw}

theorem markText {k : Nat} (hk : k ≤ 1000000000000) {R : Value → Vw → Prop} (hR : ∀ σ', Keeps σ σ' → R (.string (mtext k)) σ') : AC Try.prog w0 n_laws_markText [.int .i64 (k : Nat)] σ R := by
  refine ac_laws_markText ?_
  unfold vc_laws_markText
  rw [pBin_le, pIf_d]
  refine ⟨fun h => ?_, fun h => ?_⟩
  · have : k = 0 := by omega
    subst this
    exact hR σ (Keeps.refl σ)
  · have hk0 : k ≠ 0 := by omega
    have e : mtext k = ⟨#[109]⟩ ++ mtxt k ⟨#[]⟩ := by rw [mtext, if_neg hk0]
    rw [e] at hR
    have hf := figs_le k
    refine loop_rule (m := figs k) (fun m l s => ∃ (n : Nat) (out : ByteArray), m = figs n ∧ n ≤ k ∧ out.size + figs n ≤ 1000000000000 ∧ mtxt n out = mtxt k ⟨#[]⟩ ∧ Keeps σ s ∧ l = [.int .i64 (n : Nat), .string out]) ?_ ⟨k, ⟨#[]⟩, rfl, Nat.le_refl _, by show 0 + _ ≤ _; omega, rfl, Keeps.refl σ, rfl⟩
    rintro m l s L ⟨n, out, rfl, hn, hsz, hm, hkp, rfl⟩ hL
    simp only [vget, List.getD_cons_zero, List.getD_cons_succ]
    rw [pBin_gt, pIf_d]
    refine ⟨fun hpos => ?_, fun h0 => ?_⟩
    · have hn0 : n ≠ 0 := by omega
      have hfig : figs n = figs (n / 10) + 1 := by rw [figs, dif_neg hn0]
      rw [pBin_rem (by omega), pBin_add (by omega)]
      show pConvInt .u8 _ _
      rw [pConv_u8 (by omega), show (48 + ((n : Int) % 10)) = ((48 + n % 10 : Nat) : Int) by omega, pVal1 rfl]
      intro b h1 h2
      refine pStr1 (by rw [get_row h1 put_at]; rfl) ?_
      show pBin Try.prog 9 .add (.string (digit n)) _ _
      have hd : (digit n).size = 1 := by rw [digit, size_strOfNums]; rfl
      rw [pBin_cat (by omega)]
      rw [pBin_quo (by omega), show ((n : Int) / 10) = ((n / 10 : Nat) : Int) by omega]
      refine hL _ _ (figs (n / 10)) hfig.symm ⟨n / 10, digit n ++ out, rfl, by omega, by rw [ByteArray.size_append, hd]; omega, ?_, hkp.trans (Keeps.put h2), rfl⟩
      rw [← hm]; conv => rhs; rw [mtxt, dif_neg hn0]
    · have hn0 : n = 0 := by omega
      subst hn0
      rw [mtxt, dif_pos rfl] at hm
      subst hm
      have hs := mtxt_size k ⟨#[]⟩
      show pBin Try.prog 9 .add (.string ⟨#[109]⟩) _ _
      rw [pBin_cat (by rw [hs]; show 1 + (0 + _) ≤ _; omega)]
      exact hR s hkp

abbrev mkTexts (k : Nat) (xs : List ByteArray) : List ByteArray := mkS (fun k _ => mtext k) (fun _ => 1) k xs
theorem sum_one {α : Type} (xs : List α) : sumBy (fun _ => 1) xs = xs.length := by
  induction xs with
  | nil => rfl
  | cons a r ih => simp only [sumBy, ih, List.length_cons]; omega

theorem markStringS {F : List Nat} {v : Value} {xs : List ByteArray} {k : Nat} (h : OStrs w0 σ F v xs) (hk : k + xs.length ≤ 1000000000000) {R : Value → Vw → Prop}
    (hR : ∀ σ', KeepsBut F σ σ' → OStrs w0 σ' F v (mkTexts k xs) → R (.int .i64 ((k + xs.length : Nat) : Int)) σ') : AC Try.prog w0 n_laws_markStringS [v, .int .i64 (k : Nat)] σ R := by
  refine ac_laws_markStringS ?_
  unfold vc_laws_markStringS
  have e := sum_one xs
  rw [← e] at hk hR
  refine mark_loop (ok_str w0) (mk := fun k _ => mtext k) (cnt := fun _ => 1) h hk ?_ hR
  intro j x k' s ys K hj hlen hkb hx hk' hO hyj hK
  simp only [vget, List.getD_cons_zero, List.getD_cons_succ]
  refine markText (by omega) fun s1 k1 => ?_
  have hO1 := hO.frame (ok_str w0) (σ' := s1) (fun b hb => by
    cases hs : s b with
    | none => exact absurd hs (hO.dom (ok_str w0) b hb).2
    | some r => exact k1 b r hs)
  obtain ⟨b, o, f, c, A, C, r, hix, hb, hr, hc, hA, hOx, hbF, hf, hput⟩ := hO1.focus (ok_str w0) hyj
  obtain ⟨rfl, rfl, hsz⟩ := hOx
  refine hix _ ?_
  refine elem_store hr hc hA rfl ?_
  rw [pBin_add (by omega)]
  rw [pBin_add (by have := h.1; omega)]
  have hO2 := hput (s1.put b { r with cells := A ++ ([.string (mtext k')] ++ C) }) [.string (mtext k')] (mtext k') _ put_at rfl ⟨rfl, rfl, mtext_size (by omega)⟩ (fun i hi hne _ => by simp [Vw.put, hne])
  have := hK _ (k1.but.trans (KeepsBut.put hbF)) hO2
  simpa using this

theorem heldStringS {v : Value} {xs : List ByteArray} {k : Nat} (h : RSl 1 RS (Av.get w0 σ) v (mkTexts k xs)) (hk : k + xs.length ≤ 1000000000000) {R : Value → Vw → Prop}
    (hR : ∀ σ', Keeps σ σ' → R (.int .i64 ((k + xs.length : Nat) : Int)) σ') : AC Try.prog w0 n_laws_heldStringS [v, .int .i64 (k : Nat)] σ R := by
  refine ac_laws_heldStringS ?_
  unfold vc_laws_heldStringS
  have e := sum_one xs
  rw [← e] at hk hR
  refine held_loop (n := 1) (Rel := RS) (fun _ _ _ _ hl h => mono_rs hl h) (mk := fun k _ => mtext k) (cnt := fun _ => 1) h hk ?_ hR
  intro j x k' s K hj hkb hx hk' hrd hyj hK
  simp only [vget, List.getD_cons_zero, List.getD_cons_succ]
  have hl := h.le
  rw [mkS_len] at hl
  refine RSl.atp hrd hyj fun p g hg => ?_
  obtain ⟨hg, hs⟩ := hg
  simp only [expl, List.cons.injEq, and_true] at hg
  refine markText (by omega) fun s1 k1 => ⟨k1.stay, ?_⟩
  rw [hg, pBin_sne, pIf_d]
  refine ⟨fun h => absurd rfl h, fun _ => ?_⟩
  rw [pBin_add (by omega)]
  rw [pBin_add (by omega)]
  have := hK _ k1
  simpa using this
end
end Go.Proofs.Ytlbpnfhhoalenaa

/- Reading and listing: the functions 'TreeRead' and 'TreeList' by either text. -/
set_option linter.unusedVariables false
set_option linter.unusedSimpArgs false
namespace Go.Proofs.Ytlbpnfhhoalenaa
open Go Go.Av

def kidsOf : Tr → List Tr
  | .mk _ _ _ _ ks => ks
def namesOf : Tr → List ByteArray
  | .mk _ _ _ ns _ => ns
def dataOf : Tr → ByteArray
  | .mk _ _ t _ _ => t
def modeOf : Tr → Int
  | .mk _ m _ _ _ => m
section
variable {w0 : World} {σ : Vw}

theorem RT.cells {n : Nat} {rd : Addr → Option Value} {es : List Value} {x : Tr} (h : RT n rd es x) : ∃ u w, es = [.bool (isDir x), .int .i64 (modeOf x), .string (dataOf x), u, w] ∧ (-9223372036854775808 ≤ modeOf x ∧ modeOf x ≤ 9223372036854775807) ∧ (dataOf x).size ≤ 9223372036854775807 ∧ RSl 1 RS rd u (namesOf x) ∧ RSl 5 (RT n) rd w (kidsOf x) ∧ ∀ A : Prop, pVal true 5 (.agg ⟨es⟩) A ↔ A := by
  obtain _ | n := n
  · exact h.elim
  · obtain ⟨d, m, t, ns, ks⟩ := x
    obtain ⟨u, w, rfl, h2, h3, h4, h5⟩ := h
    exact ⟨u, w, rfl, h2, h3, h4, h5.imp fun es x h => RT_up n rd es x h, fun A => pVal_5 rfl rfl rfl h4.one h5.one⟩

/-- A tree that is put into a row of our own. -/
theorem PT.new {n b : Nat} {es : List Value} {x : Tr} (h : RT n (Av.get w0 σ) es x) (hb : w0.heap.size ≤ b) (hn : σ b = none) {ety c : Nat} : PT n (Av.get w0 (σ.put b ⟨ety, es, c, (0, 0)⟩)) (.pointer (some ⟨b, 0, none⟩)) x := by
  have hl : es.length = 5 := by obtain ⟨_, _, _, _, _, rfl, _⟩ := RT.five h; rfl
  refine ⟨_, es, rfl, hl, fun i hi => ?_, mono_rt n _ _ _ _ (Keeps.put hn).le h⟩
  rw [addr_add, get_row hb put_at, Nat.zero_add]
theorem PT.load {n : Nat} {p : Value} {x : Tr} (h : PT n (Av.get w0 σ) p x) {K : (Nat → Value) → Prop} (hK : ∀ g : Nat → Value, RT n (Av.get w0 σ) (expl g 0 5) x → K g) : pLoad w0 5 p σ K := by
  obtain ⟨a, es, rfl, h5, h6, h7⟩ := h
  refine ⟨a, fun i => es.getD i undef, rfl, fun i hi => ?_, hK _ ?_⟩
  · rw [h6 i hi, List.getElem?_eq_getElem (by omega)]
    simp only [List.getD_eq_getElem?_getD, List.getElem?_eq_getElem (show i < es.length by omega), Option.getD_some]
  · have : expl (fun i => es.getD i undef) 0 5 = es := by
      match es, h5 with
      | [a, b, c, d, e], _ => rfl
    rw [this]; exact h7

end
end Go.Proofs.Ytlbpnfhhoalenaa

/- Texts in order; two lists of named parts in step. -/
set_option linter.unusedVariables false
set_option linter.unusedSimpArgs false
namespace Go.Proofs.Ytlbpnfhhoalenaa
open Go Go.Av

theorem bl_trans : ∀ (a b c : List UInt8), Op.bytesLess a b = true → Op.bytesLess b c = true → Op.bytesLess a c = true
  | _, [], _, h, _ => by simp [Op.bytesLess] at h
  | _, _ :: _, [], _, h => by simp [Op.bytesLess] at h
  | [], _ :: _, _ :: _, _, _ => by simp [Op.bytesLess]
  | x :: r, y :: q, z :: s, h, h' => by
    simp only [Op.bytesLess, Bool.or_eq_true, Bool.and_eq_true, decide_eq_true_eq, beq_iff_eq, UInt8.lt_iff_toNat_lt] at h h' ⊢
    rcases h with h | ⟨rfl, h⟩ <;> rcases h' with h' | ⟨rfl, h'⟩
    · left; omega
    · left; exact h
    · left; exact h'
    · right; exact ⟨rfl, bl_trans r q s h h'⟩
theorem strLt_trans {a b c : ByteArray} (h : strLt a b = true) (h' : strLt b c = true) : strLt a c = true := bl_trans _ _ _ h h'
theorem strLt_ne {a b : ByteArray} (h : strLt a b = true) : a ≠ b := fun e => by rw [e, strLt_irrefl] at h; cases h

/-! ### Sorted and compacted -/
section
variable {α : Type} [DecidableEq α] [Inhabited α]
end
/-! ### In step -/
end Go.Proofs.Ytlbpnfhhoalenaa

/- Marks put in their order; the deepest of them made coarser: the pure part of 'TrailAdd'. -/
set_option linter.unusedVariables false
set_option linter.unusedSimpArgs false
namespace Go.Proofs.Ytlbpnfhhoalenaa
open Go Go.Av

/-! ### The order of paths -/
theorem lexLt_irrefl : ∀ a : List ByteArray, lexLt a a = false
  | [] => rfl
  | a :: r => by simp [lexLt, lexLt_irrefl r]
theorem lexLt_trans : ∀ {a b c : List ByteArray}, lexLt a b = true → lexLt b c = true → lexLt a c = true
  | _, [], _, h, _ => by simp [lexLt] at h
  | _, _ :: _, [], _, h => by simp [lexLt] at h
  | [], _ :: _, _ :: _, _, _ => by simp [lexLt]
  | x :: a, y :: b, z :: c, h, h' => by
    simp only [lexLt] at h h' ⊢
    by_cases e : x = y
    · subst e
      rw [if_pos rfl] at h
      by_cases e2 : x = z
      · subst e2; rw [if_pos rfl] at h' ⊢; exact lexLt_trans h h'
      · rw [if_neg e2] at h' ⊢; exact h'
    · rw [if_neg e] at h
      by_cases e2 : y = z
      · subst e2; rw [if_neg e]; exact h
      · rw [if_neg e2] at h'
        have h3 := strLt_trans h h'
        rw [if_neg (strLt_ne h3)]; exact h3
theorem lexLt_total : ∀ {a b : List ByteArray}, lexLt a b = false → lexLt b a = false → a = b
  | [], [], _, _ => rfl
  | [], _ :: _, h, _ => by simp [lexLt] at h
  | _ :: _, [], _, h => by simp [lexLt] at h
  | x :: a, y :: b, h, h' => by
    simp only [lexLt] at h h'
    by_cases e : x = y
    · subst e
      rw [if_pos rfl] at h h'
      rw [lexLt_total h h']
    · rw [if_neg e] at h
      rw [if_neg fun h => e h.symm] at h'
      exact absurd (strLt_total h h') e

/-! ### What lies within what -/
theorem within_iff {b a : List ByteArray} : within b a = true ↔ a <+: b := by
  unfold within
  rw [decide_eq_true_iff, List.prefix_iff_eq_take]
  constructor
  · rintro ⟨_, h⟩; exact h.symm
  · intro h; exact ⟨by have := congrArg List.length h; rw [List.length_take] at this; omega, h.symm⟩
theorem within_self (a : List ByteArray) : within a a = true := within_iff.2 (List.prefix_refl a)
theorem within_trans {a b c : List ByteArray} (h : within a b = true) (h' : within b c = true) : within a c = true := within_iff.2 ((within_iff.1 h').trans (within_iff.1 h))
theorem within_len {a b : List ByteArray} (h : within b a = true) : a.length ≤ b.length := (within_iff.1 h).length_le
theorem lt_app : ∀ (a c : List ByteArray), c ≠ [] → lexLt a (a ++ c) = true
  | [], [], h => absurd rfl h
  | [], _ :: _, _ => rfl
  | x :: a, c, h => by
    rw [List.cons_append]
    simp only [lexLt, if_true]
    exact lt_app a c h
theorem within_lt {a b : List ByteArray} (h : within b a = true) : a = b ∨ lexLt a b = true := by
  obtain ⟨c, rfl⟩ := within_iff.1 h
  by_cases e : c = []
  · left; rw [e]; simp
  · exact .inr (lt_app a c e)

/-! ### A mark put in -/
def insF (m : Mk) : List Mk → List Mk
  | [] => [m]
  | x :: r => if lexLt m.1 x.1 = true then m :: x :: r else x :: insF m r
def keepM (m x : Mk) : Bool := !(m.2 && within x.1 m.1)
def markedB (l : List Mk) (p : List ByteArray) : Bool := underB l p || l.any fun x => decide (x.1 = p)
def putM (l : List Mk) (m : Mk) : List Mk := if (underB l m.1 || (!m.2 && markedB l m.1)) = true then l else insF m (l.filter (keepM m))
def AscM (l : List Mk) : Prop := l.Pairwise fun a b => lexLt a.1 b.1 = true
def NoUn (l : List Mk) : Prop := ∀ x, x ∈ l → ∀ y, y ∈ l → x.2 = true → within y.1 x.1 = true → x = y
def sumP (l : List Mk) : Nat := sumBy (fun x : Mk => x.1.length) l

theorem ins_mem {m x : Mk} : ∀ {l : List Mk}, x ∈ insF m l ↔ x = m ∨ x ∈ l
  | [] => by simp [insF]
  | y :: r => by
    simp only [insF]
    split
    · simp
    · simp only [List.mem_cons, ins_mem (l := r)]
      constructor
      · rintro (h | h | h)
        · exact .inr (.inl h)
        · exact .inl h
        · exact .inr (.inr h)
      · rintro (h | h | h)
        · exact .inr (.inl h)
        · exact .inl h
        · exact .inr (.inr h)
theorem ins_len {m : Mk} : ∀ {l : List Mk}, (insF m l).length = l.length + 1
  | [] => rfl
  | y :: r => by simp only [insF]; split <;> simp [ins_len (l := r)]
theorem ins_sum {m : Mk} : ∀ {l : List Mk}, sumP (insF m l) = m.1.length + sumP l
  | [] => by simp [insF, sumP, sumBy]
  | y :: r => by
    have := ins_sum (m := m) (l := r)
    simp only [sumP] at this
    simp only [insF]
    split
    · simp [sumP, sumBy]
    · simp only [sumP, sumBy, this]; omega
theorem ins_asc {m : Mk} : ∀ {l : List Mk}, AscM l → (∀ x, x ∈ l → x.1 ≠ m.1) → AscM (insF m l)
  | [], _, _ => by simp [insF, AscM]
  | y :: r, h, hn => by
    have h1 := List.pairwise_cons.1 h
    simp only [insF]
    by_cases c : lexLt m.1 y.1 = true
    · rw [if_pos c]
      refine List.pairwise_cons.2 ⟨fun x hx => ?_, h⟩
      rcases List.mem_cons.1 hx with e | e
      · rw [e]; exact c
      · exact lexLt_trans c (h1.1 x e)
    · rw [if_neg c]
      refine List.pairwise_cons.2 ⟨fun x hx => ?_, ins_asc h1.2 fun x hx => hn x (List.mem_cons_of_mem _ hx)⟩
      rcases ins_mem.1 hx with e | e
      · rw [e]
        cases c2 : lexLt y.1 m.1 with
        | true => rfl
        | false => exact absurd (lexLt_total c2 (by simpa using c)) (hn y List.mem_cons_self)
      · exact h1.1 x e
/-- Where the mark goes to. -/
theorem ins_at {m : Mk} : ∀ {l : List Mk} {j : Nat}, j ≤ l.length → (∀ x, x ∈ l.take j → lexLt m.1 x.1 = false) → (∀ x, x ∈ l.drop j → lexLt m.1 x.1 = true) → insF m l = l.take j ++ m :: l.drop j
  | [], j, _, _, _ => by simp [insF]
  | y :: r, 0, _, _, h => by
    simp only [insF, List.take_zero, List.drop_zero, List.nil_append]
    rw [if_pos (h y (by simp))]
  | y :: r, j + 1, hj, h1, h2 => by
    simp only [List.take_succ_cons, List.drop_succ_cons, List.cons_append] at *
    simp only [insF]
    rw [if_neg (by rw [h1 y List.mem_cons_self]; simp), ins_at (j := j) (by simpa using hj) (fun x hx => h1 x (List.mem_cons_of_mem _ hx)) h2]
theorem take_no {m : Mk} {l : List Mk} {j : Nat} {y : Mk} (h : AscM l) (hj : l[j]? = some y) (hy : lexLt m.1 y.1 = false) : ∀ x, x ∈ l.take (j + 1) → lexLt m.1 x.1 = false := by
  intro x hx
  rw [List.take_add_one, hj, List.mem_append] at hx
  rcases hx with hx | hx
  · obtain ⟨i, hi⟩ := List.getElem?_of_mem hx
    have hij : i < j := by have := (List.getElem?_eq_some_iff.1 hi).1; rw [List.length_take] at this; omega
    rw [List.getElem?_take_of_lt hij] at hi
    have hl := (List.getElem?_eq_some_iff.1 hi)
    have hl2 := (List.getElem?_eq_some_iff.1 hj)
    obtain ⟨a1, a2⟩ := hl
    obtain ⟨b1, b2⟩ := hl2
    have := List.pairwise_iff_getElem.1 h i j a1 b1 hij
    rw [a2, b2] at this
    cases c : lexLt m.1 x.1 with
    | false => rfl
    | true => rw [lexLt_trans c this] at hy; cases hy
  · simp at hx; rw [hx]; exact hy

theorem keep_sub {m : Mk} {l : List Mk} : ∀ x, x ∈ l.filter (keepM m) → x ∈ l := fun x hx => (List.mem_filter.1 hx).1
theorem sum_filter {p : Mk → Bool} : ∀ {l : List Mk}, sumP (l.filter p) ≤ sumP l
  | [] => by simp
  | y :: r => by
    have := sum_filter (p := p) (l := r)
    simp only [sumP] at this
    rw [List.filter_cons]
    split <;> simp only [sumP, sumBy] <;> omega

/-- What a trail keeps. -/
def TrP (l : List Mk) : Prop := AscM l ∧ NoUn l
theorem put_un {l : List Mk} {m : Mk} (h : ¬ (underB l m.1 || (!m.2 && markedB l m.1)) = true) : underB l m.1 = false ∧ (m.2 = false → ∀ x, x ∈ l → x.1 ≠ m.1) := by
  simp only [Bool.or_eq_true, not_or] at h
  refine ⟨by simpa using h.1, fun hm x hx e => h.2 ?_⟩
  simp only [hm, Bool.not_false, Bool.true_and, markedB, Bool.or_eq_true, List.any_eq_true]
  exact .inr ⟨x, hx, by simp [e]⟩
theorem TrP.put {l : List Mk} {m : Mk} (h : TrP l) : TrP (putM l m) := by
  unfold putM
  split
  · exact h
  · rename_i hc
    obtain ⟨hu, hs⟩ := put_un hc
    refine ⟨ins_asc (h.1.sublist List.filter_sublist) fun x hx => ?_, fun x hx y hy h2 hw => ?_⟩
    · obtain ⟨x1, x2⟩ := List.mem_filter.1 hx
      cases hm : m.2 with
      | false => exact hs hm x x1
      | true =>
        intro e
        simp [keepM, hm, e, within_self] at x2
    · rcases ins_mem.1 hx with e | e <;> rcases ins_mem.1 hy with e' | e'
      · rw [e, e']
      · exfalso
        rw [e] at h2 hw
        have := (List.mem_filter.1 e').2
        simp [keepM, h2, hw] at this
      · exfalso
        rw [e'] at hw
        obtain ⟨j, hj⟩ := List.getElem?_of_mem (keep_sub x e)
        rw [under_hit hj h2 hw] at hu; cases hu
      · exact h.2 x (keep_sub x e) y (keep_sub y e') h2 hw
theorem put_len {l : List Mk} {m : Mk} : (putM l m).length ≤ l.length + 1 := by
  unfold putM
  split
  · omega
  · rw [ins_len]; have := List.length_filter_le (keepM m) l; omega
theorem put_mem {l : List Mk} {m x : Mk} (h : x ∈ putM l m) : x = m ∨ x ∈ l := by
  unfold putM at h
  split at h
  · exact .inr h
  · rcases ins_mem.1 h with e | e
    · exact .inl e
    · exact .inr (keep_sub x e)
theorem put_sum {l : List Mk} {m : Mk} : sumP (putM l m) ≤ sumP l + m.1.length := by
  unfold putM
  split
  · omega
  · rw [ins_sum]; have := sum_filter (p := keepM m) (l := l); omega

/-! ### The deepest of the marks -/
def lenAt (l : List Mk) (j : Nat) : Nat := match l[j]? with
  | some x => x.1.length
  | none => 0
def bestTo (l : List Mk) : Nat → Nat
  | 0 => 0
  | k + 1 => if lenAt l (bestTo l k) ≤ lenAt l k then k else bestTo l k
theorem best_lt {l : List Mk} (h : l ≠ []) : ∀ {k : Nat}, k ≤ l.length → bestTo l k < l.length
  | 0, _ => by have := List.length_pos_iff.2 h; simpa [bestTo] using this
  | k + 1, hk => by
    simp only [bestTo]
    split
    · omega
    · exact best_lt h (by omega)
theorem best_ge {l : List Mk} : ∀ {k j : Nat}, j < k → lenAt l j ≤ lenAt l (bestTo l k)
  | 0, _, h => by omega
  | k + 1, j, h => by
    simp only [bestTo]
    by_cases e : j = k
    · subst e
      split
      · exact Nat.le_refl _
      · omega
    · have := best_ge (l := l) (k := k) (j := j) (by omega)
      split <;> omega
theorem best_one {l : List Mk} : bestTo l 1 = 0 := by simp [bestTo]
def bestM (l : List Mk) : Mk := (l[bestTo l l.length]?).getD ([], false)
theorem best_at {l : List Mk} (h : l ≠ []) : l[bestTo l l.length]? = some (bestM l) := by
  have := best_lt h (Nat.le_refl _)
  rw [bestM, List.getElem?_eq_getElem this]; rfl
theorem best_pos {l : List Mk} (ha : AscM l) (hl : 2 ≤ l.length) : 0 < (bestM l).1.length := by
  have hne : l ≠ [] := fun e => by simp [e] at hl
  have h1 := best_ge (l := l) (k := l.length) (j := 1) (by omega)
  have hb := best_at hne
  have h01 := List.pairwise_iff_getElem.1 ha 0 1 (by omega) (by omega) (by omega)
  have hx := List.getElem?_eq_getElem (show 1 < l.length by omega)
  rw [lenAt, lenAt, hx, hb] at h1
  simp only at h1
  have : (l[1]).1 ≠ [] := fun e => by
    rw [e] at h01
    simp [lexLt] at h01
  have := List.length_pos_iff.2 this
  omega
def upM (x : Mk) : Mk := (x.1.take (x.1.length - 1), true)
def coarseM (l : List Mk) : List Mk := putM l (upM (bestM l))
def delBest (l : List Mk) : List Mk := l.take (bestTo l l.length) ++ l.drop (bestTo l l.length + 1)
theorem del_split {l : List Mk} (h : l ≠ []) : l = l.take (bestTo l l.length) ++ bestM l :: l.drop (bestTo l l.length + 1) := by
  have h1 := best_at h
  obtain ⟨h2, h3⟩ := List.getElem?_eq_some_iff.1 h1
  have := List.take_append_drop (bestTo l l.length) l
  rw [List.drop_eq_getElem_cons h2, h3] at this
  exact this.symm
theorem del_mem {l : List Mk} : ∀ x, x ∈ delBest l → x ∈ l := fun x hx => by
  rcases List.mem_append.1 hx with h | h
  · exact List.mem_of_mem_take h
  · exact List.mem_of_mem_drop h
theorem sumP_app {a b : List Mk} : sumP (a ++ b) = sumP a + sumP b := by
  induction a with
  | nil => simp [sumP, sumBy]
  | cons x r ih => simp only [sumP] at ih; simp only [List.cons_append, sumP, sumBy, ih]; omega
theorem del_sum {l : List Mk} (h : l ≠ []) : sumP l = sumP (delBest l) + (bestM l).1.length := by
  conv => lhs; rw [del_split h]
  rw [delBest, sumP_app, sumP_app]
  simp only [sumP, sumBy]; omega
theorem del_len {l : List Mk} (h : l ≠ []) : (delBest l).length + 1 = l.length := by
  have := congrArg List.length (del_split h)
  simp only [delBest, List.length_append, List.length_cons] at *
  omega
theorem TrP.del {l : List Mk} (h : TrP l) (hne : l ≠ []) : TrP (delBest l) := by
  refine ⟨h.1.sublist ?_, fun x hx y hy => h.2 x (del_mem x hx) y (del_mem y hy)⟩
  conv => rhs; rw [del_split hne]
  exact List.Sublist.append (List.Sublist.refl _) (List.sublist_cons_self _ _)
theorem up_within {x : Mk} : within x.1 (upM x).1 = true := within_iff.2 (List.take_prefix _ _)
theorem up_len {x : Mk} (h : 0 < x.1.length) : (upM x).1.length + 1 = x.1.length := by simp only [upM, List.length_take]; omega

theorem coarse_under {l : List Mk} (h : TrP l) (hl : 2 ≤ l.length) : underB l (upM (bestM l)).1 = false := by
  have hne : l ≠ [] := fun e => by simp [e] at hl
  have hp := best_pos h.1 hl
  cases c : underB l (upM (bestM l)).1 with
  | false => rfl
  | true =>
    exfalso
    simp only [underB, List.any_eq_true, Bool.and_eq_true] at c
    obtain ⟨y, hy, y2, yw⟩ := c
    have := h.2 y hy _ (List.mem_of_getElem? (best_at hne)) y2 (within_trans up_within yw)
    subst this
    have := within_len yw
    have := up_len hp
    omega
theorem coarse_eq {l : List Mk} (h : TrP l) (hl : 2 ≤ l.length) : coarseM l = putM (delBest l) (upM (bestM l)) := by
  have hne : l ≠ [] := fun e => by simp [e] at hl
  have hu := coarse_under h hl
  have hu2 : underB (delBest l) (upM (bestM l)).1 = false := by
    cases c : underB (delBest l) (upM (bestM l)).1 with
    | false => rfl
    | true =>
      simp only [underB, List.any_eq_true] at c
      obtain ⟨y, hy, hc⟩ := c
      simp only [Bool.and_eq_true] at hc
      obtain ⟨j, hj⟩ := List.getElem?_of_mem (del_mem y hy)
      rw [under_hit hj hc.1 hc.2] at hu; cases hu
  have hk : keepM (upM (bestM l)) (bestM l) = false := by simp [keepM, up_within, show (upM (bestM l)).2 = true from rfl]
  unfold coarseM putM
  rw [hu, hu2]
  simp only [show (upM (bestM l)).2 = true from rfl, Bool.not_true, Bool.false_and, Bool.or_self]
  rw [if_neg (by simp), if_neg (by simp)]
  have hf : l.filter (keepM (upM (bestM l))) = (delBest l).filter (keepM (upM (bestM l))) := by
    have h1 := congrArg (fun z => z.filter (keepM (upM (bestM l)))) (del_split hne)
    simp only [List.filter_append, List.filter_cons, hk] at h1
    rw [delBest, List.filter_append]
    exact h1
  rw [hf]
theorem coarse_sum {l : List Mk} (h : TrP l) (hl : 2 ≤ l.length) : sumP (coarseM l) < sumP l := by
  have hne : l ≠ [] := fun e => by simp [e] at hl
  rw [coarse_eq h hl]
  have h1 := put_sum (l := delBest l) (m := upM (bestM l))
  have h2 := del_sum hne
  have h3 := up_len (best_pos h.1 hl)
  omega

/-- Coarser and coarser, till it is not too long. -/
inductive Lp : List Mk → List Mk → Prop
  | stop {l : List Mk} (h : l.length ≤ 6) : Lp l l
  | step {l r : List Mk} (h : 6 < l.length) (h' : Lp (coarseM l) r) : Lp l r
theorem Lp.det {l r r' : List Mk} (h : Lp l r) (h' : Lp l r') : r = r' := by
  induction h with
  | stop h =>
    cases h' with
    | stop _ => rfl
    | step k _ => omega
  | step h _ ih =>
    cases h' with
    | stop k => omega
    | step _ k => exact ih k

theorem trail_TrP {l : List Mk} (h : trailOk l = true) : TrP l ∧ l.length ≤ 6 ∧ ∀ x, x ∈ l → markOkB x = true := by
  unfold trailOk at h
  simp only [Bool.and_eq_true, decide_eq_true_iff] at h
  obtain ⟨hg, hl⟩ := h
  have each : ∀ (j : Nat) (x : Mk), l[j]? = some x → markOkB x = true ∧ afterB l j x = true ∧ underB (l.take j) x.1 = false := fun j x hx => by
    have := hg j x hx
    simp only [goodAt, Bool.and_eq_true] at this
    exact ⟨this.1, this.2.1, by simpa using this.2.2⟩
  have asc : AscM l := by
    have : ∀ (j : Nat) (x y : Mk), l[j]? = some x → l[j + 1]? = some y → lexLt x.1 y.1 = true := fun j x y hx hy => by
      have := (each (j + 1) y hy).2.1
      simpa [afterB, hx] using this
    clear hg hl each
    induction l with
    | nil => exact List.Pairwise.nil
    | cons a r ih =>
      have ih' := ih fun j x y hx hy => this (j + 1) x y (by simpa using hx) (by simpa using hy)
      refine List.pairwise_cons.2 ⟨fun z hz => ?_, ih'⟩
      cases r with
      | nil => cases hz
      | cons b r =>
        have hab := this 0 a b rfl rfl
        rcases List.mem_cons.1 hz with e | e
        · rw [e]; exact hab
        · exact lexLt_trans hab ((List.pairwise_cons.1 ih').1 z e)
  refine ⟨⟨asc, fun x hx y hy h2 hw => ?_⟩, by omega, fun x hx => ?_⟩
  · obtain ⟨i, hi⟩ := List.getElem?_of_mem hx
    obtain ⟨j, hj⟩ := List.getElem?_of_mem hy
    by_cases e : i = j
    · subst e; rw [hi] at hj; cases hj; rfl
    · exfalso
      obtain ⟨a1, a2⟩ := List.getElem?_eq_some_iff.1 hi
      obtain ⟨b1, b2⟩ := List.getElem?_eq_some_iff.1 hj
      by_cases hij : i < j
      · have h1 := (each j y hj).2.2
        rw [under_hit (j := i) (x := x) (by rw [List.getElem?_take_of_lt hij]; exact hi) h2 hw] at h1
        cases h1
      · have h1 := List.pairwise_iff_getElem.1 asc j i b1 a1 (by omega)
        rw [a2, b2] at h1
        rcases within_lt hw with e' | e'
        · rw [e', lexLt_irrefl] at h1; cases h1
        · have := lexLt_trans h1 e'
          rw [lexLt_irrefl] at this; cases this
  · obtain ⟨i, hi⟩ := List.getElem?_of_mem hx
    exact (each i x hi).1
end Go.Proofs.Ytlbpnfhhoalenaa

/- Marks of trees. -/
set_option linter.unusedVariables false
set_option linter.unusedSimpArgs false
namespace Go.Proofs.Ytlbpnfhhoalenaa
open Go Go.Av

section
variable {w0 : World} {σ : Vw}

end
end Go.Proofs.Ytlbpnfhhoalenaa

/- The laws 'TreeRead' and 'TreeList', of the functions alone. -/
set_option linter.unusedVariables false
set_option linter.unusedSimpArgs false
namespace Go.Proofs.Ytlbpnfhhoalenaa
open Go Go.Av

section
variable {w0 : World} {σ : Vw}

end
end Go.Proofs.Ytlbpnfhhoalenaa

/- Rows of our own: cells stored, an element taken out in place, the copy of two lists in any order. -/
set_option linter.unusedVariables false
set_option linter.unusedSimpArgs false
namespace Go.Av
open Go Go.RowKit

section
variable {P : Program} {w0 : World} {σ σ' : Vw} {α γ : Type}

theorem cell_store {b o : Nat} {r : Row} {A c C new : List Value} {K : Vw → Prop} (hr : σ b = some r) (hc : r.cells = A ++ (c ++ C)) (hA : A.length = o) (hl : c.length = new.length)
    (hK : K (σ.put b { r with cells := A ++ (new ++ C) })) : pStore (.pointer (some ⟨b, o, none⟩)) new σ K := by
  refine ⟨b, o, r, rfl, hr, by rw [hc]; simp only [List.length_append]; omega, ?_⟩
  rw [hc, ← hA, setAt_mid A c new C hl]
  exact hK

/-- An element of a list of our own is written, all its cells. -/
theorem OSl.store {n : Nat} {Rel : (Addr → Option Value) → List Value → α → Prop} {O : Vw → List Nat → List Value → α → Prop} (ok : OOk w0 n Rel O) {F : List Nat} {v : Value} {xs : List α} (h : OSl w0 n O σ F v xs) {j : Nat} {x y : α} {new : List Value} (hj : xs[j]? = some x)
    (hO : ∀ f c σ', O σ f c x → O σ' f new y) (hn : new.length = n) {K : Vw → Prop}
    (hK : ∀ σ', KeepsBut F σ σ' → OSl w0 n O σ' F v (xs.set j y) → K σ') : pIndexAddr n v (.int .i64 j) fun p => pStore p new σ K := by
  obtain ⟨b, o, f, c, A, C, r, hix, hb, hr, hc, hA, hOx, hbF, hf, hput⟩ := h.focus ok hj
  refine hix _ ?_
  have hcl := ok.len _ _ _ _ hOx
  refine cell_store hr hc hA (by rw [hcl, hn]) ?_
  exact hK _ (KeepsBut.put hbF) (hput _ new y _ put_at rfl (hO _ _ _ hOx) fun i hi hne _ => by simp [Vw.put, hne])

theorem fresh_in {F F' : List Nat} {σ s : Vw} (k : Keeps σ s) (hF : ∀ i, i ∈ F → σ i = none) (h : ∀ i, i ∈ F' → i ∈ F ∨ s i = none) : ∀ i, i ∈ F' → σ i = none := fun i hi => by
  rcases h i hi with e | e
  · exact hF i e
  · cases hs : σ i with
    | none => rfl
    | some r => rw [k i r hs] at e; cases e
theorem KeepsBut.dom {F : List Nat} {σ σ' : Vw} (k : KeepsBut F σ σ') {i : Nat} (h : σ i ≠ none) (hF : i ∉ F) : σ' i ≠ none := by
  cases hs : σ i with
  | none => exact absurd hs h
  | some r => rw [k i r hs hF]; simp

/-! ### An element is taken out, in place -/
def VDel (P : Program) (w0 : World) (T ety n bytes : Nat) (z : List Value) (a0 a1 a2 : Value) (σ : Vw) (R : Value → Vw → Prop) : Prop :=
  pLen a0 (fun v0 => pSlice3 n a0 (some a1) (some a2) (some v0) (fun v1 => pBin P T .eql a1 a2 (fun v2 => pIf v2 (R a0 σ) (pLen a0 (fun v3 => pSlice n a0 none (some a1) (fun v4 => pSlice n a0 (some a2) none (fun v5 => pAppendS w0 ety n bytes v4 v5 σ (fun v6 s7 => pLen v6 (fun v8 => pSlice n v6 (some v8) (some v3) (fun v9 => pClear n z v9 s7 (fun s10 => R v6 s10)))))))))))

theorem del_row {T ety n bytes b off cap j : Nat} {z : List Value} {r : Row} {pre post : List Value} {css : List (List Value)} (hz : z.length = n) (hz1 : ∀ c, c ∈ z → c.oneCell' = true) (hb : w0.heap.size ≤ b) (hr : σ b = some r) (hc : r.cells = pre ++ (css.flatten ++ post)) (hpre : pre.length = off)
    (hn : ∀ c, c ∈ css → c.length = n) (h1 : ∀ c, c ∈ css → ∀ u, u ∈ c → u.oneCell' = true) (hn0 : 0 < n) (hcap : css.length ≤ cap ∧ cap ≤ 9223372036854775807) (hj : j < css.length) {R : Value → Vw → Prop}
    (hR : R (.slice (some ⟨b, off, none⟩) (css.length - 1) cap) (σ.put b { r with cells := pre ++ ((css.take j ++ css.drop (j + 1)).flatten ++ (z ++ post)) })) :
    VDel P w0 T ety n bytes z (.slice (some ⟨b, off, none⟩) css.length cap) (.int .i64 (j : Nat)) (.int .i64 ((j : Int) + 1)) σ R := by
  obtain ⟨m, hm⟩ : ∃ m, css.length = j + 1 + m := ⟨css.length - (j + 1), by omega⟩
  have hcj := List.getElem?_eq_getElem hj
  have htl : ∀ c, c ∈ css.take j → c.length = n := fun c hc => hn c (List.mem_of_mem_take hc)
  have hdl : ∀ c, c ∈ css.drop (j + 1) → c.length = n := fun c hc => hn c (List.mem_of_mem_drop hc)
  have hfl := split_at hcj
  have hcl := hn _ (List.getElem_mem hj)
  have htlen : (css.take j).flatten.length = j * n := by rw [flat_len _ htl, List.length_take, Nat.min_eq_left (by omega)]
  have hdlen : (css.drop (j + 1)).flatten.length = m * n := by rw [flat_len _ hdl, List.length_drop]; congr 1; omega
  unfold VDel
  rw [pLen_s]
  refine ⟨some ⟨b, off, none⟩, css.length, cap, (j : Int), (j : Int) + 1, (css.length : Int), rfl, rfl, rfl, rfl, rfl, rfl, by omega, by omega, by omega, by omega, ?_⟩
  rw [pBin_eq, pIf_d]
  refine ⟨fun h => by omega, fun _ => ?_⟩
  rw [pLen_s]
  refine ⟨some ⟨b, off, none⟩, css.length, cap, 0, (j : Int), rfl, rfl, rfl, by omega, by omega, by omega, ?_⟩
  refine ⟨some ⟨b, off, none⟩, css.length, cap, (j : Int) + 1, (css.length : Int), rfl, rfl, rfl, by omega, by omega, by omega, ?_⟩
  have e0 : (if cap = (0 : Int).toNat then some (Addr.mk b off none) else (some (Addr.mk b off none)).map (·.add ((0 : Int).toNat * n))) = some (Addr.mk b off none) := by
    split
    · rfl
    · simp [Addr.add]
  rw [e0]
  simp only [Int.toNat_natCast, Int.toNat_zero, Nat.sub_zero]
  have ej : ((j : Int) + 1).toNat = j + 1 := by omega
  rw [ej]
  have hcells : r.cells = (pre ++ (css.take j).flatten) ++ ((css[j] ++ (css.drop (j + 1)).flatten) ++ post) := by rw [hc, hfl]; simp
  -- what is moved
  refine ⟨_, css.length - (j + 1), cap - (j + 1), (css.drop (j + 1)).flatten, rfl, by rw [hdlen]; congr 1; omega, fun u hu => ?_, fun i hi => ?_, .inl ⟨b, off, j, cap, r, rfl, hr, by omega, by rw [hdlen]; congr 1; omega, fun u hu => ?_, ?_, ?_⟩⟩
  · obtain ⟨c, hc1, hc2⟩ := List.mem_flatten.1 hu
    exact h1 c (List.mem_of_mem_drop hc1) u hc2
  · have hi' : i < m * n := by rw [← hdlen]; exact hi
    have hcapne : ¬ cap = j + 1 := fun e => by
      have : m = 0 := by omega
      subst this; omega
    refine ⟨_, by rw [if_neg hcapne]; rfl, ?_⟩
    rw [add_add, addr_add, get_row hb hr, hc, ← List.getElem?_eq_getElem hi]
    rw [List.getElem?_append_right (by omega), hpre]
    have e2 : off + ((j + 1) * n + i) - off = (j + 1) * n + i := by omega
    have hlt : (j + 1) * n + i < css.flatten.length := by
      rw [flat_len _ hn, hm, Nat.add_mul (j + 1)]; omega
    rw [e2, List.getElem?_append_left hlt]
    have h3 : css.flatten = (css.take (j + 1)).flatten ++ (css.drop (j + 1)).flatten := by rw [← List.flatten_append, List.take_append_drop]
    have h4 : (css.take (j + 1)).flatten.length = (j + 1) * n := by
      rw [flat_len _ fun c hc => hn c (List.mem_of_mem_take hc), List.length_take, Nat.min_eq_left (by omega)]
    rw [h3, List.getElem?_append_right (by omega), h4]
    congr 1; omega
  · obtain ⟨c, hc1, hc2⟩ := List.mem_flatten.1 hu
    exact h1 c (List.mem_of_mem_drop hc1) u hc2
  · rw [hcells]; simp only [List.length_append]; omega
  · -- the cells behind it
    generalize hDe : (css.drop (j + 1)).flatten = D at *
    generalize hTe : (css.take j).flatten = T' at *
    generalize hce : css[j] = cj at *
    have hB : (cj ++ D).length = n + m * n := by rw [List.length_append, hcl, hdlen]
    have hsplit : cj ++ D = (cj ++ D).take (m * n) ++ (cj ++ D).drop (m * n) := (List.take_append_drop _ _).symm
    have hold : ((cj ++ D).take (m * n)).length = D.length := by rw [List.length_take, hB, hdlen]; omega
    have hlast : ((cj ++ D).drop (m * n)).length = n := by rw [List.length_drop, hB]; omega
    have hset : setAt r.cells (off + j * n) D = (pre ++ T') ++ (D ++ ((cj ++ D).drop (m * n) ++ post)) := by
      have hA : (pre ++ T').length = off + j * n := by rw [List.length_append, hpre, htlen]
      have hcells2 : r.cells = (pre ++ T') ++ ((cj ++ D).take (m * n) ++ ((cj ++ D).drop (m * n) ++ post)) := by
        rw [hcells, ← List.append_assoc ((cj ++ D).take (m * n)), List.take_append_drop]
      rw [hcells2, ← hA, setAt_mid _ _ _ _ hold]
    rw [hset]
    have e3 : j + (css.length - (j + 1)) = css.length - 1 := by omega
    rw [e3, pLen_s]
    refine ⟨some ⟨b, off, none⟩, css.length - 1, cap, ((css.length - 1 : Nat) : Int), (css.length : Int), rfl, rfl, rfl, by omega, by omega, by omega, ?_⟩
    simp only [Int.toNat_natCast]
    have e4 : css.length - (css.length - 1) = 1 := by omega
    have hcapne : ¬ cap = css.length - 1 := by omega
    rw [e4, if_neg hcapne]
    refine ⟨hz, hz1, _, 1, cap - (css.length - 1), rfl, .inr ⟨b, off + (css.length - 1) * n, _, by simp [addr_add], by omega, put_at, ?_, ?_⟩⟩
    · simp only [List.length_append, hpre, htlen, hdlen, hlast]
      have : (css.length - 1) * n = j * n + m * n := by rw [← Nat.add_mul]; congr 1; omega
      omega
    · have e5 : (List.replicate 1 z).flatten = z := by simp
      have hA2 : (pre ++ T' ++ D).length = off + (css.length - 1) * n := by
        simp only [List.length_append, hpre, htlen, hdlen]
        have : (css.length - 1) * n = j * n + m * n := by rw [← Nat.add_mul]; congr 1; omega
        omega
      simp only
      rw [e5]
      have e6 : (pre ++ T') ++ (D ++ ((cj ++ D).drop (m * n) ++ post)) = (pre ++ T' ++ D) ++ ((cj ++ D).drop (m * n) ++ post) := by simp
      rw [e6, ← hA2, setAt_mid _ _ _ _ (by rw [hlast, hz]), put_put]
      have e7 : (pre ++ T' ++ D) ++ (z ++ post) = pre ++ ((css.take j ++ css.drop (j + 1)).flatten ++ (z ++ post)) := by
        rw [List.flatten_append, hTe, hDe]; simp
      rw [e7]
      exact hR

/-- An element of a list of our own is taken out: what is read then. -/
theorem OSl.del {T ety n bytes j : Nat} {z : List Value} {Rel : (Addr → Option Value) → List Value → α → Prop} {O : Vw → List Nat → List Value → α → Prop} (ok : OOk w0 n Rel O) (hO : ∀ s s' f es y, O s f es y → f = [] ∧ O s' f es y) (hz : z.length = n) (hz1 : ∀ c, c ∈ z → c.oneCell' = true) (hn0 : 0 < n) {F : List Nat} {v : Value} {xs : List α}
    (h : OSl w0 n O σ F v xs) (hj : j < xs.length) {R : Value → Vw → Prop} (hR : ∀ v' σ', KeepsBut F σ σ' → RSl n Rel (Av.get w0 σ') v' (xs.take j ++ xs.drop (j + 1)) → R v' σ') : VDel P w0 T ety n bytes z v (.int .i64 (j : Nat)) (.int .i64 ((j : Int) + 1)) σ R := by
  obtain ⟨g1, g2, ⟨rfl, rfl, _⟩ | ⟨b, off, cap, r, pre, post, css, Fs, rfl, gc, g3, g4, g5, g6, g7, g8, g9, g10⟩⟩ := h
  · simp at hj
  · have each : ∀ (i : Nat) (c : List Value), css[i]? = some c → ∃ x f, xs[i]? = some x ∧ O σ f c x := fun i c hi => by
      have hlt : i < css.length := (List.getElem?_eq_some_iff.1 hi).1
      exact ⟨_, _, List.getElem?_eq_getElem (by omega), g10 i c _ _ hi (List.getElem?_eq_getElem (by omega)) (List.getElem?_eq_getElem (by omega))⟩
    have hn : ∀ c, c ∈ css → c.length = n := fun c hc => by obtain ⟨i, hi⟩ := List.getElem?_of_mem hc; obtain ⟨x, f, _, ho⟩ := each i c hi; exact ok.len _ _ _ _ ho
    have h1 : ∀ c, c ∈ css → ∀ u, u ∈ c → u.oneCell' = true := fun c hc => by obtain ⟨i, hi⟩ := List.getElem?_of_mem hc; obtain ⟨x, f, _, ho⟩ := each i c hi; exact ok.one _ _ _ _ ho
    rw [← g7]
    refine del_row hz hz1 g3 g4 g5 g6 hn h1 hn0 (by rw [g7]; exact gc) (by omega) (hR _ _ (KeepsBut.put (by rw [g9]; exact List.mem_cons_self)) ?_)
    have hlen : (xs.take j ++ xs.drop (j + 1)).length = css.length - 1 := by simp only [List.length_append, List.length_take, List.length_drop]; omega
    refine ⟨_, cap, by rw [hlen], by rw [hlen]; omega, fun i x hi => ?_⟩
    -- the cells of the element
    have hget : ∃ c f, (css.take j ++ css.drop (j + 1))[i]? = some c ∧ O σ f c x := by
      by_cases hij : i < j
      · rw [List.getElem?_append_left (by rw [List.length_take]; omega), List.getElem?_take_of_lt hij] at hi
        refine ⟨css[i]'(by omega), _, ?_, g10 i _ x _ (List.getElem?_eq_getElem (by omega)) hi (List.getElem?_eq_getElem (by omega))⟩
        rw [List.getElem?_append_left (by rw [List.length_take]; omega), List.getElem?_take_of_lt hij]
        exact List.getElem?_eq_getElem (by omega)
      · rw [List.getElem?_append_right (by rw [List.length_take]; omega), List.getElem?_drop, List.length_take, Nat.min_eq_left (by omega)] at hi
        have hlt : j + 1 + (i - j) < xs.length := (List.getElem?_eq_some_iff.1 hi).1
        refine ⟨css[j + 1 + (i - j)]'(by omega), _, ?_, g10 _ _ x _ (List.getElem?_eq_getElem (by omega)) hi (List.getElem?_eq_getElem (by omega))⟩
        rw [List.getElem?_append_right (by rw [List.length_take]; omega), List.getElem?_drop, List.length_take, Nat.min_eq_left (by omega)]
        exact List.getElem?_eq_getElem (by omega)
    obtain ⟨c, f, hci, ho⟩ := hget
    have hn' : ∀ c, c ∈ css.take j ++ css.drop (j + 1) → c.length = n := fun c hc => by
      rcases List.mem_append.1 hc with h | h
      · exact hn c (List.mem_of_mem_take h)
      · exact hn c (List.mem_of_mem_drop h)
    obtain ⟨rfl, ho'⟩ := hO σ (σ.put b { r with cells := pre ++ ((css.take j ++ css.drop (j + 1)).flatten ++ (z ++ post)) }) f c x ho
    refine ⟨_, c, rfl, ok.len _ _ _ _ ho, fun k hk => ?_, ok.rel _ _ _ _ ho'⟩
    rw [addr_add, get_row g3 put_at]
    simp only
    rw [List.getElem?_append_right (by omega), show off + (i * n + k) - pre.length = i * n + k by omega, List.getElem?_append_left, flat_get _ hn' i c hci k hk]
    have hil : i < (css.take j ++ css.drop (j + 1)).length := (List.getElem?_eq_some_iff.1 hci).1
    rw [flat_len _ hn']
    calc i * n + k < i * n + n := by omega
      _ = (i + 1) * n := by rw [Nat.add_mul, Nat.one_mul]
      _ ≤ (css.take j ++ css.drop (j + 1)).length * n := Nat.mul_le_mul_right n hil
end
end Go.Av

/- 'TreeAt': copies of trees by either hand; marks of trees that are results; the law. -/
set_option linter.unusedVariables false
set_option linter.unusedSimpArgs false
namespace Go.Proofs.Ytlbpnfhhoalenaa
open Go Go.Av

theorem none_at {σ s : Vw} (k : Keeps σ s) {i : Nat} (h : s i = none) : σ i = none := by
  cases hs : σ i with
  | none => rfl
  | some r => rw [k i r hs] at h; cases h
section
variable {w0 : World} {σ : Vw}

end
end Go.Proofs.Ytlbpnfhhoalenaa

/- Marks of marks. -/
set_option linter.unusedVariables false
set_option linter.unusedSimpArgs false
namespace Go.Proofs.Ytlbpnfhhoalenaa
open Go Go.Av

section
variable {w0 : World} {σ : Vw}

/-! ### Marks of marks -/
def cMk (m : Mk) : Nat := m.1.length + 1
noncomputable def mkMk (k : Nat) (m : Mk) : Mk := (mkTexts k m.1, decide (((k + m.1.length : Nat) : Int) % 3 = 0))
theorem markMarkS {F : List Nat} {v : Value} {xs : List Mk} {k : Nat} (h : OSl w0 2 (OMk w0) σ F v xs) (hk : k + sumBy cMk xs ≤ 1000000000000) {R : Value → Vw → Prop}
    (hR : ∀ σ', KeepsBut F σ σ' → OSl w0 2 (OMk w0) σ' F v (mkS mkMk cMk k xs) → R (.int .i64 ((k + sumBy cMk xs : Nat) : Int)) σ') : AC Try.prog w0 n_laws_markMarkS [v, .int .i64 (k : Nat)] σ R := by
  refine ac_laws_markMarkS ?_
  unfold vc_laws_markMarkS
  refine mark_loop (ok_mk w0) (mk := mkMk) (cnt := cMk) h hk ?_ hR
  intro j x k' s ys K hj hlen hkb hx hk' hO hyj hK
  simp only [vget, List.getD_cons_zero, List.getD_cons_succ]
  obtain ⟨b, o, f, c, A, C, r, hix, hb, hr, hc, hA, hOx, hbF, hf, hput⟩ := hO.focus (ok_mk w0) hyj
  obtain ⟨p, d⟩ := x
  obtain ⟨u, rfl, h4⟩ := hOx
  simp only [cMk] at hk' hK h4
  have hb1 : b ∉ f := fun e => (hf b e).2 rfl
  refine hix _ ?_
  refine field_load hb hr hc hA (y := u) rfl fun g hg => ?_
  rw [hg]
  refine markStringS h4 (by omega) fun s3 k3 o4' => ?_
  have hr3 := k3 b r hr hb1
  rw [pBin_rem (by omega), pBin_eq]
  refine hix _ ?_
  refine field_store hr3 hc hA (by show 1 < 2; omega) rfl ?_
  simp only [List.set_cons_zero, List.set_cons_succ]
  rw [pBin_add (by omega), pBin_add (by have := h.1; omega)]
  have kf : ∀ i, i ∈ f → i ∈ F := fun i hi => (hf i hi).1
  generalize hs4 : s3.put b _ = s4
  have hs4b : ∃ r2, s4 b = some r2 ∧ r2.cells = A ++ ([u, Value.bool (decide (((k' + p.length : Nat) : Int) % 3 = 0))] ++ C) := by rw [← hs4]; exact ⟨_, put_at, rfl⟩
  have hs4o : ∀ i, i ≠ b → s4 i = s3 i := fun i hi => by rw [← hs4]; simp [Vw.put, hi]
  clear hs4
  obtain ⟨r2, hr2, hc2⟩ := hs4b
  have o5 := o4'.frame (ok_str w0) (σ' := s4) fun i hi => hs4o i fun e => hb1 (e ▸ hi)
  have kb : KeepsBut F s s4 := fun i ri hri hiF => by
    rw [hs4o i fun e => hiF (e ▸ hbF)]
    exact k3 i ri hri fun e => hiF (kf i e)
  have := hK s4 kb (hput s4 _ (mkMk k' (p, d)) r2 hr2 hc2 ⟨u, rfl, o5⟩ fun i hi hne hif => ?_)
  · rw [show (k' + (p.length + 1) : Nat) = k' + p.length + 1 by omega] at this
    exact this
  · have dd := hO.dom (ok_mk w0) i hi
    rw [hs4o i hne]
    cases hs : s i with
    | none => exact absurd hs dd.2
    | some ri => exact k3 i ri hs hif
theorem heldMarkS {v : Value} {xs : List Mk} {k : Nat} (h : RSl 2 RMk (Av.get w0 σ) v (mkS mkMk cMk k xs)) (hk : k + sumBy cMk xs ≤ 1000000000000) {R : Value → Vw → Prop}
    (hR : ∀ σ', Keeps σ σ' → R (.int .i64 ((k + sumBy cMk xs : Nat) : Int)) σ') : AC Try.prog w0 n_laws_heldMarkS [v, .int .i64 (k : Nat)] σ R := by
  refine ac_laws_heldMarkS ?_
  unfold vc_laws_heldMarkS
  refine held_loop (n := 2) (Rel := RMk) (fun _ _ _ _ hl h => mono_mk hl h) (mk := mkMk) (cnt := cMk) h hk ?_ hR
  intro j x k' s K hj hkb hx hk' hrd hyj hK
  have hl := h.le
  rw [mkS_len] at hl
  obtain ⟨p, d⟩ := x
  simp only [cMk] at hk' hK
  simp only [vget, List.getD_cons_zero, List.getD_cons_succ]
  refine hrd.atf hyj 0 (by omega) fun es g h1 hg => ?_
  obtain ⟨u, rfl, h2⟩ := h1
  simp only [List.getElem?_cons_zero, List.getElem?_cons_succ, Option.some.injEq] at hg
  rw [← hg]
  have h2 : RSl 1 RS (Av.get w0 s) u (mkTexts k' p) := h2
  refine heldStringS h2 (by omega) fun s1 k1 => ?_
  rw [pBin_lt, pIf_d]
  refine ⟨fun h => by omega, fun _ => ?_⟩
  have hrd1 := hrd.mono k1.le fun es x => mono_mk k1.le
  refine hrd1.atf hyj 1 (by omega) fun es g h1 hg => ?_
  obtain ⟨u', rfl, _⟩ := h1
  simp only [List.getElem?_cons_zero, List.getElem?_cons_succ, Option.some.injEq] at hg
  rw [← hg, pBin_rem (by omega), pBin_eq, pBin_b (v := .bool false) (by kernel_rfl) (by simp [mkMk]), pIf_b]
  refine ⟨nofun, fun _ => ?_⟩
  rw [pBin_add (by omega), pBin_add (by omega)]
  have := hK s1 k1
  rw [show (k' + (p.length + 1) : Nat) = k' + p.length + 1 by omega] at this
  exact this

end
end Go.Proofs.Ytlbpnfhhoalenaa

/- Calls; marks of marks; the trail of a call by either hand; the law 'TrailOf'. -/
set_option linter.unusedVariables false
set_option linter.unusedSimpArgs false
namespace Go.Proofs.Ytlbpnfhhoalenaa
open Go Go.Av

/-- A call: its kind, its path, where to, a number, bytes. -/
abbrev Cl := Int × List ByteArray × List ByteArray × Int × ByteArray
abbrev i64r (n : Int) : Prop := -9223372036854775808 ≤ n ∧ n ≤ 9223372036854775807
def RCl (rd : Addr → Option Value) (es : List Value) (c : Cl) : Prop := ∃ u w, es = [.int .i64 c.1, u, w, .int .i64 c.2.2.2.1, .string c.2.2.2.2] ∧ RSl 1 RS rd u c.2.1 ∧ RSl 1 RS rd w c.2.2.1 ∧ i64r c.1 ∧ i64r c.2.2.2.1 ∧ c.2.2.2.2.size ≤ 9223372036854775807
section
variable {w0 : World} {σ : Vw}

theorem RCl.five {rd : Addr → Option Value} {es : List Value} {x : Cl} (h : RCl rd es x) {A : Prop} : pVal true 5 (.agg ⟨es⟩) A ↔ A := by
  obtain ⟨u, w, rfl, h2, h3, _⟩ := h; exact pVal_5 rfl h2.one h3.one rfl rfl
/-! ### When a call is one -/
/-! ### Lists of one mark or two, in a row of our own -/
theorem impl_cloneMarks {v : Value} {ms : List Mk} (h : RSl 2 RMk (Av.get w0 σ) v ms) (hl : ms.length ≤ 1000000000) (hp : ∀ m, m ∈ ms → m.1.length ≤ 1000000000) {R : Value → Vw → Prop}
    (hR : ∀ v' F σ', Keeps σ σ' → OAcc w0 t_impl_Mark 2 (OMk w0) σ' F v' ms → (∀ b, b ∈ F → σ b = none) → R v' σ') : AC Try.prog w0 n_impl_cloneMarks [v] σ R := by
  refine ac_impl_cloneMarks ?_
  unfold vc_impl_cloneMarks
  intro b h1 h2
  have kb : Keeps σ (σ.put b ⟨t_impl_Mark, [], 0, (0, 0)⟩) := Keeps.put h2
  have hb0 : ∀ i, i ∈ [b] → σ i = none := fun i hi => by rw [List.mem_singleton.1 hi]; exact h2
  rw [h.len]
  refine loop_rule (m := ms.length) (fun m l s => ∃ (j : Nat) (v' : Value) (F : List Nat), m + j = ms.length ∧ Keeps σ s ∧ OAcc w0 t_impl_Mark 2 (OMk w0) s F v' (ms.take j) ∧ (∀ i, i ∈ F → σ i = none) ∧ l = [v', v, .int .i64 (ms.length : Nat), .int .i64 (j : Nat)]) ?_
    ⟨0, _, [b], by omega, kb, OAcc.new h1, hb0, rfl⟩
  rintro m l s L ⟨j, v', F, hm, ks, ho, hF, rfl⟩ hL
  simp only [vget, List.getD_cons_zero, List.getD_cons_succ]
  have h' := h.mono ks.le fun es x => mono_mk ks.le
  rw [pBin_lt, pIf_d]
  refine ⟨fun hi => ?_, fun hi => ?_⟩
  · have hx := List.getElem?_eq_getElem (show j < ms.length by omega)
    generalize hxi : ms[j]'(by omega) = y at hx
    have hyl := hp y (List.mem_of_getElem? hx)
    refine h'.at hx fun g hg => ?_
    obtain ⟨u, hg, hu⟩ := hg
    simp only [expl, List.cons.injEq, and_true] at hg
    obtain ⟨g0, g1⟩ := hg
    rw [g0, g1, pVal_2 hu.one rfl]
    intro c h3 h4
    have kc : Keeps s (s.put c ⟨t_string, [], 0, (0, 0)⟩) := Keeps.put h4
    have hc0 : ∀ i, i ∈ [c] → s i = none := fun i hi => by rw [List.mem_singleton.1 hi]; exact h4
    refine (OAcc.new (w0 := w0) (σ := s) (ety := t_string) (n := 1) (O := OStr) h3).all (ok_str w0) hu kc.le (fun es y hy => ⟨rfl, hy⟩) (by simp; omega) (by omega) fun u' F1 s1 k1 o1 g1 => ?_
    rw [List.nil_append] at o1
    have K1 := k1.old kc hc0
    have hF1 := fresh_in kc hc0 g1
    rw [pVal1 (OSl.one' o1.osl), pVal1 rfl, pVal_2 (OSl.one' o1.osl) rfl]
    have ho1 := ho.frame (ok_mk w0) (K1.but_at fun b hb => (ho.dom (ok_mk w0) b hb).2)
    refine ho1.one (ok_mk w0) (f := F1) (y := y) ⟨u', rfl, o1.osl⟩ (fun i hi hi' => (ho.dom (ok_mk w0) i hi').2 (hF1 i hi)) (by rw [List.length_take]; omega) (by omega) fun v4 F4 s4 k4 o4 g4 => ?_
    rw [pBin_add (by omega)]
    have KS := ks.trans K1
    refine hL _ _ (m - 1) (by omega) ⟨j + 1, v4, F4, by omega, k4.old KS hF, ?_, fun i hi => ?_, rfl⟩
    · rw [List.take_add_one, hx]; exact o4
    · rcases g4 i hi with h | h | h
      · exact hF i h
      · exact none_at ks (hF1 i h)
      · exact none_at KS h
  · have e : j = ms.length := by omega
    subst e
    rw [List.take_length] at ho
    exact hR v' F s ks ho hF

abbrev OutM (w0 : World) (σ : Vw) (ms : List Mk) (R : Value → Vw → Prop) : Prop :=
  ∀ v F σ', Keeps σ σ' → OSl w0 2 (OMk w0) σ' F v ms → (∀ b, b ∈ F → σ b = none) → R v σ'

theorem marks_none {ety : Nat} {R : Value → Vw → Prop} (hR : OutM w0 σ [] R) : pNew w0 ety [] σ (fun n3 s4 => R (.slice (some (Addr.mk n3 0 none)) 0 0) s4) := fun b h1 h2 =>
  hR _ [b] _ (Keeps.put h2) (OAcc.new (ety := ety) h1).osl fun i hi => by rw [List.mem_singleton.1 hi]; exact h2

end

end Go.Proofs.Ytlbpnfhhoalenaa

/- A contract of the kit's, as one of ours. -/
set_option linter.unusedVariables false
set_option linter.unusedSimpArgs false
namespace Go.Av
open Go Go.RowKit

theorem Aft.below {w0 w w' : World} {σ : Vw} (h : Sat w0 σ w) (k : Below w.heap.size w w') : Aft w0 σ w σ w' := by
  refine ⟨⟨h.bel.trans (k.mono h.bel.size), fun b r hb => ?_⟩, k.size, fun b hb _ => k.block b hb, fun b r hb => .inl (by rw [hb]; simp)⟩
  obtain ⟨h1, cur, hc, h2⟩ := h.row b r hb
  exact ⟨h1, cur, (k.block b (h.lt hb)).trans hc, h2⟩

/-- What a call gives that leaves all that is there as it was. -/
theorem AC.of_calls {P : Program} {w0 : World} {f : FuncId} {args : List Value} {σ : Vw} {R : Value → Vw → Prop} (hf : ∃ fn, P.funcs[f]? = some fn ∧ (fn.name == "runtime.NumGoroutine") = false ∧ fn.body.isNone = false)
    (h : ∀ w, Sat w0 σ w → Calls P f args.toArray w fun e w' => ∃ v, e = .returned v ∧ R v σ ∧ Below w.heap.size w w') : AC P w0 f args σ R :=
  ⟨hf, fun w hw => (h w hw).mono fun e w' ⟨v, he, hR, hk⟩ => ⟨v, σ, he, hR, Aft.below hw hk⟩⟩
end Go.Av

/-
  DERIVED: THE SHELF's CONTRACTS AT THIS DUMP, IN PLAIN WORDS (tools/lay-plain.mjs out of 'TryShelf.lean', which tools/lay-shelf.mjs wrote): THE SAME DECLARATIONS UNDER THE SAME NAMES: 'import', 'namespace', 'open', 'def', 'theorem' AND NOTHING ELSE: no command of the shelf's: FOR A HAND-IN. Each laying: the table of numbers ('.._ren') and one theorem, a field a fact of the dump's own or the kernel's comparison; each contract: ONE APPLICATION.
-/
namespace Go.Proofs
open Go.Shelf
def Try.lays129_ren : Go.Shelf.Ren := ⟨fun | 129 => 166 | n => n, fun | 53 => 172 | 3 => 3 | 4 => 4 | 46 => 154 | 5 => 5 | 9 => 9 | n => n, fun | n => n⟩
theorem Try.lays129 : Go.Proofs.Lays.n129 Try.prog Try.lays129_ren := {
  mixed := by kernel_rfl
  f129 := Try.func166.trans (congrArg some (by kernel_rfl))
  t3 := Try.underlying3
  a3 := Try.isAgg3
  z3 := Try.sizeOf3
  v3 := Try.zeroValue3
  t4 := Try.underlying4
  a4 := Try.isAgg4
  z4 := Try.sizeOf4
  v4 := Try.zeroValue4
  t5 := Try.underlying5
  a5 := Try.isAgg5
  z5 := Try.sizeOf5
  v5 := Try.zeroValue5
  t9 := Try.underlying9
  a9 := Try.isAgg9
  z9 := Try.sizeOf9
  v9 := Try.zeroValue9
  t46 := Try.underlying154
  a46 := Try.isAgg154
  z46 := Try.sizeOf154
  v46 := Try.zeroValue154
  t53 := Try.underlying172
  a53 := Try.isAgg172
  z53 := Try.sizeOf172
  v53 := Try.zeroValue172 }
/-- bits.Len64: "Len64 returns the minimum number of bits required to represent x; the result is 0 for x == 0.": IT RETURNS 'Lib.bitLen x'; the world is as it was. ('h0', 'h1': x is a uint64.) (LAID: no walk: one application.) -/
theorem Try.bits_Len64 (x : Int) (w : World) (h0 : 0 ≤ x) (h1 : x ≤ 18446744073709551615) :
    Calls Try.prog 166 #[.int .u64 x] w fun e w' => e = .returned (.int .i64 (Lib.bitLen x.toNat)) ∧ w' = w := Any.bits_Len64 Try.lays129 x w h0 h1
end Go.Proofs

/- Marks: what is under, what is marked, by either hand; the sort of marks of which only the last stands wrong. -/
set_option linter.unusedVariables false
set_option linter.unusedSimpArgs false
namespace Go.Proofs.Ytlbpnfhhoalenaa
open Go Go.Av

def markedS (l : List Mk) (p : List ByteArray) : Bool := l.any fun x => decide (x.1 = p) || (x.2 && within p x.1)
theorem markedS_eq : ∀ {l : List Mk} {p : List ByteArray}, markedS l p = markedB l p
  | [], _ => rfl
  | x :: r, p => by
    have := markedS_eq (l := r) (p := p)
    simp only [markedS, markedB, underB] at this
    simp only [markedS, markedB, underB, List.any_cons, this]
    cases decide (x.1 = p) <;> cases (x.2 && within p x.1) <;> simp
theorem markedS_take {ms : List Mk} {p : List ByteArray} {j : Nat} {x : Mk} (h : ms[j]? = some x) : markedS (ms.take (j + 1)) p = (markedS (ms.take j) p || (decide (x.1 = p) || (x.2 && within p x.1))) := by
  rw [List.take_add_one, h]
  simp [markedS, List.any_append]
theorem markedS_hit {ms : List Mk} {p : List ByteArray} {j : Nat} {x : Mk} (h : ms[j]? = some x) (h1 : (decide (x.1 = p) || (x.2 && within p x.1)) = true) : markedS ms p = true := by
  simp only [markedS, List.any_eq_true]
  exact ⟨x, List.mem_of_getElem? h, h1⟩
theorem rok_mk : ROk 2 RMk := ⟨fun rd rd' es x hl h => mono_mk hl h, fun rd es x h => by obtain ⟨v, rfl, _⟩ := h; rfl, fun rd es x h c hc => by
  obtain ⟨v, rfl, hv⟩ := h
  simp at hc
  rcases hc with rfl | rfl
  · exact hv.one
  · rfl⟩

section
variable {w0 : World} {σ : Vw}

theorem spec_l11Same {v v' : Value} {xs ys : List ByteArray} (h : RSl 1 RS (Av.get w0 σ) v xs) (h' : RSl 1 RS (Av.get w0 σ) v' ys) {R : Value → Vw → Prop} (hR : R (.bool (decide (xs = ys))) σ) : AC Try.prog w0 n_spec_l11Same [v, v'] σ R := by
  refine ac_spec_l11Same ?_
  unfold vc_spec_l11Same
  rw [h.len, h'.len, pBin_eq, pIf_d]
  refine ⟨fun e => spec_Within h h' ?_, fun e => ?_⟩
  · have : within xs ys = decide (xs = ys) := by
      rw [Bool.eq_iff_iff, within_iff, decide_eq_true_iff]
      constructor
      · intro hp; exact (hp.eq_of_length (by omega)).symm
      · intro he; rw [he]; exact List.prefix_refl _
    rw [this]; exact hR
  · rw [decide_eq_false fun e' => e (by rw [e'])] at hR; exact hR

theorem spec_l11Under {v v' : Value} {ms : List Mk} {p : List ByteArray} (h : RSl 2 RMk (Av.get w0 σ) v ms) (h' : RSl 1 RS (Av.get w0 σ) v' p) {R : Value → Vw → Prop} (hR : R (.bool (underB ms p)) σ) : AC Try.prog w0 n_spec_l11Under [v, v'] σ R := by
  refine ac_spec_l11Under ?_
  unfold vc_spec_l11Under
  have hl := h.le
  refine loop_rule (m := ms.length) (fun m l t => ∃ j, t = σ ∧ m + j = ms.length ∧ underB (ms.take j) p = false ∧ l = [v, v', .bool false, .int .i64 (j : Nat)]) ?_ ⟨0, rfl, by omega, rfl, rfl⟩
  rintro m l t L ⟨j, rfl, hm, ht, rfl⟩ hL
  simp only [vget, List.getD_cons_zero, List.getD_cons_succ]
  rw [h.len, pBin_lt, pIf_d]
  refine ⟨fun hj => ?_, fun hj => ?_⟩
  · have hx := List.getElem?_eq_getElem (show j < ms.length by omega)
    generalize ms[j] = x at hx
    have hstep := underB_take (p := p) hx
    have next : underB (ms.take (j + 1)) p = false → L [v, v', .bool false, .int .i64 ((j : Int) + 1)] t := fun hf => hL _ _ (m - 1) (by omega) ⟨j + 1, rfl, by omega, hf, rfl⟩
    refine RSl.fld h hx (by omega) fun g1 es hes he => ?_
    obtain ⟨u1, rfl, hu1⟩ := hes
    simp at he
    rw [← he, pIf_b]
    refine ⟨fun h2 => ?_, fun h2 => ?_⟩
    · refine RSl.fld h hx (by omega) fun g2 es hes he => ?_
      obtain ⟨u2, rfl, hu2⟩ := hes
      simp at he
      rw [← he]
      refine spec_Within h' hu2 (pIf_b.2 ⟨fun hw => ?_, fun hw => ?_⟩)
      · rw [under_hit hx h2 hw] at hR; exact hR
      · rw [pBin_add (by omega)]
        exact next (by rw [hstep, ht, hw]; simp)
    · rw [pBin_add (by omega)]
      exact next (by rw [hstep, ht, h2]; simp)
  · have hj' : j = ms.length := by omega
    subst hj'
    rw [List.take_length] at ht
    rw [ht] at hR; exact hR

theorem spec_l11Marked {v v' : Value} {ms : List Mk} {p : List ByteArray} (h : RSl 2 RMk (Av.get w0 σ) v ms) (h' : RSl 1 RS (Av.get w0 σ) v' p) {R : Value → Vw → Prop} (hR : R (.bool (markedB ms p)) σ) : AC Try.prog w0 n_spec_l11Marked [v, v'] σ R := by
  rw [← markedS_eq] at hR
  refine ac_spec_l11Marked ?_
  unfold vc_spec_l11Marked
  have hl := h.le
  refine loop_rule (m := ms.length) (fun m l t => ∃ j, t = σ ∧ m + j = ms.length ∧ markedS (ms.take j) p = false ∧ l = [v, v', .bool false, .int .i64 (j : Nat)]) ?_ ⟨0, rfl, by omega, rfl, rfl⟩
  rintro m l t L ⟨j, rfl, hm, ht, rfl⟩ hL
  simp only [vget, List.getD_cons_zero, List.getD_cons_succ]
  rw [h.len, pBin_lt, pIf_d]
  refine ⟨fun hj => ?_, fun hj => ?_⟩
  · have hx := List.getElem?_eq_getElem (show j < ms.length by omega)
    generalize ms[j] = x at hx
    have hstep := markedS_take (p := p) hx
    have next : markedS (ms.take (j + 1)) p = false → L [v, v', .bool false, .int .i64 ((j : Int) + 1)] t := fun hf => hL _ _ (m - 1) (by omega) ⟨j + 1, rfl, by omega, hf, rfl⟩
    have hit : (decide (x.1 = p) || (x.2 && within p x.1)) = true → R (.bool true) t := fun hh => by rw [markedS_hit hx hh] at hR; exact hR
    refine RSl.fld h hx (by omega) fun g1 es hes he => ?_
    obtain ⟨u1, rfl, hu1⟩ := hes
    simp at he
    rw [← he]
    refine spec_l11Same hu1 h' (pIf_b.2 ⟨fun hw => hit (by rw [hw]; rfl), fun hw => ?_⟩)
    refine RSl.fld h hx (by omega) fun g2 es hes he => ?_
    obtain ⟨u2, rfl, hu2⟩ := hes
    simp at he
    rw [← he, pIf_b]
    refine ⟨fun h2 => ?_, fun h2 => ?_⟩
    · refine RSl.fld h hx (by omega) fun g3 es hes he => ?_
      obtain ⟨u3, rfl, hu3⟩ := hes
      simp at he
      rw [← he]
      refine spec_Within h' hu3 (pIf_b.2 ⟨fun hw2 => hit (by rw [h2, hw2]; simp), fun hw2 => ?_⟩)
      rw [pBin_add (by omega)]
      exact next (by rw [hstep, ht, hw, hw2]; simp)
    · rw [pBin_add (by omega)]
      exact next (by rw [hstep, ht, hw, h2]; simp)
  · have hj' : j = ms.length := by omega
    subst hj'
    rw [List.take_length] at ht
    rw [ht] at hR; exact hR

theorem slices_Eq {v v' : Value} {xs ys : List ByteArray} (h : RSl 1 RS (Av.get w0 σ) v xs) (h' : RSl 1 RS (Av.get w0 σ) v' ys) {R : Value → Vw → Prop} (hR : R (.bool (decide (xs = ys))) σ) : AC Try.prog w0 n_slices_Equal_string_string [v, v'] σ R := by
  refine ac_slices_Equal_string_string ?_
  unfold vc_slices_Equal_string_string
  have hl := h.le
  rw [h.len, h'.len, pBin_ne, pIf_d]
  refine ⟨fun e => ?_, fun e => ?_⟩
  · rw [decide_eq_false fun e' => e (by rw [e'])] at hR; exact hR
  have hlen : xs.length = ys.length := by have := Decidable.not_not.1 e; omega
  rw [h.len]
  refine loop_rule (m := xs.length) (fun m l t => ∃ j, t = σ ∧ m + j = xs.length ∧ xs.take j = ys.take j ∧ l = [v, v', .bool false, .int .i64 (xs.length : Nat), .int .i64 (j : Nat)]) ?_ ⟨0, rfl, by omega, by simp, rfl⟩
  rintro m l t L ⟨j, rfl, hm, ht, rfl⟩ hL
  simp only [vget, List.getD_cons_zero, List.getD_cons_succ]
  rw [pBin_lt, pIf_d]
  refine ⟨fun hj => ?_, fun hj => ?_⟩
  · have hx := List.getElem?_eq_getElem (show j < xs.length by omega)
    have hy := List.getElem?_eq_getElem (show j < ys.length by omega)
    refine RSl.at1 h hx fun g hg _ => ?_
    refine RSl.at1 h' hy fun g' hg' _ => ?_
    rw [hg, hg', pBin_sne, pIf_d]
    refine ⟨fun hne => ?_, fun heq => ?_⟩
    · rw [decide_eq_false fun e' => hne (by subst e'; rfl)] at hR; exact hR
    · rw [pBin_add (by omega)]
      exact hL _ _ (m - 1) (by omega) ⟨j + 1, rfl, by omega, by rw [List.take_add_one, List.take_add_one, hx, hy, ht, Decidable.not_not.1 heq], rfl⟩
  · have hj' : j = xs.length := by omega
    subst hj'
    rw [List.take_length, List.take_of_length_le (by omega)] at ht
    rw [decide_eq_true ht] at hR; exact hR

theorem marked_c1 {es : List Value} {x : Mk} {b : Nat} {r : Row} {u : Value} {p : List ByteArray} (h : RMk (Av.get w0 σ) es x) (hb : w0.heap.size ≤ b) (hr : σ b = some r) (hc : r.cells = [u]) (hu : RSl 1 RS (Av.get w0 σ) u p) {R : Value → Vw → Prop} (hR : R (.bool (decide (x.1 = p))) σ) :
    AC Try.prog w0 n_impl_marked_c1 [.agg ⟨es⟩, .pointer (some (Addr.mk b 0 none))] σ R := by
  obtain ⟨v, rfl, hv⟩ := h
  refine ac_impl_marked_c1 ?_
  unfold vc_impl_marked_c1
  rw [pVal_2 hv.one rfl]
  simp only [cellOf_agg, List.getD_cons_zero, List.getD_cons_succ]
  refine ⟨⟨b, 0, none⟩, fun _ => u, rfl, fun i hi => ?_, slices_Eq hv hu hR⟩
  have e : i = 0 := by omega
  subst e
  rw [addr_add, get_row hb hr, hc]; rfl

theorem impl_marked {v u : Value} {ms : List Mk} {p : List ByteArray} (h : RSl 2 RMk (Av.get w0 σ) v ms) (hu : RSl 1 RS (Av.get w0 σ) u p) {R : Value → Vw → Prop} (hR : ∀ σ', Keeps σ σ' → R (.bool (markedB ms p)) σ') : AC Try.prog w0 n_impl_marked [v, u] σ R := by
  refine ac_impl_marked ?_
  unfold vc_impl_marked
  rw [pVal1 hu.one]
  intro b h1 h2
  have kb : Keeps σ (σ.put b ⟨29, [u], 1, (0, 0)⟩) := Keeps.put h2
  have hl := h.le
  have h := h.mono kb.le fun es x => mono_mk kb.le
  have hu := hu.mono kb.le fun _ _ h => h
  have hR := hR _ kb
  refine ⟨⟨b, 0, none⟩, fun _ => u, rfl, fun i hi => ?_, ?_⟩
  · have e : i = 0 := by omega
    subst e
    rw [addr_add, get_row h1 put_at]; rfl
  refine impl_under h hu (pIf_b.2 ⟨fun e => ?_, fun e => ?_⟩)
  · have : markedB ms p = true := by simp [markedB, e]
    rw [this] at hR; exact hR
  have em : markedB ms p = ms.any fun x => decide (x.1 = p) := by simp [markedB, e]
  rw [em] at hR
  clear e em
  refine ac_slices_ContainsFunc_impl_Mark_impl_Mark ?_
  unfold vc_slices_ContainsFunc_impl_Mark_impl_Mark
  refine ac_slices_IndexFunc_impl_Mark_impl_Mark ?_
  unfold vc_slices_IndexFunc_impl_Mark_impl_Mark
  rw [h.len]
  refine loop_rule (m := ms.length) (fun m l t => ∃ j : Nat, t = σ.put b ⟨29, [u], 1, (0, 0)⟩ ∧ m + j = ms.length ∧ (ms.take j).any (fun x => decide (x.1 = p)) = false ∧ l = [v, .func (.func n_impl_marked_c1) ⟨[]⟩ ⟨[.pointer (some (Addr.mk b 0 none))]⟩, .int .i64 0, .int .i64 (ms.length : Nat), .int .i64 (j : Nat)]) ?_ ⟨0, rfl, by omega, rfl, rfl⟩
  rintro m l t L ⟨j, rfl, hm, ht, rfl⟩ hL
  simp only [vget, List.getD_cons_zero, List.getD_cons_succ]
  rw [pBin_lt, pIf_d]
  refine ⟨fun hj => ?_, fun hj => ?_⟩
  · have hx := List.getElem?_eq_getElem (show j < ms.length by omega)
    generalize ms[j] = x at hx
    refine h.at hx fun g hg => ?_
    simp only [expl] at hg
    refine ⟨n_impl_marked_c1, [], _, rfl, ?_⟩
    simp only [List.nil_append, List.cons_append]
    refine marked_c1 hg h1 put_at rfl hu (pIf_b.2 ⟨fun e => ?_, fun e => ?_⟩)
    · show pBin Try.prog 3 .geq (.int .i64 (j : Nat)) (.int .i64 0) _
      rw [pBin_ge, decide_eq_true (by omega)]
      have : (ms.any fun x => decide (x.1 = p)) = true := List.any_eq_true.2 ⟨x, List.mem_of_getElem? hx, e⟩
      rw [this] at hR; exact hR
    · rw [pBin_add (by omega)]
      refine hL _ _ (m - 1) (by omega) ⟨j + 1, rfl, by omega, ?_, rfl⟩
      rw [List.take_add_one, hx]
      simp only [Option.toList_some, List.any_append, ht, List.any_cons, List.any_nil, e]; rfl
  · have hj' : j = ms.length := by omega
    subst hj'
    show pBin Try.prog 3 .geq (.int .i64 (-1)) (.int .i64 0) _
    rw [pBin_ge, decide_eq_false (by omega)]
    rw [List.take_length] at ht
    rw [ht] at hR; exact hR

/-! ### The sort -/
theorem add_c1 {es es' : List Value} {x y : Mk} (h : RMk (Av.get w0 σ) es x) (h' : RMk (Av.get w0 σ) es' y) {R : Value → Vw → Prop} (hR : ∀ c : Int, (c < 0 ↔ lexLt x.1 y.1 = true) → R (.int .i64 c) σ) : AC Try.prog w0 n_impl_add_c1 [.agg ⟨es⟩, .agg ⟨es'⟩] σ R := by
  obtain ⟨v, rfl, hv⟩ := h
  obtain ⟨v', rfl, hv'⟩ := h'
  refine ac_impl_add_c1 ?_
  unfold vc_impl_add_c1
  rw [pVal_2 hv.one rfl, pVal_2 hv'.one rfl]
  simp only [cellOf_agg, List.getD_cons_zero, List.getD_cons_succ]
  exact Compare hv hv' hR

theorem store_mk {rd0 : Addr → Option Value} {F : List Nat} {v : Value} {xs : List Mk} (h : OSl w0 2 (OB RMk rd0) σ F v xs) {j : Nat} {x y : Mk} {a b : Value} (hj : xs[j]? = some x) (hy : RMk rd0 [a, b] y) {K : Vw → Prop}
    (hK : ∀ σ', KeepsBut F σ σ' → OSl w0 2 (OB RMk rd0) σ' F v (xs.set j y) → K σ') : pIndexAddr 2 v (.int .i64 j) fun p => pVal true 2 (.agg ⟨[a, b]⟩) (pStore p [a, b] σ K) := by
  have h1 := rok_mk.one _ _ _ hy
  have e : (fun p => pVal true 2 (.agg ⟨[a, b]⟩) (pStore p [a, b] σ K)) = fun p => pStore p [a, b] σ K := by
    funext p
    rw [pVal_2 (h1 a (by simp)) (h1 b (by simp))]
  rw [e]
  exact h.store (ok_base rok_mk w0 rd0) hj (fun f c σ' ho => ⟨ho.1, hy⟩) rfl hK

def dn (P : List Mk) (e : Mk) (Q : List Mk) (j : Nat) : List Mk := P.take j ++ e :: (P.drop j ++ Q)
theorem dn_at {P Q : List Mk} {e : Mk} {j : Nat} (h : j ≤ P.length) : (dn P e Q j)[j]? = some e := by
  have : (P.take j).length = j := by rw [List.length_take]; omega
  rw [dn, List.getElem?_append_right (by omega), this, Nat.sub_self]; rfl
theorem dn_before {P Q : List Mk} {e x : Mk} {j : Nat} (hx : P[j]? = some x) : (dn P e Q (j + 1))[j]? = some x := by
  have hj := (List.getElem?_eq_some_iff.1 hx).1
  rw [dn, List.getElem?_append_left (by rw [List.length_take]; omega), List.getElem?_take_of_lt (by omega)]; exact hx
theorem dn_swap {P Q : List Mk} {e x : Mk} {j : Nat} (hx : P[j]? = some x) : ((dn P e Q (j + 1)).set (j + 1) x).set j e = dn P e Q j := by
  obtain ⟨hj, hx'⟩ := List.getElem?_eq_some_iff.1 hx
  have hl : (P.take j).length = j := by rw [List.length_take]; omega
  have h1 : P.take (j + 1) = P.take j ++ [x] := by rw [List.take_add_one, hx]; rfl
  have h2 : P.drop j = x :: P.drop (j + 1) := by rw [List.drop_eq_getElem_cons hj, hx']
  unfold dn
  rw [h1, h2, List.append_assoc, List.set_append_right _ _ (by omega), hl, show j + 1 - j = 1 by omega]
  rw [List.set_append_right _ _ (by omega), hl, Nat.sub_self]
  rfl

set_option maxHeartbeats 1000000 in
theorem ins_sort {σ0 : Vw} {F : List Nat} {v : Value} {ys : List Mk} {m : Mk} (ha : AscM ys) (hl : ys.length ≤ 1000) (h : OSl w0 2 (OB RMk (Av.get w0 σ0)) σ F v (ys ++ [m])) (k0 : Keeps σ0 σ) (hF : ∀ b, b ∈ F → σ0 b = none) {R : Value → Vw → Prop}
    (hR : ∀ σ', KeepsBut F σ σ' → OSl w0 2 (OB RMk (Av.get w0 σ0)) σ' F v (insF m ys) → R (.tuple ⟨[]⟩) σ') :
    AC Try.prog w0 n_slices_insertionSortCmpFunc_impl_Mark [v, .int .i64 0, .int .i64 ((ys.length + 1 : Nat) : Int), .func (.func n_impl_add_c1) ⟨[]⟩ ⟨[]⟩] σ R := by
  refine ac_slices_insertionSortCmpFunc_impl_Mark ?_
  unfold vc_slices_insertionSortCmpFunc_impl_Mark
  have okb := ok_base rok_mk w0 (Av.get w0 σ0)
  rw [pBin_add (by omega)]
  refine loop_rule (m := ys.length) (fun c l s => ∃ i : Nat, c + i = ys.length + 1 ∧ 1 ≤ i ∧ i ≤ ys.length + 1 ∧ KeepsBut F σ s ∧ OSl w0 2 (OB RMk (Av.get w0 σ0)) s F v (if i ≤ ys.length then ys ++ [m] else insF m ys) ∧ l = [v, .int .i64 0, .int .i64 ((ys.length + 1 : Nat) : Int), .func (.func n_impl_add_c1) ⟨[]⟩ ⟨[]⟩, .int .i64 (i : Nat)]) ?_ ⟨1, by omega, by omega, by omega, KeepsBut.refl _ _, ?_, rfl⟩
  rotate_left
  · cases ys with
    | nil => simpa [insF] using h
    | cons a r => simpa using h
  rintro c l s L ⟨i, hc, hi1, hi2, ks, ho, rfl⟩ hL
  simp only [vget, List.getD_cons_zero, List.getD_cons_succ]
  rw [pBin_lt, pIf_d]
  refine ⟨fun hi => ?_, fun hi => ?_⟩
  rotate_left
  · have e : i = ys.length + 1 := by omega
    subst e
    rw [if_neg (by omega)] at ho
    exact hR s ks ho
  have hiy : i ≤ ys.length := by omega
  rw [if_pos hiy] at ho
  -- the element that is moved down, what stands ahead of it, what behind
  obtain ⟨e, Q, hd, hend⟩ : ∃ (e : Mk) (Q : List Mk), ys ++ [m] = dn (ys.take i) e Q i ∧ ∀ j, j ≤ (ys.take i).length → (∀ x, x ∈ (ys.take i).take j → lexLt e.1 x.1 = false) → (∀ x, x ∈ (ys.take i).drop j → lexLt e.1 x.1 = true) → dn (ys.take i) e Q j = (if i + 1 ≤ ys.length then ys ++ [m] else insF m ys) := by
    have hti : (ys.take i).length = i := by rw [List.length_take]; omega
    by_cases hlt : i < ys.length
    · have hx := List.getElem?_eq_getElem hlt
      have e1 : ys ++ [m] = dn (ys.take i) ys[i] (ys.drop (i + 1) ++ [m]) i := by
        unfold dn
        rw [List.take_of_length_le (by omega), List.drop_of_length_le (by omega), List.nil_append]
        have := List.take_append_drop i ys
        rw [List.drop_eq_getElem_cons hlt] at this
        exact (congrArg (· ++ [m]) this).symm.trans (List.append_assoc _ _ _)
      refine ⟨ys[i], ys.drop (i + 1) ++ [m], e1, fun j hj h1 h2 => ?_⟩
      rw [if_pos (by omega), e1]
      -- nothing ahead of it is greater
      have : (ys.take i).drop j = [] := by
        refine List.eq_nil_iff_forall_not_mem.2 fun x hx => ?_
        obtain ⟨k, hk⟩ := List.getElem?_of_mem (List.mem_of_mem_drop hx)
        have hki : k < i := by have := (List.getElem?_eq_some_iff.1 hk).1; omega
        rw [List.getElem?_take_of_lt hki] at hk
        obtain ⟨k1, k2⟩ := List.getElem?_eq_some_iff.1 hk
        have h3 := List.pairwise_iff_getElem.1 ha k i k1 hlt hki
        rw [k2] at h3
        have h4 := lexLt_trans h3 (h2 x hx)
        rw [lexLt_irrefl] at h4; cases h4
      have hji : j = i := by
        have := congrArg List.length this
        rw [List.length_drop, hti] at this
        simp at this; omega
      rw [hji]
    · have hiy' : i = ys.length := by omega
      subst hiy'
      rw [List.take_length]
      refine ⟨m, [], by simp [dn], fun j hj h1 h2 => ?_⟩
      rw [if_neg (by omega), ins_at (by simpa using hj) h1 h2]
      simp [dn]
  rw [hd] at ho
  have haT : AscM (ys.take i) := ha.sublist (List.take_sublist _ _)
  have hTl : (ys.take i).length = i := by rw [List.length_take]; omega
  generalize ys.take i = T at *
  -- the end of the rounds within
  have fin : ∀ (j : Nat) (s' : Vw) (z : Value), j ≤ T.length → KeepsBut F σ s' → OSl w0 2 (OB RMk (Av.get w0 σ0)) s' F v (dn T e Q j) → (∀ x, x ∈ T.take j → lexLt e.1 x.1 = false) → (∀ x, x ∈ T.drop j → lexLt e.1 x.1 = true) →
      pBin Try.prog 3 .add (.int .i64 (i : Nat)) (.int .i64 1) (fun v37 => L [v, .int .i64 0, .int .i64 ((ys.length + 1 : Nat) : Int), .func (.func n_impl_add_c1) ⟨[]⟩ ⟨[]⟩, v37] s') := fun j s' z hj kb ho h1 h2 => by
    rw [pBin_add (by omega)]
    refine hL _ _ (c - 1) (by omega) ⟨i + 1, by omega, by omega, by omega, kb, ?_, rfl⟩
    rw [← hend j hj h1 h2]; exact ho
  refine loop_rule (m := T.length) (fun c l s' => ∃ j : Nat, c = j ∧ j ≤ T.length ∧ KeepsBut F σ s' ∧ OSl w0 2 (OB RMk (Av.get w0 σ0)) s' F v (dn T e Q j) ∧ (∀ x, x ∈ T.drop j → lexLt e.1 x.1 = true) ∧ l = [v, .int .i64 0, .int .i64 ((ys.length + 1 : Nat) : Int), .func (.func n_impl_add_c1) ⟨[]⟩ ⟨[]⟩, .int .i64 (i : Nat), .int .i64 (j : Nat)]) ?_
    ⟨T.length, rfl, Nat.le_refl _, ks, by rw [hTl]; exact ho, by simp, by rw [hTl]⟩
  rintro c' l' s' L' ⟨j, rfl, hj, ks', ho', hgt, rfl⟩ hL'
  simp only [vget, List.getD_cons_zero, List.getD_cons_succ]
  rw [pBin_gt, pIf_d]
  refine ⟨fun hpos => ?_, fun h0 => ?_⟩
  rotate_left
  · have e0 : c' = 0 := by omega
    subst e0
    exact fin 0 s' undef (by omega) ks' ho' (by simp) hgt
  obtain ⟨j, rfl⟩ : ∃ j, c' = j + 1 := ⟨c' - 1, by omega⟩
  have hx := List.getElem?_eq_getElem (show j < T.length by omega)
  generalize T[j]'(by omega) = x at hx
  have Ks := ks'.old k0 hF
  have hrel := ho'.rel okb
  have hbd := dn_before (e := e) (Q := Q) hx
  have hat := dn_at (P := T) (e := e) (Q := Q) hj
  refine hrel.at hat fun g hg => ?_
  simp only [expl] at hg
  rw [pBin_sub (by omega), show ((j + 1 : Nat) : Int) - 1 = (j : Nat) by omega]
  refine hrel.at hbd fun g' hg' => ?_
  simp only [expl] at hg'
  refine ⟨n_impl_add_c1, [], [], rfl, ?_⟩
  simp only [List.nil_append, List.append_nil]
  refine add_c1 (mono_mk Ks.le hg) (mono_mk Ks.le hg') fun q hq => ?_
  rw [pBin_lt, pIf_d]
  refine ⟨fun hneg => ?_, fun hno => ?_⟩
  · have hlt := hq.1 hneg
    rw [pBin_sub (by omega), pBin_sub (by omega), show ((j + 1 : Nat) : Int) - 1 = (j : Nat) by omega]
    refine hrel.at hbd fun g1 hg1 => ?_
    refine hrel.at hat fun g2 hg2 => ?_
    simp only [expl] at hg1 hg2
    refine store_mk ho' hat hg1 fun s1 k1 o1 => ?_
    refine store_mk o1 (x := x) (j := j) (by rw [List.getElem?_set_ne (by omega)]; exact hbd) hg2 fun s2 k2 o2 => ?_
    rw [dn_swap hx] at o2
    rw [pBin_sub (by omega), show ((j + 1 : Nat) : Int) - 1 = (j : Nat) by omega]
    refine hL' _ _ j rfl ⟨j, rfl, by omega, (ks'.trans k1).trans k2, o2, fun z hz => ?_, rfl⟩
    have : T.drop j = x :: T.drop (j + 1) := by
      obtain ⟨h1, h2⟩ := List.getElem?_eq_some_iff.1 hx
      rw [List.drop_eq_getElem_cons h1, h2]
    rw [this] at hz
    rcases List.mem_cons.1 hz with e1 | e1
    · rw [e1]; exact hlt
    · exact hgt z e1
  · refine fin (j + 1) s' undef hj ks' ho' (take_no haT hx ?_) hgt
    cases c : lexLt e.1 x.1 with
    | false => rfl
    | true => exact absurd (hq.2 c) hno

set_option maxHeartbeats 1000000 in
theorem SortFunc_mk {σ0 : Vw} {F : List Nat} {v : Value} {ys : List Mk} {m : Mk} (ha : AscM ys) (hl : ys.length ≤ 11) (h : OSl w0 2 (OB RMk (Av.get w0 σ0)) σ F v (ys ++ [m])) (k0 : Keeps σ0 σ) (hF : ∀ b, b ∈ F → σ0 b = none) {R : Value → Vw → Prop}
    (hR : ∀ σ', KeepsBut F σ σ' → OSl w0 2 (OB RMk (Av.get w0 σ0)) σ' F v (insF m ys) → R (.tuple ⟨[]⟩) σ') :
    AC Try.prog w0 n_slices_SortFunc_impl_Mark_impl_Mark [v, .func (.func n_impl_add_c1) ⟨[]⟩ ⟨[]⟩] σ R := by
  refine ac_slices_SortFunc_impl_Mark_impl_Mark ?_
  unfold vc_slices_SortFunc_impl_Mark_impl_Mark
  have hlen : (ys ++ [m]).length = ys.length + 1 := by simp
  rw [(h.rel (ok_base rok_mk w0 _)).len, hlen, pConv_u64 (by omega)]
  refine ac_math_bits_Len ?_
  unfold vc_math_bits_Len
  have hb : AC Try.prog w0 n_math_bits_Len64 [.int .u64 ((ys.length + 1 : Nat) : Int)] σ (fun v s => s = σ ∧ ∃ q, v = .int .i64 q) := by
    refine AC.of_calls is_math_bits_Len64 fun w hw => ?_
    refine (Try.bits_Len64 ((ys.length + 1 : Nat) : Int) w (by omega) (by omega)).mono ?_
    rintro e w' ⟨rfl, rfl⟩
    exact ⟨_, rfl, ⟨rfl, _, rfl⟩, Go.RowKit.Below.refl _ _⟩
  refine hb.mono ?_
  rintro v2 s2 ⟨rfl, q, rfl⟩
  refine ac_slices_pdqsortCmpFunc_impl_Mark ?_
  unfold vc_slices_pdqsortCmpFunc_impl_Mark
  refine loop_rule (m := 0) (fun c l s => c = 0 ∧ s = s2 ∧ l = [v, .int .i64 0, .int .i64 ((ys.length + 1 : Nat) : Int), .int .i64 q, .func (.func n_impl_add_c1) ⟨[]⟩ ⟨[]⟩, .bool true, .bool true]) ?_ ⟨rfl, rfl, rfl⟩
  rintro c l s L ⟨rfl, rfl, rfl⟩ hL
  simp only [vget, List.getD_cons_zero, List.getD_cons_succ]
  refine (pBin_sub (by omega)).2 (pBin_le.2 (pIf_d.2 ⟨fun _ => ?_, fun hno => ?_⟩))
  · exact ins_sort ha (by omega) h k0 hF hR
  · exfalso; omega
end
end Go.Proofs.Ytlbpnfhhoalenaa

/- Marks put in and made coarser by the reference's hand. -/
set_option linter.unusedVariables false
set_option linter.unusedSimpArgs false
namespace Go.Proofs.Ytlbpnfhhoalenaa
open Go Go.Av

section
variable {w0 : World} {σ : Vw}

theorem push_mk {rd0 : Addr → Option Value} {F : List Nat} {v : Value} {xs : List Mk} {y : Mk} {a b : Value} (h : OAcc w0 t_impl_Mark 2 (OB RMk rd0) σ F v xs) (hy : RMk rd0 [a, b] y) (hl : xs.length ≤ 100000) {K : Value → Vw → Prop}
    (hK : ∀ v' F' σ', KeepsBut F σ σ' → OAcc w0 t_impl_Mark 2 (OB RMk rd0) σ' F' v' (xs ++ [y]) → (∀ i, i ∈ F' → i ∈ F ∨ σ i = none) → K v' σ') :
    pVal true 2 (.agg ⟨[a, b]⟩) (allOne [a, b] ∧ pAppend w0 t_impl_Mark 2 32 v 1 [a, b] σ K) := by
  have h1 := rok_mk.one _ _ _ hy
  rw [pVal_2 (h1 a (by simp)) (h1 b (by simp))]
  refine h.one (ok_base rok_mk w0 rd0) (f := []) ⟨rfl, hy⟩ (fun i hi => by cases hi) (by omega) (by omega) fun v' F' σ' k o f => hK v' F' σ' k o fun i hi => ?_
  rcases f i hi with e | e | e
  · exact .inl e
  · cases e
  · exact .inr e
theorem rebase {v : Value} {ms : List Mk} (h : RSl 2 RMk (Av.get w0 σ) v ms) : RSl 2 (RB RMk (Av.get w0 σ)) (Av.get w0 σ) v ms := h.imp fun es x hx => hx

/-- What is still to come of a list into which the mark is put. -/
def tlP (m : Mk) (done : Bool) (l : List Mk) : List Mk := if done = true then l.filter (keepM m) else insF m (l.filter (keepM m))
theorem tlP_skip {m x : Mk} {d : Bool} {l : List Mk} (h : keepM m x = false) : tlP m d (x :: l) = tlP m d l := by simp [tlP, List.filter_cons, h]
theorem tlP_here {m x : Mk} {l : List Mk} (h : keepM m x = true) (hl : lexLt m.1 x.1 = true) : tlP m false (x :: l) = m :: x :: tlP m true l := by simp [tlP, List.filter_cons, h, insF, hl]
theorem tlP_far {m x : Mk} {l : List Mk} (h : keepM m x = true) (hl : lexLt m.1 x.1 = false) : tlP m false (x :: l) = x :: tlP m false l := by simp [tlP, List.filter_cons, h, insF, hl]
theorem tlP_done {m x : Mk} {l : List Mk} (h : keepM m x = true) : tlP m true (x :: l) = x :: tlP m true l := by simp [tlP, List.filter_cons, h]

set_option maxHeartbeats 4000000 in
theorem spec_l11Put {v u : Value} {ms : List Mk} {p : List ByteArray} {b : Bool} (h : RSl 2 RMk (Av.get w0 σ) v ms) (hu : RSl 1 RS (Av.get w0 σ) u p) (hl : ms.length ≤ 10000) {R : Value → Vw → Prop}
    (hR : ∀ v' σ', Keeps σ σ' → RSl 2 RMk (Av.get w0 σ') v' (putM ms (p, b)) → R v' σ') : AC Try.prog w0 n_spec_l11Put [v, .agg ⟨[u, .bool b]⟩] σ R := by
  refine ac_spec_l11Put ?_
  unfold vc_spec_l11Put
  rw [pVal_2 hu.one rfl]
  simp only [cellOf_agg, List.getD_cons_zero, List.getD_cons_succ]
  have same : (underB ms p || (!b && markedB ms p)) = true → R v σ := fun hc => hR _ _ (Keeps.refl _) (by rw [putM, if_pos hc]; exact h)
  refine spec_l11Under h hu (pIf_b.2 ⟨fun e => same (by rw [e]; rfl), fun hun => ?_⟩)
  have hput : ¬ (underB ms p || (!b && markedB ms p)) = true → ∀ v' σ', Keeps σ σ' → RSl 2 RMk (Av.get w0 σ') v' (tlP (p, b) false ms) → R v' σ' := fun hc v' σ' k hv => hR v' σ' k (by rw [putM, if_neg hc]; exact hv)
  have hTl : (tlP (p, b) false ms).length ≤ ms.length + 1 := by simp only [tlP]; rw [if_neg (by simp), ins_len]; have := List.length_filter_le (keepM (p, b)) ms; omega
  generalize hT : tlP (p, b) false ms = T at *
  have hB := rebase h
  have okb := ok_base rok_mk w0 (Av.get w0 σ)
  rw [pUn_not, pIf_b]
  refine ⟨fun hsub => spec_l11Marked h hu (pIf_b.2 ⟨fun e => same (by rw [e, hsub]; simp), fun hma => ?_⟩), fun hsub => ?_⟩
  case' refine_1 => have hR := hput (by rw [hun, hma]; simp)
  case' refine_2 => have hR := hput (by rw [hun, hsub]; simp)
  all_goals
    intro bk h1 h2
    have kb : Keeps σ (σ.put bk ⟨t_impl_Mark, [], 0, (0, 0)⟩) := Keeps.put h2
    have hb0 : ∀ i, i ∈ [bk] → σ i = none := fun i hi => by rw [List.mem_singleton.1 hi]; exact h2
    refine loop_rule (m := ms.length) (fun m l s => ∃ (j : Nat) (v' : Value) (F : List Nat) (done : Bool) (out : List Mk), m + j = ms.length ∧ Keeps σ s ∧ OAcc w0 t_impl_Mark 2 (OB RMk (Av.get w0 σ)) s F v' out ∧ (∀ i, i ∈ F → σ i = none) ∧
        out ++ tlP (p, b) done (ms.drop j) = T ∧ l = [v, v', .bool done, .int .i64 (j : Nat), u, .bool b]) ?_
      ⟨0, _, [bk], false, [], by omega, kb, OAcc.new h1, hb0, by simpa using hT, rfl⟩
    rintro m l s L ⟨j, v', F, done, out, hm, ks, ho, hF, hout, rfl⟩ hL
    simp only [vget, List.getD_cons_zero, List.getD_cons_succ]
    have hs := hB.mono ks.le fun _ _ h => h
    have hus := hu.mono ks.le fun _ _ h => h
    have hme : RMk (Av.get w0 σ) [u, .bool b] (p, b) := ⟨u, rfl, hu⟩
    have hol : out.length ≤ 10001 := by
      have := congrArg List.length hout
      simp only [List.length_append] at this; omega
    have olds : ∀ {F' : List Nat}, (∀ i, i ∈ F' → i ∈ F ∨ s i = none) → ∀ i, i ∈ F' → σ i = none := fun f i hi => by
      rcases f i hi with e | e
      · exact hF i e
      · exact none_at ks e
    rw [hs.len, pBin_lt, pIf_d]
    refine ⟨fun hi => ?_, fun hi => ?_⟩
    · have hx := List.getElem?_eq_getElem (show j < ms.length by omega)
      have hdrop : ms.drop j = ms[j]'(by omega) :: ms.drop (j + 1) := List.drop_eq_getElem_cons (by omega)
      generalize ms[j]'(by omega) = x at hx hdrop
      rw [hdrop] at hout
      refine hs.at hx fun g hg => ?_
      simp only [expl] at hg
      have hg : RMk (Av.get w0 σ) [g 0, g 1] x := hg
      have g1 := rok_mk.one _ _ _ hg
      rw [pVal_2 (g1 _ (by simp)) (g1 _ (by simp))]
      have hgp : RSl 1 RS (Av.get w0 s) (g 0) x.1 := by
        obtain ⟨u1, hu1, hv⟩ := hg
        simp only [List.cons.injEq, and_true] at hu1
        rw [hu1.1]; exact hv.mono ks.le fun _ _ h => h
      have hkeep : ∀ (hk : keepM (p, b) x = true), pUn .not (.bool done) (fun v17 => pIf v17 (AC Try.prog w0 n_spec_l11Less [u, g 0] s (fun v18 s19 => pIf v18 (pVal true 2 (.agg (⟨[u, .bool b]⟩)) ((allOne [u, .bool b]) ∧ (pAppend w0 t_impl_Mark 2 32 v' 1 [u, .bool b] s19 (fun v20 s21 => pVal true 2 (.agg (⟨[g 0, g 1]⟩)) ((allOne [g 0, g 1]) ∧ (pAppend w0 t_impl_Mark 2 32 v20 1 [g 0, g 1] s21 (fun v22 s23 => pBin Try.prog 3 .add (.int .i64 (j : Nat)) (.int .i64 1) (fun v24 => L [v, v22, .bool true, v24, u, .bool b] s23)))))))) (pVal true 2 (.agg (⟨[g 0, g 1]⟩)) ((allOne [g 0, g 1]) ∧ (pAppend w0 t_impl_Mark 2 32 v' 1 [g 0, g 1] s19 (fun v25 s26 => pBin Try.prog 3 .add (.int .i64 (j : Nat)) (.int .i64 1) (fun v27 => L [v, v25, .bool done, v27, u, .bool b] s26)))))))
          (pVal true 2 (.agg (⟨[g 0, g 1]⟩)) ((allOne [g 0, g 1]) ∧ (pAppend w0 t_impl_Mark 2 32 v' 1 [g 0, g 1] s (fun v28 s29 => pBin Try.prog 3 .add (.int .i64 (j : Nat)) (.int .i64 1) (fun v30 => L [v, v28, .bool done, v30, u, .bool b] s29)))))) := fun hk => by
        have app : ∀ (d : Bool), out ++ x :: tlP (p, b) d (ms.drop (j + 1)) = T → pVal true 2 (.agg (⟨[g 0, g 1]⟩)) ((allOne [g 0, g 1]) ∧ (pAppend w0 t_impl_Mark 2 32 v' 1 [g 0, g 1] s (fun v28 s29 => pBin Try.prog 3 .add (.int .i64 (j : Nat)) (.int .i64 1) (fun v30 => L [v, v28, .bool d, v30, u, .bool b] s29)))) := fun d hd => by
          refine push_mk ho hg (by omega) fun v2 F2 s2 k2 o2 f2 => ?_
          rw [pBin_add (by omega)]
          exact hL _ _ (m - 1) (by omega) ⟨j + 1, v2, F2, d, _, by omega, k2.old ks hF, o2, olds f2, by simpa using hd, rfl⟩
        rw [pUn_not, pIf_b]
        refine ⟨fun hd => ?_, fun hd => ?_⟩
        · have hd : done = false := by simpa using hd
          subst hd
          refine spec_Less hus hgp (pIf_b.2 ⟨fun hlt => ?_, fun hlt => ?_⟩)
          · rw [tlP_here hk hlt] at hout
            refine push_mk ho hme (by omega) fun v2 F2 s2 k2 o2 f2 => ?_
            refine push_mk o2 hg (by simp; omega) fun v3 F3 s3 k3 o3 f3 => ?_
            rw [pBin_add (by omega)]
            have K2 := k2.old ks hF
            refine hL _ _ (m - 1) (by omega) ⟨j + 1, v3, F3, true, _, by omega, k3.old K2 (olds f2), o3, fun i hi => ?_, by simpa using hout, rfl⟩
            rcases f3 i hi with e | e
            · exact olds f2 i e
            · exact none_at K2 e
          · rw [tlP_far hk hlt] at hout
            exact app false hout
        · have hd : done = true := by simpa using hd
          subst hd
          rw [tlP_done hk] at hout
          exact app true hout
      rw [pIf_b]
      refine ⟨fun hb => ?_, fun hb => hkeep (by simp [keepM, hb])⟩
      refine spec_Within hgp hus (pIf_b.2 ⟨fun hw => ?_, fun hw => hkeep (by simp [keepM, hw])⟩)
      rw [pBin_add (by omega)]
      exact hL _ _ (m - 1) (by omega) ⟨j + 1, v', F, done, out, by omega, ks, ho, hF, by rw [tlP_skip (by simp [keepM, hb, hw])] at hout; exact hout, rfl⟩
    · have e : j = ms.length := by omega
      subst e
      rw [List.drop_length] at hout
      show pUn .not (.bool done) _
      rw [pUn_not, pIf_b]
      refine ⟨fun hd => ?_, fun hd => ?_⟩
      · have hd : done = false := by simpa using hd
        subst hd
        refine push_mk ho hme (by omega) fun v2 F2 s2 k2 o2 f2 => ?_
        have K2 := k2.old ks hF
        refine hR _ _ K2 ?_
        rw [show tlP (p, b) false [] = [(p, b)] from rfl] at hout
        rw [hout] at o2
        exact (o2.osl.rel okb).unbase rok_mk K2.le
      · have hd : done = true := by simpa using hd
        subst hd
        refine hR _ _ ks ?_
        rw [show tlP (p, b) true [] = [] from rfl, List.append_nil] at hout
        rw [hout] at ho
        exact (ho.osl.rel okb).unbase rok_mk ks.le
end
end Go.Proofs.Ytlbpnfhhoalenaa

/- The trail to which a mark is added, by the reference's hand. -/
set_option linter.unusedVariables false
set_option linter.unusedSimpArgs false
namespace Go.Proofs.Ytlbpnfhhoalenaa
open Go Go.Av

/-- What an addition gives. -/
def AddR (ms : List Mk) (x : Mk) (r : List Mk) : Prop :=
  (trailOk ms = false ∧ r = []) ∨ (trailOk ms = true ∧ markOkB x = false ∧ r = ms) ∨ (trailOk ms = true ∧ markOkB x = true ∧ r.length ≤ 6 ∧ Lp (putM ms x) r)
theorem AddR.det {ms r r' : List Mk} {x : Mk} (h : AddR ms x r) (h' : AddR ms x r') : r = r' := by
  rcases h with ⟨h1, h2⟩ | ⟨h1, h2, h3⟩ | ⟨h1, h2, _, h3⟩ <;> rcases h' with ⟨k1, k2⟩ | ⟨k1, k2, k3⟩ | ⟨k1, k2, _, k3⟩ <;> first | exact h3.det k3 | simp_all
theorem markOk_len {x : Mk} (h : markOkB x = true) : x.1.length ≤ 4 := by
  unfold markOkB at h
  split at h
  · rename_i e; rw [e]; simp
  · simp only [Bool.and_eq_true, inB, decide_eq_true_iff] at h
    omega
theorem coarse_small {ms : List Mk} {n : Nat} (hne : ms ≠ []) (h : ∀ m, m ∈ ms → m.1.length ≤ n) : ∀ m, m ∈ coarseM ms → m.1.length ≤ n := fun m hm => by
  rcases put_mem hm with e | e
  · rw [e]
    have := h _ (List.mem_of_getElem? (best_at hne))
    simp only [upM, List.length_take]; omega
  · exact h m e
theorem Lp.small {ms r : List Mk} {n : Nat} (hl : Lp ms r) (h : ∀ m, m ∈ ms → m.1.length ≤ n) : ∀ m, m ∈ r → m.1.length ≤ n := by
  induction hl with
  | stop _ => exact h
  | step k _ ih => exact ih (coarse_small (fun e => by simp [e] at k) h)
theorem AddR.small {ms r : List Mk} {x : Mk} (h : AddR ms x r) : r.length ≤ 6 ∧ ∀ m, m ∈ r → m.1.length ≤ 4 := by
  rcases h with ⟨h1, rfl⟩ | ⟨h1, h2, rfl⟩ | ⟨h1, h2, h3, h4⟩
  · simp
  · have := trail_TrP h1
    exact ⟨this.2.1, fun m hm => markOk_len (this.2.2 m hm)⟩
  · have := trail_TrP h1
    refine ⟨h3, h4.small fun m hm => ?_⟩
    rcases put_mem hm with e | e
    · rw [e]; exact markOk_len h2
    · exact markOk_len (this.2.2 m e)

section
variable {w0 : World} {σ : Vw}

theorem lenAt_some {l : List Mk} {j : Nat} {x : Mk} (h : l[j]? = some x) : lenAt l j = x.1.length := by simp [lenAt, h]
theorem bestTo_step {l : List Mk} {j : Nat} {x y : Mk} (hx : l[j]? = some x) (hy : l[bestTo l j]? = some y) : bestTo l (j + 1) = if y.1.length ≤ x.1.length then j else bestTo l j := by
  simp only [bestTo, lenAt_some hx, lenAt_some hy]

theorem spec_copyM {v : Value} {ms : List Mk} (h : RSl 2 RMk (Av.get w0 σ) v ms) (hl : ms.length ≤ 1000000) (hp : ∀ m, m ∈ ms → m.1.length ≤ 1000000) {R : Value → Vw → Prop}
    (hR : ∀ v' F σ', Keeps σ σ' → OAcc w0 t_impl_Mark 2 (OMk w0) σ' F v' ms → (∀ b, b ∈ F → σ b = none) → R v' σ') : AC Try.prog w0 n_spec_l11Copy [v] σ R := by
  refine ac_spec_l11Copy ?_
  unfold vc_spec_l11Copy
  intro b h1 h2
  have kb : Keeps σ (σ.put b ⟨t_impl_Mark, [], 0, (0, 0)⟩) := Keeps.put h2
  have hb0 : ∀ i, i ∈ [b] → σ i = none := fun i hi => by rw [List.mem_singleton.1 hi]; exact h2
  refine loop_rule (m := ms.length) (fun m l s => ∃ (j : Nat) (v' : Value) (F : List Nat), m + j = ms.length ∧ Keeps σ s ∧ OAcc w0 t_impl_Mark 2 (OMk w0) s F v' (ms.take j) ∧ (∀ i, i ∈ F → σ i = none) ∧ l = [v, v', .int .i64 (j : Nat)]) ?_
    ⟨0, _, [b], by omega, kb, OAcc.new h1, hb0, rfl⟩
  rintro m l s L ⟨j, v', F, hm, ks, ho, hF, rfl⟩ hL
  simp only [vget, List.getD_cons_zero, List.getD_cons_succ]
  have h' := h.mono ks.le fun es x => mono_mk ks.le
  rw [h'.len, pBin_lt, pIf_d]
  refine ⟨fun hi => ?_, fun hi => ?_⟩
  · have hx := List.getElem?_eq_getElem (show j < ms.length by omega)
    generalize hxi : ms[j]'(by omega) = y at hx
    have hyl := hp y (List.mem_of_getElem? hx)
    refine h'.atfp hx 0 (by omega) fun q0 es g hg0 hg => ?_
    obtain ⟨u, rfl, hu⟩ := hg0
    simp only [List.getElem?_cons_zero, List.getElem?_cons_succ, Option.some.injEq] at hg
    refine h'.atfp hx 1 (by omega) fun q1 es g' hg1 hg' => ?_
    obtain ⟨u', rfl, hu'⟩ := hg1
    simp only [List.getElem?_cons_zero, List.getElem?_cons_succ, Option.some.injEq] at hg'
    rw [← hg, ← hg']
    intro c h3 h4
    have kc : Keeps s (s.put c ⟨t_string, [], 0, (0, 0)⟩) := Keeps.put h4
    have hc0 : ∀ i, i ∈ [c] → s i = none := fun i hi => by rw [List.mem_singleton.1 hi]; exact h4
    refine ⟨kc.stay, kc.stay, ?_⟩
    refine (OAcc.new (w0 := w0) (σ := s) (ety := t_string) (n := 1) (O := OStr) h3).allX (ok_str w0) hu kc.le (fun es y hy => ⟨rfl, hy⟩) (by simp; omega) (by omega) fun u2 F1 s1 hext k1 o1 g1 => ⟨fun a g _ hc j hj => Ext.le hext _ _ (hc j hj), ?_⟩
    rw [List.nil_append] at o1
    have K1 := k1.old kc hc0
    have hF1 := fresh_in kc hc0 g1
    rw [pVal1 (OSl.one' o1.osl), pVal1 rfl, pVal_2 (OSl.one' o1.osl) rfl]
    have ho1 := ho.frame (ok_mk w0) (K1.but_at fun b hb => (ho.dom (ok_mk w0) b hb).2)
    refine ho1.one (ok_mk w0) (f := F1) (y := y) ⟨u2, rfl, o1.osl⟩ (fun i hi hi' => (ho.dom (ok_mk w0) i hi').2 (hF1 i hi)) (by rw [List.length_take]; omega) (by omega) fun v4 F4 s4 k4 o4 g4 => ?_
    rw [pBin_add (by omega)]
    have KS := ks.trans K1
    refine hL _ _ (m - 1) (by omega) ⟨j + 1, v4, F4, by omega, k4.old KS hF, ?_, fun i hi => ?_, by simp⟩
    · rw [List.take_add_one, hx]; exact o4
    · rcases g4 i hi with h | h | h
      · exact hF i h
      · exact none_at ks (hF1 i h)
      · exact none_at KS h
  · have e : j = ms.length := by omega
    subst e
    rw [List.take_length] at ho
    exact hR v' F s ks ho hF

set_option maxHeartbeats 1000000 in
theorem spec_l11Coarser {v : Value} {ms : List Mk} (h : RSl 2 RMk (Av.get w0 σ) v ms) (hl : ms.length ≤ 10000) (h2 : 2 ≤ ms.length) (ha : AscM ms) (hp : ∀ m, m ∈ ms → m.1.length ≤ 1000000) {R : Value → Vw → Prop}
    (hR : ∀ v' σ', Keeps σ σ' → RSl 2 RMk (Av.get w0 σ') v' (coarseM ms) → R v' σ') : AC Try.prog w0 n_spec_l11Coarser [v] σ R := by
  refine ac_spec_l11Coarser ?_
  unfold vc_spec_l11Coarser
  have hne : ms ≠ [] := fun e => by simp [e] at h2
  refine loop_rule (m := ms.length) (fun m l t => ∃ j, t = σ ∧ m + j = ms.length + 1 ∧ 1 ≤ j ∧ j ≤ ms.length ∧ l = [v, .int .i64 (bestTo ms j : Nat), .int .i64 (j : Nat)]) ?_ ⟨1, rfl, rfl, by omega, by omega, by rw [best_one]; rfl⟩
  rintro m l t L ⟨j, rfl, hm, hj1, hj2, rfl⟩ hL
  simp only [vget, List.getD_cons_zero, List.getD_cons_succ]
  rw [h.len, pBin_lt, pIf_d]
  have hbl := best_lt (k := j) hne (by omega)
  refine ⟨fun hj => ?_, fun hj => ?_⟩
  · have hx := List.getElem?_eq_getElem (show j < ms.length by omega)
    have hy := List.getElem?_eq_getElem hbl
    generalize ms[j]'(by omega) = x at hx
    generalize ms[bestTo ms j] = y at hy
    have hst := bestTo_step hx hy
    refine RSl.fld h hx (by omega) fun g1 es hes he => ?_
    obtain ⟨u1, rfl, hu1⟩ := hes
    simp at he
    rw [← he, hu1.len]
    refine RSl.fld h hy (by omega) fun g2 es hes he => ?_
    obtain ⟨u2, rfl, hu2⟩ := hes
    simp at he
    rw [← he, hu2.len, pBin_ge, pIf_d]
    refine ⟨fun hge => ?_, fun hlt => ?_⟩
    · rw [pBin_add (by omega)]
      refine hL _ _ (m - 1) (by omega) ⟨j + 1, rfl, by omega, by omega, by omega, ?_⟩
      rw [hst, if_pos (by omega)]; rfl
    · rw [pBin_add (by omega)]
      refine hL _ _ (m - 1) (by omega) ⟨j + 1, rfl, by omega, by omega, by omega, ?_⟩
      rw [hst, if_neg (by omega)]; rfl
  · have e : j = ms.length := by omega
    subst e
    have hb := best_at hne
    have hpos := best_pos ha h2
    have hpl := hp _ (List.mem_of_getElem? hb)
    refine RSl.fld h hb (by omega) fun g1 es hes he => ?_
    obtain ⟨u1, rfl, hu1⟩ := hes
    simp at he
    rw [← he]
    intro c h3 h4
    have kc : Keeps t (t.put c ⟨t_string, [], 0, (0, 0)⟩) := Keeps.put h4
    have hc0 : ∀ i, i ∈ [c] → t i = none := fun i hi => by rw [List.mem_singleton.1 hi]; exact h4
    rw [hu1.len, pBin_sub (by omega), show (((bestM ms).1.length : Nat) : Int) - 1 = (((bestM ms).1.length - 1 : Nat) : Int) by omega]
    refine RSl.take hu1 (by omega) fun v' hv' => ?_
    refine (OAcc.new (w0 := w0) (σ := t) (ety := t_string) (n := 1) (O := OStr) h3).all (ok_str w0) hv' kc.le (fun es y hy => ⟨rfl, hy⟩) (by simp; omega) (by omega) fun u' F1 s1 k1 o1 g1 => ?_
    rw [List.nil_append] at o1
    have K1 := k1.old kc hc0
    rw [pVal1 (OSl.one' o1.osl), pVal1 rfl]
    exact spec_l11Put (h.mono K1.le fun es x => mono_mk K1.le) (o1.osl.rel (ok_str w0)) hl fun v2 s2 k2 r2 => hR v2 s2 (K1.trans k2) r2

theorem spec_TrailAdd {v : Value} {ms : List Mk} {es : List Value} {x : Mk} (h : RSl 2 RMk (Av.get w0 σ) v ms) (hx : RMk (Av.get w0 σ) es x) {R : Value → Vw → Prop}
    (hR : ∀ r, AddR ms x r → OutM w0 σ r R) : AC Try.prog w0 n_spec_TrailAdd [v, .agg ⟨es⟩] σ R := by
  refine ac_spec_TrailAdd ?_
  unfold vc_spec_TrailAdd
  have hx0 := hx
  obtain ⟨u, rfl, hu⟩ := hx
  rw [pVal_2 hu.one rfl]
  simp only [cellOf_agg, List.getD_cons_zero, List.getD_cons_succ]
  refine spec_TrailOk h ?_
  rw [pUn_not, pIf_b]
  refine ⟨fun e => marks_none (hR [] (.inl ⟨by simpa using e, rfl⟩)), fun e => ?_⟩
  have hok : trailOk ms = true := by simpa using e
  obtain ⟨ht, hl, hmk⟩ := trail_TrP hok
  refine spec_copyM h (by omega) (fun m hm => by have := markOk_len (hmk m hm); omega) fun v1 F1 s1 k1 o1 f1 => ?_
  have r1 := o1.osl.rel (ok_mk w0)
  refine spec_MarkOk (mono_mk k1.le hx0) ?_
  rw [pUn_not, pIf_b]
  refine ⟨fun e => hR ms (.inr (.inl ⟨hok, by simpa using e, rfl⟩)) _ _ _ k1 o1.osl f1, fun e => ?_⟩
  have hme : markOkB x = true := by simpa using e
  have hxl := markOk_len hme
  refine spec_l11Put (p := x.1) (b := x.2) r1 (hu.mono k1.le fun _ _ h => h) (by omega) fun v2 s2 k2 r2 => ?_
  have hpl := put_len (l := ms) (m := x)
  refine loop_rule (m := sumP (putM ms x)) (fun c l s => ∃ (v' : Value) (L : List Mk), sumP L ≤ c ∧ Keeps σ s ∧ TrP L ∧ L.length ≤ 10000 ∧ (∀ m, m ∈ L → m.1.length ≤ 4) ∧ (∀ r, Lp L r → Lp (putM ms x) r) ∧ RSl 2 RMk (Av.get w0 s) v' L ∧ l = [v']) ?_
    ⟨v2, _, Nat.le_refl _, k1.trans k2, ht.put, by omega, fun m hm => by
      rcases put_mem hm with e | e
      · rw [e]; exact hxl
      · exact markOk_len (hmk m e), fun r hr => hr, r2, rfl⟩
  rintro c l s L' ⟨v', L, hc, ks, htL, hlL, hpL, hst, hr, rfl⟩ hL
  simp only [vget, List.getD_cons_zero, List.getD_cons_succ]
  rw [hr.len, pBin_gt, pIf_d]
  refine ⟨fun h6 => ?_, fun h6 => ?_⟩
  · have hlt := coarse_sum htL (by omega)
    have hne : L ≠ [] := fun e => by simp [e] at h6
    refine spec_l11Coarser hr hlL (by omega) htL.1 (fun m hm => by have := hpL m hm; omega) fun v3 s3 k3 r3 => ?_
    refine hL _ _ (c - 1) (by omega) ⟨v3, coarseM L, by omega, ks.trans k3, htL.put, ?_, coarse_small hne hpL, fun r hr => hst r (.step (by omega) hr), r3, rfl⟩
    rw [coarse_eq htL (by omega)]
    have := put_len (l := delBest L) (m := upM (bestM L))
    have := del_len hne
    omega
  · show AC Try.prog w0 n_spec_l11Copy [v'] s _
    refine spec_copyM hr (by omega) (fun m hm => by have := hpL m hm; omega) fun v4 F4 s4 k4 o4 f4 => ?_
    exact hR L (.inr (.inr ⟨hok, hme, by omega, hst L (.stop (by omega))⟩)) _ _ _ (ks.trans k4) o4.osl fun b hb => none_at ks (f4 b hb)
end
end Go.Proofs.Ytlbpnfhhoalenaa

/- The trail to which a mark is added, by the program's hand. -/
set_option linter.unusedVariables false
set_option linter.unusedSimpArgs false
namespace Go.Proofs.Ytlbpnfhhoalenaa
open Go Go.Av

section
variable {w0 : World} {σ : Vw}

theorem del_mk {rd0 : Addr → Option Value} {F : List Nat} {v : Value} {xs : List Mk} {j : Nat} (h : OSl w0 2 (OB RMk rd0) σ F v xs) (hj : j < xs.length) {R : Value → Vw → Prop}
    (hR : ∀ v' σ', KeepsBut F σ σ' → RSl 2 (RB RMk rd0) (Av.get w0 σ') v' (xs.take j ++ xs.drop (j + 1)) → R v' σ') : AC Try.prog w0 n_slices_Delete_impl_Mark_impl_Mark [v, .int .i64 (j : Nat), .int .i64 ((j : Int) + 1)] σ R := by
  refine ac_slices_Delete_impl_Mark_impl_Mark ?_
  unfold vc_slices_Delete_impl_Mark_impl_Mark
  show VDel Try.prog w0 3 t_impl_Mark 2 32 [.slice none 0 0, .bool false] v (.int .i64 (j : Nat)) (.int .i64 ((j : Int) + 1)) σ R
  exact h.del (ok_base rok_mk w0 rd0) (fun s s' f es y ho => ⟨ho.1, ho⟩) rfl (by intro c hc; simp at hc; rcases hc with rfl | rfl <;> rfl) (by omega) hj hR

set_option maxHeartbeats 8000000 in
theorem impl_add : ∀ (N : Nat) {σ0 σ : Vw} {v u : Value} {ms : List Mk} {p : List ByteArray} {b : Bool}, sumP ms + p.length < N → RSl 2 (RB RMk (Av.get w0 σ0)) (Av.get w0 σ) v ms → RSl 1 RS (Av.get w0 σ0) u p → Keeps σ0 σ → TrP ms → ms.length ≤ 6 → (∀ m, m ∈ ms → m.1.length ≤ 1000000) → p.length ≤ 1000000 →
    ∀ {R : Value → Vw → Prop}, (∀ v' σ' r, Keeps σ σ' → Lp (putM ms (p, b)) r → r.length ≤ 6 → RSl 2 (RB RMk (Av.get w0 σ0)) (Av.get w0 σ') v' r → R v' σ') → AC Try.prog w0 n_impl_add [v, .agg ⟨[u, .bool b]⟩] σ R
  | 0, _, _, _, _, _, _, _, hN, _, _, _, _, _, _, _, _, _ => by omega
  | N + 1, σ0, σ, v, u, ms, p, b, hN, hB, hu0, k0, ht, hl, hpm, hpp, R, hR => by
    refine ac_impl_add ?_
    unfold vc_impl_add
    have hu := hu0.mono k0.le fun _ _ h => h
    have h := hB.unbase rok_mk k0.le
    rw [pVal_2 hu.one rfl]
    simp only [cellOf_agg, List.getD_cons_zero, List.getD_cons_succ]
    have same : ∀ s, Keeps σ s → (underB ms p || (!b && markedB ms p)) = true → R v s := fun s ks hc => hR _ _ ms ks (by rw [putM, if_pos hc]; exact .stop hl) hl (hB.mono ks.le fun _ _ h => h)
    refine impl_under h hu (pIf_b.2 ⟨fun e => same _ (Keeps.refl _) (by rw [e]; rfl), fun hun => ?_⟩)
    have okb := ok_base rok_mk w0 (Av.get w0 σ0)
    have hme : RMk (Av.get w0 σ0) [u, .bool b] (p, b) := ⟨u, rfl, hu0⟩
    have hput : ¬ (underB ms p || (!b && markedB ms p)) = true → putM ms (p, b) = insF (p, b) (ms.filter (keepM (p, b))) := fun hc => if_neg hc
    have hfl := List.length_filter_le (keepM (p, b)) ms
    have htp : TrP (putM ms (p, b)) := ht.put
    have hps := put_sum (l := ms) (m := (p, b))
    have hpl := put_len (l := ms) (m := (p, b))
    have hpb : ∀ m, m ∈ putM ms (p, b) → m.1.length ≤ 1000000 := fun m hm => by
      rcases put_mem hm with e | e
      · rw [e]; exact hpp
      · exact hpm m e
    rw [pUn_not, pIf_b]
    refine ⟨fun hsub => impl_marked h hu fun s1 k1 => pIf_b.2 ⟨fun e => same _ k1 (by rw [e, hsub]; simp), fun hma => ?_⟩, fun hsub => ?_⟩
    case' refine_1 => have hput := hput (by rw [hun, hma]; simp)
    case' refine_2 =>
      have hput := hput (by rw [hun, hsub]; simp)
      obtain ⟨s1, k1, hs1⟩ : ∃ s1, Keeps σ s1 ∧ σ = s1 := ⟨σ, Keeps.refl σ, rfl⟩
      rw [hs1]
    all_goals
      intro bk h1 h2
      have kb : Keeps s1 (s1.put bk ⟨t_impl_Mark, [], 0, (0, 0)⟩) := Keeps.put h2
      have hb0 : ∀ i, i ∈ [bk] → σ i = none := fun i hi => by rw [List.mem_singleton.1 hi]; exact none_at k1 h2
      rw [h.len]
      refine loop_rule (m := ms.length) (fun m l s => ∃ (j : Nat) (v' : Value) (F : List Nat), m + j = ms.length ∧ Keeps σ s ∧ OAcc w0 t_impl_Mark 2 (OB RMk (Av.get w0 σ0)) s F v' ((ms.take j).filter (keepM (p, b))) ∧ (∀ i, i ∈ F → σ i = none) ∧
          l = [v', v, .int .i64 (ms.length : Nat), .int .i64 (j : Nat), u, .bool b]) ?_
        ⟨0, _, [bk], by omega, k1.trans kb, OAcc.new h1, hb0, rfl⟩
      rintro m l s L ⟨j, v', F, hm, ks, ho, hF, rfl⟩ hL
      simp only [vget, List.getD_cons_zero, List.getD_cons_succ]
      have hs := hB.mono ks.le fun _ _ h => h
      have hus := hu.mono ks.le fun _ _ h => h
      have olds : ∀ {F' : List Nat}, (∀ i, i ∈ F' → i ∈ F ∨ s i = none) → ∀ i, i ∈ F' → σ i = none := fun f i hi => by
        rcases f i hi with e | e
        · exact hF i e
        · exact none_at ks e
      have hol : ((ms.take j).filter (keepM (p, b))).length ≤ 6 := by
        have := List.length_filter_le (keepM (p, b)) (ms.take j)
        rw [List.length_take] at this; omega
      rw [pBin_lt, pIf_d]
      refine ⟨fun hi => ?_, fun hi => ?_⟩
      · have hx := List.getElem?_eq_getElem (show j < ms.length by omega)
        generalize ms[j]'(by omega) = x at hx
        refine hs.at hx fun g hg => ?_
        simp only [expl] at hg
        have hg : RMk (Av.get w0 σ0) [g 0, g 1] x := hg
        have g1 := rok_mk.one _ _ _ hg
        rw [pVal_2 (g1 _ (by simp)) (g1 _ (by simp))]
        have hgp : RSl 1 RS (Av.get w0 s) (g 0) x.1 := by
          obtain ⟨u1, hu1, hv⟩ := hg
          simp only [List.cons.injEq, and_true] at hu1
          rw [hu1.1]; exact hv.mono (k0.trans ks).le fun _ _ h => h
        have app : keepM (p, b) x = true → pVal true 2 (.agg (⟨[g 0, g 1]⟩)) ((allOne [g 0, g 1]) ∧ (pAppend w0 t_impl_Mark 2 32 v' 1 [g 0, g 1] s (fun v15 s16 => pBin Try.prog 3 .add (.int .i64 (j : Nat)) (.int .i64 1) (fun v17 => L [v15, v, .int .i64 (ms.length : Nat), v17, u, .bool b] s16)))) := fun hk => by
          refine push_mk ho hg (by omega) fun v2 F2 s2 k2 o2 f2 => ?_
          rw [pBin_add (by omega)]
          refine hL _ _ (m - 1) (by omega) ⟨j + 1, v2, F2, by omega, k2.old ks hF, ?_, olds f2, rfl⟩
          rw [List.take_add_one, hx]
          simp only [Option.toList_some, List.filter_append, List.filter_cons, hk, List.filter_nil, if_true]
          exact o2
        rw [pUn_not, pIf_b]
        refine ⟨fun hb => app (by simp at hb; simp [keepM, hb]), fun hb => ?_⟩
        have hb : b = true := by simpa using hb
        refine impl_begins hgp hus ?_
        rw [pUn_not, pIf_b]
        refine ⟨fun hw => app (by simp at hw; simp [keepM, hw]), fun hw => ?_⟩
        have hw : within x.1 p = true := by simpa using hw
        rw [pBin_add (by omega)]
        refine hL _ _ (m - 1) (by omega) ⟨j + 1, v', F, by omega, ks, ?_, hF, rfl⟩
        rw [List.take_add_one, hx]
        simp only [Option.toList_some, List.filter_append, List.filter_cons, List.filter_nil]
        rw [if_neg (by simp [keepM, hb, hw]), List.append_nil]
        exact ho
      · have e : j = ms.length := by omega
        subst e
        rw [List.take_length] at ho hol
        show pVal true 2 (.agg ⟨[u, .bool b]⟩) _
        refine push_mk ho hme (by omega) fun v28 F28 s29 k28 o28 f28 => ?_
        have K29 := k28.old ks hF
        have hF28 := olds f28
        refine SortFunc_mk (ht.1.sublist List.filter_sublist) (by omega) o28.osl (k0.trans K29) (fun i hi => none_at k0 (hF28 i hi)) fun s31 k31 o31 => ?_
        have K31 := k31.old K29 hF28
        rw [← hput] at o31
        generalize hT : putM ms (p, b) = T at *
        have hrel := o31.rel okb
        refine loop_rule (m := 1) (fun c l s => (c = 1 ∧ s = s31 ∧ l = [v28]) ∨ (c = 0 ∧ ∃ (v' : Value) (r : List Mk), Keeps σ s ∧ Lp T r ∧ r.length ≤ 6 ∧ RSl 2 (RB RMk (Av.get w0 σ0)) (Av.get w0 s) v' r ∧ l = [v'])) ?_ (.inl ⟨rfl, rfl, rfl⟩)
        rintro c l s L' hI hL'
        rcases hI with ⟨rfl, rfl, rfl⟩ | ⟨rfl, v', r, ks', hlp, hr6, hr, rfl⟩
        · simp only [vget, List.getD_cons_zero, List.getD_cons_succ]
          rw [hrel.len, pBin_gt, pIf_d]
          refine ⟨fun h6 => ?_, fun h6 => hR v28 s T K31 (.stop (by omega)) (by omega) hrel⟩
          have hne : T ≠ [] := fun e => by simp [e] at h6
          rw [hrel.len]
          refine loop_rule (m := T.length) (fun c l t => ∃ k, t = s ∧ c + k = T.length ∧ l = [v28, .int .i64 (bestTo T k : Nat), v28, .int .i64 (T.length : Nat), .int .i64 (k : Nat)]) ?_ ⟨0, rfl, by omega, rfl⟩
          rintro c2 l2 t L2 ⟨k, rfl, hk, rfl⟩ hL2
          simp only [vget, List.getD_cons_zero, List.getD_cons_succ]
          rw [pBin_lt, pIf_d]
          refine ⟨fun hkl => ?_, fun hkl => ?_⟩
          · have hbl := best_lt (k := k) hne (by omega)
            have hx := List.getElem?_eq_getElem (show k < T.length by omega)
            have hy := List.getElem?_eq_getElem hbl
            generalize T[k]'(by omega) = x at hx
            generalize T[bestTo T k] = y at hy
            have hst := bestTo_step hx hy
            refine hrel.at hx fun g hg => ?_
            simp only [expl] at hg
            have hg : RMk (Av.get w0 σ0) [g 0, g 1] x := hg
            have g1 := rok_mk.one _ _ _ hg
            rw [pVal_2 (g1 _ (by simp)) (g1 _ (by simp))]
            obtain ⟨u1, hu1, hv1⟩ := hg
            simp only [List.cons.injEq, and_true] at hu1
            rw [hu1.1, hv1.len]
            refine RSl.fld hrel hy (by omega) fun g2 es hes he => ?_
            obtain ⟨u2, rfl, hu2⟩ := hes
            simp at he
            rw [← he, hu2.len, pBin_ge, pIf_d]
            refine ⟨fun hge => ?_, fun hlt => ?_⟩
            · rw [pBin_add (by omega)]
              refine hL2 _ _ (c2 - 1) (by omega) ⟨k + 1, rfl, by omega, ?_⟩
              rw [hst, if_pos (by omega)]; rfl
            · rw [pBin_add (by omega)]
              refine hL2 _ _ (c2 - 1) (by omega) ⟨k + 1, rfl, by omega, ?_⟩
              rw [hst, if_neg (by omega)]; rfl
          · have e : k = T.length := by omega
            subst e
            have hb := best_at hne
            have hpos := best_pos htp.1 (by omega)
            have hbl := best_lt (k := T.length) hne (Nat.le_refl _)
            have hbp := hpb _ (List.mem_of_getElem? hb)
            have hup := up_len hpos
            have hds := del_sum hne
            have hdl := del_len hne
            show pIndexAddr 2 v28 (.int .i64 (bestTo T T.length : Nat)) _
            refine RSl.fld hrel hb (by omega) fun g1 es hes he => ?_
            obtain ⟨u1, rfl, hu1⟩ := hes
            simp at he
            show pBin Try.prog 3 .add (.int .i64 (bestTo T T.length : Nat)) (.int .i64 1) _
            rw [pBin_add (by omega)]
            refine del_mk o31 hbl fun v59 s60 k60 r60 => ?_
            have K60 := k60.old K31 hF28
            rw [← he, hu1.len, pBin_sub (by omega), show (((bestM T).1.length : Nat) : Int) - 1 = (((bestM T).1.length - 1 : Nat) : Int) by omega]
            refine RSl.take (σ := σ0) hu1 (by omega) fun v63 hv63 => ?_
            rw [pVal1 hv63.one, pVal1 rfl]
            refine impl_add N (σ0 := σ0) (ms := delBest T) (p := (upM (bestM T)).1) (b := true) (by simp only at hps; omega) r60 hv63 (k0.trans K60) (htp.del hne) (by omega) (fun m hm => hpb m (del_mem m hm)) (by omega) fun v' s' r ks' hlp h6' hr => ?_
            refine hL' _ _ 0 rfl (.inr ⟨rfl, v', r, K60.trans ks', .step (by omega) ?_, h6', hr, rfl⟩)
            rw [coarse_eq htp (by omega)]; exact hlp
        · simp only [vget, List.getD_cons_zero, List.getD_cons_succ]
          rw [hr.len, pBin_gt, pIf_d]
          exact ⟨fun h6 => by omega, fun _ => hR v' s r ks' hlp hr6 hr⟩

theorem impl_TrailAdd {v : Value} {ms : List Mk} {es : List Value} {x : Mk} (h : RSl 2 RMk (Av.get w0 σ) v ms) (hx : RMk (Av.get w0 σ) es x) {R : Value → Vw → Prop}
    (hR : ∀ r, AddR ms x r → OutM w0 σ r R) : AC Try.prog w0 n_impl_TrailAdd [v, .agg ⟨es⟩] σ R := by
  refine ac_impl_TrailAdd ?_
  unfold vc_impl_TrailAdd
  have hx0 := hx
  obtain ⟨u, rfl, hu⟩ := hx
  rw [pVal_2 hu.one rfl]
  simp only [cellOf_agg, List.getD_cons_zero, List.getD_cons_succ]
  refine impl_TrailOk h ?_
  rw [pUn_not, pIf_b]
  refine ⟨fun e => marks_none (hR [] (.inl ⟨by simpa using e, rfl⟩)), fun e => ?_⟩
  have hok : trailOk ms = true := by simpa using e
  obtain ⟨ht, hl, hmk⟩ := trail_TrP hok
  have hp4 : ∀ m, m ∈ ms → m.1.length ≤ 1000000 := fun m hm => by have := markOk_len (hmk m hm); omega
  refine impl_markOk hx0 ?_
  rw [pUn_not, pIf_b]
  refine ⟨fun e => ?_, fun e => ?_⟩
  · refine impl_cloneMarks h (by omega) (fun m hm => by have := hp4 m hm; omega) fun v1 F1 s1 k1 o1 f1 => ?_
    exact hR ms (.inr (.inl ⟨hok, by simpa using e, rfl⟩)) _ _ _ k1 o1.osl f1
  have hme : markOkB x = true := by simpa using e
  have hxl := markOk_len hme
  refine impl_cloneMarks h (by omega) (fun m hm => by have := hp4 m hm; omega) fun v1 F1 s1 k1 o1 f1 => ?_
  have r1 := o1.osl.rel (ok_mk w0)
  refine impl_add (sumP ms + x.1.length + 1) (σ0 := s1) (p := x.1) (b := x.2) (by omega) (rebase r1) (hu.mono k1.le fun _ _ h => h) (Keeps.refl _) ht hl hp4 (by omega) fun v2 s2 r k2 hlp h6 hr => ?_
  have ha : AddR ms x r := .inr (.inr ⟨hok, hme, h6, hlp⟩)
  have hsm := ha.small.2
  refine impl_cloneMarks (hr.unbase rok_mk k2.le) (by omega) (fun m hm => by have := hsm m hm; omega) fun v3 F3 s3 k3 o3 f3 => ?_
  exact hR r ha _ _ _ ((k1.trans k2).trans k3) o3.osl fun b hb => none_at (k1.trans k2) (f3 b hb)
end
end Go.Proofs.Ytlbpnfhhoalenaa

/- Texts as lists of bytes; what is cut at a byte; decimals. Plain. -/
set_option linter.unusedVariables false
set_option linter.unusedSimpArgs false
namespace Go.Av
open Go Go.RowKit

/-! ### Decimals -/
end Go.Av

/- Paths and trails as texts; the law 'TrailShow'. -/
set_option linter.unusedVariables false
set_option linter.unusedSimpArgs false
namespace Go.Proofs.Ytlbpnfhhoalenaa
open Go Go.Av Go.RowKit

section
variable {w0 : World} {σ : Vw}

end
theorem open_mk {H : Type} {enc : TypeId × Value → H} {W : World} {spare : Nat → Bool} (fuel : Nat) (es : List Value) (y : DataW H × List MemPlace) (h : DataW.trod enc Try.prog W 0 spare true fuel t_laws_Mark es = some y) (hl : es.length = 2) : ∃ x, RMk (Av.get W σ0) es x := by
  have hT : Try.prog.underlying t_laws_Mark = some (.struct (fsOf Try.prog t_laws_Mark)) := by kernel_rfl
  obtain ⟨f0, y0, l0, h0⟩ := open_field' hT 0 t_s_string 0 1 (by kernel_rfl) (by kernel_rfl) h
  obtain ⟨f1, y1, l1, h1⟩ := open_field' hT 1 t_bool 1 1 (by kernel_rfl) (by kernel_rfl) h
  obtain ⟨u, ns, hu, hus⟩ := open_rsl (t := t_s_string) (e := t_string) (by kernel_rfl) (by kernel_rfl) (open_rs (by kernel_rfl)) h0
  obtain ⟨b, hb⟩ := open_bool (by kernel_rfl) h1
  match es, hl with
  | [x, z], _ =>
    simp at hu hb
    exact ⟨(ns, b), u, by rw [hu, hb], hus⟩
end Go.Proofs.Ytlbpnfhhoalenaa

/- The law 'TrailAdd', of the functions alone. -/
set_option linter.unusedVariables false
set_option linter.unusedSimpArgs false
namespace Go.Proofs.Ytlbpnfhhoalenaa
open Go Go.Av

section
variable {w0 : World} {σ : Vw}

theorem markMark {F : List Nat} {es : List Value} {x : Mk} {k : Nat} (h : OMk w0 σ F es x) (hk : k + x.1.length ≤ 1000000000000) {R : Value → Vw → Prop}
    (hR : ∀ σ', KeepsBut F σ σ' → R (.int .i64 ((k + x.1.length : Nat) : Int)) σ') : AC Try.prog w0 n_laws_markMark [.agg ⟨es⟩, .int .i64 (k : Nat)] σ R := by
  obtain ⟨u, rfl, hu⟩ := h
  refine ac_laws_markMark ?_
  unfold vc_laws_markMark
  rw [pVal_2 (OSl.one' hu) rfl]
  simp only [cellOf_agg, List.getD_cons_zero, List.getD_cons_succ]
  exact markStringS hu (by omega) fun s1 k1 _ => hR s1 k1
theorem cMk_sum {l : List Mk} (h : ∀ m, m ∈ l → m.1.length ≤ 4) : sumBy cMk l ≤ l.length * 5 := by
  induction l with
  | nil => simp [sumBy]
  | cons a r ih =>
    have h1 := h a List.mem_cons_self
    have h2 := ih fun m hm => h m (List.mem_cons_of_mem _ hm)
    simp only [sumBy, List.length_cons, cMk] at *
    omega
theorem cMk_sz {l : List Mk} : sumBy cMk l ≤ l.length + sumBy szMk l := by
  induction l with
  | nil => simp [sumBy]
  | cons a r ih =>
    simp only [sumBy, List.length_cons, cMk, szMk] at *
    omega
theorem mk_shape {rd : Addr → Option Value} {es : List Value} {x : Mk} (h : RMk rd es x) : ∃ u, es = [u, .bool x.2] ∧ u.oneCell' = true := by
  obtain ⟨u, h1, h2⟩ := h; exact ⟨u, h1, h2.one⟩

theorem law_TrailAdd {v : Value} {ms : List Mk} {cs : List Value} {x : Mk} (h : RSl 2 RMk (Av.get w0 σ) v ms) (hx : RMk (Av.get w0 σ) cs x) {R : Value → Vw → Prop} (hR : ∀ σ', R (.bool true) σ') :
    AC Try.prog w0 n_laws_FnExactTrailAdd [v, .agg ⟨cs⟩] σ R := by
  have hx0 := hx
  obtain ⟨u0, rfl, hu0⟩ := mk_shape hx
  refine ac_laws_FnExactTrailAdd ?_
  unfold vc_laws_FnExactTrailAdd
  rw [pVal_2 hu0 rfl]
  simp only [cellOf_agg, List.getD_cons_zero, List.getD_cons_succ]
  refine szMarkS h (by omega) ?_
  rw [pBin_lt, pIf_d]
  refine ⟨fun _ => hR _, fun hb => ?_⟩
  rw [Av.left_neg] at hb
  rw [Av.left_in (by omega)]
  refine szMark hx0 (by omega) ?_
  rw [pBin_lt, pIf_d]
  refine ⟨fun _ => hR _, fun hb2 => ?_⟩
  rw [Av.left_neg] at hb2
  have hlen : ms.length ≤ 1000000000000 := by omega
  have heach : ∀ x, x ∈ ms → x.1.length ≤ 1000000000000 := fun x hx => by
    have := sumBy_mem (f := szMk) hx
    unfold szMk at this hb
    omega
  have hxl : x.1.length ≤ 1048576 := by unfold szMk at hb2; omega
  have hcs := cMk_sz (l := ms)
  have okm := ok_mk w0
  refine toMarkS h hlen heach fun v1 F1 s1 k1 o1 f1 => ?_
  refine toMark (mono_mk k1.le hx0) (by omega) fun cs1 G1 s2 k2 p1 g1 => ?_
  refine spec_TrailAdd ((o1.rel okm).mono k2.le fun _ _ => mono_mk k2.le) (okm.rel _ _ _ _ p1) fun w hw0 wv Fw s3 k3 ow fw => ?_
  have hw := ow.rel okm
  have hsm := hw0.small
  have hcw := cMk_sum hsm.2
  have K3 := (k1.trans k2).trans k3
  refine toMarkS (h.mono K3.le fun _ _ => mono_mk K3.le) hlen heach fun v2 F2 s4 k4 o2 f2 => ?_
  have r2 := o2.rel okm
  refine toMark (mono_mk (K3.trans k4).le hx0) (by omega) fun cs2 G2 s5 k5 p2 g2 => ?_
  have rc2 := okm.rel _ _ _ _ p2
  obtain ⟨u2, e2, hu2⟩ := mk_shape rc2
  subst e2
  rw [pVal_2 hu2 rfl]
  simp only [cellOf_agg, List.getD_cons_zero, List.getD_cons_succ]
  have r25 := r2.mono k5.le fun _ _ => mono_mk k5.le
  refine impl_TrailAdd r25 rc2 fun w' hw' gv Fg s6 k6 og fg => ?_
  have ew : w' = w := hw'.det hw0
  subst ew
  have rg := og.rel okm
  have k36 := (k4.trans k5).trans k6
  refine eqMarkS rg (hw.mono k36.le fun _ _ => mono_mk k36.le) ?_
  rw [pUn_not, pIf_b]
  refine ⟨fun h => by simp at h, fun _ => ?_⟩
  have K6 := K3.trans k36
  refine toMarkS (h.mono K6.le fun _ _ => mono_mk K6.le) hlen heach fun v3 F3 s7 k7 o3 f3 => ?_
  have k67 := k6.trans k7
  refine eqMarkS (r25.mono k67.le fun _ _ => mono_mk k67.le) (o3.rel okm) ?_
  rw [pUn_not, pIf_b]
  refine ⟨fun h => by simp at h, fun _ => ?_⟩
  refine toMark (mono_mk (K6.trans k7).le hx0) (by omega) fun cs3 G3 s8 k8 p3 g3 => ?_
  refine eqMark (mono_mk (k67.trans k8).le rc2) (okm.rel _ _ _ _ p3) ?_
  rw [pUn_not, pIf_b]
  refine ⟨fun h => by simp at h, fun _ => ?_⟩
  have o28 := o2.frame (σ' := s8) okm (((k5.trans k67).trans k8).but_at fun b hb => (o2.dom okm b hb).2)
  refine markMarkS (k := 1) o28 (by omega) fun s9 k9 _ => ?_
  have p28 := okm.frame _ s8 _ _ _ p2 ((k67.trans k8).but_at fun b hb => (okm.dom _ _ _ _ p2 b hb).2)
  have p29 := okm.frame _ s9 _ _ _ p28 (k9.at (fun b hb => (okm.dom _ _ _ _ p28 b hb).2) fun b hb hb' => (o2.dom okm b hb').2 (g2 b hb))
  refine markMark (k := 1 + sumBy cMk ms) p29 (by omega) fun s10 k10 => ?_
  rw [pBin_lt, pIf_d]
  refine ⟨fun h => by omega, fun _ => ?_⟩
  have k38 := (k36.trans k7).trans k8
  have kw10 : Keeps s3 s10 := k10.old (k9.old k38 f2) fun b hb => none_at k4 (g2 b hb)
  have g8 := og.frame okm ((k7.trans k8).but_at fun b hb => (og.dom okm b hb).2)
  have g9 := g8.frame okm (k9.at (fun b hb => (g8.dom okm b hb).2) fun b hb hb' => (o2.dom okm b hb').2 (none_at k5 (fg b hb)))
  have g10 := g9.frame okm (k10.at (fun b hb => (g9.dom okm b hb).2) fun b hb hb' => (okm.dom _ _ _ _ p2 b hb').2 (fg b hb))
  refine eqMarkS (g10.rel okm) (hw.mono kw10.le fun _ _ => mono_mk kw10.le) ?_
  rw [pUn_not, pIf_b]
  refine ⟨fun h => by simp at h, fun _ => ?_⟩
  refine markMarkS (k := 1) g10 (by omega) fun s11 k11 g11 => ?_
  refine heldMarkS (k := 1) (g11.rel okm) (by omega) fun s12 k12 => ?_
  rw [pBin_lt, pIf_d]
  refine ⟨fun h => by omega, fun _ => ?_⟩
  rw [pBin_ne, pIf_d]
  refine ⟨fun h => absurd rfl h, fun _ => ?_⟩
  have g12 := g11.frame okm (k12.but_at fun b hb => (g11.dom okm b hb).2)
  have kw12 : Keeps s3 s12 := (k11.old kw10 fun b hb => none_at (k4.trans k5) (fg b hb)).trans k12
  have K12 : Keeps σ s12 := K3.trans kw12
  refine toMarkS (h.mono K12.le fun _ _ => mono_mk K12.le) hlen heach fun v4 F4 s13 k13 o4 f4 => ?_
  refine toMark (mono_mk (K12.trans k13).le hx0) (by omega) fun cs4 G4 s14 k14 p4 g4 => ?_
  refine impl_TrailAdd ((o4.rel okm).mono k14.le fun _ _ => mono_mk k14.le) (okm.rel _ _ _ _ p4) fun w2 hw2 hv Fh s15 k15 oh fh => ?_
  have ew2 : w2 = w' := hw2.det hw'
  subst ew2
  have k1215 := (k13.trans k14).trans k15
  refine eqMarkS (oh.rel okm) (hw.mono (kw12.trans k1215).le fun _ _ => mono_mk (kw12.trans k1215).le) ?_
  rw [pUn_not, pIf_b]
  refine ⟨fun h => by simp at h, fun _ => ?_⟩
  have g15 := g12.frame okm (k1215.but_at fun b hb => (g12.dom okm b hb).2)
  refine heldMarkS (k := 1) (g15.rel okm) (by omega) fun s16 k16 => ?_
  rw [pBin_lt, pIf_d]
  refine ⟨fun h => by omega, fun _ => ?_⟩
  rw [pBin_ne, pIf_d]
  exact ⟨fun h => absurd rfl h, fun _ => hR _⟩
end
end Go.Proofs.Ytlbpnfhhoalenaa

/- The law FnExactTrailAdd holds: it returns true, and the input reads as it did. No condition. -/
namespace Go.Proofs.Ytlbpnfhhoalenaa.fnExactTrailAdd
open Go.ChangeShapes Go.WideShapes Go.ChangeAt Go.RowKit Go.Av
set_option linter.unusedVariables false
set_option linter.unusedSimpArgs false
theorem own : ownKnob Try.prog.godebug = none := by kernel_rfl
theorem laidOut : laidOutB Try.prog = true := by kernel_rfl
set_option maxRecDepth 100000 in
theorem lifted (os : Os) (started : os.Started) (H : Type) (enc : TypeId × Value → H) :
    ReturnsInHanded {} Try.checked os 7 .any (Rows.fnExactTrailAddSpec.pre6 enc Try.prog Try.f7 Rows.fnExactTrailAddRow.domain false) (Rows.fnExactTrailAddSpec.post enc Try.prog Try.f7 false true false false) := by
  refine returnsInHanded_of_change_sized (C := Try.checked) own started (by kernel_rfl) Try.func7
    (ChangeSpec.witness6 (enc := enc) (C := Try.checked) false ⟨#[], #[.slice none 0 0, .agg #[.slice none 0 0, .bool false]], []⟩ 8 (by kernel_rfl) (by kernel_rfl) (by kernel_rfl) (by kernel_rfl)) ?_
  intro W base args ds gs before hval0 hW hcnd hsz0 _
  have hval : ∀ (j : Nat) t v, Try.f7.params[j]? = some t → args[j]? = some v → Value.okWide Try.prog W .any base t v := hval0
  have hW' := hW
  obtain ⟨p, q, hA0, hV, rfl, hfz, hnd⟩ := hW
  have hA : DataW.TrodAll enc Try.prog W 0 (fun _ => true) true Try.f7.params.toList args.toList ds p := hA0
  rw [Try.params7] at hA hval
  obtain ⟨v0, v1, d0, d1, p0, p1, rfl, rfl, hpp, h0, h1⟩ := trodAll_two hA
  obtain ⟨rfl, rfl⟩ := trodVars_none hV
  obtain ⟨A0, len0, cap0, rfl⟩ := okWide_slice (t := 22) (e := 71) (by kernel_rfl) (hval 0 22 v0 rfl rfl)
  have hT1 : Try.prog.underlying 71 = some (.struct (fsOf Try.prog 71)) := by kernel_rfl
  obtain ⟨c1, rfl, hc1⟩ := okWide_struct hT1 (hval 1 71 v1 rfl rfl)
  have h0k := h0
  obtain ⟨fuel0, hf0⟩ := h0
  have h1k := h1
  obtain ⟨fuel1, hf1⟩ := h1
  clear hA0 hval0 hsz0
  simp only [List.append_nil] at hW'
  have hlt : ∀ x ∈ p, x.block < W.heap.size := fun x hx => by simpa using hW'.lt x hx
  have hargs0 : ∀ (W' : World), Below W.heap.size W W' → DataW.Trod enc Try.prog W' 0 (fun b => decide (b < W.heap.size)) true 22 (.slice A0 len0 cap0) d0 p0 :=
    fun W' hn => Below.trod laidOut (by kernel_rfl) (of_decide_eq_true (by kernel_rfl)) h0k hn (fun x hx => hlt x (by rw [hpp]; simp [hx]))
  have hargs1 : ∀ (W' : World), Below W.heap.size W W' → DataW.Trod enc Try.prog W' 0 (fun b => decide (b < W.heap.size)) true 71 (.agg c1) d1 p1 :=
    fun W' hn => Below.trod laidOut (by kernel_rfl) (of_decide_eq_true (by kernel_rfl)) h1k hn (fun x hx => hlt x (by rw [hpp]; simp [hx]))
  obtain ⟨u0, x0, hu0, r0⟩ := open_rsl (t := t_s_laws_Mark) (e := t_laws_Mark) (by kernel_rfl) (by kernel_rfl) open_mk hf0
  have hu0' : u0 = .slice A0 len0 cap0 := by
    have : [Value.slice A0 len0 cap0] = [u0] := hu0
    cases this; rfl
  subst hu0'
  have hl1 : c1.toList.length = 2 := by rw [Array.length_toList, hc1]; kernel_rfl
  obtain ⟨x1, r1⟩ := open_mk fuel1 c1.toList _ hf1 hl1
  refine ((law_TrailAdd (R := fun v _ => v = .bool true) r0 r1 (by intros; rfl)).calls).mono fun e W' ⟨v, σ', he, hv, bel⟩ => ?_
  subst he hv
  have hW'' := hW'
  rw [hpp] at hW''
  exact ⟨_, rfl, _, _, _, [], _, [], hW'', trodAll_mk1 (shut_bool Try.underlying4 _), trodAll_mk2 (hargs0 W' bel) (hargs1 W' bel), rfl, bel.frame _, fun h => by cases h⟩
theorem over : Rows.fnExactTrailAddRow.holds Try.pinned (OpenSpec.ofChange Rows.fnExactTrailAddSpec) :=
  OpenClaim.holds_of_wide 7 Try.f7 rfl rfl rfl rfl rfl rfl rfl ⟨rfl, rfl, rfl, rfl, rfl⟩ rfl rfl rfl rfl rfl (by kernel_rfl) Try.func7 (by kernel_rfl)
    (of_decide_eq_true (by kernel_rfl)) (by unfold Func.isWrapper; first | (rw [if_pos (by decide +kernel)]; kernel_rfl) | (rw [if_neg (by decide +kernel)]; exact ⟨rfl, rfl⟩))
    (fun os started H enc _ => lifted os started H enc)
theorem proved : Rows.FnExactTrailAddSaid := over
end Go.Proofs.Ytlbpnfhhoalenaa.fnExactTrailAdd
namespace Go.Proofs.Ytlbpnfhhoalenaa
/-- The row, under a short name, for the claim. -/
theorem fnExactTrailAdd_holds : Rows.FnExactTrailAddSaid := fnExactTrailAdd.proved
end Go.Proofs.Ytlbpnfhhoalenaa
