/- The law FnExactTableId holds: it returns true, and the input reads as it did. No condition. This is part 6 of 6 of its proof. -/
import Derived.Test.YtkblkdnnncklgaaDoorXFnExactTableId5
import Derived.Shelf.Strings.BuilderX
import Derived.BigCall
import Derived.BigGuard
import Derived.Lib.AppendStr
import Derived.Shelf.Strings.Builder1
import Derived.Shelf.Strings.Builder2
import Derived.Test.YtkblkdnnncklgaaDoorRows
import Derived.WalkKit
import Derived.ProofKit
import Derived.OpenShut
import Derived.ShutString
import Derived.ChangeOld
import Derived.Below
import Derived.Carry
import Derived.SizedLaws
import Derived.LaidMore
import Derived.Stop.Joined
import Derived.Stop.LaidErr
import Derived.Lib.LaidTab
import Derived.WalkSmall
import Derived.MakeChecks
import Derived.SevenTiedAt
import Derived.Test.YtkblkdnnncklgaaDoorCards
import Derived.Test.YtkblkdnnncklgaaDoorTie

/- Paths: their names, their order, what lies within what. -/
set_option linter.unusedVariables false
set_option linter.unusedSimpArgs false
namespace Go.Proofs.YtkblkdnnncklgaaDoor
open Go Go.Av

def strLt (a b : ByteArray) : Bool := Op.bytesLess a.toList b.toList
theorem bl_irrefl : ∀ (a : List UInt8), Op.bytesLess a a = false
  | [] => rfl
  | x :: r => by simp [Op.bytesLess, bl_irrefl r]
theorem bl_total : ∀ (a b : List UInt8), Op.bytesLess a b = false → Op.bytesLess b a = false → a = b
  | [], [], _, _ => rfl
  | [], _ :: _, h, _ => by simp [Op.bytesLess] at h
  | _ :: _, [], _, h => by simp [Op.bytesLess] at h
  | x :: r, y :: q, h, h' => by
    simp only [Op.bytesLess] at h h'
    by_cases e : x = y
    · subst e
      simp at h h'
      rw [bl_total r q h h']
    · exfalso
      rcases UInt8.lt_or_lt_of_ne e with h1 | h1
      · simp [h1] at h
      · simp [h1] at h'
theorem strLt_irrefl (a : ByteArray) : strLt a a = false := bl_irrefl _
theorem strLt_total {a b : ByteArray} (h : strLt a b = false) (h' : strLt b a = false) : a = b := bytes_inj (bl_total _ _ h h')

noncomputable def allNames : List ByteArray → Bool
  | [] => true
  | s :: r => nameOk s && allNames r
theorem allNames_iff {xs : List ByteArray} : allNames xs = true ↔ ∀ (j : Nat) (x : ByteArray), xs[j]? = some x → nameOk x = true := by
  induction xs with
  | nil => simp [allNames]
  | cons a r ih =>
    simp only [allNames, Bool.and_eq_true, ih]
    constructor
    · rintro ⟨h1, h2⟩ j x hj
      cases j with
      | zero => simp at hj; subst hj; exact h1
      | succ j => exact h2 j x (by simpa using hj)
    · intro h
      exact ⟨h 0 a rfl, fun j x hj => h (j + 1) x (by simpa using hj)⟩
theorem allNames_bad {xs : List ByteArray} {j : Nat} {x : ByteArray} (hj : xs[j]? = some x) (h : nameOk x = false) : allNames xs = false := by
  cases hc : allNames xs with
  | false => rfl
  | true => have := allNames_iff.1 hc j x hj; rw [h] at this; cases this

def lexLt : List ByteArray → List ByteArray → Bool
  | _, [] => false
  | [], _ :: _ => true
  | a :: r, b :: q => if a = b then lexLt r q else strLt a b

theorem lexLt_at : ∀ {j : Nat} {xs ys : List ByteArray} {a b : ByteArray}, xs.take j = ys.take j → xs[j]? = some a → ys[j]? = some b → a ≠ b → lexLt xs ys = strLt a b
  | 0, x :: xs, y :: ys, a, b, _, h1, h2, h3 => by simp at h1 h2; subst h1 h2; simp [lexLt, h3]
  | j + 1, x :: xs, y :: ys, a, b, h, h1, h2, h3 => by
    simp only [List.take_succ_cons, List.cons.injEq] at h
    obtain ⟨rfl, h⟩ := h
    simp only [lexLt, if_true]
    exact lexLt_at h (by simpa using h1) (by simpa using h2) h3
  | _, [], _, a, b, _, h1, _, _ => by simp at h1
  | _, _ :: _, [], a, b, _, _, h2, _ => by simp at h2
theorem lexLt_end : ∀ {j : Nat} {xs ys : List ByteArray}, xs.take j = ys.take j → (j = xs.length ∧ j ≤ ys.length ∨ j = ys.length ∧ j ≤ xs.length) → lexLt xs ys = decide (xs.length < ys.length)
  | 0, xs, ys, _, h => by
    rcases h with ⟨h, _⟩ | ⟨h, _⟩
    · have : xs = [] := List.length_eq_zero_iff.1 h.symm
      subst this
      cases ys <;> simp [lexLt]
    · have : ys = [] := List.length_eq_zero_iff.1 h.symm
      subst this
      simp [lexLt]
  | j + 1, x :: xs, y :: ys, h, hl => by
    simp only [List.take_succ_cons, List.cons.injEq] at h
    obtain ⟨rfl, h⟩ := h
    simp only [lexLt, if_true, List.length_cons]
    rw [lexLt_end h (by simp at hl; omega)]
    simp
  | j + 1, [], ys, _, hl => by simp at hl
  | j + 1, _ :: _, [], _, hl => by simp at hl

/-- The path b lies at or under a. -/
def within (b a : List ByteArray) : Bool := decide (a.length ≤ b.length ∧ b.take a.length = a)


section
variable {w0 : World} {σ : Vw}

theorem pBin_slt {P : Program} {T : Nat} {a b : ByteArray} {K : Value → Prop} : pBin P T .lss (.string a) (.string b) K ↔ K (.bool (strLt a b)) := pBin_s rfl
theorem pBin_sgt {P : Program} {T : Nat} {a b : ByteArray} {K : Value → Prop} : pBin P T .gtr (.string a) (.string b) K ↔ K (.bool (!(strLt a b || decide (a = b)))) := pBin_s (by simp only [astr, toList_eq]; rfl)

theorem RSl.at1 {v : Value} {xs : List ByteArray} (h : RSl 1 RS (Av.get w0 σ) v xs) {j : Nat} {x : ByteArray} (hj : xs[j]? = some x) {K : (Nat → Value) → Prop} (hK : ∀ g : Nat → Value, g 0 = .string x → x.size ≤ 9223372036854775807 → K g) :
    pIndexAddr 1 v (.int .i64 j) fun p => pLoad w0 1 p σ K := by
  refine h.at hj fun g hg => ?_
  obtain ⟨hg, hs⟩ := hg
  simp only [expl, List.cons.injEq, and_true] at hg
  exact hK g hg hs

theorem spec_PathOk {v : Value} {xs : List ByteArray} (h : RSl 1 RS (Av.get w0 σ) v xs) {R : Value → Vw → Prop} (hR : R (.bool (allNames xs && inB xs.length 1 4)) σ) : AC Tryd.prog w0 n_spec_l2PathOk [v] σ R := by
  refine ac_spec_l2PathOk ?_
  unfold vc_spec_l2PathOk
  have hl := h.le
  refine loop_rule (m := xs.length) (fun m l t => ∃ j, t = σ ∧ m + j = xs.length ∧ (∀ (i : Nat) (x : ByteArray), i < j → xs[i]? = some x → nameOk x = true) ∧ l = [v, .bool false, .int .i64 (j : Nat)]) ?_ ⟨0, rfl, by omega, fun i x h => by omega, rfl⟩
  rintro m l t L ⟨j, rfl, hm, ht, rfl⟩ hL
  simp only [vget, List.getD_cons_zero, List.getD_cons_succ]
  rw [h.len, pBin_lt, pIf_d]
  refine ⟨fun hj => ?_, fun hj => ?_⟩
  · have hj' : j < xs.length := by omega
    have hx := List.getElem?_eq_getElem hj'
    refine RSl.at1 h hx fun g hg hs => ?_
    rw [hg]
    refine spec_nameOk hs ?_
    rw [pUn_not, pIf_b]
    refine ⟨fun hb => ?_, fun hb => ?_⟩
    · rw [allNames_bad hx (by simpa using hb)] at hR; exact hR
    · rw [pBin_add (by omega)]
      refine hL _ _ (m - 1) (by omega) ⟨j + 1, rfl, by omega, fun i x hi he => ?_, rfl⟩
      by_cases e : i = j
      · subst e; rw [hx] at he; cases he; simpa using hb
      · exact ht i x (by omega) he
  · have hj' : j = xs.length := by omega
    subst hj'
    show pLen v _
    rw [h.len]
    refine spec_In ?_
    rw [allNames_iff.2 fun i x he => ht i x (List.getElem?_eq_some_iff.1 he).1 he] at hR
    exact hR

theorem impl_namesOk {v : Value} {xs : List ByteArray} {lo : Int} (h : RSl 1 RS (Av.get w0 σ) v xs) {R : Value → Vw → Prop} (hR : R (.bool (allNames xs && inB xs.length lo 4)) σ) : AC Tryd.prog w0 n_impl_namesOk [v, .int .i64 lo] σ R := by
  refine ac_impl_namesOk ?_
  unfold vc_impl_namesOk
  have hl := h.le
  rw [h.len]
  refine loop_rule (m := xs.length) (fun m l t => ∃ j, t = σ ∧ m + j = xs.length ∧ (∀ (i : Nat) (x : ByteArray), i < j → xs[i]? = some x → nameOk x = true) ∧ l = [v, .int .i64 lo, .bool false, v, .int .i64 xs.length, .int .i64 (j : Nat)]) ?_ ⟨0, rfl, by omega, fun i x h => by omega, rfl⟩
  rintro m l t L ⟨j, rfl, hm, ht, rfl⟩ hL
  simp only [vget, List.getD_cons_zero, List.getD_cons_succ]
  rw [pBin_lt, pIf_d]
  refine ⟨fun hj => ?_, fun hj => ?_⟩
  · have hj' : j < xs.length := by omega
    have hx := List.getElem?_eq_getElem hj'
    refine RSl.at1 h hx fun g hg hs => ?_
    rw [hg]
    refine impl_nameOk hs ?_
    rw [pUn_not, pIf_b]
    refine ⟨fun hb => ?_, fun hb => ?_⟩
    · rw [allNames_bad hx (by simpa using hb)] at hR; exact hR
    · rw [pBin_add (by omega)]
      refine hL _ _ (m - 1) (by omega) ⟨j + 1, rfl, by omega, fun i x hi he => ?_, rfl⟩
      by_cases e : i = j
      · subst e; rw [hx] at he; cases he; simpa using hb
      · exact ht i x (by omega) he
  · have hj' : j = xs.length := by omega
    subst hj'
    show pLen v _
    rw [h.len]
    refine impl_within ?_
    rw [allNames_iff.2 fun i x he => ht i x (List.getElem?_eq_some_iff.1 he).1 he] at hR
    exact hR
end
end Go.Proofs.YtkblkdnnncklgaaDoor

/- Paths: their order, what lies within what; marks. -/
set_option linter.unusedVariables false
set_option linter.unusedSimpArgs false
namespace Go.Proofs.YtkblkdnnncklgaaDoor
open Go Go.Av

section
variable {w0 : World} {σ : Vw}

theorem spec_Less {v v' : Value} {xs ys : List ByteArray} (h : RSl 1 RS (Av.get w0 σ) v xs) (h' : RSl 1 RS (Av.get w0 σ) v' ys) {R : Value → Vw → Prop} (hR : R (.bool (lexLt xs ys)) σ) : AC Tryd.prog w0 n_spec_l11Less [v, v'] σ R := by
  refine ac_spec_l11Less ?_
  unfold vc_spec_l11Less
  have hl := h.le
  refine loop_rule (m := xs.length) (fun m l t => ∃ j, t = σ ∧ m + j = xs.length ∧ j ≤ ys.length ∧ xs.take j = ys.take j ∧ l = [v, v', .bool false, .int .i64 (j : Nat)]) ?_ ⟨0, rfl, by omega, by omega, by simp, rfl⟩
  rintro m l t L ⟨j, rfl, hm, hy, ht, rfl⟩ hL
  simp only [vget, List.getD_cons_zero, List.getD_cons_succ]
  have fin : j = xs.length ∨ j = ys.length → pLen v (fun v21 => pLen v' (fun v22 => pBin Tryd.prog 3 .lss v21 v22 (fun v23 => R v23 t))) := by
    intro hj
    rw [h.len, h'.len, pBin_lt]
    rw [lexLt_end ht (by omega)] at hR
    have : (decide (xs.length < ys.length)) = decide ((xs.length : Int) < ys.length) := by congr 1; apply propext; omega
    rw [this] at hR; exact hR
  rw [h.len, pBin_lt, pIf_d]
  refine ⟨fun hj => ?_, fun hj => fin (.inl (by omega))⟩
  rw [h'.len, pBin_lt, pIf_d]
  refine ⟨fun hj2 => ?_, fun hj2 => fin (.inr (by omega))⟩
  have hx := List.getElem?_eq_getElem (show j < xs.length by omega)
  have hy' := List.getElem?_eq_getElem (show j < ys.length by omega)
  refine RSl.at1 h hx fun g hg hs => ?_
  refine RSl.at1 h' hy' fun g' hg' hs' => ?_
  rw [hg, hg', pBin_sne, pIf_d]
  refine ⟨fun hne => ?_, fun heq => ?_⟩
  · refine RSl.at1 h hx fun g hg hs => ?_
    refine RSl.at1 h' hy' fun g' hg' hs' => ?_
    rw [hg, hg', pBin_slt]
    rw [lexLt_at ht hx hy' hne] at hR; exact hR
  · have heq' := Decidable.not_not.1 heq
    rw [pBin_add (by omega)]
    exact hL _ _ (m - 1) (by omega) ⟨j + 1, rfl, by omega, by omega, by rw [List.take_add_one, List.take_add_one, hx, hy', ht, heq'], rfl⟩

/-- What Go's comparison of texts gives. -/
def cmpS (a b : ByteArray) : Int := if strLt a b then -1 else if a = b then 0 else 1
theorem cmp_Compare {a b : ByteArray} {R : Value → Vw → Prop} (hR : R (.int .i64 (cmpS a b)) σ) : AC Tryd.prog w0 n_cmp_Compare_string [.string a, .string b] σ R := by
  refine ac_cmp_Compare_string ?_
  unfold vc_cmp_Compare_string
  have nan : ∀ (a : ByteArray) (s : Vw) (K : Value → Vw → Prop), K (.bool false) s → AC Tryd.prog w0 n_cmp_isNaN_string [.string a] s K := fun a s K hK => by
    refine ac_cmp_isNaN_string ?_
    unfold vc_cmp_isNaN_string
    rw [pBin_sne]; simpa using hK
  refine nan _ _ _ (nan _ _ _ ?_)
  rw [pIf_b, pIf_b, pIf_b]
  refine ⟨nofun, fun _ => ⟨nofun, fun _ => ?_⟩⟩
  rw [pBin_slt, pIf_b]
  refine ⟨fun h => by simpa [cmpS, h] using hR, fun h => ?_⟩
  rw [pBin_sgt, pIf_b]
  by_cases e : a = b
  · subst e; simpa [cmpS, h] using hR
  · simpa [cmpS, h, e] using hR

theorem Compare {v v' : Value} {xs ys : List ByteArray} (h : RSl 1 RS (Av.get w0 σ) v xs) (h' : RSl 1 RS (Av.get w0 σ) v' ys) {R : Value → Vw → Prop} (hR : ∀ c : Int, (c < 0 ↔ lexLt xs ys = true) → R (.int .i64 c) σ) : AC Tryd.prog w0 n_slices_Compare_string_string [v, v'] σ R := by
  refine ac_slices_Compare_string_string ?_
  unfold vc_slices_Compare_string_string
  have hl := h.le
  rw [h.len]
  refine loop_rule (m := xs.length) (fun m l t => ∃ j, t = σ ∧ m + j = xs.length ∧ j ≤ ys.length ∧ xs.take j = ys.take j ∧ l = [v, v', .int .i64 0, v, .int .i64 xs.length, .int .i64 (j : Nat)]) ?_ ⟨0, rfl, by omega, by omega, by simp, rfl⟩
  rintro m l t L ⟨j, rfl, hm, hy, ht, rfl⟩ hL
  simp only [vget, List.getD_cons_zero, List.getD_cons_succ]
  rw [pBin_lt, pIf_d]
  refine ⟨fun hj => ?_, fun hj => ?_⟩
  · have hx := List.getElem?_eq_getElem (show j < xs.length by omega)
    refine RSl.at1 h hx fun g hg hs => ?_
    rw [h'.len, pBin_ge, pIf_d]
    refine ⟨fun hj2 => ?_, fun hj2 => ?_⟩
    · refine hR 1 ?_
      rw [lexLt_end ht (by omega)]
      simp; omega
    · have hy' := List.getElem?_eq_getElem (show j < ys.length by omega)
      refine RSl.at1 h' hy' fun g' hg' hs' => ?_
      rw [hg, hg']
      refine cmp_Compare ?_
      rw [pBin_ne, pIf_d]
      refine ⟨fun hne => ?_, fun heq => ?_⟩
      · refine hR _ ?_
        have hab : xs[j] ≠ ys[j] := fun e => by
          apply hne
          rw [e, cmpS, strLt_irrefl]; simp
        rw [lexLt_at ht hx hy' hab]
        unfold cmpS
        cases hlt : strLt xs[j] ys[j] <;> simp [hab]
      · have heq' : xs[j] = ys[j] := by
          unfold cmpS at heq
          split at heq
          · simp at heq
          · split at heq
            · assumption
            · simp at heq
        rw [pBin_add (by omega)]
        exact hL _ _ (m - 1) (by omega) ⟨j + 1, rfl, by omega, by omega, by rw [List.take_add_one, List.take_add_one, hx, hy', ht, heq'], rfl⟩
  · have hj' : j = xs.length := by omega
    show pLen v _
    rw [h.len, h'.len, pBin_lt, pIf_d]
    have e := lexLt_end ht (by omega)
    refine ⟨fun hlt => hR (-1) ?_, fun hlt => hR 0 ?_⟩
    · rw [e]; simp; omega
    · rw [e]; simp; omega

theorem within_false {xs ys : List ByteArray} {j : Nat} {a b : ByteArray} (hx : xs[j]? = some a) (hy : ys[j]? = some b) (h : a ≠ b) : within xs ys = false := by
  unfold within
  simp only [decide_eq_false_iff_not]
  rintro ⟨h1, h2⟩
  have hlt := (List.getElem?_eq_some_iff.1 hy).1
  rw [← h2, List.getElem?_take_of_lt hlt, hx] at hy
  cases hy; exact h rfl

theorem spec_Within {v v' : Value} {xs ys : List ByteArray} (h : RSl 1 RS (Av.get w0 σ) v xs) (h' : RSl 1 RS (Av.get w0 σ) v' ys) {R : Value → Vw → Prop} (hR : R (.bool (within xs ys)) σ) : AC Tryd.prog w0 n_spec_l2Within [v, v'] σ R := by
  refine ac_spec_l2Within ?_
  unfold vc_spec_l2Within
  have hl := h'.le
  rw [h.len, h'.len, pBin_lt, pIf_d]
  refine ⟨fun hlt => ?_, fun hge => ?_⟩
  · have : within xs ys = false := by unfold within; simp; omega
    rw [this] at hR; exact hR
  refine loop_rule (m := ys.length) (fun m l t => ∃ j, t = σ ∧ m + j = ys.length ∧ xs.take j = ys.take j ∧ l = [v, v', .bool false, .int .i64 (j : Nat)]) ?_ ⟨0, rfl, by omega, by simp, rfl⟩
  rintro m l t L ⟨j, rfl, hm, ht, rfl⟩ hL
  simp only [vget, List.getD_cons_zero, List.getD_cons_succ]
  rw [h'.len, pBin_lt, pIf_d]
  refine ⟨fun hj => ?_, fun hj => ?_⟩
  · have hx := List.getElem?_eq_getElem (show j < xs.length by omega)
    have hy' := List.getElem?_eq_getElem (show j < ys.length by omega)
    refine RSl.at1 h hx fun g hg hs => ?_
    refine RSl.at1 h' hy' fun g' hg' hs' => ?_
    rw [hg, hg', pBin_sne, pIf_d]
    refine ⟨fun hne => ?_, fun heq => ?_⟩
    · rw [within_false hx hy' hne] at hR; exact hR
    · have heq' := Decidable.not_not.1 heq
      rw [pBin_add (by omega)]
      exact hL _ _ (m - 1) (by omega) ⟨j + 1, rfl, by omega, by rw [List.take_add_one, List.take_add_one, hx, hy', ht, heq'], rfl⟩
  · have hj' : j = ys.length := by omega
    subst hj'
    rw [List.take_length] at ht
    have : within xs ys = true := by unfold within; simp [ht]; omega
    rw [this] at hR; exact hR

theorem impl_begins {v v' : Value} {xs ys : List ByteArray} (h : RSl 1 RS (Av.get w0 σ) v xs) (h' : RSl 1 RS (Av.get w0 σ) v' ys) {R : Value → Vw → Prop} (hR : R (.bool (within xs ys)) σ) : AC Tryd.prog w0 n_impl_begins [v, v'] σ R := by
  refine ac_impl_begins ?_
  unfold vc_impl_begins
  have hl := h'.le
  rw [h.len, h'.len, pBin_lt, pIf_d]
  refine ⟨fun hlt => ?_, fun hge => ?_⟩
  · have : within xs ys = false := by unfold within; simp; omega
    rw [this] at hR; exact hR
  rw [h'.len]
  refine loop_rule (m := ys.length) (fun m l t => ∃ j, t = σ ∧ m + j = ys.length ∧ xs.take j = ys.take j ∧ l = [v, v', .bool false, .int .i64 ys.length, .int .i64 (j : Nat)]) ?_ ⟨0, rfl, by omega, by simp, rfl⟩
  rintro m l t L ⟨j, rfl, hm, ht, rfl⟩ hL
  simp only [vget, List.getD_cons_zero, List.getD_cons_succ]
  rw [pBin_lt, pIf_d]
  refine ⟨fun hj => ?_, fun hj => ?_⟩
  · have hx := List.getElem?_eq_getElem (show j < xs.length by omega)
    have hy' := List.getElem?_eq_getElem (show j < ys.length by omega)
    refine RSl.at1 h hx fun g hg hs => ?_
    refine RSl.at1 h' hy' fun g' hg' hs' => ?_
    rw [hg, hg', pBin_sne, pIf_d]
    refine ⟨fun hne => ?_, fun heq => ?_⟩
    · rw [within_false hx hy' hne] at hR; exact hR
    · have heq' := Decidable.not_not.1 heq
      rw [pBin_add (by omega)]
      exact hL _ _ (m - 1) (by omega) ⟨j + 1, rfl, by omega, by rw [List.take_add_one, List.take_add_one, hx, hy', ht, heq'], rfl⟩
  · have hj' : j = ys.length := by omega
    subst hj'
    rw [List.take_length] at ht
    have : within xs ys = true := by unfold within; simp [ht]; omega
    rw [this] at hR; exact hR

noncomputable def markOkB (x : Mk) : Bool := if x.1 = [] then x.2 else allNames x.1 && inB x.1.length 1 4

theorem spec_MarkOk {es : List Value} {x : Mk} {R : Value → Vw → Prop} (h : RMk (Av.get w0 σ) es x) (hR : R (.bool (markOkB x)) σ) : AC Tryd.prog w0 n_spec_l11MarkOk [.agg ⟨es⟩] σ R := by
  obtain ⟨v, rfl, h2⟩ := h
  refine ac_spec_l11MarkOk ?_
  unfold vc_spec_l11MarkOk
  rw [pVal_2 h2.one rfl]
  show pLen v _
  rw [h2.len, pBin_eq, pIf_d]
  refine ⟨fun h0 => ?_, fun h0 => ?_⟩
  · have : x.1 = [] := List.length_eq_zero_iff.1 (by omega)
    rw [markOkB, if_pos this] at hR; exact hR
  · have : x.1 ≠ [] := fun e => h0 (by rw [e]; rfl)
    rw [markOkB, if_neg this] at hR
    exact spec_PathOk h2 hR

theorem impl_markOk {es : List Value} {x : Mk} {R : Value → Vw → Prop} (h : RMk (Av.get w0 σ) es x) (hR : R (.bool (markOkB x)) σ) : AC Tryd.prog w0 n_impl_markOk [.agg ⟨es⟩] σ R := by
  obtain ⟨v, rfl, h2⟩ := h
  refine ac_impl_markOk ?_
  unfold vc_impl_markOk
  rw [pVal_2 h2.one rfl]
  refine impl_namesOk h2 ?_
  rw [pIf_b]
  by_cases e : x.1 = []
  · rw [markOkB, if_pos e] at hR
    refine ⟨fun _ => ?_, fun h0 => ?_⟩
    · show pLen v _
      rw [h2.len, pBin_gt, pIf_d]
      refine ⟨fun h => by rw [e] at h; simp at h, fun _ => hR⟩
    · rw [e] at h0; simp [allNames, inB] at h0
  · rw [markOkB, if_neg e] at hR
    have hpos : 1 ≤ x.1.length := by
      rcases Nat.eq_zero_or_pos x.1.length with h0 | h0
      · exact absurd (List.length_eq_zero_iff.1 h0) e
      · exact h0
    have hin : inB x.1.length 0 4 = inB x.1.length 1 4 := by unfold inB; congr 1; apply propext; omega
    rw [hin]
    refine ⟨fun h0 => ?_, fun h0 => ?_⟩
    · show pLen v _
      rw [h2.len, pBin_gt, pIf_d]
      refine ⟨fun _ => ?_, fun h => by omega⟩
      rw [h0] at hR; exact hR
    · rw [h0] at hR; exact hR
end
end Go.Proofs.YtkblkdnnncklgaaDoor

/- Trails: when one is sound; the law 'TrailOk', of the functions alone. -/
set_option linter.unusedVariables false
set_option linter.unusedSimpArgs false
namespace Go.Proofs.YtkblkdnnncklgaaDoor
open Go Go.Av

def underB (ms : List Mk) (p : List ByteArray) : Bool := ms.any fun m => m.2 && within p m.1
def afterB (ms : List Mk) (j : Nat) (x : Mk) : Bool :=
  match j with
  | 0 => true
  | i + 1 => match ms[i]? with
    | some y => lexLt y.1 x.1
    | none => true
noncomputable def goodAt (ms : List Mk) (j : Nat) (x : Mk) : Bool := markOkB x && (afterB ms j x && !underB (ms.take j) x.1)
def allGood (ms : List Mk) : Prop := ∀ (j : Nat) (x : Mk), ms[j]? = some x → goodAt ms j x = true
open Classical in
noncomputable def trailOk (ms : List Mk) : Bool := decide (allGood ms) && decide ((ms.length : Int) ≤ 6)
theorem trail_bad {ms : List Mk} {j : Nat} {x : Mk} (h : ms[j]? = some x) (hb : goodAt ms j x = false) : trailOk ms = false := by
  have : ¬ allGood ms := fun h' => by rw [h' j x h] at hb; cases hb
  simp [trailOk, this]
theorem trail_good {ms : List Mk} (h : allGood ms) : trailOk ms = decide ((ms.length : Int) ≤ 6) := by simp [trailOk, h]

section
variable {w0 : World} {σ : Vw}

theorem RSl.fld {α : Type} {n : Nat} {Rl : (Addr → Option Value) → List Value → α → Prop} {v : Value} {xs : List α} (h : RSl n Rl (Av.get w0 σ) v xs) {j : Nat} {x : α} (hj : xs[j]? = some x) {off : Nat} (ho : off < n) {K : (Nat → Value) → Prop} (hK : ∀ (g : Nat → Value) (es : List Value), Rl (Av.get w0 σ) es x → es[off]? = some (g 0) → K g) :
    pIndexAddr n v (.int .i64 j) fun p => pField off p fun q => pLoad w0 1 q σ K := by
  obtain ⟨A, cap, rfl, _, h3⟩ := h
  obtain ⟨a, es, rfl, h5, h6, h7⟩ := h3 j x hj
  have hlt : j < xs.length := (List.getElem?_eq_some_iff.1 hj).1
  have he : es[off]? = some (es.getD off undef) := by
    rw [List.getD_eq_getElem?_getD, List.getElem?_eq_getElem (by omega)]; rfl
  refine ⟨a, xs.length, cap, .i64, j, rfl, rfl, by omega, by omega, _, rfl, (a.add (j * n)).add off, fun _ => es.getD off undef, rfl, fun i hi => ?_, hK _ es h7 he⟩
  have : i = 0 := by omega
  subst this
  rw [add_add, add_add, Nat.add_zero]
  rw [h6 off ho]; exact he

theorem RSl.take {α : Type} {n : Nat} {Rl : (Addr → Option Value) → List Value → α → Prop} {v : Value} {xs : List α} (h : RSl n Rl (Av.get w0 σ) v xs) {j : Nat} (hj : j ≤ xs.length) {K : Value → Prop} (hK : ∀ v', RSl n Rl (Av.get w0 σ) v' (xs.take j) → K v') : pSlice n v none (some (.int .i64 j)) K := by
  obtain ⟨A, cap, rfl, hc, h3⟩ := h
  refine ⟨A, xs.length, cap, 0, j, rfl, rfl, rfl, by omega, by omega, by omega, hK _ ?_⟩
  have hl : (xs.take j).length = j := by simp; omega
  refine ⟨if cap = (0 : Int).toNat then A else A.map (·.add ((0 : Int).toNat * n)), cap - (0 : Int).toNat, by rw [hl]; simp, ⟨by rw [hl]; simp; omega, by simp; omega⟩, fun i x hi => ?_⟩
  have hij : i < j := by have := (List.getElem?_eq_some_iff.1 hi).1; rw [hl] at this; exact this
  rw [List.getElem?_take_of_lt hij] at hi
  obtain ⟨a, es, rfl, h5, h6, h7⟩ := h3 i x hi
  refine ⟨a, es, ?_, h5, h6, h7⟩
  split
  · rfl
  · simp [Addr.add]

theorem underB_take {ms : List Mk} {p : List ByteArray} {j : Nat} {x : Mk} (h : ms[j]? = some x) : underB (ms.take (j + 1)) p = (underB (ms.take j) p || (x.2 && within p x.1)) := by
  rw [List.take_add_one, h]
  simp [underB, List.any_append]
theorem under_hit {ms : List Mk} {p : List ByteArray} {j : Nat} {x : Mk} (h : ms[j]? = some x) (h1 : x.2 = true) (h2 : within p x.1 = true) : underB ms p = true := by
  simp only [underB, List.any_eq_true]
  exact ⟨x, List.mem_of_getElem? h, by simp [h1, h2]⟩

theorem impl_under {v v' : Value} {ms : List Mk} {p : List ByteArray} (h : RSl 2 RMk (Av.get w0 σ) v ms) (h' : RSl 1 RS (Av.get w0 σ) v' p) {R : Value → Vw → Prop} (hR : R (.bool (underB ms p)) σ) : AC Tryd.prog w0 n_impl_under [v, v'] σ R := by
  refine ac_impl_under ?_
  unfold vc_impl_under
  have hl := h.le
  rw [h.len]
  refine loop_rule (m := ms.length) (fun m l t => ∃ j, t = σ ∧ m + j = ms.length ∧ underB (ms.take j) p = false ∧ l = [v', .bool false, v, .int .i64 ms.length, .int .i64 (j : Nat)]) ?_ ⟨0, rfl, by omega, rfl, rfl⟩
  rintro m l t L ⟨j, rfl, hm, ht, rfl⟩ hL
  simp only [vget, List.getD_cons_zero, List.getD_cons_succ]
  rw [pBin_lt, pIf_d]
  refine ⟨fun hj => ?_, fun hj => ?_⟩
  · have hx := List.getElem?_eq_getElem (show j < ms.length by omega)
    refine h.at hx fun g hg => ?_
    obtain ⟨u, hu, hur⟩ := hg
    simp only [expl, List.cons.injEq, and_true] at hu
    obtain ⟨hu0, hu1⟩ := hu
    rw [hu0, hu1, pVal_2 hur.one rfl, pIf_b]
    have next : underB (ms.take (j + 1)) p = false → L [v', .bool false, v, .int .i64 ms.length, .int .i64 ((j : Int) + 1)] t := fun hf => hL _ _ (m - 1) (by omega) ⟨j + 1, rfl, by omega, hf, rfl⟩
    have hstep := underB_take (p := p) hx
    refine ⟨fun hheld => ?_, fun hheld => ?_⟩
    · refine impl_begins h' hur ?_
      rw [pIf_b]
      refine ⟨fun hw => ?_, fun hw => ?_⟩
      · rw [under_hit hx hheld hw] at hR; exact hR
      · rw [pBin_add (by omega)]
        exact next (by rw [hstep, ht, hw]; simp)
    · rw [pBin_add (by omega)]
      exact next (by rw [hstep, ht, hheld]; simp)
  · have hj' : j = ms.length := by omega
    subst hj'
    rw [List.take_length] at ht
    rw [ht] at hR; exact hR

theorem impl_TrailOk {v : Value} {ms : List Mk} (h : RSl 2 RMk (Av.get w0 σ) v ms) {R : Value → Vw → Prop} (hR : R (.bool (trailOk ms)) σ) : AC Tryd.prog w0 n_impl_TrailOk [v] σ R := by
  refine ac_impl_TrailOk ?_
  unfold vc_impl_TrailOk
  have hl := h.le
  rw [h.len]
  refine loop_rule (m := ms.length) (fun m l t => ∃ j, t = σ ∧ m + j = ms.length ∧ (∀ (i : Nat) (x : Mk), i < j → ms[i]? = some x → goodAt ms i x = true) ∧ l = [v, .bool false, v, .int .i64 ms.length, .int .i64 (j : Nat)]) ?_ ⟨0, rfl, by omega, fun i x h => by omega, rfl⟩
  rintro m l t L ⟨j, rfl, hm, ht, rfl⟩ hL
  simp only [vget, List.getD_cons_zero, List.getD_cons_succ]
  rw [pBin_lt, pIf_d]
  refine ⟨fun hj => ?_, fun hj => ?_⟩
  · have hx := List.getElem?_eq_getElem (show j < ms.length by omega)
    generalize hxj : ms[j] = x at hx
    refine h.at hx fun g hg => ?_
    have hg0 := hg
    obtain ⟨u, hu, hur⟩ := hg
    simp only [expl, List.cons.injEq, and_true] at hu
    obtain ⟨hu0, hu1⟩ := hu
    rw [hu0, hu1, pVal_2 hur.one rfl]
    have bad : goodAt ms j x = false → R (.bool false) t := fun hb => by rw [trail_bad hx hb] at hR; exact hR
    refine impl_markOk (x := x) ⟨u, rfl, hur⟩ ?_
    rw [pUn_not, pIf_b]
    refine ⟨fun hmk => bad (by simp at hmk; simp [goodAt, hmk]), fun hmk => ?_⟩
    have hmk' : markOkB x = true := by simpa using hmk
    have last : afterB ms j x = true → pSlice 2 v none (some (.int .i64 j)) (fun v18 => AC Tryd.prog w0 n_impl_under [v18, u] t (fun v19 s20 => pIf v19 (R (.bool false) s20) (pBin Tryd.prog 3 .add (.int .i64 j) (.int .i64 1) (fun v21 => L [v, .bool false, v, .int .i64 ms.length, v21] s20)))) := by
      intro haf
      refine RSl.take h (by omega) fun v' hv' => ?_
      refine impl_under hv' hur ?_
      rw [pIf_b]
      refine ⟨fun hb => bad (by simp [goodAt, hb]), fun hb => ?_⟩
      rw [pBin_add (by omega)]
      refine hL _ _ (m - 1) (by omega) ⟨j + 1, rfl, by omega, fun i y hi he => ?_, rfl⟩
      by_cases e : i = j
      · subst e; rw [hx] at he; cases he; simp [goodAt, hmk', haf, hb]
      · exact ht i y (by omega) he
    rw [pBin_gt, pIf_d]
    refine ⟨fun hpos => ?_, fun h0 => ?_⟩
    · obtain ⟨i, rfl⟩ : ∃ i, j = i + 1 := ⟨j - 1, by omega⟩
      rw [pBin_sub (by omega)]
      have hy := List.getElem?_eq_getElem (show i < ms.length by omega)
      generalize hyi : ms[i] = y at hy
      rw [show ((i + 1 : Nat) : Int) - 1 = (i : Nat) by omega]
      refine RSl.fld h hy (by omega) fun g2 es hes he => ?_
      obtain ⟨u2, rfl, hu2⟩ := hes
      simp at he
      rw [← he]
      refine Compare hu2 hur fun c hc => ?_
      have haf : afterB ms (i + 1) x = lexLt y.1 x.1 := by simp [afterB, hy]
      rw [pBin_ge, pIf_d]
      refine ⟨fun hge => bad ?_, fun hlt => last ?_⟩
      · have : lexLt y.1 x.1 = false := by
          cases hc2 : lexLt y.1 x.1 with
          | false => rfl
          | true => have := hc.2 hc2; omega
        simp [goodAt, haf, this]
      · rw [haf]; exact hc.1 (by omega)
    · have : j = 0 := by omega
      subst this
      exact last rfl
  · have hj' : j = ms.length := by omega
    subst hj'
    show pLen v _
    rw [h.len, pBin_le]
    rw [trail_good fun i x he => ht i x (List.getElem?_eq_some_iff.1 he).1 he] at hR
    exact hR

theorem spec_TrailOk {v : Value} {ms : List Mk} (h : RSl 2 RMk (Av.get w0 σ) v ms) {R : Value → Vw → Prop} (hR : R (.bool (trailOk ms)) σ) : AC Tryd.prog w0 n_spec_TrailOk [v] σ R := by
  refine ac_spec_TrailOk ?_
  unfold vc_spec_TrailOk
  have hl := h.le
  refine loop_rule (m := ms.length) (fun m l t => ∃ j, t = σ ∧ m + j = ms.length ∧ (∀ (i : Nat) (x : Mk), i < j → ms[i]? = some x → goodAt ms i x = true) ∧ l = [v, .bool false, .int .i64 (j : Nat)]) ?_ ⟨0, rfl, by omega, fun i x h => by omega, rfl⟩
  rintro m l t L ⟨j, rfl, hm, ht, rfl⟩ hL
  simp only [vget, List.getD_cons_zero, List.getD_cons_succ]
  rw [h.len, pBin_lt, pIf_d]
  refine ⟨fun hj => ?_, fun hj => ?_⟩
  · have hx := List.getElem?_eq_getElem (show j < ms.length by omega)
    generalize hxj : ms[j] = x at hx
    refine h.at hx fun g hg => ?_
    obtain ⟨u, hu, hur⟩ := hg
    simp only [expl, List.cons.injEq, and_true] at hu
    obtain ⟨hu0, hu1⟩ := hu
    rw [hu0, hu1]
    have bad : goodAt ms j x = false → R (.bool false) t := fun hb => by rw [trail_bad hx hb] at hR; exact hR
    refine spec_MarkOk (x := x) ⟨u, rfl, hur⟩ ?_
    rw [pUn_not, pIf_b]
    refine ⟨fun hmk => bad (by simp at hmk; simp [goodAt, hmk]), fun hmk => ?_⟩
    have hmk' : markOkB x = true := by simpa using hmk
    have next : afterB ms j x = true → underB (ms.take j) x.1 = false → L [v, .bool false, .int .i64 ((j : Int) + 1)] t := fun haf hb => hL _ _ (m - 1) (by omega) ⟨j + 1, rfl, by omega, fun i y hi he => by
      by_cases e : i = j
      · subst e; rw [hx] at he; cases he; simp [goodAt, hmk', haf, hb]
      · exact ht i y (by omega) he, rfl⟩
    have split : (0 < (j : Int) → afterB ms j x = true → True) := fun _ _ => trivial
    rw [pBin_gt, pIf_d]
    have step : ∀ {K : AX → List Value → Vw → Prop} {B : List Value → (AX → List Value → Vw → Prop) → Vw → Prop}, B = (fun l21 K22 s23 => pBin Tryd.prog 3 .lss (vget l21 3) (vget l21 2) (fun v24 => pIf v24 (pIndexAddr 2 (vget l21 0) (vget l21 3) (fun v25 => pField 1 v25 (fun v26 => pLoad w0 1 v26 s23 (fun g27 => pIf (g27 0)
          (pIndexAddr 2 (vget l21 0) (vget l21 2) (fun v28 => pField 0 v28 (fun v29 => pLoad w0 1 v29 s23 (fun g30 => pIndexAddr 2 (vget l21 0) (vget l21 3) (fun v31 => pField 0 v31 (fun v32 => pLoad w0 1 v32 s23 (fun g33 => AC Tryd.prog w0 n_spec_l2Within [g30 0, g33 0] s23 (fun v34 s35 => pIf v34 (K22 .ret [vget l21 0, .bool false, vget l21 2, vget l21 3] s35)
            (pBin Tryd.prog 3 .add (vget l21 3) (.int .i64 1) (fun v36 => K22 .normal [vget l21 0, vget l21 1, vget l21 2, v36] s35))))))))))
          (pBin Tryd.prog 3 .add (vget l21 3) (.int .i64 1) (fun v37 => K22 .normal [vget l21 0, vget l21 1, vget l21 2, v37] s23)))))) (K22 (.exit 2) [vget l21 0, vget l21 1, vget l21 2, vget l21 3] s23))) →
        afterB ms j x = true → (∀ k : Value, R (.bool false) t → K .ret [v, .bool false, .int .i64 j, k] t) → (∀ k : Value, underB (ms.take j) x.1 = false → K (.exit 2) [v, .bool false, .int .i64 j, k] t) →
        pLoop B [v, .bool false, .int .i64 j, .int .i64 0] t K := by
      rintro K B rfl haf hret hex
      refine loop_rule (m := j) (fun m' l s => ∃ k, s = t ∧ m' + k = j ∧ underB (ms.take k) x.1 = false ∧ l = [v, .bool false, .int .i64 j, .int .i64 (k : Nat)]) ?_ ⟨0, rfl, by omega, rfl, rfl⟩
      rintro m' l s L' ⟨k, rfl, hm', hu', rfl⟩ hL'
      simp only [vget, List.getD_cons_zero, List.getD_cons_succ]
      rw [pBin_lt, pIf_d]
      refine ⟨fun hk => ?_, fun hk => ?_⟩
      · have hy := List.getElem?_eq_getElem (show k < ms.length by omega)
        generalize hyk : ms[k] = y at hy
        have hstep := underB_take (p := x.1) hy
        have nx : underB (ms.take (k + 1)) x.1 = false → L' [v, .bool false, .int .i64 j, .int .i64 ((k : Int) + 1)] s := fun hf => hL' _ _ (m' - 1) (by omega) ⟨k + 1, rfl, by omega, hf, rfl⟩
        refine RSl.fld h hy (by omega) fun g1 es hes he => ?_
        obtain ⟨u1, rfl, hu1'⟩ := hes
        simp at he
        rw [← he, pIf_b]
        refine ⟨fun hheld => ?_, fun hheld => ?_⟩
        · refine RSl.fld h hx (by omega) fun g2 es hes he => ?_
          obtain ⟨u2, rfl, hu2'⟩ := hes
          simp at he
          refine RSl.fld h hy (by omega) fun g3 es hes he' => ?_
          obtain ⟨u3, rfl, hu3'⟩ := hes
          simp at he'
          rw [← he, ← he']
          refine spec_Within hu2' hu3' ?_
          rw [pIf_b]
          refine ⟨fun hw => hret _ (bad ?_), fun hw => ?_⟩
          · have : underB (ms.take j) x.1 = true := under_hit (j := k) (x := y) (by rw [List.getElem?_take_of_lt (by omega)]; exact hy) hheld hw
            simp [goodAt, this]
          · rw [pBin_add (by omega)]
            exact nx (by rw [hstep, hu', hw]; simp)
        · rw [pBin_add (by omega)]
          exact nx (by rw [hstep, hu', hheld]; simp)
      · have : k = j := by omega
        subst this
        exact hex _ hu'
    refine ⟨fun hpos => ?_, fun h0 => ?_⟩
    · obtain ⟨i, rfl⟩ : ∃ i, j = i + 1 := ⟨j - 1, by omega⟩
      rw [pBin_sub (by omega)]
      have hy := List.getElem?_eq_getElem (show i < ms.length by omega)
      generalize hyi : ms[i] = y at hy
      rw [show ((i + 1 : Nat) : Int) - 1 = (i : Nat) by omega]
      refine RSl.fld h hy (by omega) fun g2 es hes he => ?_
      obtain ⟨u2, rfl, hu2⟩ := hes
      simp at he
      refine RSl.fld h hx (by omega) fun g3 es hes he3 => ?_
      obtain ⟨u3, rfl, hu3⟩ := hes
      simp at he3
      rw [← he, ← he3]
      have haf : afterB ms (i + 1) x = lexLt y.1 x.1 := by simp [afterB, hy]
      refine spec_Less hu2 hu3 ?_
      rw [pUn_not, pIf_b]
      refine ⟨fun hb => bad (by simp at hb; simp [goodAt, haf, hb]), fun hg => ?_⟩
      have hg' : afterB ms (i + 1) x = true := by rw [haf]; simpa using hg
      refine step rfl hg' (fun k hr => hr) (fun k hu => ?_)
      show pBin Tryd.prog 3 .add (.int .i64 ((i + 1 : Nat) : Int)) (.int .i64 1) _
      rw [pBin_add (by omega)]
      exact next hg' hu
    · have : j = 0 := by omega
      subst this
      refine step rfl rfl (fun k hr => hr) (fun k hu => ?_)
      show pBin Tryd.prog 3 .add (.int .i64 ((0 : Nat) : Int)) (.int .i64 1) _
      rw [pBin_add (by omega)]
      exact next rfl hu
  · have hj' : j = ms.length := by omega
    subst hj'
    show pLen v _
    rw [h.len, pBin_le]
    rw [trail_good fun i x he => ht i x (List.getElem?_eq_some_iff.1 he).1 he] at hR
    exact hR
end
end Go.Proofs.YtkblkdnnncklgaaDoor

/- The law 'TrailOk', of the functions alone. -/
set_option linter.unusedVariables false
set_option linter.unusedSimpArgs false
namespace Go.Proofs.YtkblkdnnncklgaaDoor
open Go Go.Av

section
variable {w0 : World} {σ : Vw}

theorem sumBy_mem {α : Type} {f : α → Nat} : ∀ {xs : List α} {x : α}, x ∈ xs → f x ≤ sumBy f xs
  | a :: r, x, h => by
    simp only [sumBy]
    rcases List.mem_cons.1 h with e | e
    · subst e; omega
    · have := sumBy_mem (f := f) e; omega

end
end Go.Proofs.YtkblkdnnncklgaaDoor

/- Paths and trails as texts; the law 'TrailShow'. -/
set_option linter.unusedVariables false
set_option linter.unusedSimpArgs false
namespace Go.Proofs.YtkblkdnnncklgaaDoor
open Go Go.Av Go.RowKit

/-- A path as a text, as rounds make it. -/
def shN : List ByteArray → ByteArray
  | [] => ⟨#[]⟩
  | p :: r => ⟨#[47]⟩ ++ p ++ shN r
theorem shN_snoc : ∀ (r : List ByteArray) (p : ByteArray), shN (r ++ [p]) = shN r ++ ⟨#[47]⟩ ++ p
  | [], p => by
    apply bl_inj
    simp [shN, bl_append]
  | q :: r, p => by
    apply bl_inj
    simp [shN, shN_snoc r p, bl_append]
theorem shN_size : ∀ (r : List ByteArray), (shN r).size = r.length + sumS r
  | [] => rfl
  | p :: r => by
    simp only [shN, ByteArray.size_append, shN_size r, List.length_cons, sumS]
    show 1 + _ + _ = _; omega
def pathT (ps : List ByteArray) : ByteArray := if ps = [] then ⟨#[47]⟩ else shN ps
theorem pathT_size (ps : List ByteArray) : (pathT ps).size ≤ 1 + ps.length + sumS ps := by
  unfold pathT
  split
  · show 1 ≤ _; omega
  · rw [shN_size]; omega
theorem shN_join : ∀ (p : ByteArray) (r : List ByteArray), shN (p :: r) = ⟨#[47]⟩ ++ ofL (Lib.join ((p :: r).map bl) [47]) := by
  intro p r
  apply bl_inj
  have e : ∀ r : List ByteArray, bl (shN r) = Lib.joinTail [47] (r.map bl) := by
    intro r
    induction r with
    | nil => rfl
    | cons q r ih =>
      simp only [shN, bl_append, ih, Lib.joinTail, List.map_cons, List.flatten_cons]
  rw [List.map_cons, Lib.join_cons, shN, bl_append, bl_append, e, bl_append, bl_ofL, List.append_assoc]
def markX (m : Mk) : ByteArray := (if m.2 = true then (⟨#[115, 117, 98, 32]⟩ : ByteArray) else ⟨#[97, 116, 32]⟩) ++ pathT m.1 ++ ⟨#[10]⟩
theorem markX_size (m : Mk) : (markX m).size ≤ 6 + szMk m := by
  have := pathT_size m.1
  unfold markX szMk
  rw [ByteArray.size_append, ByteArray.size_append]
  split
  · show 4 + _ + 1 ≤ _; omega
  · show 3 + _ + 1 ≤ _; omega
def marksX (ms : List Mk) : ByteArray := ms.foldl (fun a m => a ++ markX m) ⟨#[]⟩
theorem marksX_snoc (ms : List Mk) (m : Mk) : marksX (ms ++ [m]) = marksX ms ++ markX m := by simp [marksX, List.foldl_append]
theorem marksX_take {ms : List Mk} {j : Nat} {m : Mk} (hj : ms[j]? = some m) : marksX (ms.take (j + 1)) = marksX (ms.take j) ++ markX m := by
  rw [List.take_add_one, hj]; exact marksX_snoc _ _
theorem marksX_size {ms : List Mk} : ∀ (j : Nat), (marksX (ms.take j)).size ≤ 6 * j + sumBy szMk (ms.take j)
  | 0 => by simp [marksX, sumBy, ByteArray.size]
  | j + 1 => by
    have ih := marksX_size (ms := ms) j
    cases h : ms[j]? with
    | none =>
      have hl : ms.length ≤ j := List.getElem?_eq_none_iff.1 h
      rw [List.take_of_length_le hl] at ih
      rw [List.take_of_length_le (by omega)]; omega
    | some m =>
      rw [marksX_take h, sumBy_take h, ByteArray.size_append]
      have := markX_size m; omega
noncomputable def showM (ms : List Mk) : ByteArray := if trailOk ms = true then marksX ms else ⟨#[]⟩

section
variable {w0 : World} {σ : Vw}

theorem strings_Join {v : Value} {p : ByteArray} {r : List ByteArray} (h : RSl 1 RS (Av.get w0 σ) v (p :: r)) (hb : (p :: r).length + sumS (p :: r) ≤ 1000000000) {R : Value → Vw → Prop} (hR : R (.string (ofL (Lib.join ((p :: r).map bl) [47]))) σ) : AC Tryd.prog w0 n_strings_Join [v, .string ⟨#[47]⟩] σ R := by
  refine AC.of_calls is_strings_Join fun w hw => ?_
  obtain ⟨A, cap, rfl, hc, h3⟩ := h
  have cell : ∀ (j : Nat) (x : ByteArray), (p :: r)[j]? = some x → ∃ a, A = some a ∧ w.cell? (a.add j) = some (.string x) := fun j x hj => by
    obtain ⟨a, es, e1, e2, e3, e4⟩ := h3 j x hj
    obtain ⟨rfl, _⟩ := e4
    refine ⟨a, e1, ?_⟩
    have := e3 0 (by omega)
    rw [show j * 1 + 0 = j by omega] at this
    exact hw.get this
  obtain ⟨⟨bk, o, sp⟩, rfl, h0⟩ := cell 0 p rfl
  have hsp : sp = none := by
    cases sp with
    | none => rfl
    | some q =>
      simp only [Addr.add, if_true, World.cell?] at h0
      split at h0 <;> simp at h0
  subst hsp
  have hcells : ∀ (j : Nat) (x : ByteArray), (p :: r)[j]? = some x → w.cell? ⟨bk, o + j, none⟩ = some (.string x) := fun j x hj => by
    obtain ⟨a, e1, e2⟩ := cell j x hj
    cases e1
    rwa [addr_add] at e2
  have hbk : bk < w.heap.size := by
    rcases Nat.lt_or_ge bk w.heap.size with h' | h'
    · exact h'
    · simp [Addr.add, World.cell?, Array.getElem?_eq_none h'] at h0
  have hj : (Lib.join ((p :: r).map bl) [47]).length ≤ 140737488355328 := by
    have e := congrArg ByteArray.size (shN_join p r)
    rw [shN_size, ByteArray.size_append, size_ofL] at e
    omega
  refine (Tryd.strings_Join bk o cap (p :: r) ⟨#[47]⟩ w hcells hbk (by omega) hc.1 hj).mono ?_
  rintro e w' ⟨rfl, k⟩
  exact ⟨_, rfl, hR, k⟩

theorem spec_l3Name {v : Value} {ps : List ByteArray} (h : RSl 1 RS (Av.get w0 σ) v ps) (hb : ps.length + sumS ps ≤ 1000000000) {R : Value → Vw → Prop} (hR : R (.string (pathT ps)) σ) : AC Tryd.prog w0 n_spec_l3Name [v] σ R := by
  refine ac_spec_l3Name ?_
  unfold vc_spec_l3Name
  have hl := h.le
  refine loop_rule (m := ps.length) (fun m l s => ∃ j : Nat, s = σ ∧ m + j = ps.length ∧ l = [v, .string (shN (ps.take j)), .int .i64 (j : Nat)]) ?_ ⟨0, rfl, by omega, rfl⟩
  rintro m l s L ⟨j, rfl, hm, rfl⟩ hL
  simp only [vget, List.getD_cons_zero, List.getD_cons_succ]
  have hsz := shN_size (ps.take j)
  have hle := sumS_le (xs := ps) j
  have hlt := List.length_take_le j ps
  rw [h.len, pBin_lt, pIf_d]
  refine ⟨fun hi => ?_, fun hi => ?_⟩
  · have hx := List.getElem?_eq_getElem (show j < ps.length by omega)
    generalize hxi : ps[j]'(by omega) = y at hx
    have hs1 := sumS_take hx
    have hs2 := sumS_le (xs := ps) (j + 1)
    rw [List.length_take] at hsz
    rw [pBin_cat (by show _ + 1 ≤ _; omega)]
    refine RSl.at1 h hx fun g hg hs => ?_
    rw [hg, pBin_cat (by rw [ByteArray.size_append]; show _ + 1 + _ ≤ _; omega), pBin_add (by omega)]
    refine hL _ _ (m - 1) (by omega) ⟨j + 1, rfl, by omega, ?_⟩
    rw [List.take_add_one, hx, Option.toList_some, shN_snoc]; simp
  · have e : j = ps.length := by omega
    subst e
    rw [List.take_length]
    show pBin Tryd.prog 9 .eql (.string (shN ps)) (.string ⟨#[]⟩) _
    rw [pBin_seq, pIf_d]
    have he : shN ps = ⟨#[]⟩ ↔ ps = [] := by
      constructor
      · intro he
        have := shN_size ps
        rw [he] at this
        have h0 : (⟨#[]⟩ : ByteArray).size = 0 := rfl
        exact List.eq_nil_of_length_eq_zero (by omega)
      · rintro rfl; rfl
    refine ⟨fun hh => ?_, fun hh => ?_⟩
    · rw [pathT, if_pos (he.1 hh)] at hR; exact hR
    · rw [pathT, if_neg (fun e => hh (he.2 e))] at hR; exact hR

theorem impl_pathText {v : Value} {ps : List ByteArray} (h : RSl 1 RS (Av.get w0 σ) v ps) (hb : ps.length + sumS ps ≤ 1000000000) {R : Value → Vw → Prop} (hR : R (.string (pathT ps)) σ) : AC Tryd.prog w0 n_impl_pathText [v] σ R := by
  refine ac_impl_pathText ?_
  unfold vc_impl_pathText
  rw [h.len, pBin_eq, pIf_d]
  refine ⟨fun hi => ?_, fun hi => ?_⟩
  · have e : ps = [] := List.eq_nil_of_length_eq_zero (by omega)
    rw [pathT, if_pos e] at hR; exact hR
  · cases ps with
    | nil => exact absurd rfl hi
    | cons p r =>
      refine strings_Join h hb ?_
      have e := shN_join p r
      have e2 := congrArg ByteArray.size e
      rw [shN_size, ByteArray.size_append] at e2
      rw [pBin_cat (by omega), ← e]
      rw [pathT, if_neg (by simp)] at hR; exact hR

theorem spec_l11Text {es : List Value} {m : Mk} (h : RMk (Av.get w0 σ) es m) (hb : szMk m ≤ 1000000000) {R : Value → Vw → Prop} (hR : R (.string (markX m)) σ) : AC Tryd.prog w0 n_spec_l11Text [.agg ⟨es⟩] σ R := by
  obtain ⟨v, rfl, h2⟩ := h
  have hp := pathT_size m.1
  have hb' : m.1.length + sumS m.1 ≤ 1000000000 := hb
  refine ac_spec_l11Text ?_
  unfold vc_spec_l11Text
  rw [pVal_2 h2.one rfl]
  simp only [cellOf_agg, List.getD_cons_zero, List.getD_cons_succ]
  rw [pIf_b]
  refine ⟨fun hm => ?_, fun hm => ?_⟩
  · refine spec_l3Name h2 hb' ?_
    rw [pBin_cat (by show 4 + _ ≤ _; omega), pBin_cat (by rw [ByteArray.size_append]; show 4 + _ + 1 ≤ _; omega)]
    rw [markX, if_pos hm] at hR; exact hR
  · refine spec_l3Name h2 hb' ?_
    rw [pBin_cat (by show 3 + _ ≤ _; omega), pBin_cat (by rw [ByteArray.size_append]; show 3 + _ + 1 ≤ _; omega)]
    rw [markX, if_neg (by rw [hm]; simp)] at hR; exact hR

theorem spec_TrailShow {v : Value} {ms : List Mk} (h : RSl 2 RMk (Av.get w0 σ) v ms) (hb : ms.length + sumBy szMk ms ≤ 100000000) {R : Value → Vw → Prop} (hR : R (.string (showM ms)) σ) : AC Tryd.prog w0 n_spec_TrailShow [v] σ R := by
  refine ac_spec_TrailShow ?_
  unfold vc_spec_TrailShow
  refine spec_TrailOk h ?_
  rw [pUn_not, pIf_b]
  refine ⟨fun hn => ?_, fun hn => ?_⟩
  · rw [showM, if_neg (by simp at hn; rw [hn]; simp)] at hR; exact hR
  rw [showM, if_pos (by simpa using hn)] at hR
  refine loop_rule (m := ms.length) (fun m l s => ∃ j : Nat, s = σ ∧ m + j = ms.length ∧ l = [v, .string (marksX (ms.take j)), .int .i64 (j : Nat)]) ?_ ⟨0, rfl, by omega, rfl⟩
  rintro m l s L ⟨j, rfl, hm, rfl⟩ hL
  simp only [vget, List.getD_cons_zero, List.getD_cons_succ]
  have hsz := marksX_size (ms := ms) j
  have hle := sumBy_le (f := szMk) (xs := ms) j
  rw [h.len, pBin_lt, pIf_d]
  refine ⟨fun hi => ?_, fun hi => ?_⟩
  · have hx := List.getElem?_eq_getElem (show j < ms.length by omega)
    generalize hxi : ms[j]'(by omega) = y at hx
    have hy := sumBy_mem (f := szMk) (List.mem_of_getElem? hx)
    have hyx := markX_size y
    refine h.at hx fun g hg => ?_
    refine spec_l11Text (es := expl g 0 2) hg (by omega) ?_
    rw [pBin_cat (by omega), pBin_add (by omega)]
    refine hL _ _ (m - 1) (by omega) ⟨j + 1, rfl, by omega, ?_⟩
    rw [marksX_take hx]; simp
  · have e : j = ms.length := by omega
    subst e
    rw [List.take_length]
    exact hR

theorem impl_TrailShow {v : Value} {ms : List Mk} (h : RSl 2 RMk (Av.get w0 σ) v ms) (hb : ms.length + sumBy szMk ms ≤ 100000000) {R : Value → Vw → Prop} (hR : R (.string (showM ms)) σ) : AC Tryd.prog w0 n_impl_TrailShow [v] σ R := by
  refine ac_impl_TrailShow ?_
  unfold vc_impl_TrailShow
  refine impl_TrailOk h ?_
  rw [pUn_not, pIf_b]
  refine ⟨fun hn => ?_, fun hn => ?_⟩
  · rw [showM, if_neg (by simp at hn; rw [hn]; simp)] at hR; exact hR
  rw [showM, if_pos (by simpa using hn)] at hR
  rw [h.len]
  refine loop_rule (m := ms.length) (fun m l s => ∃ j : Nat, s = σ ∧ m + j = ms.length ∧ l = [.string (marksX (ms.take j)), v, .int .i64 (ms.length : Nat), .int .i64 (j : Nat)]) ?_ ⟨0, rfl, by omega, rfl⟩
  rintro m l s L ⟨j, rfl, hm, rfl⟩ hL
  simp only [vget, List.getD_cons_zero, List.getD_cons_succ]
  have hsz := marksX_size (ms := ms) j
  have hle := sumBy_le (f := szMk) (xs := ms) j
  rw [pBin_lt, pIf_d]
  refine ⟨fun hi => ?_, fun hi => ?_⟩
  · have hx := List.getElem?_eq_getElem (show j < ms.length by omega)
    generalize hxi : ms[j]'(by omega) = y at hx
    have hy := sumBy_mem (f := szMk) (List.mem_of_getElem? hx)
    have hyx := markX_size y
    have hps := pathT_size y.1
    refine h.at hx fun g hg => ?_
    obtain ⟨u, hg, h2⟩ := hg
    simp only [expl, List.cons.injEq, and_true] at hg
    obtain ⟨g0, g1⟩ := hg
    rw [g0, g1, pVal_2 h2.one rfl, pIf_b]
    have hyb : y.1.length + sumS y.1 = szMk y := rfl
    refine ⟨fun hm => ?_, fun hm => ?_⟩
    · refine impl_pathText h2 (by omega) ?_
      have e : markX y = ⟨#[115, 117, 98, 32]⟩ ++ pathT y.1 ++ ⟨#[10]⟩ := by rw [markX, if_pos hm]
      rw [pBin_cat (by show 4 + _ ≤ _; omega), pBin_cat (by rw [ByteArray.size_append]; show 4 + _ + 1 ≤ _; omega), ← e, pBin_cat (by omega), pBin_add (by omega)]
      refine hL _ _ (m - 1) (by omega) ⟨j + 1, rfl, by omega, ?_⟩
      rw [marksX_take hx]; simp
    · refine impl_pathText h2 (by omega) ?_
      have e : markX y = ⟨#[97, 116, 32]⟩ ++ pathT y.1 ++ ⟨#[10]⟩ := by rw [markX, if_neg (by rw [hm]; simp)]
      rw [pBin_cat (by show 3 + _ ≤ _; omega), pBin_cat (by rw [ByteArray.size_append]; show 3 + _ + 1 ≤ _; omega), ← e, pBin_cat (by omega), pBin_add (by omega)]
      refine hL _ _ (m - 1) (by omega) ⟨j + 1, rfl, by omega, ?_⟩
      rw [marksX_take hx]; simp
  · have e : j = ms.length := by omega
    subst e
    rw [List.take_length]
    exact hR

end
end Go.Proofs.YtkblkdnnncklgaaDoor

/- Rows of our own: cells stored, an element taken out in place, the copy of two lists in any order. -/
set_option linter.unusedVariables false
set_option linter.unusedSimpArgs false
namespace Go.Av
open Go Go.RowKit

section
variable {P : Program} {w0 : World} {σ σ' : Vw} {α γ : Type}

theorem cell_store {b o : Nat} {r : Row} {A c C new : List Value} {K : Vw → Prop} (hr : σ b = some r) (hc : r.cells = A ++ (c ++ C)) (hA : A.length = o) (hl : c.length = new.length)
    (hK : K (σ.put b { r with cells := A ++ (new ++ C) })) : pStore (.pointer (some ⟨b, o, none⟩)) new σ K := by
  refine ⟨b, o, r, rfl, hr, by rw [hc]; simp only [List.length_append]; omega, ?_⟩
  rw [hc, ← hA, setAt_mid A c new C hl]
  exact hK

/-- An element of a list of our own is written, all its cells. -/
theorem OSl.store {n : Nat} {Rel : (Addr → Option Value) → List Value → α → Prop} {O : Vw → List Nat → List Value → α → Prop} (ok : OOk w0 n Rel O) {F : List Nat} {v : Value} {xs : List α} (h : OSl w0 n O σ F v xs) {j : Nat} {x y : α} {new : List Value} (hj : xs[j]? = some x)
    (hO : ∀ f c σ', O σ f c x → O σ' f new y) (hn : new.length = n) {K : Vw → Prop}
    (hK : ∀ σ', KeepsBut F σ σ' → OSl w0 n O σ' F v (xs.set j y) → K σ') : pIndexAddr n v (.int .i64 j) fun p => pStore p new σ K := by
  obtain ⟨b, o, f, c, A, C, r, hix, hb, hr, hc, hA, hOx, hbF, hf, hput⟩ := h.focus ok hj
  refine hix _ ?_
  have hcl := ok.len _ _ _ _ hOx
  refine cell_store hr hc hA (by rw [hcl, hn]) ?_
  exact hK _ (KeepsBut.put hbF) (hput _ new y _ put_at rfl (hO _ _ _ hOx) fun i hi hne _ => by simp [Vw.put, hne])

def Vclone2 (w0 : World) (e1 n1 b1 e2 n2 b2 : Nat) (u v : Value) (σ : Vw) (K : Value → Value → Vw → Prop) : Prop :=
  (pNew w0 e1 [] σ (fun x0 s1 => (pAppendS w0 e1 n1 b1 (.slice (some (Addr.mk x0 0 none)) 0 0) u s1 (fun v2 s3 => pNew w0 e2 [] s3 (fun x4 s5 => pAppendS w0 e2 n2 b2 (.slice (some (Addr.mk x4 0 none)) 0 0) v s5 (fun v6 s7 => K v2 v6 s7)))) ∧
    (pNew w0 e2 [] s1 (fun x8 s9 => pAppendS w0 e1 n1 b1 (.slice (some (Addr.mk x0 0 none)) 0 0) u s9 (fun v10 s11 => pAppendS w0 e2 n2 b2 (.slice (some (Addr.mk x8 0 none)) 0 0) v s11 (fun v12 s13 => K v10 v12 s13)))))) ∧
  (pNew w0 e2 [] σ (fun x14 s15 => pNew w0 e1 [] s15 (fun x16 s17 => pAppendS w0 e1 n1 b1 (.slice (some (Addr.mk x16 0 none)) 0 0) u s17 (fun v18 s19 => pAppendS w0 e2 n2 b2 (.slice (some (Addr.mk x14 0 none)) 0 0) v s19 (fun v20 s21 => K v18 v20 s21)))))

theorem fresh_in {F F' : List Nat} {σ s : Vw} (k : Keeps σ s) (hF : ∀ i, i ∈ F → σ i = none) (h : ∀ i, i ∈ F' → i ∈ F ∨ s i = none) : ∀ i, i ∈ F' → σ i = none := fun i hi => by
  rcases h i hi with e | e
  · exact hF i e
  · cases hs : σ i with
    | none => rfl
    | some r => rw [k i r hs] at e; cases e
theorem KeepsBut.dom {F : List Nat} {σ σ' : Vw} (k : KeepsBut F σ σ') {i : Nat} (h : σ i ≠ none) (hF : i ∉ F) : σ' i ≠ none := by
  cases hs : σ i with
  | none => exact absurd hs h
  | some r => rw [k i r hs hF]; simp

theorem clone2 {e1 n1 b1 e2 n2 b2 : Nat} {R1 : (Addr → Option Value) → List Value → α → Prop} {O1 : Vw → List Nat → List Value → α → Prop} {R2 : (Addr → Option Value) → List Value → γ → Prop} {O2 : Vw → List Nat → List Value → γ → Prop}
    (ok1 : OOk w0 n1 R1 O1) (ok2 : OOk w0 n2 R2 O2) (hO1 : ∀ rd s es y, R1 rd es y → O1 s [] es y) (hO2 : ∀ rd s es y, R2 rd es y → O2 s [] es y) {u v : Value} {xs : List α} {ys : List γ}
    (hu : RSl n1 R1 (Av.get w0 σ) u xs) (hv : RSl n2 R2 (Av.get w0 σ) v ys) (hx : xs.length ≤ 1000000000000) (hy : ys.length ≤ 1000000000000) (hb1 : b1 ≤ 140) (hb2 : b2 ≤ 140) {K : Value → Value → Vw → Prop}
    (hK : ∀ u' F v' G σ', Keeps σ σ' → OAcc w0 e1 n1 O1 σ' F u' xs → OAcc w0 e2 n2 O2 σ' G v' ys → (∀ i, i ∈ F → σ i = none) → (∀ i, i ∈ G → σ i = none) → (∀ i, i ∈ F → i ∉ G) → K u' v' σ') : Vclone2 w0 e1 n1 b1 e2 n2 b2 u v σ K := by
  have nof : ∀ {σ s : Vw} {i : Nat}, Keeps σ s → s i = none → σ i = none := fun {σ s i} k hi => by
    cases hs : σ i with
    | none => rfl
    | some r => rw [k i r hs] at hi; cases hi
  refine ⟨fun x0 h1 h2 => ⟨?_, fun x8 h3 h4 => ?_⟩, fun x14 h1 h2 x16 h3 h4 => ?_⟩
  · have k0 : Keeps σ (σ.put x0 ⟨e1, [], 0, (0, 0)⟩) := Keeps.put h2
    refine OAcc.allX (F := [x0]) ok1 (OAcc.new h1) hu k0.le (hO1 _ _) (by simpa using hx) hb1 fun u' F s ex k1 o1 f1 x4 h3 h4 => ?_
    have hF0 : ∀ i, i ∈ [x0] → σ i = none := fun i hi => by rw [List.mem_singleton.1 hi]; exact h2
    have hF := fresh_in k0 hF0 f1
    have k1' := k1.old k0 hF0
    have k2 : Keeps s (s.put x4 ⟨e2, [], 0, (0, 0)⟩) := Keeps.put h4
    have o1' := o1.frame ok1 (k2.but_at fun b hb => (o1.dom ok1 b hb).2)
    refine OAcc.allX (F := [x4]) ok2 (OAcc.new h3) hv (k1'.trans k2).le (hO2 _ _) (by simpa using hy) hb2 fun v' G s' ex k3 o2 f2 => ?_
    have hG0 : ∀ i, i ∈ [x4] → s i = none := fun i hi => by rw [List.mem_singleton.1 hi]; exact h4
    have hG := fresh_in k2 hG0 f2
    have k3' := k3.old k2 hG0
    have o1'' := o1.frame ok1 (k3'.but_at fun b hb => (o1.dom ok1 b hb).2)
    refine hK u' F v' G s' (k1'.trans k3') (by simpa using o1'') (by simpa using o2) hF (fun i hi => nof k1' (hG i hi)) fun i hi hi' => (o1.dom ok1 i hi).2 (hG i hi')
  · have k0 : Keeps σ (σ.put x0 ⟨e1, [], 0, (0, 0)⟩) := Keeps.put h2
    have k1 : Keeps (σ.put x0 ⟨e1, [], 0, (0, 0)⟩) ((σ.put x0 ⟨e1, [], 0, (0, 0)⟩).put x8 ⟨e2, [], 0, (0, 0)⟩) := Keeps.put h4
    have a1 : OAcc w0 e1 n1 O1 (σ.put x0 ⟨e1, [], 0, (0, 0)⟩) [x0] (.slice (some ⟨x0, 0, none⟩) 0 0) [] := OAcc.new h1
    have a1' := a1.frame ok1 (k1.but_at fun b hb => (a1.dom ok1 b hb).2)
    have a2 : OAcc w0 e2 n2 O2 ((σ.put x0 ⟨e1, [], 0, (0, 0)⟩).put x8 ⟨e2, [], 0, (0, 0)⟩) [x8] (.slice (some ⟨x8, 0, none⟩) 0 0) [] := OAcc.new h3
    have hF0 : ∀ i, i ∈ [x0] → σ i = none := fun i hi => by rw [List.mem_singleton.1 hi]; exact h2
    have hG0 : ∀ i, i ∈ [x8] → σ i = none := fun i hi => by rw [List.mem_singleton.1 hi]; exact nof k0 h4
    have hne : x8 ≠ x0 := fun e => by rw [e, put_at] at h4; cases h4
    have k01 := k0.trans k1
    refine OAcc.allX (F := [x0]) ok1 a1' hu k01.le (hO1 _ _) (by simpa using hx) hb1 fun u' F s ex k2 o1 f1 => ?_
    have hF := fresh_in k01 hF0 f1
    have k2' := k2.old k01 hF0
    have a2' := a2.frame ok2 (k2.at (fun b hb => (a2.dom ok2 b hb).2) fun b hb hb' => hne ((List.mem_singleton.1 hb).symm.trans (List.mem_singleton.1 hb')))
    have hFG : x8 ∉ F := fun hi => by
      rcases f1 _ hi with e | e
      · exact hne (List.mem_singleton.1 e)
      · rw [put_at] at e; cases e
    refine OAcc.allX (F := [x8]) ok2 a2' hv k2'.le (hO2 _ _) (by simpa using hy) hb2 fun v' G s' ex k3 o2 f2 => ?_
    have o1' := o1.frame ok1 (k3.at (fun b hb => (o1.dom ok1 b hb).2) fun b hb hb' => hFG ((List.mem_singleton.1 hb') ▸ hb))
    refine hK u' F v' G s' (k3.old k2' hG0) (by simpa using o1') (by simpa using o2) hF (fresh_in k2' hG0 f2) fun i hi hi' => ?_
    rcases f2 i hi' with e | e
    · exact hFG ((List.mem_singleton.1 e) ▸ hi)
    · exact (o1.dom ok1 i hi).2 e
  · have k0 : Keeps σ (σ.put x14 ⟨e2, [], 0, (0, 0)⟩) := Keeps.put h2
    have k1 : Keeps (σ.put x14 ⟨e2, [], 0, (0, 0)⟩) ((σ.put x14 ⟨e2, [], 0, (0, 0)⟩).put x16 ⟨e1, [], 0, (0, 0)⟩) := Keeps.put h4
    have a2 : OAcc w0 e2 n2 O2 (σ.put x14 ⟨e2, [], 0, (0, 0)⟩) [x14] (.slice (some ⟨x14, 0, none⟩) 0 0) [] := OAcc.new h1
    have a2' := a2.frame ok2 (k1.but_at fun b hb => (a2.dom ok2 b hb).2)
    have a1 : OAcc w0 e1 n1 O1 ((σ.put x14 ⟨e2, [], 0, (0, 0)⟩).put x16 ⟨e1, [], 0, (0, 0)⟩) [x16] (.slice (some ⟨x16, 0, none⟩) 0 0) [] := OAcc.new h3
    have hG0 : ∀ i, i ∈ [x14] → σ i = none := fun i hi => by rw [List.mem_singleton.1 hi]; exact h2
    have hF0 : ∀ i, i ∈ [x16] → σ i = none := fun i hi => by rw [List.mem_singleton.1 hi]; exact nof k0 h4
    have hne : x16 ≠ x14 := fun e => by rw [e, put_at] at h4; cases h4
    have k01 := k0.trans k1
    refine OAcc.allX (F := [x16]) ok1 a1 hu k01.le (hO1 _ _) (by simpa using hx) hb1 fun u' F s ex k2 o1 f1 => ?_
    have hF := fresh_in k01 hF0 f1
    have k2' := k2.old k01 hF0
    have a2'' := a2'.frame ok2 (k2.at (fun b hb => (a2'.dom ok2 b hb).2) fun b hb hb' => hne ((List.mem_singleton.1 hb').symm.trans (List.mem_singleton.1 hb)))
    have hFG : x14 ∉ F := fun hi => by
      rcases f1 _ hi with e | e
      · exact hne (List.mem_singleton.1 e).symm
      · exact absurd e (a2'.dom ok2 x14 (List.mem_singleton.2 rfl)).2
    refine OAcc.allX (F := [x14]) ok2 a2'' hv k2'.le (hO2 _ _) (by simpa using hy) hb2 fun v' G s' ex k3 o2 f2 => ?_
    have o1' := o1.frame ok1 (k3.at (fun b hb => (o1.dom ok1 b hb).2) fun b hb hb' => hFG ((List.mem_singleton.1 hb') ▸ hb))
    refine hK u' F v' G s' (k3.old k2' hG0) (by simpa using o1') (by simpa using o2) hF (fresh_in k2' hG0 f2) fun i hi hi' => ?_
    rcases f2 i hi' with e | e
    · exact hFG ((List.mem_singleton.1 e) ▸ hi)
    · exact (o1.dom ok1 i hi).2 e

/-! ### An element is taken out, in place -/
def VDel (P : Program) (w0 : World) (T ety n bytes : Nat) (z : List Value) (a0 a1 a2 : Value) (σ : Vw) (R : Value → Vw → Prop) : Prop :=
  pLen a0 (fun v0 => pSlice3 n a0 (some a1) (some a2) (some v0) (fun v1 => pBin P T .eql a1 a2 (fun v2 => pIf v2 (R a0 σ) (pLen a0 (fun v3 => pSlice n a0 none (some a1) (fun v4 => pSlice n a0 (some a2) none (fun v5 => pAppendS w0 ety n bytes v4 v5 σ (fun v6 s7 => pLen v6 (fun v8 => pSlice n v6 (some v8) (some v3) (fun v9 => pClear n z v9 s7 (fun s10 => R v6 s10)))))))))))

theorem del_row {T ety n bytes b off cap j : Nat} {z : List Value} {r : Row} {pre post : List Value} {css : List (List Value)} (hz : z.length = n) (hz1 : ∀ c, c ∈ z → c.oneCell' = true) (hb : w0.heap.size ≤ b) (hr : σ b = some r) (hc : r.cells = pre ++ (css.flatten ++ post)) (hpre : pre.length = off)
    (hn : ∀ c, c ∈ css → c.length = n) (h1 : ∀ c, c ∈ css → ∀ u, u ∈ c → u.oneCell' = true) (hn0 : 0 < n) (hcap : css.length ≤ cap ∧ cap ≤ 9223372036854775807) (hj : j < css.length) {R : Value → Vw → Prop}
    (hR : R (.slice (some ⟨b, off, none⟩) (css.length - 1) cap) (σ.put b { r with cells := pre ++ ((css.take j ++ css.drop (j + 1)).flatten ++ (z ++ post)) })) :
    VDel P w0 T ety n bytes z (.slice (some ⟨b, off, none⟩) css.length cap) (.int .i64 (j : Nat)) (.int .i64 ((j : Int) + 1)) σ R := by
  obtain ⟨m, hm⟩ : ∃ m, css.length = j + 1 + m := ⟨css.length - (j + 1), by omega⟩
  have hcj := List.getElem?_eq_getElem hj
  have htl : ∀ c, c ∈ css.take j → c.length = n := fun c hc => hn c (List.mem_of_mem_take hc)
  have hdl : ∀ c, c ∈ css.drop (j + 1) → c.length = n := fun c hc => hn c (List.mem_of_mem_drop hc)
  have hfl := split_at hcj
  have hcl := hn _ (List.getElem_mem hj)
  have htlen : (css.take j).flatten.length = j * n := by rw [flat_len _ htl, List.length_take, Nat.min_eq_left (by omega)]
  have hdlen : (css.drop (j + 1)).flatten.length = m * n := by rw [flat_len _ hdl, List.length_drop]; congr 1; omega
  unfold VDel
  rw [pLen_s]
  refine ⟨some ⟨b, off, none⟩, css.length, cap, (j : Int), (j : Int) + 1, (css.length : Int), rfl, rfl, rfl, rfl, rfl, rfl, by omega, by omega, by omega, by omega, ?_⟩
  rw [pBin_eq, pIf_d]
  refine ⟨fun h => by omega, fun _ => ?_⟩
  rw [pLen_s]
  refine ⟨some ⟨b, off, none⟩, css.length, cap, 0, (j : Int), rfl, rfl, rfl, by omega, by omega, by omega, ?_⟩
  refine ⟨some ⟨b, off, none⟩, css.length, cap, (j : Int) + 1, (css.length : Int), rfl, rfl, rfl, by omega, by omega, by omega, ?_⟩
  have e0 : (if cap = (0 : Int).toNat then some (Addr.mk b off none) else (some (Addr.mk b off none)).map (·.add ((0 : Int).toNat * n))) = some (Addr.mk b off none) := by
    split
    · rfl
    · simp [Addr.add]
  rw [e0]
  simp only [Int.toNat_natCast, Int.toNat_zero, Nat.sub_zero]
  have ej : ((j : Int) + 1).toNat = j + 1 := by omega
  rw [ej]
  have hcells : r.cells = (pre ++ (css.take j).flatten) ++ ((css[j] ++ (css.drop (j + 1)).flatten) ++ post) := by rw [hc, hfl]; simp
  -- what is moved
  refine ⟨_, css.length - (j + 1), cap - (j + 1), (css.drop (j + 1)).flatten, rfl, by rw [hdlen]; congr 1; omega, fun u hu => ?_, fun i hi => ?_, .inl ⟨b, off, j, cap, r, rfl, hr, by omega, by rw [hdlen]; congr 1; omega, fun u hu => ?_, ?_, ?_⟩⟩
  · obtain ⟨c, hc1, hc2⟩ := List.mem_flatten.1 hu
    exact h1 c (List.mem_of_mem_drop hc1) u hc2
  · have hi' : i < m * n := by rw [← hdlen]; exact hi
    have hcapne : ¬ cap = j + 1 := fun e => by
      have : m = 0 := by omega
      subst this; omega
    refine ⟨_, by rw [if_neg hcapne]; rfl, ?_⟩
    rw [add_add, addr_add, get_row hb hr, hc, ← List.getElem?_eq_getElem hi]
    rw [List.getElem?_append_right (by omega), hpre]
    have e2 : off + ((j + 1) * n + i) - off = (j + 1) * n + i := by omega
    have hlt : (j + 1) * n + i < css.flatten.length := by
      rw [flat_len _ hn, hm, Nat.add_mul (j + 1)]; omega
    rw [e2, List.getElem?_append_left hlt]
    have h3 : css.flatten = (css.take (j + 1)).flatten ++ (css.drop (j + 1)).flatten := by rw [← List.flatten_append, List.take_append_drop]
    have h4 : (css.take (j + 1)).flatten.length = (j + 1) * n := by
      rw [flat_len _ fun c hc => hn c (List.mem_of_mem_take hc), List.length_take, Nat.min_eq_left (by omega)]
    rw [h3, List.getElem?_append_right (by omega), h4]
    congr 1; omega
  · obtain ⟨c, hc1, hc2⟩ := List.mem_flatten.1 hu
    exact h1 c (List.mem_of_mem_drop hc1) u hc2
  · rw [hcells]; simp only [List.length_append]; omega
  · -- the cells behind it
    generalize hDe : (css.drop (j + 1)).flatten = D at *
    generalize hTe : (css.take j).flatten = T' at *
    generalize hce : css[j] = cj at *
    have hB : (cj ++ D).length = n + m * n := by rw [List.length_append, hcl, hdlen]
    have hsplit : cj ++ D = (cj ++ D).take (m * n) ++ (cj ++ D).drop (m * n) := (List.take_append_drop _ _).symm
    have hold : ((cj ++ D).take (m * n)).length = D.length := by rw [List.length_take, hB, hdlen]; omega
    have hlast : ((cj ++ D).drop (m * n)).length = n := by rw [List.length_drop, hB]; omega
    have hset : setAt r.cells (off + j * n) D = (pre ++ T') ++ (D ++ ((cj ++ D).drop (m * n) ++ post)) := by
      have hA : (pre ++ T').length = off + j * n := by rw [List.length_append, hpre, htlen]
      have hcells2 : r.cells = (pre ++ T') ++ ((cj ++ D).take (m * n) ++ ((cj ++ D).drop (m * n) ++ post)) := by
        rw [hcells, ← List.append_assoc ((cj ++ D).take (m * n)), List.take_append_drop]
      rw [hcells2, ← hA, setAt_mid _ _ _ _ hold]
    rw [hset]
    have e3 : j + (css.length - (j + 1)) = css.length - 1 := by omega
    rw [e3, pLen_s]
    refine ⟨some ⟨b, off, none⟩, css.length - 1, cap, ((css.length - 1 : Nat) : Int), (css.length : Int), rfl, rfl, rfl, by omega, by omega, by omega, ?_⟩
    simp only [Int.toNat_natCast]
    have e4 : css.length - (css.length - 1) = 1 := by omega
    have hcapne : ¬ cap = css.length - 1 := by omega
    rw [e4, if_neg hcapne]
    refine ⟨hz, hz1, _, 1, cap - (css.length - 1), rfl, .inr ⟨b, off + (css.length - 1) * n, _, by simp [addr_add], by omega, put_at, ?_, ?_⟩⟩
    · simp only [List.length_append, hpre, htlen, hdlen, hlast]
      have : (css.length - 1) * n = j * n + m * n := by rw [← Nat.add_mul]; congr 1; omega
      omega
    · have e5 : (List.replicate 1 z).flatten = z := by simp
      have hA2 : (pre ++ T' ++ D).length = off + (css.length - 1) * n := by
        simp only [List.length_append, hpre, htlen, hdlen]
        have : (css.length - 1) * n = j * n + m * n := by rw [← Nat.add_mul]; congr 1; omega
        omega
      simp only
      rw [e5]
      have e6 : (pre ++ T') ++ (D ++ ((cj ++ D).drop (m * n) ++ post)) = (pre ++ T' ++ D) ++ ((cj ++ D).drop (m * n) ++ post) := by simp
      rw [e6, ← hA2, setAt_mid _ _ _ _ (by rw [hlast, hz]), put_put]
      have e7 : (pre ++ T' ++ D) ++ (z ++ post) = pre ++ ((css.take j ++ css.drop (j + 1)).flatten ++ (z ++ post)) := by
        rw [List.flatten_append, hTe, hDe]; simp
      rw [e7]
      exact hR

/-- An element of a list of our own is taken out: what is read then. -/
theorem OSl.del {T ety n bytes j : Nat} {z : List Value} {Rel : (Addr → Option Value) → List Value → α → Prop} {O : Vw → List Nat → List Value → α → Prop} (ok : OOk w0 n Rel O) (hO : ∀ s s' f es y, O s f es y → f = [] ∧ O s' f es y) (hz : z.length = n) (hz1 : ∀ c, c ∈ z → c.oneCell' = true) (hn0 : 0 < n) {F : List Nat} {v : Value} {xs : List α}
    (h : OSl w0 n O σ F v xs) (hj : j < xs.length) {R : Value → Vw → Prop} (hR : ∀ v' σ', KeepsBut F σ σ' → RSl n Rel (Av.get w0 σ') v' (xs.take j ++ xs.drop (j + 1)) → R v' σ') : VDel P w0 T ety n bytes z v (.int .i64 (j : Nat)) (.int .i64 ((j : Int) + 1)) σ R := by
  obtain ⟨g1, g2, ⟨rfl, rfl, _⟩ | ⟨b, off, cap, r, pre, post, css, Fs, rfl, gc, g3, g4, g5, g6, g7, g8, g9, g10⟩⟩ := h
  · simp at hj
  · have each : ∀ (i : Nat) (c : List Value), css[i]? = some c → ∃ x f, xs[i]? = some x ∧ O σ f c x := fun i c hi => by
      have hlt : i < css.length := (List.getElem?_eq_some_iff.1 hi).1
      exact ⟨_, _, List.getElem?_eq_getElem (by omega), g10 i c _ _ hi (List.getElem?_eq_getElem (by omega)) (List.getElem?_eq_getElem (by omega))⟩
    have hn : ∀ c, c ∈ css → c.length = n := fun c hc => by obtain ⟨i, hi⟩ := List.getElem?_of_mem hc; obtain ⟨x, f, _, ho⟩ := each i c hi; exact ok.len _ _ _ _ ho
    have h1 : ∀ c, c ∈ css → ∀ u, u ∈ c → u.oneCell' = true := fun c hc => by obtain ⟨i, hi⟩ := List.getElem?_of_mem hc; obtain ⟨x, f, _, ho⟩ := each i c hi; exact ok.one _ _ _ _ ho
    rw [← g7]
    refine del_row hz hz1 g3 g4 g5 g6 hn h1 hn0 (by rw [g7]; exact gc) (by omega) (hR _ _ (KeepsBut.put (by rw [g9]; exact List.mem_cons_self)) ?_)
    have hlen : (xs.take j ++ xs.drop (j + 1)).length = css.length - 1 := by simp only [List.length_append, List.length_take, List.length_drop]; omega
    refine ⟨_, cap, by rw [hlen], by rw [hlen]; omega, fun i x hi => ?_⟩
    -- the cells of the element
    have hget : ∃ c f, (css.take j ++ css.drop (j + 1))[i]? = some c ∧ O σ f c x := by
      by_cases hij : i < j
      · rw [List.getElem?_append_left (by rw [List.length_take]; omega), List.getElem?_take_of_lt hij] at hi
        refine ⟨css[i]'(by omega), _, ?_, g10 i _ x _ (List.getElem?_eq_getElem (by omega)) hi (List.getElem?_eq_getElem (by omega))⟩
        rw [List.getElem?_append_left (by rw [List.length_take]; omega), List.getElem?_take_of_lt hij]
        exact List.getElem?_eq_getElem (by omega)
      · rw [List.getElem?_append_right (by rw [List.length_take]; omega), List.getElem?_drop, List.length_take, Nat.min_eq_left (by omega)] at hi
        have hlt : j + 1 + (i - j) < xs.length := (List.getElem?_eq_some_iff.1 hi).1
        refine ⟨css[j + 1 + (i - j)]'(by omega), _, ?_, g10 _ _ x _ (List.getElem?_eq_getElem (by omega)) hi (List.getElem?_eq_getElem (by omega))⟩
        rw [List.getElem?_append_right (by rw [List.length_take]; omega), List.getElem?_drop, List.length_take, Nat.min_eq_left (by omega)]
        exact List.getElem?_eq_getElem (by omega)
    obtain ⟨c, f, hci, ho⟩ := hget
    have hn' : ∀ c, c ∈ css.take j ++ css.drop (j + 1) → c.length = n := fun c hc => by
      rcases List.mem_append.1 hc with h | h
      · exact hn c (List.mem_of_mem_take h)
      · exact hn c (List.mem_of_mem_drop h)
    obtain ⟨rfl, ho'⟩ := hO σ (σ.put b { r with cells := pre ++ ((css.take j ++ css.drop (j + 1)).flatten ++ (z ++ post)) }) f c x ho
    refine ⟨_, c, rfl, ok.len _ _ _ _ ho, fun k hk => ?_, ok.rel _ _ _ _ ho'⟩
    rw [addr_add, get_row g3 put_at]
    simp only
    rw [List.getElem?_append_right (by omega), show off + (i * n + k) - pre.length = i * n + k by omega, List.getElem?_append_left, flat_get _ hn' i c hci k hk]
    have hil : i < (css.take j ++ css.drop (j + 1)).length := (List.getElem?_eq_some_iff.1 hci).1
    rw [flat_len _ hn']
    calc i * n + k < i * n + n := by omega
      _ = (i + 1) * n := by rw [Nat.add_mul, Nat.one_mul]
      _ ≤ (css.take j ++ css.drop (j + 1)).length * n := Nat.mul_le_mul_right n hil
end
end Go.Av

/- Bytes in rows of our own; hex by the program's hand; a line of a tree. -/
set_option linter.unusedVariables false
set_option linter.unusedSimpArgs false
namespace Go.Proofs.YtkblkdnnncklgaaDoor
open Go Go.Av Go.RowKit

def encB (x : UInt8) : List Value := [.int .u8 (x.toNat : Int)]
abbrev OBy := OFl encB (fun _ => True)
abbrev RBy := RFl encB (fun _ => True)
theorem nums_bytes (l : List UInt8) : strOfNums (l.map fun x => (x.toNat : Int)) = ofL l := by
  apply bl_inj
  rw [bl_ofL]
  simp only [bl, strOfNums]
  induction l with
  | nil => rfl
  | cons a r ih =>
    simp only [List.map_cons, List.cons.injEq] at ih ⊢
    refine ⟨UInt8.toNat_inj.1 ?_, by simpa using ih⟩
    simp

section
variable {w0 : World} {σ : Vw}

theorem ok_by (w0 : World) : OOk w0 1 RBy OBy := ok_fl (n := 1) (enc := encB) (good := fun _ => True) (fun _ => rfl) (fun x c h => by simp [encB] at h; subst h; rfl) w0

theorem pStr_own {F : List Nat} {v : Value} {xs : List UInt8} (h : OSl w0 1 OBy σ F v xs) {K : Value → Prop} (hK : K (.string (ofL xs))) : pStr w0 v σ K := by
  have hr := h.rel (ok_by w0)
  obtain ⟨h1, h2, ⟨rfl, rfl, _⟩ | ⟨b, off, cap, r, pre, post, css, Fs, rfl, gc, g2, g3, g4, g5, g6, g7, g8, g9⟩⟩ := h
  · exact .inl ⟨0, 0, rfl, hK⟩
  · refine .inr ⟨b, off, xs.length, cap, xs.map fun x => (x.toNat : Int), rfl, by simp, fun j hj => ?_, by rw [nums_bytes]; exact hK⟩
    obtain ⟨A, cap', e1, _, h3⟩ := hr
    cases e1
    have hx := List.getElem?_eq_getElem hj
    generalize xs[j]'hj = x at hx
    obtain ⟨a, es, e2, _, e3, e4, _⟩ := h3 j x hx
    cases e2
    have := e3 0 (by omega)
    rw [show j * 1 + 0 = j by omega, addr_add, e4] at this
    rw [this]
    simp [encB, List.getD, hx]

theorem pIndexStr_k {s : ByteArray} {k : IntKind} {j : Nat} {K : Value → Prop} (h : j < s.size) (hK : K (.int .u8 ((s[j]'h).toNat : Int))) : pIndexStr (.string s) (.int k j) K :=
  ⟨s, k, j, rfl, rfl, by omega, h, hK⟩
theorem hex_idx {n : Nat} (h : n < 16) {K : Value → Prop} (hK : K (.int .u8 ((hexD n).toNat : Int))) : pIndexStr (.string hexT) (.int .u8 (n : Nat)) K := by
  have hs : n < hexT.size := h
  refine pIndexStr_k hs ?_
  have e := bl_get hexT n hs
  have : hexT[n]'hs = hexD n := by
    unfold hexD
    rw [List.getD, e]; rfl
  rw [this]; exact hK

theorem impl_hexOf {s : ByteArray} (hs : s.size ≤ 1000000000) {R : Value → Vw → Prop} (hR : ∀ σ', Keeps σ σ' → R (.string (ofL (hexL (bl s)))) σ') : AC Tryd.prog w0 n_impl_hexOf [.string s] σ R := by
  refine ac_impl_hexOf ?_
  unfold vc_impl_hexOf
  intro b h1 h2
  have kb : Keeps σ (σ.put b ⟨t_uint8, [], 0, (0, 0)⟩) := Keeps.put h2
  have hb0 : ∀ i, i ∈ [b] → σ i = none := fun i hi => by rw [List.mem_singleton.1 hi]; exact h2
  have hlen : (bl s).length = s.size := size_bl s
  refine loop_rule (m := s.size) (fun m l st => ∃ (i : Nat) (v : Value) (F : List Nat), m + i = s.size ∧ Keeps σ st ∧ (∀ j, j ∈ F → σ j = none) ∧ OAcc w0 t_uint8 1 OBy st F v (hexL ((bl s).take i)) ∧ l = [.string s, v, .int .i64 (i : Nat)]) ?_
    ⟨0, _, [b], by omega, kb, hb0, OAcc.new h1, rfl⟩
  rintro m l st L ⟨i, v, F, hm, ks, hF, ho, rfl⟩ hL
  simp only [vget, List.getD_cons_zero, List.getD_cons_succ]
  rw [pLenS_s, pBin_lt, pIf_d]
  refine ⟨fun hi => ?_, fun hi => ?_⟩
  · have hi' : i < s.size := by omega
    have hget := bl_get s i hi'
    generalize hx : s[i]'hi' = x at hget
    have hx2 : x.toNat < 256 := x.toNat_lt
    have idx : ∀ {K : Value → Prop}, K (.int .u8 (x.toNat : Int)) → pIndexStr (.string s) (.int .i64 (i : Nat)) K := fun hK => pIndexStr_s hi' (by rw [hx]; exact hK)
    refine idx ?_
    rw [pBin_quo8 (by omega), show (x.toNat : Int) / 16 = ((x.toNat / 16 : Nat) : Int) by omega]
    refine hex_idx (by omega) ?_
    refine idx ?_
    rw [pBin_rem (by omega), show (x.toNat : Int) % 16 = ((x.toNat % 16 : Nat) : Int) by omega]
    refine hex_idx (by omega) ?_
    rw [pVal1 rfl, pVal1 rfl]
    have hl := hexL_len ((bl s).take i)
    rw [List.length_take] at hl
    refine ⟨by simp [allOne, Value.oneCell'], ?_⟩
    refine ho.push (ok_by w0) (m := 2) (ys := [hexD (x.toNat / 16), hexD (x.toNat % 16)]) (nss := [encB (hexD (x.toNat / 16)), encB (hexD (x.toNat % 16))]) (Gs := [[], []]) rfl rfl rfl rfl (fun j c y g e1 e2 e3 => ?_) (by simp) (by simp) (by omega) (by omega) fun v' F' s' k' o' f' => ?_
    · match j with
      | 0 => simp at e1 e2 e3; subst e1 e2 e3; exact ⟨rfl, rfl, trivial⟩
      | 1 => simp at e1 e2 e3; subst e1 e2 e3; exact ⟨rfl, rfl, trivial⟩
      | j + 2 => simp at e1
    · rw [pBin_add (by omega)]
      refine hL _ _ (m - 1) (by omega) ⟨i + 1, v', F', by omega, k'.old ks hF, fresh_in ks hF fun j hj => ?_, ?_, by simp⟩
      · rcases f' j hj with h | h | h
        · exact .inl h
        · simp at h
        · exact .inr h
      · rw [List.take_add_one, hget, Option.toList_some, hexL_snoc]; exact o'
  · have e : i = s.size := by omega
    subst e
    rw [List.take_of_length_le (by omega)] at ho
    exact pStr_own ho.osl (hR st ks)

theorem impl_dataText {s : ByteArray} (hs : s.size ≤ 1000000000) {R : Value → Vw → Prop} (hR : ∀ σ', Keeps σ σ' → R (.string (dataT s)) σ') : AC Tryd.prog w0 n_impl_dataText [.string s] σ R := by
  refine ac_impl_dataText ?_
  unfold vc_impl_dataText
  rw [pBin_seq, pIf_d]
  refine ⟨fun h => ?_, fun h => ?_⟩
  · rw [dataT, if_pos (by rw [h]; rfl)] at hR; exact hR σ (Keeps.refl _)
  · have h0 : ¬ s.size = 0 := fun e => h (bl_inj (by rw [List.eq_nil_of_length_eq_zero ((size_bl s).trans e)]))
    rw [dataT, if_neg h0] at hR
    exact impl_hexOf hs hR
end
end Go.Proofs.YtkblkdnnncklgaaDoor

/- Trees: what is read of one; their size, their copy, their comparison. -/
set_option linter.unusedVariables false
set_option linter.unusedSimpArgs false
namespace Go.Proofs.YtkblkdnnncklgaaDoor
open Go Go.Av

inductive Tr where
  | mk (dir : Bool) (mode : Int) (text : ByteArray) (names : List ByteArray) (kids : List Tr)
noncomputable instance : DecidableEq Tr := fun _ _ => Classical.propDecidable _

/-- What is read: n bounds the depth. -/
def RT : Nat → (Addr → Option Value) → List Value → Tr → Prop
  | 0, _, _, _ => False
  | n + 1, rd, es, .mk d m t ns ks => ∃ u w, es = [.bool d, .int .i64 m, .string t, u, w] ∧ (-9223372036854775808 ≤ m ∧ m ≤ 9223372036854775807) ∧ t.size ≤ 9223372036854775807 ∧ RSl 1 RS rd u ns ∧ RSl 5 (RT n) rd w ks
def OT (w0 : World) : Nat → Vw → List Nat → List Value → Tr → Prop
  | 0, _, _, _, _ => False
  | n + 1, σ, F, es, .mk d m t ns ks => ∃ u w F1 F2, es = [.bool d, .int .i64 m, .string t, u, w] ∧ (-9223372036854775808 ≤ m ∧ m ≤ 9223372036854775807) ∧ t.size ≤ 9223372036854775807 ∧ OStrs w0 σ F1 u ns ∧ OSl w0 5 (OT w0 n) σ F2 w ks ∧ F = F1 ++ F2 ∧ F.Nodup
def szT : Nat → Tr → Nat
  | 0, _ => 0
  | n + 1, .mk d m t ns ks => t.size + (ns.length + sumS ns) + (ks.length + sumBy (szT n) ks)

theorem mono_rt : ∀ (n : Nat) (rd rd' : Addr → Option Value) (es : List Value) (x : Tr), Le rd rd' → RT n rd es x → RT n rd' es x
  | 0, _, _, _, _, _, h => h
  | n + 1, rd, rd', es, .mk d m t ns ks, hl, h => by
    obtain ⟨u, w, h1, h2, h3, h4, h5⟩ := h
    exact ⟨u, w, h1, h2, h3, h4.mono hl fun _ _ h => h, h5.mono hl fun es x => mono_rt n _ _ es x hl⟩

section
variable {w0 : World} {σ : Vw}

theorem ok_rt (w0 : World) : ∀ n, OOk w0 5 (RT n) (OT w0 n)
  | 0 => ⟨fun _ _ _ _ h => h.elim, fun _ _ _ _ _ h => h.elim, fun _ _ _ _ h => h.elim, fun _ _ _ _ h => h.elim, fun _ _ _ _ h => h.elim, fun _ _ _ _ h => h.elim⟩
  | n + 1 => by
    have ih := ok_rt w0 n
    refine ⟨?_, ?_, ?_, ?_, ?_, ?_⟩
    · rintro σ F es ⟨d, m, t, ns, ks⟩ ⟨u, w, F1, F2, h1, h2, h3, h4, h5, h6, h7⟩
      exact ⟨u, w, h1, h2, h3, h4.rel (ok_str w0), h5.rel ih⟩
    · rintro σ σ' F es ⟨d, m, t, ns, ks⟩ ⟨u, w, F1, F2, h1, h2, h3, h4, h5, h6, h7⟩ hF
      subst h6
      exact ⟨u, w, F1, F2, h1, h2, h3, h4.frame (ok_str w0) fun b hb => hF b (List.mem_append_left _ hb), h5.frame ih fun b hb => hF b (List.mem_append_right _ hb), rfl, h7⟩
    · rintro σ F es ⟨d, m, t, ns, ks⟩ ⟨u, w, F1, F2, h1, h2, h3, h4, h5, h6, h7⟩ b hb
      subst h6
      rcases List.mem_append.1 hb with h | h
      · exact h4.dom (ok_str w0) b h
      · exact h5.dom ih b h
    · rintro σ F es ⟨d, m, t, ns, ks⟩ ⟨u, w, F1, F2, h1, h2, h3, h4, h5, h6, h7⟩; exact h7
    · rintro σ F es ⟨d, m, t, ns, ks⟩ ⟨u, w, F1, F2, rfl, h2, h3, h4, h5, h6, h7⟩; rfl
    · rintro σ F es ⟨d, m, t, ns, ks⟩ ⟨u, w, F1, F2, rfl, h2, h3, h4, h5, h6, h7⟩ c hc
      simp at hc
      rcases hc with rfl | rfl | rfl | rfl | rfl
      · rfl
      · rfl
      · rfl
      · exact OSl.one' h4
      · exact OSl.one' h5

theorem pVal_5 {a b c d e : Value} {A : Prop} (h1 : a.oneCell' = true) (h2 : b.oneCell' = true) (h3 : c.oneCell' = true) (h4 : d.oneCell' = true) (h5 : e.oneCell' = true) : pVal true 5 (.agg ⟨[a, b, c, d, e]⟩) A ↔ A := pValN rfl (by simp [h1, h2, h3, h4, h5])

theorem szTree : ∀ (n : Nat) {es : List Value} {x : Tr} {m : Int} {R : Value → Vw → Prop}, RT n (Av.get w0 σ) es x → (0 ≤ m ∧ m ≤ 9223372036854775807) → R (.int .i64 (Av.left m (szT n x))) σ → AC Tryd.prog w0 n_laws_szTree [.agg ⟨es⟩, .int .i64 m] σ R
  | 0, _, _, _, _, h, _, _ => h.elim
  | n + 1, es, .mk d md t ns ks, m, R, h, hm, hR => by
    obtain ⟨u, w, rfl, h2, h3, h4, h5⟩ := h
    refine ac_laws_szTree ?_
    unfold vc_laws_szTree
    rw [pVal_5 rfl rfl rfl h4.one h5.one]
    show pLenS (.string t) _
    rw [pLenS_s, pBin_sub (by omega), pBin_lt, pIf_d]
    have low : m < (szT (n + 1) (.mk d md t ns ks) : Nat) → R (.int .i64 (-1)) σ := fun hlt => by rw [Av.left_low hlt] at hR; exact hR
    have hsz : szT (n + 1) (.mk d md t ns ks) = t.size + (ns.length + sumS ns) + (ks.length + sumBy (szT n) ks) := rfl
    refine ⟨fun hlt => low (by omega), fun hge => ?_⟩
    refine szStringS h4 (by omega) ?_
    rw [show left (m - (t.size : Int)) (ns.length + sumS ns) = Av.left (m - (t.size : Int)) (ns.length + sumS ns) from rfl, pBin_lt, pIf_d]
    refine ⟨fun hlt => low (by rw [Av.left_neg] at hlt; omega), fun hge2 => ?_⟩
    rw [Av.left_neg] at hge2
    rw [Av.left_in (by omega)]
    refine ac_laws_szTreeS ?_
    have e : ∀ (v : Value) (m : Int) (R : Value → Vw → Prop), vc_laws_szTreeS w0 v (.int .i64 m) σ R = VszS Tryd.prog w0 3 5 n_laws_szTree v (.int .i64 m) σ R := fun v m R => by kernel_rfl
    show vc_laws_szTreeS w0 w _ σ _
    rw [e]
    refine szS_gen (sz := szT n) (fun x _ es m R' h hm hR => szTree n h hm hR) h5 (by omega) ?_
    rw [pBin_lt, pIf_d]
    refine ⟨fun hlt => low (by rw [Av.left_neg] at hlt; omega), fun hge3 => ?_⟩
    rw [Av.left_neg] at hge3
    rw [Av.left_in (by omega)]
    rw [Av.left_in (by omega)] at hR
    rw [show m - (t.size : Int) - ((ns.length + sumS ns : Nat) : Int) - ((ks.length + sumBy (szT n) ks : Nat) : Int) = m - ((szT (n + 1) (.mk d md t ns ks) : Nat) : Int) by omega]
    exact hR
end
end Go.Proofs.YtkblkdnnncklgaaDoor

/- Trees: their copy, their comparison. -/
set_option linter.unusedVariables false
set_option linter.unusedSimpArgs false
namespace Go.Proofs.YtkblkdnnncklgaaDoor
open Go Go.Av

section
variable {w0 : World}

/-- No list in it is too long. -/
def fitT : Nat → Tr → Prop
  | 0, _ => True
  | n + 1, .mk d m t ns ks => ns.length ≤ 1000000000000 ∧ ks.length ≤ 1000000000000 ∧ ∀ k, k ∈ ks → fitT n k
theorem fit_of : ∀ (n : Nat) (x : Tr), szT n x ≤ 1000000000000 → fitT n x
  | 0, _, _ => trivial
  | n + 1, .mk d m t ns ks, h => by
    simp only [szT] at h
    refine ⟨by omega, by omega, fun k hk => fit_of n k ?_⟩
    have := sumBy_mem (f := szT n) hk
    omega

theorem toTree : ∀ (n : Nat) {σ : Vw} {es : List Value} {x : Tr} {R : Value → Vw → Prop}, RT n (Av.get w0 σ) es x → fitT n x → (∀ es' F σ', Keeps σ σ' → OT w0 n σ' F es' x → (∀ b, b ∈ F → σ b = none) → R (.agg ⟨es'⟩) σ') → AC Tryd.prog w0 n_laws_toTree [.agg ⟨es⟩] σ R
  | 0, _, _, _, _, h, _, _ => h.elim
  | n + 1, σ, es, .mk d md t ns ks, R, h, hf, hR => by
    obtain ⟨u, w, rfl, h2, h3, h4, h5⟩ := h
    obtain ⟨f1, f2, f3⟩ := hf
    refine ac_laws_toTree ?_
    unfold vc_laws_toTree
    rw [pVal_5 rfl rfl rfl h4.one h5.one]
    simp only [cellOf_agg, List.getD_cons_zero, List.getD_cons_succ]
    rw [pVal1 rfl, pVal1 rfl, pVal1 rfl]
    refine toStringS' h4 f1 fun u' F1 s1 k1 o1 n1 => ?_
    rw [pVal1 (OSl.one' o1)]
    refine ac_laws_toTreeS ?_
    have e : ∀ (v : Value) (s : Vw) (R : Value → Vw → Prop), vc_laws_toTreeS w0 v s R = VtoS Tryd.prog w0 3 t_impl_Tree 5 80 n_laws_toTree [.bool false, .int .i64 0, .string ⟨#[]⟩, .slice none 0 0, .slice none 0 0] v s R := fun v s R => by kernel_rfl
    rw [e]
    refine toS_gen (n := 5) (Rel := RT n) (bytes := 80) rfl (ok_rt w0 n) (fun _ _ _ _ hl h => mono_rt n _ _ _ _ hl h) (fun x hx s es R' _ h hR => toTree n h (f3 x hx) hR) (h5.mono k1.le fun es x => mono_rt n _ _ es x k1.le) (by omega) fun w' F2 s2 k2 o2 n2 => ?_
    rw [pVal1 (OSl.one' o2), pVal_5 rfl rfl rfl (OSl.one' o1) (OSl.one' o2)]
    have o1' := o1.frame (ok_str w0) (σ' := s2) fun b hb => by
      cases hs : s1 b with
      | none => exact absurd hs (o1.dom (ok_str w0) b hb).2
      | some r => exact k2 b r hs
    refine hR _ (F1 ++ F2) s2 (k1.trans k2) ⟨u', w', F1, F2, rfl, h2, h3, o1', o2, rfl, ?_⟩ fun b hb => ?_
    · refine List.nodup_append.2 ⟨o1.2.1, o2.2.1, fun a ha b hb hab => ?_⟩
      subst hab
      exact (o1.dom (ok_str w0) a ha).2 (n2 a hb)
    · rcases List.mem_append.1 hb with h | h
      · exact n1 b h
      · have := n2 b h
        cases hs : σ b with
        | none => rfl
        | some r => rw [k1 b r hs] at this; cases this

theorem eqTree : ∀ (n : Nat) {σ : Vw} {es es' : List Value} {x y : Tr} {R : Value → Vw → Prop}, RT n (Av.get w0 σ) es x → RT n (Av.get w0 σ) es' y → R (.bool (decide (x = y))) σ → AC Tryd.prog w0 n_laws_eqTree [.agg ⟨es⟩, .agg ⟨es'⟩] σ R
  | 0, _, _, _, _, _, _, h, _, _ => h.elim
  | n + 1, σ, es, es', .mk d md t ns ks, .mk d' md' t' ns' ks', R, h, h', hR => by
    obtain ⟨u, w, rfl, h2, h3, h4, h5⟩ := h
    obtain ⟨u', w', rfl, h2', h3', h4', h5'⟩ := h'
    refine ac_laws_eqTree ?_
    unfold vc_laws_eqTree
    rw [pVal_5 rfl rfl rfl h4.one h5.one, pVal_5 rfl rfl rfl h4'.one h5'.one]
    simp only [cellOf_agg, List.getD_cons_zero, List.getD_cons_succ]
    have no : ¬ (d = d' ∧ md = md' ∧ t = t' ∧ ns = ns' ∧ ks = ks') → R (.bool false) σ := fun hn => by
      have : ¬ (Tr.mk d md t ns ks = Tr.mk d' md' t' ns' ks') := fun e => hn (by cases e; exact ⟨rfl, rfl, rfl, rfl, rfl⟩)
      simpa [this] using hR
    have eb : ∀ K : Value → Prop, pBin Tryd.prog 4 .neq (.bool d) (.bool d') K ↔ K (.bool !(d == d')) := fun K => pBin_b (by kernel_rfl) rfl
    rw [eb, pIf_b]
    refine ⟨fun h => no fun hh => by simp [hh.1] at h, fun e1 => ?_⟩
    rw [pBin_ne, pIf_d]
    refine ⟨fun h => no fun hh => h hh.2.1, fun e2 => ?_⟩
    rw [pBin_sne, pIf_d]
    refine ⟨fun h => no fun hh => h hh.2.2.1, fun e3 => ?_⟩
    refine eqStringS h4 h4' ?_
    rw [pUn_not, pIf_b]
    refine ⟨fun h => no fun hh => by simp [hh.2.2.2.1] at h, fun e4 => ?_⟩
    refine ac_laws_eqTreeS ?_
    have e : ∀ (v v' : Value) (R : Value → Vw → Prop), vc_laws_eqTreeS w0 v v' σ R = VeqS Tryd.prog w0 3 5 n_laws_eqTree v v' σ R := fun v v' R => by kernel_rfl
    rw [e]
    refine eqS_gen (fun x _ y es es' R' h h' hR => eqTree n h h' hR) h5 h5' ?_
    rw [pUn_not, pIf_b]
    refine ⟨fun h => no fun hh => by simp [hh.2.2.2.2] at h, fun e5 => ?_⟩
    have : Tr.mk d md t ns ks = Tr.mk d' md' t' ns' ks' := by
      simp at e1 e2 e3 e4 e5
      rw [e1, e2, e3, e4, e5]
    simpa [this] using hR
end
end Go.Proofs.YtkblkdnnncklgaaDoor

/- Trees: when one is sound. -/
set_option linter.unusedVariables false
set_option linter.unusedSimpArgs false
namespace Go.Proofs.YtkblkdnnncklgaaDoor
open Go Go.Av

def prevLt (ns : List ByteArray) (j : Nat) (x : ByteArray) : Bool :=
  match j with
  | 0 => true
  | i + 1 => match ns[i]? with
    | some y => strLt y x
    | none => true
noncomputable def nameAt (ns : List ByteArray) (j : Nat) (x : ByteArray) : Bool := nameOk x && prevLt ns j x
def namesP (ns : List ByteArray) : Prop := ∀ (j : Nat) (x : ByteArray), ns[j]? = some x → nameAt ns j x = true
open Classical in
noncomputable def plainB : Tr → Bool
  | .mk d m t ns ks => inB m 0 7 && (decide (ns.length = ks.length) && (if d = true then decide (namesP ns) && decide (t = ⟨#[]⟩) else decide (t.size ≤ 24) && decide (ns.length = 0)))
def allB {α : Type} (p : α → Bool) : List α → Bool
  | [] => true
  | a :: r => p a && allB p r
theorem allB_iff {α : Type} {p : α → Bool} {xs : List α} : allB p xs = true ↔ ∀ (j : Nat) (x : α), xs[j]? = some x → p x = true := by
  induction xs with
  | nil => simp [allB]
  | cons a r ih =>
    simp only [allB, Bool.and_eq_true, ih]
    constructor
    · rintro ⟨h1, h2⟩ j x hj
      cases j with
      | zero => simp at hj; subst hj; exact h1
      | succ j => exact h2 j x (by simpa using hj)
    · intro h
      exact ⟨h 0 a rfl, fun j x hj => h (j + 1) x (by simpa using hj)⟩
theorem allB_bad {α : Type} {p : α → Bool} {xs : List α} {j : Nat} {x : α} (hj : xs[j]? = some x) (h : p x = false) : allB p xs = false := by
  cases hc : allB p xs with
  | false => rfl
  | true => have := allB_iff.1 hc j x hj; rw [h] at this; cases this
noncomputable def soundB : Nat → Tr → Int → Bool
  | 0, _, _ => false
  | n + 1, .mk d m t ns ks, k => plainB (.mk d m t ns ks) && (decide (k ≤ 4) && allB (fun x => soundB n x (k + 1)) ks)

section
variable {w0 : World} {σ : Vw}

theorem pBin_sge {P : Program} {T : Nat} {a b : ByteArray} {K : Value → Prop} : pBin P T .geq (.string a) (.string b) K ↔ K (.bool (!strLt a b)) := pBin_s rfl

theorem spec_Plain {n : Nat} {es : List Value} {x : Tr} {R : Value → Vw → Prop} (h : RT n (Av.get w0 σ) es x) (hR : R (.bool (plainB x)) σ) : AC Tryd.prog w0 n_spec_l1Plain [.agg ⟨es⟩] σ R := by
  obtain _ | n := n
  · exact h.elim
  obtain ⟨d, m, t, ns, ks⟩ := x
  obtain ⟨u, w, rfl, h2, h3, h4, h5⟩ := h
  refine ac_spec_l1Plain ?_
  unfold vc_spec_l1Plain
  have hl := h4.le
  rw [pVal_5 rfl rfl rfl h4.one h5.one]
  simp only [cellOf_agg, List.getD_cons_zero, List.getD_cons_succ]
  refine spec_In ?_
  rw [pUn_not, pIf_b]
  refine ⟨fun hb => ?_, fun hm => ?_⟩
  · have : plainB (.mk d m t ns ks) = false := by simp at hb; simp [plainB, hb]
    rw [this] at hR; exact hR
  have hm' : inB m 0 7 = true := by simpa using hm
  rw [h4.len, h5.len, pBin_ne, pIf_d]
  refine ⟨fun hne => ?_, fun heq => ?_⟩
  · have : plainB (.mk d m t ns ks) = false := by
      have : ¬ ns.length = ks.length := by omega
      simp [plainB, this]
    rw [this] at hR; exact hR
  have heq' : ns.length = ks.length := by omega
  rw [pUn_not, pIf_b]
  refine ⟨fun hd => ?_, fun hd => ?_⟩
  · have hd' : d = false := by simpa using hd
    subst hd'
    have hp : plainB (.mk false m t ns ks) = (decide (t.size ≤ 24) && decide (ns.length = 0)) := by simp [plainB, hm', heq']
    rw [hp] at hR
    rw [pLenS_s, pBin_le, pIf_d]
    refine ⟨fun ht => ?_, fun ht => ?_⟩
    · rw [h4.len, pBin_eq]
      have e1 : decide (t.size ≤ 24) = true := by simp; omega
      have e2 : decide (ns.length = 0) = decide ((ns.length : Int) = 0) := by congr 1; apply propext; omega
      rw [e1, e2] at hR; exact hR
    · have e1 : decide (t.size ≤ 24) = false := by simp; omega
      rw [e1] at hR; exact hR
  · have hd' : d = true := by simpa using hd
    subst hd'
    have hp : ∀ b, b = plainB (.mk true m t ns ks) → R (.bool b) σ := fun b e => e ▸ hR
    refine loop_rule (m := ns.length) (fun k l s => ∃ j, s = σ ∧ k + j = ns.length ∧ (∀ (i : Nat) (x : ByteArray), i < j → ns[i]? = some x → nameAt ns i x = true) ∧ l = [.bool false, .int .i64 (j : Nat), .bool true, .int .i64 m, .string t, u, w]) ?_ ⟨0, rfl, by omega, fun i x h => by omega, rfl⟩
    rintro k l s L ⟨j, rfl, hk, ht, rfl⟩ hL
    simp only [vget, List.getD_cons_zero, List.getD_cons_succ]
    rw [h4.len, pBin_lt, pIf_d]
    refine ⟨fun hj => ?_, fun hj => ?_⟩
    · have hx := List.getElem?_eq_getElem (show j < ns.length by omega)
      generalize hxj : ns[j] = x at hx
      have bad : nameAt ns j x = false → R (.bool false) s := fun hb => hp false (by
        have : ¬ namesP ns := fun hh => by rw [hh j x hx] at hb; cases hb
        simp [plainB, this])
      have next : nameAt ns j x = true → L [.bool false, .int .i64 ((j : Int) + 1), .bool true, .int .i64 m, .string t, u, w] s := fun hg => hL _ _ (k - 1) (by omega) ⟨j + 1, rfl, by omega, fun i y hi he => by
        by_cases e : i = j
        · subst e; rw [hx] at he; cases he; exact hg
        · exact ht i y (by omega) he, rfl⟩
      refine RSl.at1 h4 hx fun g hg hs => ?_
      rw [hg]
      refine spec_nameOk hs ?_
      rw [pUn_not, pIf_b]
      refine ⟨fun hb => bad (by simp at hb; simp [nameAt, hb]), fun hg => ?_⟩
      have hg' : nameOk x = true := by simpa using hg
      rw [pBin_gt, pIf_d]
      refine ⟨fun hpos => ?_, fun h0 => ?_⟩
      · obtain ⟨i, rfl⟩ : ∃ i, j = i + 1 := ⟨j - 1, by omega⟩
        rw [pBin_sub (by omega)]
        have hy := List.getElem?_eq_getElem (show i < ns.length by omega)
        generalize hyi : ns[i] = y at hy
        rw [show ((i + 1 : Nat) : Int) - 1 = (i : Nat) by omega]
        refine RSl.at1 h4 hy fun g2 hg2 hs2 => ?_
        refine RSl.at1 h4 hx fun g3 hg3 hs3 => ?_
        have hpl : prevLt ns (i + 1) x = strLt y x := by simp [prevLt, hy]
        rw [hg2, hg3, pBin_sge, pIf_b]
        refine ⟨fun hb => bad (by simp at hb; simp [nameAt, hpl, hb]), fun hb => ?_⟩
        rw [pBin_add (by omega)]
        exact next (by simp at hb; simp [nameAt, hg', hpl, hb])
      · have : j = 0 := by omega
        subst this
        rw [pBin_add (by omega)]
        exact next (by simp [nameAt, hg', prevLt])
    · have hj' : j = ns.length := by omega
      subst hj'
      show pBin Tryd.prog 9 .eql (.string t) (.string ⟨#[]⟩) _
      rw [pBin_seq]
      refine hp _ ?_
      have : namesP ns := fun i x he => ht i x (List.getElem?_eq_some_iff.1 he).1 he
      simp [plainB, hm', heq', this]
end
end Go.Proofs.YtkblkdnnncklgaaDoor

/- Trees: sound by either reading. -/
set_option linter.unusedVariables false
set_option linter.unusedSimpArgs false
namespace Go.Proofs.YtkblkdnnncklgaaDoor
open Go Go.Av

section
variable {w0 : World}

theorem spec_Parts : ∀ (n : Nat) {σ : Vw} {es : List Value} {x : Tr} {k : Int} {R : Value → Vw → Prop}, RT n (Av.get w0 σ) es x → (0 ≤ k ∧ k ≤ 5) → R (.bool (soundB n x k)) σ → AC Tryd.prog w0 n_spec_l1Parts [.agg ⟨es⟩, .int .i64 k] σ R
  | 0, _, _, _, _, _, h, _, _ => h.elim
  | n + 1, σ, es, .mk d m t ns ks, k, R, h, hk, hR => by
    have h0 := h
    obtain ⟨u, w, rfl, h2, h3, h4, h5⟩ := h
    refine ac_spec_l1Parts ?_
    unfold vc_spec_l1Parts
    have hl := h5.le
    rw [pVal_5 rfl rfl rfl h4.one h5.one]
    simp only [cellOf_agg, List.getD_cons_zero, List.getD_cons_succ]
    refine spec_Plain h0 ?_
    rw [pUn_not, pIf_b]
    refine ⟨fun hb => ?_, fun hg => ?_⟩
    · have : soundB (n + 1) (.mk d m t ns ks) k = false := by simp at hb; simp [soundB, hb]
      rw [this] at hR; exact hR
    have hg' : plainB (.mk d m t ns ks) = true := by simpa using hg
    rw [pBin_gt, pIf_d]
    refine ⟨fun hb => ?_, fun hle => ?_⟩
    · have : soundB (n + 1) (.mk d m t ns ks) k = false := by
        have : ¬ k ≤ 4 := by omega
        simp [soundB, this]
      rw [this] at hR; exact hR
    have hle' : k ≤ 4 := by omega
    have hs : soundB (n + 1) (.mk d m t ns ks) k = allB (fun x => soundB n x (k + 1)) ks := by simp [soundB, hg', hle']
    rw [hs] at hR
    refine loop_rule (m := ks.length) (fun c l s => ∃ j, s = σ ∧ c + j = ks.length ∧ (∀ (i : Nat) (x : Tr), i < j → ks[i]? = some x → soundB n x (k + 1) = true) ∧ l = [.int .i64 k, .bool false, .int .i64 (j : Nat), .bool d, .int .i64 m, .string t, u, w]) ?_ ⟨0, rfl, by omega, fun i x h => by omega, rfl⟩
    rintro c l s L ⟨j, rfl, hc, ht, rfl⟩ hL
    simp only [vget, List.getD_cons_zero, List.getD_cons_succ]
    rw [h5.len, pBin_lt, pIf_d]
    refine ⟨fun hj => ?_, fun hj => ?_⟩
    · have hx := List.getElem?_eq_getElem (show j < ks.length by omega)
      generalize hxj : ks[j] = x at hx
      refine h5.at hx fun g hg => ?_
      rw [pBin_add (by omega)]
      refine spec_Parts n (x := x) hg (by omega) ?_
      rw [pUn_not, pIf_b]
      refine ⟨fun hb => ?_, fun hb => ?_⟩
      · rw [allB_bad hx (by simpa using hb)] at hR; exact hR
      · rw [pBin_add (by omega)]
        refine hL _ _ (c - 1) (by omega) ⟨j + 1, rfl, by omega, fun i y hi he => ?_, rfl⟩
        by_cases e : i = j
        · subst e; rw [hx] at he; cases he; simpa using hb
        · exact ht i y (by omega) he
    · have hj' : j = ks.length := by omega
      subst hj'
      rw [allB_iff.2 fun i x he => ht i x (List.getElem?_eq_some_iff.1 he).1 he] at hR
      exact hR
end
end Go.Proofs.YtkblkdnnncklgaaDoor

/- Trees: sound by the program's own reading. -/
set_option linter.unusedVariables false
set_option linter.unusedSimpArgs false
namespace Go.Proofs.YtkblkdnnncklgaaDoor
open Go Go.Av

section
variable {w0 : World}

theorem impl_sound : ∀ (n : Nat) {σ : Vw} {es : List Value} {x : Tr} {k : Int} {R : Value → Vw → Prop}, RT n (Av.get w0 σ) es x → (0 ≤ k ∧ k ≤ 5) → R (.bool (soundB n x k)) σ → AC Tryd.prog w0 n_impl_Tree_sound [.agg ⟨es⟩, .int .i64 k] σ R
  | 0, _, _, _, _, _, h, _, _ => h.elim
  | n + 1, σ, es, .mk d m t ns ks, k, R, h, hk, hR => by
    have h0 := h
    obtain ⟨u, w, rfl, h2, h3, h4, h5⟩ := h
    refine ac_impl_Tree_sound ?_
    unfold vc_impl_Tree_sound
    have hl := h4.le
    rw [pVal_5 rfl rfl rfl h4.one h5.one]
    simp only [cellOf_agg, List.getD_cons_zero, List.getD_cons_succ]
    have no : soundB (n + 1) (.mk d m t ns ks) k = false → R (.bool false) σ := fun e => by rw [e] at hR; exact hR
    refine ac_impl_modeOk ?_
    unfold vc_impl_modeOk
    refine impl_within ?_
    show pUn .not (.bool _) _
    rw [pUn_not, pIf_b]
    refine ⟨fun hb => no (by simp at hb; simp [soundB, plainB, hb]), fun hm => ?_⟩
    have hm' : inB m 0 7 = true := by simpa using hm
    rw [pBin_gt, pIf_d]
    refine ⟨fun hb => no (by have : ¬ k ≤ 4 := by omega
                             simp [soundB, this]), fun hle => ?_⟩
    have hle' : k ≤ 4 := by omega
    rw [h4.len, h5.len, pBin_ne, pIf_d]
    refine ⟨fun hne => no (by have : ¬ ns.length = ks.length := by omega
                              simp [soundB, plainB, this]), fun heq => ?_⟩
    have heq' : ns.length = ks.length := by omega
    rw [pUn_not, pIf_b]
    refine ⟨fun hd => ?_, fun hd => ?_⟩
    · have hd' : d = false := by simpa using hd
      subst hd'
      rw [pLenS_s, pBin_le, pIf_d]
      refine ⟨fun htx => ?_, fun htx => no (by have : ¬ t.size ≤ 24 := by omega
                                               simp [soundB, plainB, this])⟩
      rw [h4.len, pBin_eq]
      have e : soundB (n + 1) (.mk false m t ns ks) k = decide ((ns.length : Int) = 0) := by
        have e1 : t.size ≤ 24 := by omega
        by_cases hz : ns.length = 0
        · have hkz : ks = [] := List.length_eq_zero_iff.1 (by omega)
          have hnz : ns = [] := List.length_eq_zero_iff.1 hz
          subst hkz hnz
          simp [soundB, plainB, hm', hle', e1, allB]
        · have hz' : ¬ ((ns.length : Int) = 0) := by omega
          have hz2 : ¬ (ks.length = 0) := by omega
          simp [soundB, plainB, heq', hz', hz2]
      rw [e] at hR; exact hR
    · have hd' : d = true := by simpa using hd
      subst hd'
      rw [pBin_sne, pIf_d]
      refine ⟨fun htx => no (by simp [soundB, plainB, htx]), fun htx => ?_⟩
      have htx' := Decidable.not_not.1 htx
      rw [h4.len]
      refine loop_rule (m := ns.length) (fun c l s => ∃ j, s = σ ∧ c + j = ns.length ∧ (∀ (i : Nat) (x : ByteArray), i < j → ns[i]? = some x → nameAt ns i x = true) ∧ (∀ (i : Nat) (x : Tr), i < j → ks[i]? = some x → soundB n x (k + 1) = true) ∧ l = [.int .i64 k, .bool false, u, .int .i64 ns.length, .int .i64 (j : Nat), .bool true, .int .i64 m, .string t, u, w]) ?_ ⟨0, rfl, by omega, fun i x h => by omega, fun i x h => by omega, rfl⟩
      rintro c l s L ⟨j, rfl, hc, ht, hkd, rfl⟩ hL
      simp only [vget, List.getD_cons_zero, List.getD_cons_succ]
      rw [pBin_lt, pIf_d]
      refine ⟨fun hj => ?_, fun hj => ?_⟩
      · have hx := List.getElem?_eq_getElem (show j < ns.length by omega)
        generalize hxj : ns[j] = x at hx
        have hkk := List.getElem?_eq_getElem (show j < ks.length by omega)
        generalize hkj : ks[j] = kid at hkk
        have bad : nameAt ns j x = false → R (.bool false) s := fun hb => no (by
          have : ¬ namesP ns := fun hh => by rw [hh j x hx] at hb; cases hb
          simp [soundB, plainB, this])
        have last : nameAt ns j x = true → pIndexAddr 5 w (.int .i64 j) (fun v35 => pLoad w0 5 v35 s (fun g36 => pBin Tryd.prog 3 .add (.int .i64 k) (.int .i64 1) (fun v37 => AC Tryd.prog w0 n_impl_Tree_sound [.agg ⟨[g36 0, g36 1, g36 2, g36 3, g36 4]⟩, v37] s (fun v38 s39 => pUn .not v38 (fun v40 => pIf v40 (R (.bool false) s39) (pBin Tryd.prog 3 .add (.int .i64 j) (.int .i64 1) (fun v41 => L [.int .i64 k, .bool false, u, .int .i64 ns.length, v41, .bool true, .int .i64 m, .string t, u, w] s39))))))) := by
          intro hgood
          refine h5.at hkk fun g hg => ?_
          rw [pBin_add (by omega)]
          refine impl_sound n (x := kid) hg (by omega) ?_
          rw [pUn_not, pIf_b]
          refine ⟨fun hb => no ?_, fun hb => ?_⟩
          · have := allB_bad (p := fun x => soundB n x (k + 1)) hkk (by simpa using hb)
            simp [soundB, this]
          · rw [pBin_add (by omega)]
            refine hL _ _ (c - 1) (by omega) ⟨j + 1, rfl, by omega, fun i y hi he => ?_, fun i y hi he => ?_, rfl⟩
            · by_cases e : i = j
              · subst e; rw [hx] at he; cases he; exact hgood
              · exact ht i y (by omega) he
            · by_cases e : i = j
              · subst e; rw [hkk] at he; cases he; simpa using hb
              · exact hkd i y (by omega) he
        refine RSl.at1 h4 hx fun g hg hs => ?_
        rw [hg]
        refine impl_nameOk hs ?_
        rw [pUn_not, pIf_b]
        refine ⟨fun hb => bad (by simp at hb; simp [nameAt, hb]), fun hg => ?_⟩
        have hg' : nameOk x = true := by simpa using hg
        rw [pBin_gt, pIf_d]
        refine ⟨fun hpos => ?_, fun h0 => ?_⟩
        · obtain ⟨i, rfl⟩ : ∃ i, j = i + 1 := ⟨j - 1, by omega⟩
          rw [pBin_sub (by omega)]
          have hy := List.getElem?_eq_getElem (show i < ns.length by omega)
          generalize hyi : ns[i] = y at hy
          rw [show ((i + 1 : Nat) : Int) - 1 = (i : Nat) by omega]
          refine RSl.at1 h4 hy fun g2 hg2 hs2 => ?_
          have hpl : prevLt ns (i + 1) x = strLt y x := by simp [prevLt, hy]
          rw [hg2, pBin_sge, pIf_b]
          refine ⟨fun hb => bad (by simp at hb; simp [nameAt, hpl, hb]), fun hb => ?_⟩
          exact last (by simp at hb; simp [nameAt, hg', hpl, hb])
        · have : j = 0 := by omega
          subst this
          exact last (by simp [nameAt, hg', prevLt])
      · have hj' : j = ns.length := by omega
        subst hj'
        have e1 : namesP ns := fun i x he => ht i x (List.getElem?_eq_some_iff.1 he).1 he
        have e2 : allB (fun x => soundB n x (k + 1)) ks = true := allB_iff.2 fun i x he => hkd i x (by have := (List.getElem?_eq_some_iff.1 he).1; omega) he
        have e : soundB (n + 1) (.mk true m t ns ks) k = true := by simp [soundB, plainB, hm', heq', e1, htx', hle', e2]
        rw [e] at hR; exact hR
end
end Go.Proofs.YtkblkdnnncklgaaDoor

/- Trees: how many paths; the laws 'TreeOk' and 'TreeCount', of the functions alone. -/
set_option linter.unusedVariables false
set_option linter.unusedSimpArgs false
namespace Go.Proofs.YtkblkdnnncklgaaDoor
open Go Go.Av

def cntT : Nat → Tr → Nat
  | 0, _ => 0
  | n + 1, .mk d m t ns ks => ks.length + sumBy (cntT n) ks
theorem sumBy_mono {α : Type} {f g : α → Nat} : ∀ {xs : List α}, (∀ x, x ∈ xs → f x ≤ g x) → sumBy f xs ≤ sumBy g xs
  | [], _ => by simp [sumBy]
  | a :: r, h => by
    have := sumBy_mono (xs := r) fun x hx => h x (List.mem_cons_of_mem _ hx)
    have := h a List.mem_cons_self
    simp only [sumBy]; omega
theorem sumBy_one {α : Type} {f : α → Nat} : ∀ {xs : List α}, sumBy (fun x => f x + 1) xs = sumBy f xs + xs.length
  | [] => by simp [sumBy]
  | a :: r => by have := sumBy_one (f := f) (xs := r); simp only [sumBy, List.length_cons, this]; omega
theorem cnt_le : ∀ (n : Nat) (x : Tr), cntT n x ≤ szT n x
  | 0, _ => by simp [cntT, szT]
  | n + 1, .mk d m t ns ks => by
    have := sumBy_mono (xs := ks) fun x _ => cnt_le n x
    simp only [cntT, szT]; omega

section
variable {w0 : World}

theorem spec_Count : ∀ (n : Nat) {σ : Vw} {es : List Value} {x : Tr} {R : Value → Vw → Prop}, RT n (Av.get w0 σ) es x → cntT n x ≤ 1000000000000 → R (.int .i64 (cntT n x)) σ → AC Tryd.prog w0 n_spec_l1Count [.agg ⟨es⟩] σ R
  | 0, _, _, _, _, h, _, _ => h.elim
  | n + 1, σ, es, .mk d m t ns ks, R, h, hb, hR => by
    obtain ⟨u, w, rfl, h2, h3, h4, h5⟩ := h
    refine ac_spec_l1Count ?_
    unfold vc_spec_l1Count
    rw [pVal_5 rfl rfl rfl h4.one h5.one]
    simp only [cellOf_agg, List.getD_cons_zero, List.getD_cons_succ]
    simp only [cntT] at hb hR
    rw [h5.len]
    refine loop_rule (m := ks.length) (fun c l s => ∃ j, s = σ ∧ c + j = ks.length ∧ l = [.int .i64 ((ks.length + sumBy (cntT n) (ks.take j) : Nat) : Int), .int .i64 (j : Nat), .bool d, .int .i64 m, .string t, u, w]) ?_ ⟨0, rfl, by omega, by simp [sumBy]⟩
    rintro c l s L ⟨j, rfl, hc, rfl⟩ hL
    simp only [vget, List.getD_cons_zero, List.getD_cons_succ]
    rw [h5.len, pBin_lt, pIf_d]
    refine ⟨fun hj => ?_, fun hj => ?_⟩
    · have hx := List.getElem?_eq_getElem (show j < ks.length by omega)
      generalize hxj : ks[j] = x at hx
      refine h5.at hx fun g hg => ?_
      have ht := sumBy_take (f := cntT n) hx
      have hle := sumBy_le (f := cntT n) (xs := ks) (j + 1)
      refine spec_Count n (x := x) hg (by omega) ?_
      rw [pBin_add (by omega), pBin_add (by omega)]
      refine hL _ _ (c - 1) (by omega) ⟨j + 1, rfl, by omega, ?_⟩
      rw [ht]
      congr 2
      omega
    · have hj' : j = ks.length := by omega
      subst hj'
      rw [List.take_length]
      exact hR

theorem impl_paths : ∀ (n : Nat) {σ : Vw} {es : List Value} {x : Tr} {R : Value → Vw → Prop}, RT n (Av.get w0 σ) es x → cntT n x ≤ 1000000000000 → R (.int .i64 ((cntT n x + 1 : Nat) : Int)) σ → AC Tryd.prog w0 n_impl_Tree_paths [.agg ⟨es⟩] σ R
  | 0, _, _, _, _, h, _, _ => h.elim
  | n + 1, σ, es, .mk d m t ns ks, R, h, hb, hR => by
    obtain ⟨u, w, rfl, h2, h3, h4, h5⟩ := h
    refine ac_impl_Tree_paths ?_
    unfold vc_impl_Tree_paths
    rw [pVal_5 rfl rfl rfl h4.one h5.one]
    simp only [cellOf_agg, List.getD_cons_zero, List.getD_cons_succ]
    simp only [cntT] at hb hR
    rw [h5.len]
    refine loop_rule (m := ks.length) (fun c l s => ∃ j, s = σ ∧ c + j = ks.length ∧ l = [.int .i64 ((1 + sumBy (fun x => cntT n x + 1) (ks.take j) : Nat) : Int), w, .int .i64 ks.length, .int .i64 (j : Nat)]) ?_ ⟨0, rfl, by omega, by simp [sumBy]⟩
    have hsum := sumBy_one (f := cntT n) (xs := ks)
    rintro c l s L ⟨j, rfl, hc, rfl⟩ hL
    simp only [vget, List.getD_cons_zero, List.getD_cons_succ]
    rw [pBin_lt, pIf_d]
    refine ⟨fun hj => ?_, fun hj => ?_⟩
    · have hx := List.getElem?_eq_getElem (show j < ks.length by omega)
      generalize hxj : ks[j] = x at hx
      refine h5.at hx fun g hg => ?_
      have ht := sumBy_take (f := fun x => cntT n x + 1) hx
      have hle := sumBy_le (f := fun x => cntT n x + 1) (xs := ks) (j + 1)
      have hin : ∀ (A : Prop), A → pVal true 5 (.agg ⟨[g 0, g 1, g 2, g 3, g 4]⟩) A := fun A hA => ⟨⟨_, rfl, rfl, (by
        obtain _ | n := n
        · exact hg.elim
        · obtain ⟨d', m', t', ns', ks'⟩ := x
          obtain ⟨u', w', e, _, _, q4, q5⟩ := hg
          have e' : [g 0, g 1, g 2, g 3, g 4] = [.bool d', .int .i64 m', .string t', u', w'] := e
          rw [e']
          intro c hc
          simp at hc
          rcases hc with rfl | rfl | rfl | rfl | rfl
          · rfl
          · rfl
          · rfl
          · exact q4.one
          · exact q5.one)⟩, hA⟩
      refine hin _ ?_
      refine impl_paths n (x := x) hg (by omega) ?_
      rw [pBin_add (by omega), pBin_add (by omega)]
      refine hL _ _ (c - 1) (by omega) ⟨j + 1, rfl, by omega, ?_⟩
      rw [ht]
      congr 2
      omega
    · have hj' : j = ks.length := by omega
      subst hj'
      rw [List.take_length, hsum]
      show R (.int .i64 _) s
      rw [show ((1 + (sumBy (cntT n) ks + ks.length) : Nat) : Int) = ((ks.length + sumBy (cntT n) ks + 1 : Nat) : Int) by omega]
      exact hR
end
end Go.Proofs.YtkblkdnnncklgaaDoor

/- Trees: the laws 'TreeOk' and 'TreeCount', of the functions alone. -/
set_option linter.unusedVariables false
set_option linter.unusedSimpArgs false
namespace Go.Proofs.YtkblkdnnncklgaaDoor
open Go Go.Av

def isDir : Tr → Bool
  | .mk d _ _ _ _ => d
noncomputable def treeOk (n : Nat) (x : Tr) : Bool := isDir x && (soundB n x 0 && decide (cntT n x ≤ 30))
noncomputable def treeCount (n : Nat) (x : Tr) : Int := if treeOk n x = true then cntT n x else 0

section
variable {w0 : World} {σ : Vw}

theorem RT.five {n : Nat} {rd : Addr → Option Value} {es : List Value} {x : Tr} (h : RT n rd es x) : ∃ a b c d e, es = [a, b, c, d, e] ∧ a = .bool (isDir x) ∧ ∀ A : Prop, pVal true 5 (.agg ⟨es⟩) A ↔ A := by
  obtain _ | n := n
  · exact h.elim
  · obtain ⟨d', m', t', ns', ks'⟩ := x
    obtain ⟨u', w', rfl, _, _, q4, q5⟩ := h
    exact ⟨_, _, _, _, _, rfl, rfl, fun A => pVal_5 rfl rfl rfl q4.one q5.one⟩

theorem spec_TreeOk {n : Nat} {es : List Value} {x : Tr} {R : Value → Vw → Prop} (h : RT n (Av.get w0 σ) es x) (hb : cntT n x ≤ 1000000000000) (hR : R (.bool (treeOk n x)) σ) : AC Tryd.prog w0 n_spec_TreeOk [.agg ⟨es⟩] σ R := by
  have h0 := h
  obtain ⟨a, b, c, d, e, rfl, rfl, hp⟩ := RT.five h
  refine ac_spec_TreeOk ?_
  unfold vc_spec_TreeOk
  rw [hp]
  simp only [cellOf_agg, List.getD_cons_zero, List.getD_cons_succ]
  rw [pIf_b]
  refine ⟨fun hd => ?_, fun hd => by simpa [treeOk, hd] using hR⟩
  refine spec_Parts n h0 (by omega) ?_
  rw [pIf_b]
  refine ⟨fun hs => ?_, fun hs => by simpa [treeOk, hs] using hR⟩
  refine spec_Count n h0 hb ?_
  rw [pBin_le]
  have : treeOk n x = decide ((cntT n x : Int) ≤ 30) := by
    simp only [treeOk, hd, hs, Bool.true_and]
    congr 1; apply propext; omega
  rw [this] at hR; exact hR

theorem impl_TreeOk {n : Nat} {es : List Value} {x : Tr} {R : Value → Vw → Prop} (h : RT n (Av.get w0 σ) es x) (hb : cntT n x ≤ 1000000000000) (hR : R (.bool (treeOk n x)) σ) : AC Tryd.prog w0 n_impl_TreeOk [.agg ⟨es⟩] σ R := by
  have h0 := h
  obtain ⟨a, b, c, d, e, rfl, rfl, hp⟩ := RT.five h
  refine ac_impl_TreeOk ?_
  unfold vc_impl_TreeOk
  rw [hp]
  simp only [cellOf_agg, List.getD_cons_zero, List.getD_cons_succ]
  rw [pIf_b]
  refine ⟨fun hd => ?_, fun hd => by simpa [treeOk, hd] using hR⟩
  refine impl_sound n h0 (by omega) ?_
  rw [pIf_b]
  refine ⟨fun hs => ?_, fun hs => by simpa [treeOk, hs] using hR⟩
  refine impl_paths n h0 hb ?_
  rw [pBin_le]
  have : treeOk n x = decide (((cntT n x + 1 : Nat) : Int) ≤ 31) := by
    simp only [treeOk, hd, hs, Bool.true_and]
    congr 1; apply propext; omega
  rw [this] at hR; exact hR

end
end Go.Proofs.YtkblkdnnncklgaaDoor

/- How a tree is opened that came with the call. -/
set_option linter.unusedVariables false
set_option linter.unusedSimpArgs false
namespace Go.Proofs.YtkblkdnnncklgaaDoor
open Go Go.Av Go.RowKit

theorem RT_up : ∀ (n : Nat) (rd : Addr → Option Value) (es : List Value) (x : Tr), RT n rd es x → RT (n + 1) rd es x
  | 0, _, _, _, h => h.elim
  | n + 1, rd, es, .mk d m t ns ks, h => by
    obtain ⟨u, w, h1, h2, h3, h4, h5⟩ := h
    exact ⟨u, w, h1, h2, h3, h4, h5.imp fun es x h => RT_up n rd es x h⟩
theorem RT_le {n m : Nat} (h : n ≤ m) {rd : Addr → Option Value} {es : List Value} {x : Tr} (hr : RT n rd es x) : RT m rd es x := by
  obtain ⟨k, rfl⟩ := Nat.exists_eq_add_of_le h
  clear h
  induction k with
  | zero => exact hr
  | succ k ih => exact RT_up _ _ _ _ ih

theorem cut5 {es : List Value} {a b c d e : Value} (hl : es.length = 5) (h0 : (es.drop 0).take 1 = [a]) (h1 : (es.drop 1).take 1 = [b]) (h2 : (es.drop 2).take 1 = [c]) (h3 : (es.drop 3).take 1 = [d]) (h4 : (es.drop 4).take 1 = [e]) : es = [a, b, c, d, e] := by
  match es, hl with
  | [p, q, r, s, t], _ =>
    simp at h0 h1 h2 h3 h4
    subst h0 h1 h2 h3 h4
    rfl

theorem open_tree {H : Type} {enc : TypeId × Value → H} {W : World} {spare : Nat → Bool} : ∀ (fuel : Nat) (es : List Value) (y : DataW H × List MemPlace), DataW.trod enc Tryd.prog W 0 spare true fuel t_laws_Tree es = some y → es.length = 5 → ∃ x, RT fuel (Av.get W σ0) es x := by
  intro fuel
  induction fuel using Nat.strongRecOn with
  | _ fuel ih =>
    intro es y h hl
    have hT : Tryd.prog.underlying t_laws_Tree = some (.struct (fsOf Tryd.prog t_laws_Tree)) := by kernel_rfl
    obtain ⟨f0, y0, l0, h0⟩ := open_field' hT 0 t_bool 0 1 (by kernel_rfl) (by kernel_rfl) h
    obtain ⟨f1, y1, l1, h1⟩ := open_field' hT 1 t_int 1 1 (by kernel_rfl) (by kernel_rfl) h
    obtain ⟨f2, y2, l2, h2⟩ := open_field' hT 2 t_string 2 1 (by kernel_rfl) (by kernel_rfl) h
    obtain ⟨f3, y3, l3, h3⟩ := open_field' hT 3 t_s_string 3 1 (by kernel_rfl) (by kernel_rfl) h
    obtain ⟨f4, y4, l4, h4⟩ := open_field' hT 4 t_s_laws_Tree 4 1 (by kernel_rfl) (by kernel_rfl) h
    obtain ⟨b, hb⟩ := open_bool (by kernel_rfl) h0
    obtain ⟨m, hm, hm2⟩ := open_int (by kernel_rfl) h1
    obtain ⟨t, ht, ht2⟩ := open_str (by kernel_rfl) h2
    obtain ⟨u, ns, hu, hus⟩ := open_rsl (t := t_s_string) (e := t_string) (by kernel_rfl) (by kernel_rfl) (open_rs (by kernel_rfl)) h3
    obtain ⟨w, ks, hw, hws⟩ := open_rsl' (R := RT (fuel - 1)) (t := t_s_laws_Tree) (e := t_laws_Tree) (n := 5) (by kernel_rfl) (by kernel_rfl) (fun m' es' y' hm' ht' hl' => by
      obtain ⟨x, hx⟩ := ih m' (by omega) es' y' ht' hl'
      exact ⟨x, RT_le (by omega) hx⟩) h4
    have e := cut5 hl hb hm ht hu hw
    refine ⟨.mk b m t ns ks, ?_⟩
    obtain ⟨n, rfl⟩ : ∃ n, fuel = n + 1 := ⟨fuel - 1, by omega⟩
    exact ⟨u, w, e, hm2, ht2, hus, hws⟩
end Go.Proofs.YtkblkdnnncklgaaDoor

/- What is at a path of a tree, by either reading. -/
set_option linter.unusedVariables false
set_option linter.unusedSimpArgs false
namespace Go.Proofs.YtkblkdnnncklgaaDoor
open Go Go.Av

/-- The first place of a text. -/
def nidx : List ByteArray → ByteArray → Option Nat
  | [], _ => none
  | s :: r, x => if s = x then some 0 else (nidx r x).map (· + 1)
theorem nidx_some {ns : List ByteArray} {x : ByteArray} : ∀ {j : Nat}, nidx ns x = some j → ns[j]? = some x := by
  induction ns with
  | nil => intro j h; simp [nidx] at h
  | cons s r ih =>
    intro j h
    unfold nidx at h
    split at h
    · rename_i e; cases h; simp [e]
    · cases hr : nidx r x with
      | none => rw [hr] at h; cases h
      | some i => rw [hr] at h; cases h; simpa using ih hr
theorem nidx_at {ns : List ByteArray} {x : ByteArray} : ∀ {j : Nat}, ns[j]? = some x → (∀ (i : Nat) (y : ByteArray), i < j → ns[i]? = some y → y ≠ x) → nidx ns x = some j := by
  induction ns with
  | nil => intro j h; simp at h
  | cons s r ih =>
    intro j h hn
    unfold nidx
    cases j with
    | zero => simp at h; rw [if_pos h]
    | succ j =>
      rw [if_neg (hn 0 s (by omega) rfl), ih (by simpa using h) fun i y hi hy => hn (i + 1) y (by omega) (by simpa using hy)]
      rfl
theorem nidx_none {ns : List ByteArray} {x : ByteArray} (h : ∀ (i : Nat) (y : ByteArray), ns[i]? = some y → y ≠ x) : nidx ns x = none := by
  induction ns with
  | nil => rfl
  | cons s r ih =>
    unfold nidx
    rw [if_neg (h 0 s rfl), ih fun i y hy => h (i + 1) y (by simpa using hy)]
    rfl
/-- A place as a number, -1 for none. -/
def placeI : Option Nat → Int
  | some j => j
  | none => -1

/-- Names and parts are as many, all the way down. -/
def wfT : Nat → Tr → Prop
  | 0, _ => True
  | n + 1, .mk d m t ns ks => ns.length = ks.length ∧ ∀ k, k ∈ ks → wfT n k
theorem sound_wf : ∀ (n : Nat) (x : Tr) (k : Int), soundB n x k = true → wfT n x
  | 0, _, _, _ => trivial
  | n + 1, .mk d m t ns ks, k, h => by
    simp only [soundB, plainB, Bool.and_eq_true, decide_eq_true_eq] at h
    refine ⟨h.1.2.1, fun x hx => ?_⟩
    obtain ⟨j, hj⟩ := List.getElem?_of_mem hx
    exact sound_wf n x (k + 1) (allB_iff.1 h.2.2 j x hj)
def kidT : Tr → ByteArray → Option Tr
  | .mk _ _ _ ns ks, x => (nidx ns x).bind fun j => ks[j]?
def atT : Tr → List ByteArray → Option Tr
  | t, [] => some t
  | t, x :: r => (kidT t x).bind fun k => atT k r
def zeroT : Tr := .mk false 0 ⟨#[]⟩ [] []
theorem RT_zero (n : Nat) (rd : Addr → Option Value) : RT (n + 1) rd [.bool false, .int .i64 0, .string ⟨#[]⟩, .slice none 0 0, .slice none 0 0] zeroT :=
  ⟨_, _, rfl, by omega, by show 0 ≤ _; omega, ⟨none, 0, rfl, by simp, fun j x h => by simp at h⟩, ⟨none, 0, rfl, by simp, fun j x h => by simp at h⟩⟩
theorem wf_up : ∀ {n : Nat} {x : Tr}, wfT (n + 1) x → wfT n x
  | 0, _, _ => trivial
  | n + 1, .mk d m t ns ks, h => ⟨h.1, fun k hk => wf_up (h.2 k hk)⟩

section
variable {w0 : World} {σ : Vw}

/-- What a kid is read as. -/
theorem kid_some {n : Nat} {d : Bool} {m : Int} {t : ByteArray} {ns : List ByteArray} {ks : List Tr} {x : ByteArray} (hw : wfT (n + 1) (.mk d m t ns ks)) {j : Nat} (hj : nidx ns x = some j) : ∃ k, ks[j]? = some k ∧ kidT (.mk d m t ns ks) x = some k ∧ wfT n k := by
  have h1 := nidx_some hj
  have hlt := (List.getElem?_eq_some_iff.1 h1).1
  have hw1 := hw.1
  have hk := List.getElem?_eq_getElem (show j < ks.length by omega)
  refine ⟨_, hk, ?_, hw.2 _ (List.getElem_mem _)⟩
  simp only [kidT, hj, Option.bind_some, hk]

/-- A pointer to a tree. -/
def PT (n : Nat) (rd : Addr → Option Value) (p : Value) (x : Tr) : Prop := ∃ a es, p = .pointer (some a) ∧ es.length = 5 ∧ (∀ i, i < 5 → rd (a.add i) = es[i]?) ∧ RT n rd es x
theorem PT.mono {n : Nat} {rd rd' : Addr → Option Value} {p : Value} {x : Tr} (h : PT n rd p x) (hl : Le rd rd') : PT n rd' p x := by
  obtain ⟨a, es, h1, h2, h3, h4⟩ := h
  refine ⟨a, es, h1, h2, fun i hi => ?_, mono_rt n _ _ _ _ hl h4⟩
  have := h3 i hi
  rw [List.getElem?_eq_getElem (by omega)] at this ⊢
  exact hl _ _ this
theorem PT.up {n : Nat} {rd : Addr → Option Value} {p : Value} {x : Tr} (h : PT n rd p x) : PT (n + 1) rd p x := by
  obtain ⟨a, es, h1, h2, h3, h4⟩ := h
  exact ⟨a, es, h1, h2, h3, RT_up _ _ _ _ h4⟩
/-- A field behind a pointer is read. -/
theorem PT.ld {n : Nat} {p : Value} {x : Tr} (h : PT n (Av.get w0 σ) p x) (o : Nat) (ho : o < 5) {K : (Nat → Value) → Prop} (hK : ∀ (es : List Value) (g : Nat → Value), RT n (Av.get w0 σ) es x → es[o]? = some (g 0) → K g) : pNil p (pField o p fun q => pLoad w0 1 q σ K) := by
  obtain ⟨a, es, rfl, h5, h6, h7⟩ := h
  rw [pNil_s, pField_s]
  refine ⟨_, fun _ => es.getD o undef, rfl, fun i hi => ?_, hK es _ h7 ?_⟩
  · have e : i = 0 := by omega
    subst e
    have := h6 o ho
    rw [add_add, Nat.add_zero, this, List.getElem?_eq_getElem (by omega)]
    simp only [List.getD_eq_getElem?_getD, List.getElem?_eq_getElem (show o < es.length by omega), Option.getD_some]
  · simp only [List.getD_eq_getElem?_getD, List.getElem?_eq_getElem (show o < es.length by omega), Option.getD_some]
/-- The address of an element. -/
theorem RSl.ptr {n k : Nat} {v : Value} {xs : List Tr} (h : RSl 5 (RT n) (Av.get w0 σ) v xs) {j : Nat} {x : Tr} (hj : xs[j]? = some x) {K : Value → Prop} (hK : ∀ p, PT n (Av.get w0 σ) p x → K p) : pIndexAddr 5 v (.int .i64 j) K := by
  obtain ⟨A, cap, rfl, _, h3⟩ := h
  obtain ⟨a, es, rfl, h5, h6, h7⟩ := h3 j x hj
  have hlt : j < xs.length := (List.getElem?_eq_some_iff.1 hj).1
  refine ⟨a, xs.length, cap, .i64, j, rfl, rfl, by omega, by omega, hK _ ⟨_, es, rfl, h5, fun i hi => ?_, h7⟩⟩
  have := h6 i hi
  rw [Int.toNat_natCast, add_add]; exact this

/-- What is at a name, by pointers: a pointer, or nil. -/
def PO (n : Nat) (rd : Addr → Option Value) (p : Value) : Option Tr → Prop
  | some x => PT n rd p x
  | none => p = .pointer none
theorem PO.mono {n : Nat} {rd rd' : Addr → Option Value} {p : Value} {o : Option Tr} (h : PO n rd p o) (hl : Le rd rd') : PO n rd' p o := by
  cases o with
  | none => exact h
  | some x => exact PT.mono h hl

theorem wf_RT_up : ∀ {n : Nat} {rd : Addr → Option Value} {es : List Value} {x : Tr}, RT n rd es x → wfT n x → wfT (n + 1) x
  | 0, _, _, _, h, _ => h.elim
  | n + 1, rd, es, .mk d m t ns ks, h, hw => by
    obtain ⟨u, w, h1, h2, h3, h4, A, cap, _, _, h5⟩ := h
    refine ⟨hw.1, fun k hk => ?_⟩
    obtain ⟨j, hj⟩ := List.getElem?_of_mem hk
    obtain ⟨a, es', _, _, _, h6⟩ := h5 j k hj
    exact wf_RT_up h6 (hw.2 k hk)

theorem pBin_nil {T : Nat} {p : Option Addr} {K : Value → Prop} (hT : ∃ e, Tryd.prog.underlying T = some (.pointer e)) : pBin Tryd.prog T .eql (.pointer p) (.pointer none) K ↔ K (.bool p.isNone) := by
  obtain ⟨e, he⟩ := hT
  have h : abinT Tryd.prog T .eql (.pointer p) (.pointer none) = some (.bool p.isNone) := by simp only [abinT, he]
  exact ⟨fun ⟨_, h', hK⟩ => by rw [h] at h'; cases h'; exact hK, fun hK => ⟨_, h, hK⟩⟩
end
end Go.Proofs.YtkblkdnnncklgaaDoor

/- Reading and listing: the functions 'TreeRead' and 'TreeList' by either text. -/
set_option linter.unusedVariables false
set_option linter.unusedSimpArgs false
namespace Go.Proofs.YtkblkdnnncklgaaDoor
open Go Go.Av

def kidsOf : Tr → List Tr
  | .mk _ _ _ _ ks => ks
def namesOf : Tr → List ByteArray
  | .mk _ _ _ ns _ => ns
def dataOf : Tr → ByteArray
  | .mk _ _ t _ _ => t
def modeOf : Tr → Int
  | .mk _ m _ _ _ => m
/-- What holds of a part and of all below. -/
def AllT (P : Tr → Prop) : Nat → Tr → Prop
  | 0, _ => True
  | n + 1, x => P x ∧ ∀ k, k ∈ kidsOf x → AllT P n k
theorem all_up {P : Tr → Prop} : ∀ {n : Nat} {rd : Addr → Option Value} {es : List Value} {x : Tr}, RT n rd es x → AllT P n x → AllT P (n + 1) x
  | 0, _, _, _, h, _ => h.elim
  | n + 1, rd, es, .mk d m t ns ks, h, hw => by
    obtain ⟨u, w, h1, h2, h3, h4, A, cap, _, _, h5⟩ := h
    refine ⟨hw.1, fun k hk => ?_⟩
    obtain ⟨j, hj⟩ := List.getElem?_of_mem hk
    obtain ⟨a, es', _, _, _, h6⟩ := h5 j k hj
    exact all_up h6 (hw.2 k hk)
/-- What can be read. -/
def IsT (n : Nat) (x : Tr) : Prop := ∃ rd es, RT n rd es x
theorem kid_mem {x : Tr} {nm : ByteArray} {k : Tr} (h : kidT x nm = some k) : k ∈ kidsOf x := by
  obtain ⟨d, m, t, ns, ks⟩ := x
  simp only [kidT, Option.bind_eq_some_iff] at h
  obtain ⟨j, _, hj⟩ := h
  exact List.mem_of_getElem? hj
theorem isT_kid {n : Nat} {x k : Tr} (h : IsT (n + 1) x) (hk : k ∈ kidsOf x) : IsT n k := by
  obtain ⟨d, m, t, ns, ks⟩ := x
  obtain ⟨rd, es, u, w, h1, h2, h3, h4, A, cap, _, _, h5⟩ := h
  obtain ⟨j, hj⟩ := List.getElem?_of_mem hk
  obtain ⟨a, es', _, _, _, h6⟩ := h5 j k hj
  exact ⟨rd, es', h6⟩
theorem at_all {P : Tr → Prop} : ∀ (ps : List ByteArray) {n : Nat} {x y : Tr}, IsT n x → AllT P n x → atT x ps = some y → IsT n y ∧ AllT P n y
  | [], n, x, y, h, ha, he => by cases he; exact ⟨h, ha⟩
  | p :: r, 0, x, y, ⟨_, _, h⟩, ha, he => h.elim
  | p :: r, n + 1, x, y, h, ha, he => by
    simp only [atT, Option.bind_eq_some_iff] at he
    obtain ⟨k, hk, he⟩ := he
    have hm := kid_mem hk
    obtain ⟨⟨rd, es, h1⟩, h2⟩ := at_all r (isT_kid h hm) (ha.2 k hm) he
    exact ⟨⟨rd, es, RT_up _ _ _ _ h1⟩, all_up h1 h2⟩
theorem all_imp {P Q : Tr → Prop} (hPQ : ∀ x, P x → Q x) : ∀ {n : Nat} {x : Tr}, AllT P n x → AllT Q n x
  | 0, _, _ => trivial
  | n + 1, x, h => ⟨hPQ _ h.1, fun k hk => all_imp hPQ (h.2 k hk)⟩
theorem fit_all : ∀ {n : Nat} {x : Tr}, fitT n x → AllT (fun x => (namesOf x).length ≤ 1000000000000 ∧ (kidsOf x).length ≤ 1000000000000) n x
  | 0, _, _ => trivial
  | n + 1, .mk d m t ns ks, h => ⟨⟨h.1, h.2.1⟩, fun k hk => fit_all (h.2.2 k hk)⟩

noncomputable def readT (n : Nat) (x : Tr) (ps : List ByteArray) (a c : Int) : ByteArray × Int :=
  if treeOk n x = true then
    if a < 0 ∨ c < 0 then (⟨#[]⟩, 2)
    else match atT x ps with
      | none => (⟨#[]⟩, 3)
      | some y => if isDir y = true then (⟨#[]⟩, 4) else ((dataOf y).extract (min a (dataOf y).size).toNat (min (a + c) (dataOf y).size).toNat, 0)
  else (⟨#[]⟩, 1)
noncomputable def listT (n : Nat) (x : Tr) (ps : List ByteArray) : List ByteArray × Int :=
  if treeOk n x = true then match atT x ps with
    | none => ([], 3)
    | some y => if isDir y = true then (namesOf y, 0) else ([], 4)
  else ([], 1)

theorem extract_none {t : ByteArray} {i j : Nat} (h : min j t.size ≤ i) : t.extract i j = ⟨#[]⟩ := by
  have := (ByteArray.extract_eq_empty_iff (b := t) (i := i) (j := j)).2 h
  exact this

section
variable {w0 : World} {σ : Vw}

theorem RT.cells {n : Nat} {rd : Addr → Option Value} {es : List Value} {x : Tr} (h : RT n rd es x) : ∃ u w, es = [.bool (isDir x), .int .i64 (modeOf x), .string (dataOf x), u, w] ∧ (-9223372036854775808 ≤ modeOf x ∧ modeOf x ≤ 9223372036854775807) ∧ (dataOf x).size ≤ 9223372036854775807 ∧ RSl 1 RS rd u (namesOf x) ∧ RSl 5 (RT n) rd w (kidsOf x) ∧ ∀ A : Prop, pVal true 5 (.agg ⟨es⟩) A ↔ A := by
  obtain _ | n := n
  · exact h.elim
  · obtain ⟨d, m, t, ns, ks⟩ := x
    obtain ⟨u, w, rfl, h2, h3, h4, h5⟩ := h
    exact ⟨u, w, rfl, h2, h3, h4, h5.imp fun es x h => RT_up n rd es x h, fun A => pVal_5 rfl rfl rfl h4.one h5.one⟩

/-- A tree that is put into a row of our own. -/
theorem PT.new {n b : Nat} {es : List Value} {x : Tr} (h : RT n (Av.get w0 σ) es x) (hb : w0.heap.size ≤ b) (hn : σ b = none) {ety c : Nat} : PT n (Av.get w0 (σ.put b ⟨ety, es, c, (0, 0)⟩)) (.pointer (some ⟨b, 0, none⟩)) x := by
  have hl : es.length = 5 := by obtain ⟨_, _, _, _, _, rfl, _⟩ := RT.five h; rfl
  refine ⟨_, es, rfl, hl, fun i hi => ?_, mono_rt n _ _ _ _ (Keeps.put hn).le h⟩
  rw [addr_add, get_row hb put_at, Nat.zero_add]
theorem PT.load {n : Nat} {p : Value} {x : Tr} (h : PT n (Av.get w0 σ) p x) {K : (Nat → Value) → Prop} (hK : ∀ g : Nat → Value, RT n (Av.get w0 σ) (expl g 0 5) x → K g) : pLoad w0 5 p σ K := by
  obtain ⟨a, es, rfl, h5, h6, h7⟩ := h
  refine ⟨a, fun i => es.getD i undef, rfl, fun i hi => ?_, hK _ ?_⟩
  · rw [h6 i hi, List.getElem?_eq_getElem (by omega)]
    simp only [List.getD_eq_getElem?_getD, List.getElem?_eq_getElem (show i < es.length by omega), Option.getD_some]
  · have : expl (fun i => es.getD i undef) 0 5 = es := by
      match es, h5 with
      | [a, b, c, d, e], _ => rfl
    rw [this]; exact h7

end
end Go.Proofs.YtkblkdnnncklgaaDoor

/- A tree as a text: what it is, and by the reference's hand; a line by the program's. -/
set_option linter.unusedVariables false
set_option linter.unusedSimpArgs false
namespace Go.Proofs.YtkblkdnnncklgaaDoor
open Go Go.Av Go.RowKit

def lineX (path : ByteArray) (d : Bool) (m : Int) (t : ByteArray) : ByteArray :=
  if d = true then ⟨#[100, 105, 114, 32]⟩ ++ path ++ ⟨#[32]⟩ ++ decZ m ++ ⟨#[10]⟩ else ⟨#[102, 105, 108, 101, 32]⟩ ++ path ++ ⟨#[32]⟩ ++ decZ m ++ ⟨#[32]⟩ ++ dataT t ++ ⟨#[10]⟩
def lineT (path : ByteArray) (x : Tr) : ByteArray := lineX path (isDir x) (modeOf x) (dataOf x)
def catB : List ByteArray → ByteArray
  | [] => ⟨#[]⟩
  | a :: r => a ++ catB r
theorem catB_snoc : ∀ (l : List ByteArray) (a : ByteArray), catB (l ++ [a]) = catB l ++ a
  | [], a => by apply bl_inj; simp [catB, bl_append]
  | b :: l, a => by apply bl_inj; simp [catB, catB_snoc l a, bl_append]
def kidP (path : ByteArray) (x : ByteArray) : ByteArray := path ++ ⟨#[47]⟩ ++ x
def belowT : Nat → ByteArray → Tr → ByteArray
  | 0, _, _ => ⟨#[]⟩
  | n + 1, path, .mk d m t ns ks => catB ((ns.zip ks).map fun y => lineT (kidP path y.1) y.2 ++ belowT n (kidP path y.1) y.2)
/-- What is sound is short. -/
def shortT : Nat → Tr → Prop
  | 0, _ => False
  | n + 1, .mk d m t ns ks => (0 ≤ m ∧ m ≤ 7) ∧ t.size ≤ 24 ∧ ns.length = ks.length ∧ (∀ x, x ∈ ns → x.size ≤ 5) ∧ ∀ k, k ∈ ks → shortT n k
theorem sound_short : ∀ (n : Nat) (x : Tr) (k : Int), soundB n x k = true → shortT n x
  | 0, _, _, h => by simp [soundB] at h
  | n + 1, .mk d m t ns ks, k, h => by
    simp only [soundB, plainB, Bool.and_eq_true, decide_eq_true_eq, inB] at h
    obtain ⟨⟨h1, h2, h3⟩, _, h4⟩ := h
    refine ⟨h1, ?_, h2, fun x hx => ?_, fun c hc => ?_⟩
    · cases d
      · simp at h3; exact h3.1
      · simp at h3; rw [h3.2]; show 0 ≤ 24; omega
    · cases d
      · simp at h3; rw [h3.2] at hx; cases hx
      · simp at h3
        obtain ⟨j, hj⟩ := List.getElem?_of_mem hx
        have := h3.1 j x hj
        simp only [nameAt, nameOk, Bool.and_eq_true, decide_eq_true_eq, inB] at this
        omega
    · obtain ⟨j, hj⟩ := List.getElem?_of_mem hc
      exact sound_short n c _ (allB_iff.1 h4 j c hj)
theorem dec_one {m : Int} (h : 0 ≤ m ∧ m ≤ 7) : (decZ m).size ≤ 1 := by
  have e : decZ m = decN m.toNat := by unfold decZ; rw [if_neg (by omega)]
  rw [e]
  have := (decN_size m.toNat).2; omega
theorem dataT_size (t : ByteArray) : (dataT t).size ≤ 1 + 2 * t.size := by
  unfold dataT
  split
  · show 1 ≤ _; omega
  · rw [size_ofL, hexL_len, size_bl]; omega
theorem lineX_size {path : ByteArray} {d : Bool} {m : Int} {t : ByteArray} (hm : 0 ≤ m ∧ m ≤ 7) (ht : t.size ≤ 24) : (lineX path d m t).size ≤ path.size + 60 := by
  have h1 := dec_one hm
  have h2 := dataT_size t
  unfold lineX
  split
  · simp only [ByteArray.size_append]
    show 4 + _ + 1 + _ + 1 ≤ _; omega
  · simp only [ByteArray.size_append]
    show 5 + _ + 1 + _ + 1 + _ + 1 ≤ _; omega
theorem catB_size {α : Type} {f : α → ByteArray} {g : α → Nat} : ∀ {l : List α}, (∀ x, x ∈ l → (f x).size ≤ g x) → (catB (l.map f)).size ≤ sumBy g l
  | [], _ => by simp [catB, sumBy, ByteArray.size]
  | a :: r, h => by
    have h1 := h a (by simp)
    have h2 := catB_size (l := r) fun x hx => h x (by simp [hx])
    simp only [List.map_cons, catB, sumBy, ByteArray.size_append]; omega
theorem sumBy_zip {f : Tr → Nat} {c : Nat} : ∀ {ns : List ByteArray} {ks : List Tr}, sumBy (fun y : ByteArray × Tr => c + c * f y.2) (ns.zip ks) ≤ c * (ks.length + sumBy f ks)
  | [], ks => by simp [sumBy]
  | _ :: _, [] => by simp [sumBy]
  | x :: ns, k :: ks => by
    have := sumBy_zip (f := f) (c := c) (ns := ns) (ks := ks)
    simp only [List.zip_cons_cons, sumBy, List.length_cons]
    have e : c * (ks.length + 1 + (f k + sumBy f ks)) = c * (ks.length + sumBy f ks) + c + c * f k := by
      rw [show ks.length + 1 + (f k + sumBy f ks) = (ks.length + sumBy f ks) + 1 + f k by omega, Nat.mul_add, Nat.mul_add, Nat.mul_one]
    omega
theorem below_size : ∀ (n : Nat) (x : Tr) (path : ByteArray), shortT n x → path.size + 6 * n ≤ 1000000 → (belowT n path x).size ≤ 1000060 * cntT n x
  | 0, _, _, h, _ => h.elim
  | n + 1, .mk d m t ns ks, path, h, hp => by
    obtain ⟨_, _, hl, hns, hks⟩ := h
    have : (belowT (n + 1) path (.mk d m t ns ks)).size ≤ sumBy (fun y : ByteArray × Tr => 1000060 + 1000060 * cntT n y.2) (ns.zip ks) := by
      refine catB_size fun y hy => ?_
      obtain ⟨y1, y2⟩ := y
      have hm := List.of_mem_zip hy
      have h5 := hns _ hm.1
      have hk := hks _ hm.2
      have hpk : (kidP path y1).size = path.size + 1 + y1.size := by unfold kidP; rw [ByteArray.size_append, ByteArray.size_append]; rfl
      have h6 := below_size n y2 (kidP path y1) hk (by omega)
      have h7 : (lineT (kidP path y1) y2).size ≤ (kidP path y1).size + 60 := by
        obtain _ | n := n
        · exact hk.elim
        · obtain ⟨d', m', t', ns', ks'⟩ := y2
          exact lineX_size hk.1 hk.2.1
      rw [ByteArray.size_append]
      simp only
      omega
    exact Nat.le_trans this sumBy_zip
theorem line_size {n : Nat} {x : Tr} (h : shortT n x) (path : ByteArray) : (lineT path x).size ≤ path.size + 60 := by
  obtain _ | n := n
  · exact h.elim
  · obtain ⟨d', m', t', ns', ks'⟩ := x
    exact lineX_size h.1 h.2.1
theorem belowT_step (n : Nat) (path : ByteArray) (d : Bool) (m : Int) (t : ByteArray) (ns : List ByteArray) (ks : List Tr) : belowT (n + 1) path (.mk d m t ns ks) = catB ((ns.zip ks).map fun y => lineT (kidP path y.1) y.2 ++ belowT n (kidP path y.1) y.2) := rfl

section
variable {w0 : World} {σ : Vw}

theorem spec_l1Line {n : Nat} {path : ByteArray} {es : List Value} {x : Tr} (h : RT n (Av.get w0 σ) es x) (hx : shortT n x) (hp : path.size ≤ 1000000) {R : Value → Vw → Prop} (hR : ∀ σ', Keeps σ σ' → R (.string (lineT path x)) σ') : AC Tryd.prog w0 n_spec_l1Line [.string path, .agg ⟨es⟩] σ R := by
  obtain _ | n := n
  · exact h.elim
  obtain ⟨d, m, t, ns, ks⟩ := x
  obtain ⟨u, w, rfl, h2, h3, h4, h5⟩ := h
  have h1 := dec_one hx.1
  have hdt := dataT_size t
  have ht := hx.2.1
  refine ac_spec_l1Line ?_
  unfold vc_spec_l1Line
  rw [pVal_5 rfl rfl rfl h4.one h5.one]
  simp only [cellOf_agg, List.getD_cons_zero, List.getD_cons_succ]
  have a4 : (⟨#[100, 105, 114, 32]⟩ : ByteArray).size = 4 := rfl
  have a5 : (⟨#[102, 105, 108, 101, 32]⟩ : ByteArray).size = 5 := rfl
  have a1 : (⟨#[32]⟩ : ByteArray).size = 1 := rfl
  have a10 : (⟨#[10]⟩ : ByteArray).size = 1 := rfl
  rw [pIf_b]
  refine ⟨fun hd => ?_, fun hd => ?_⟩
  · rw [pBin_cat (by omega), pBin_cat (by rw [ByteArray.size_append]; omega)]
    refine spec_l1Dec h2 fun s1 k1 => ?_
    rw [pBin_cat (by simp only [ByteArray.size_append]; omega), pBin_cat (by simp only [ByteArray.size_append]; omega)]
    have e : lineT path (.mk d m t ns ks) = ⟨#[100, 105, 114, 32]⟩ ++ path ++ ⟨#[32]⟩ ++ decZ m ++ ⟨#[10]⟩ := by
      subst hd; rfl
    have := hR s1 k1
    rw [e] at this; exact this
  · rw [pBin_cat (by omega), pBin_cat (by rw [ByteArray.size_append]; omega)]
    refine spec_l1Dec h2 fun s1 k1 => ?_
    rw [pBin_cat (by simp only [ByteArray.size_append]; omega), pBin_cat (by simp only [ByteArray.size_append]; omega)]
    refine spec_l1Hex (by omega) ?_
    rw [pBin_cat (by simp only [ByteArray.size_append]; omega), pBin_cat (by simp only [ByteArray.size_append]; omega)]
    have e : lineT path (.mk d m t ns ks) = ⟨#[102, 105, 108, 101, 32]⟩ ++ path ++ ⟨#[32]⟩ ++ decZ m ++ ⟨#[32]⟩ ++ dataT t ++ ⟨#[10]⟩ := by
      subst hd; rfl
    have := hR s1 k1
    rw [e] at this; exact this

theorem impl_Tree_line (tab : Tab w0) {n : Nat} {v : Value} {ps : List ByteArray} {es : List Value} {x : Tr} (h : RT n (Av.get w0 σ) es x) (hx : shortT n x) (hv : RSl 1 RS (Av.get w0 σ) v ps) (hp : ps.length + sumS ps ≤ 1000000) {R : Value → Vw → Prop} (hR : ∀ σ', Keeps σ σ' → R (.string (lineT (pathT ps) x)) σ') : AC Tryd.prog w0 n_impl_Tree_line [.agg ⟨es⟩, v] σ R := by
  obtain _ | n := n
  · exact h.elim
  obtain ⟨d, m, t, ns, ks⟩ := x
  obtain ⟨u, w, rfl, h2, h3, h4, h5⟩ := h
  have h1 := dec_one hx.1
  have hdt := dataT_size t
  have ht := hx.2.1
  have hps := pathT_size ps
  refine ac_impl_Tree_line ?_
  unfold vc_impl_Tree_line
  rw [pVal_5 rfl rfl rfl h4.one h5.one]
  simp only [cellOf_agg, List.getD_cons_zero, List.getD_cons_succ]
  have a4 : (⟨#[100, 105, 114, 32]⟩ : ByteArray).size = 4 := rfl
  have a5 : (⟨#[102, 105, 108, 101, 32]⟩ : ByteArray).size = 5 := rfl
  have a1 : (⟨#[32]⟩ : ByteArray).size = 1 := rfl
  have a10 : (⟨#[10]⟩ : ByteArray).size = 1 := rfl
  rw [pIf_b]
  refine ⟨fun hd => ?_, fun hd => ?_⟩
  · refine impl_pathText hv (by omega) ?_
    rw [pBin_cat (by omega), pBin_cat (by rw [ByteArray.size_append]; omega)]
    refine strconv_Itoa tab h2 ?_
    rw [pBin_cat (by simp only [ByteArray.size_append]; omega), pBin_cat (by simp only [ByteArray.size_append]; omega)]
    have e : lineT (pathT ps) (.mk d m t ns ks) = ⟨#[100, 105, 114, 32]⟩ ++ pathT ps ++ ⟨#[32]⟩ ++ decZ m ++ ⟨#[10]⟩ := by
      subst hd; rfl
    have := hR σ (Keeps.refl _)
    rw [e] at this; exact this
  · refine impl_pathText hv (by omega) ?_
    rw [pBin_cat (by omega), pBin_cat (by rw [ByteArray.size_append]; omega)]
    refine strconv_Itoa tab h2 ?_
    rw [pBin_cat (by simp only [ByteArray.size_append]; omega), pBin_cat (by simp only [ByteArray.size_append]; omega)]
    refine impl_dataText (by omega) fun s1 k1 => ?_
    rw [pBin_cat (by simp only [ByteArray.size_append]; omega), pBin_cat (by simp only [ByteArray.size_append]; omega)]
    have e : lineT (pathT ps) (.mk d m t ns ks) = ⟨#[102, 105, 108, 101, 32]⟩ ++ pathT ps ++ ⟨#[32]⟩ ++ decZ m ++ ⟨#[32]⟩ ++ dataT t ++ ⟨#[10]⟩ := by
      subst hd; rfl
    have := hR s1 k1
    rw [e] at this; exact this

theorem spec_l1Show : ∀ (n : Nat) {σ : Vw} {path : ByteArray} {es : List Value} {x : Tr} {R : Value → Vw → Prop}, RT n (Av.get w0 σ) es x → shortT n x → path.size + 6 * n ≤ 1000000 → cntT n x ≤ 100000 → (∀ σ', Keeps σ σ' → R (.string (belowT n path x)) σ') → AC Tryd.prog w0 n_spec_l1Show [.string path, .agg ⟨es⟩] σ R
  | 0, _, _, _, _, _, h, _, _, _, _ => h.elim
  | n + 1, σ, path, es, .mk d m t ns ks, R, h, hx, hp, hc, hR => by
    have hbs := below_size (n + 1) _ path hx hp
    obtain ⟨u, w, rfl, h2, h3, h4, h5⟩ := h
    obtain ⟨hm, ht, hl, hns, hks⟩ := hx
    refine ac_spec_l1Show ?_
    unfold vc_spec_l1Show
    rw [pVal_5 rfl rfl rfl h4.one h5.one]
    simp only [cellOf_agg, List.getD_cons_zero, List.getD_cons_succ]
    rw [belowT_step] at hR hbs
    have hcnt : cntT (n + 1) (.mk d m t ns ks) = ks.length + sumBy (cntT n) ks := rfl
    have htk : ∀ j, (catB (((ns.zip ks).take j).map fun y => lineT (kidP path y.1) y.2 ++ belowT n (kidP path y.1) y.2)).size ≤ 1000060 * cntT (n + 1) (.mk d m t ns ks) := fun j => by
      have h1 : (catB (((ns.zip ks).take j).map fun y => lineT (kidP path y.1) y.2 ++ belowT n (kidP path y.1) y.2)).size ≤ sumBy (fun y : ByteArray × Tr => 1000060 + 1000060 * cntT n y.2) ((ns.zip ks).take j) := by
        refine catB_size fun y hy => ?_
        obtain ⟨y1, y2⟩ := y
        have hmz := List.of_mem_zip (List.mem_of_mem_take hy)
        have h5 := hns _ hmz.1
        have hk := hks _ hmz.2
        have hpk : (kidP path y1).size = path.size + 1 + y1.size := by unfold kidP; rw [ByteArray.size_append, ByteArray.size_append]; rfl
        have h6 := below_size n y2 (kidP path y1) hk (by omega)
        have h7 := line_size hk (kidP path y1)
        rw [ByteArray.size_append]
        simp only
        omega
      exact Nat.le_trans (Nat.le_trans h1 (sumBy_le j)) sumBy_zip
    refine loop_rule (m := ns.length) (fun c l s => ∃ j : Nat, c + j = ns.length ∧ Keeps σ s ∧ l = [.string path, .string (catB (((ns.zip ks).take j).map fun y => lineT (kidP path y.1) y.2 ++ belowT n (kidP path y.1) y.2)), .int .i64 (j : Nat), .bool d, .int .i64 m, .string t, u, w]) ?_ ⟨0, by omega, Keeps.refl _, rfl⟩
    rintro c l s L ⟨j, hcj, ks1, rfl⟩ hL
    simp only [vget, List.getD_cons_zero, List.getD_cons_succ]
    have hl4 := h4.le
    have h4' := h4.mono ks1.le fun _ _ h => h
    have h5' := h5.mono ks1.le fun es x => mono_rt n _ _ es x ks1.le
    rw [h4'.len, pBin_lt, pIf_d]
    refine ⟨fun hi => ?_, fun hi => ?_⟩
    · have hx1 := List.getElem?_eq_getElem (show j < ns.length by omega)
      have hx2 := List.getElem?_eq_getElem (show j < ks.length by omega)
      generalize hxi : ns[j]'(by omega) = y1 at hx1
      generalize hxk : ks[j]'(by omega) = y2 at hx2
      have h5y := hns _ (List.mem_of_getElem? hx1)
      have hky := hks _ (List.mem_of_getElem? hx2)
      have hz : (ns.zip ks)[j]? = some (y1, y2) := by rw [List.getElem?_zip_eq_some]; exact ⟨hx1, hx2⟩
      have hcy : cntT n y2 ≤ 100000 := by
        have := sumBy_mem (f := cntT n) (List.mem_of_getElem? hx2); omega
      have hpk : (kidP path y1).size = path.size + 1 + y1.size := by unfold kidP; rw [ByteArray.size_append, ByteArray.size_append]; rfl
      have hb6 := below_size n y2 (kidP path y1) hky (by omega)
      have hb7 := line_size hky (kidP path y1)
      have hb8 := htk j
      have a1 : (⟨#[47]⟩ : ByteArray).size = 1 := rfl
      rw [pBin_cat (by omega)]
      refine RSl.at1 h4' hx1 fun g hg hgs => ?_
      rw [hg, pBin_cat (by rw [ByteArray.size_append]; omega)]
      refine h5'.at hx2 fun g1 hg1 => ?_
      refine RSl.atp h5' hx2 fun p2 g2 hg2 => ?_
      have e1 : path ++ ⟨#[47]⟩ ++ y1 = kidP path y1 := rfl
      rw [e1]
      refine spec_l1Line hg1 hky (by omega) fun s2 k2 => ⟨k2.stay, ?_⟩
      rw [pBin_cat (by omega)]
      refine spec_l1Show n (mono_rt n _ _ _ _ k2.le hg2) hky (by omega) hcy fun s3 k3 => ?_
      rw [pBin_cat (by rw [ByteArray.size_append]; omega), pBin_add (by omega)]
      refine hL _ _ (c - 1) (by omega) ⟨j + 1, by omega, (ks1.trans k2).trans k3, ?_⟩
      rw [List.take_add_one, hz, Option.toList_some, List.map_append, List.map_cons, List.map_nil, catB_snoc]
      have e2 : ∀ a b c : ByteArray, a ++ b ++ c = a ++ (b ++ c) := fun a b c => by apply bl_inj; simp [bl_append]
      rw [e2]; simp
    · have e : j = ns.length := by omega
      subst e
      rw [List.take_of_length_le (by rw [List.length_zip]; omega)]
      exact hR s ks1
end
end Go.Proofs.YtkblkdnnncklgaaDoor

/- strings.Builder's WriteString and copyCheck in this program: what the library's contracts ask of it. -/
namespace Go.Proofs
def Tryd.laysB_ren : Go.Shelf.Ren := ⟨fun | 165 => 135 | 240 => 94 | 241 => 151 | 276 => 120 | 277 => 162 | 166 => 52 | n => n, fun | 70 => 72 | 3 => 3 | 0 => 0 | 4 => 4 | 9 => 9 | 20 => 20 | 72 => 75 | 37 => 73 | 164 => 122 | 5 => 5 | 75 => 77 | 80 => 62 | n => n, fun | n => n⟩
theorem Tryd.laysB240 : Go.Proofs.Lays.n240 Tryd.prog Tryd.laysB_ren := {
  mixed := by kernel_rfl
  f240 := Tryd.func94.trans (congrArg some (by kernel_rfl))
  f276 := Tryd.func120.trans (congrArg some (by kernel_rfl))
  t0 := Tryd.underlying0
  a0 := Tryd.isAgg0
  z0 := Tryd.sizeOf0
  v0 := Tryd.zeroValue0
  t4 := Tryd.underlying4
  a4 := Tryd.isAgg4
  z4 := Tryd.sizeOf4
  v4 := Tryd.zeroValue4
  t9 := Tryd.underlying9
  a9 := Tryd.isAgg9
  z9 := Tryd.sizeOf9
  v9 := Tryd.zeroValue9
  t20 := Tryd.underlying20
  a20 := Tryd.isAgg20
  z20 := Tryd.sizeOf20
  v20 := Tryd.zeroValue20
  t70 := Tryd.underlying72
  a70 := Tryd.isAgg72
  z70 := Tryd.sizeOf72
  v70 := Tryd.zeroValue72
  t72 := Tryd.underlying75
  a72 := Tryd.isAgg75
  z72 := Tryd.sizeOf75
  v72 := Tryd.zeroValue75
  t164 := Tryd.underlying122
  a164 := Tryd.isAgg122
  z164 := Tryd.sizeOf122
  v164 := Tryd.zeroValue122 }
theorem Tryd.laysB166 : Go.Proofs.Lays.n166 Tryd.prog Tryd.laysB_ren := {
  mixed := by kernel_rfl
  f166 := Tryd.func52.trans (congrArg some (by kernel_rfl))
  f240 := Tryd.func94.trans (congrArg some (by kernel_rfl))
  f276 := Tryd.func120.trans (congrArg some (by kernel_rfl))
  t0 := Tryd.underlying0
  a0 := Tryd.isAgg0
  z0 := Tryd.sizeOf0
  v0 := Tryd.zeroValue0
  t3 := Tryd.underlying3
  a3 := Tryd.isAgg3
  z3 := Tryd.sizeOf3
  v3 := Tryd.zeroValue3
  t4 := Tryd.underlying4
  a4 := Tryd.isAgg4
  z4 := Tryd.sizeOf4
  v4 := Tryd.zeroValue4
  t9 := Tryd.underlying9
  a9 := Tryd.isAgg9
  z9 := Tryd.sizeOf9
  v9 := Tryd.zeroValue9
  t20 := Tryd.underlying20
  a20 := Tryd.isAgg20
  z20 := Tryd.sizeOf20
  v20 := Tryd.zeroValue20
  t37 := Tryd.underlying73
  a37 := Tryd.isAgg73
  z37 := Tryd.sizeOf73
  v37 := Tryd.zeroValue73
  t70 := Tryd.underlying72
  a70 := Tryd.isAgg72
  z70 := Tryd.sizeOf72
  v70 := Tryd.zeroValue72
  t72 := Tryd.underlying75
  a72 := Tryd.isAgg75
  z72 := Tryd.sizeOf75
  v72 := Tryd.zeroValue75
  t75 := Tryd.underlying77
  a75 := Tryd.isAgg77
  z75 := Tryd.sizeOf77
  v75 := Tryd.zeroValue77
  t164 := Tryd.underlying122
  a164 := Tryd.isAgg122
  z164 := Tryd.sizeOf122
  v164 := Tryd.zeroValue122 }
theorem Tryd.laysB_extra : Builder.Extra Tryd.prog Tryd.laysB_ren := {
  sizeBuilder := by kernel_rfl
  liesBuilder := by kernel_rfl
  t5 := Tryd.underlying5
  a5 := Tryd.isAgg5
  z5 := Tryd.sizeOf5
  v5 := Tryd.zeroValue5
  infoByte := by kernel_rfl
  cellsByte := by kernel_rfl
  sizeByte := by kernel_rfl
  neB5 := by decide }
end Go.Proofs

/- strings.Builder: a text is written, and all but the builder and its row stands as it stood. -/
set_option linter.unusedVariables false
set_option linter.unusedSimpArgs false
namespace Go.Proofs
open Go.Shelf Go.RowKit

/-- What a write leaves: every block but the builder's and its row's. -/
def Rest (b : Nat) (row : Option Nat) (w w' : World) : Prop := ∀ k, k < w.heap.size → k ≠ b → row ≠ some k → w'.heap[k]? = w.heap[k]?

/-- Where what is appended to a list of bytes lies: in its row, or in a new one. -/
theorem append_place {P : Program} (w : World) (base : Nat) (t u ty e : TypeId) (i : TypeInfo) (ht : P.underlying t = some (.slice e)) (hu : P.underlying u = some .string) (hi : P.info? e = some i) (hz : i.zero = some (.int .u8 0))
    (hsize : i.size = 1) (hby : i.bytes = 1) (v : Value) (n : Nat) (xs : List Value) (hown : w.ownsRow base e 1 v n xs) (s : ByteArray)
    (h63 : n + s.size ≤ maxLen) (hbytes : n + s.size ≤ 140737488355328) (hbase : base ≤ w.heap.size) :
    ∃ v' w', (Builtin.append_ #[t, u] ty #[v, .string s]).run P w = .ok v' w' ∧ w'.ownsRow base e 1 v' (n + s.size) (xs ++ Lib.strCells s) ∧ w.grownBy w' v.ownBlock ∧
      (v'.ownBlock = v.ownBlock ∨ ∀ g, v'.ownBlock = some g → w.heap.size ≤ g) := by
  obtain ⟨v', w', hr, h2, h3, _⟩ := Lib.run_append_own_string (P := P) w base t u ty e i ht hu hi hz hsize hby v n xs hown s h63 hbytes hbase
  refine ⟨v', w', hr, h2, h3, ?_⟩
  have hxl : xs.length = n := by simpa using hown.1
  rcases hown.2 with ⟨rfl, rfl⟩ | ⟨g, cap, cur, rfl, hbg, hg, hnc, hcm, hcs, htake⟩
  · have hown2 : w.ownsRow w.heap.size e 1 (.slice none 0 0) 0 xs := ⟨by simpa using hxl, .inl ⟨rfl, rfl⟩⟩
    obtain ⟨v2, w2, hr2, q2, _, _⟩ := Lib.run_append_own_string (P := P) w w.heap.size t u ty e i ht hu hi hz hsize hby (.slice none 0 0) 0 xs hown2 s h63 hbytes (Nat.le_refl _)
    have e2 := hr.symm.trans hr2
    cases e2
    refine .inr fun g hg => ?_
    rcases q2.2 with ⟨rfl, _⟩ | ⟨g', cap, cur, rfl, hbg, _⟩
    · cases hg
    · cases hg; exact hbg
  · by_cases hroom : n + s.size ≤ cap
    · have hr2 := Lib.run_append_room_string (P := P) w t u ty e i ht hu hi hsize g n cap cur hg s hroom (by omega)
      have e2 := hr.symm.trans hr2
      cases e2
      exact .inl rfl
    · have holds : ∀ j u, xs[j]? = some u → w.cell? ((⟨g, 0, none⟩ : Addr).add j) = some u := hown.cells (g := g) rfl
      have hr2 := Lib.run_append_grow_string (P := P) w t u ty e i (.int .u8 0) ht hu hi hz ⟨g, 0, none⟩ n cap xs (by rw [hsize]; simpa using hxl) holds s (by omega) (by simp only [maxLen] at h63; omega) (by rw [hby]; exact growslice_fits (by omega) (by omega))
      have e2 := hr.symm.trans hr2
      cases e2
      refine .inr fun g hg => ?_
      cases hg; exact Nat.le_refl _
theorem wp_append_place {P : Program} {w : World} {ops : Array Oper} {rest : List Oper} {o : Oper} {a : Act} {Q : Exit → Act → World → Prop} (hgd : o.guard = none) (sl x : Operand) (t u : TypeId)
    (ho : o.op = .call { callee := .builtin .append, args := #[sl, x], argTypes := #[t, u] })
    (base : Nat) (e : TypeId) (i : TypeInfo) (ht : P.underlying t = some (.slice e)) (hu : P.underlying u = some .string) (hi : P.info? e = some i) (hz : i.zero = some (.int .u8 0))
    (hsize : i.size = 1) (hby : i.bytes = 1) (v : Value) (n : Nat) (xs : List Value) (hs : a.eval sl = v) (hown : w.ownsRow base e 1 v n xs) (s : ByteArray) (hx : a.eval x = .string s)
    (h63 : n + s.size ≤ maxLen) (hbytes : n + s.size ≤ 140737488355328) (hbase : base ≤ w.heap.size)
    (h : ∀ v' w', w'.ownsRow base e 1 v' (n + s.size) (xs ++ Lib.strCells s) → w.grownBy w' v.ownBlock → (v'.ownBlock = v.ownBlock ∨ ∀ g, v'.ownBlock = some g → w.heap.size ≤ g) → wpList P ops Q rest (a.put o.dst v') w') : wpList P ops Q (o :: rest) a w := by
  refine wpList_plain hgd fun K hK => ?_
  obtain ⟨v', w', hr, h2, h3, h4⟩ := append_place (P := P) w base t u o.type e i ht hu hi hz hsize hby v n xs hown s h63 hbytes hbase
  unfold Oper.wp execOp
  simp only [ho, resolve, invoke, builtin, Sem.run_bind, Sem.run_pure, Result.andThen_ok, List.map_toArray, List.map_cons, List.map_nil, hs, hx, hr]
  exact hK _ _ (h v' w' h2 h3 h4)

set_option maxHeartbeats 4000000 in
set_option maxRecDepth 100000 in
theorem Tryd.check_exact (B b : Nat) (p v : Value) (bs : List Value) (w : World) (hp : p = .pointer none ∨ p = .pointer (some ⟨b, 0, none⟩)) (hB : B ≤ b) (hbk : w.heap[b]? = some (.cells #[p, v] (Tryd.laysB_ren.t 72) (0, 0))) (hown : w.ownsRow B (Tryd.laysB_ren.t 5) 1 v bs.length bs) (hne : v.ownBlock ≠ some b) :
    Calls Tryd.prog (Tryd.laysB_ren.f 240) #[.pointer (some ⟨b, 0, none⟩)] w fun e w1 => e = .returned (.tuple #[]) ∧
      w1.heap[b]? = some (.cells #[.pointer (some ⟨b, 0, none⟩), v] (Tryd.laysB_ren.t 72) (0, 0)) ∧ w1.ownsRow B (Tryd.laysB_ren.t 5) 1 v bs.length bs ∧ (∀ k, k ≠ b → w1.heap[k]? = w.heap[k]?) ∧ w1.heap.size = w.heap.size ∧ Below B w w1 := by
  have h0 : w.cell? ⟨b, 0, none⟩ = some p := by rw [Lib.cell_of_heap hbk]; rfl
  rcases hp with rfl | rfl
  · have hAt : Lib.BuilderAt (Tryd.laysB_ren.t 72) (Tryd.laysB_ren.t 5) B b (.pointer none) bs w := ⟨hB, v, hbk, hown, hne⟩
    refine (Any.Builder_copyCheck_fresh Tryd.laysB240 Tryd.laysB_extra.toX72 b w hAt.cell0 hAt.shape hAt.frozen0).mono ?_
    rintro e w1 ⟨rfl, rfl⟩
    have hk : ∀ k, k ≠ b → (w.setCell ⟨b, 0, none⟩ (.pointer (some ⟨b, 0, none⟩))).heap[k]? = w.heap[k]? := fun k hk => by
      have hk' : b ≠ k := fun e => hk e.symm
      simp [World.setCell, Array.getElem?_modify, hk']
    have hb1 : (w.setCell ⟨b, 0, none⟩ (.pointer (some ⟨b, 0, none⟩))).heap[b]? = some (.cells #[.pointer (some ⟨b, 0, none⟩), v] (Tryd.laysB_ren.t 72) (0, 0)) := by
      simp [World.setCell, Array.getElem?_modify, hbk]
    refine ⟨rfl, hb1, ?_, hk, by simp [World.setCell], (Below.refl B w).setCell (p := ⟨b, 0, none⟩) hB _⟩
    obtain ⟨g1, g2⟩ := hown
    refine ⟨g1, ?_⟩
    rcases g2 with g2 | ⟨g, cap, cur, rfl, q1, q2, q3⟩
    · exact .inl g2
    · refine .inr ⟨g, cap, cur, rfl, q1, ?_, q3⟩
      rw [hk g (fun e => hne (by rw [← e]; rfl))]; exact q2
  · refine (Any.Builder_copyCheck_used Tryd.laysB240 Tryd.laysB_extra.toX72 b w h0).mono ?_
    rintro e w1 ⟨rfl, rfl⟩
    exact ⟨rfl, hbk, hown, fun _ _ => rfl, rfl, Below.refl _ _⟩

set_option maxHeartbeats 4000000 in
set_option maxRecDepth 100000 in
theorem Tryd.write_exact (B b : Nat) (p v : Value) (bs : List Value) (s : ByteArray) (w : World) (hp : p = .pointer none ∨ p = .pointer (some ⟨b, 0, none⟩)) (hB : B ≤ b) (hbk : w.heap[b]? = some (.cells #[p, v] (Tryd.laysB_ren.t 72) (0, 0))) (hown : w.ownsRow B (Tryd.laysB_ren.t 5) 1 v bs.length bs) (hne : v.ownBlock ≠ some b) (hlen : bs.length + s.size ≤ 140737488355328) (hBw : B ≤ w.heap.size) :
    Calls Tryd.prog (Tryd.laysB_ren.f 166) #[.pointer (some ⟨b, 0, none⟩), .string s] w fun e w' => e = .returned (.tuple #[.int .i64 s.size, .nilIface]) ∧
      ∃ v', w'.heap[b]? = some (.cells #[.pointer (some ⟨b, 0, none⟩), v'] (Tryd.laysB_ren.t 72) (0, 0)) ∧ w'.ownsRow B (Tryd.laysB_ren.t 5) 1 v' (bs ++ Lib.strCells s).length (bs ++ Lib.strCells s) ∧ v'.ownBlock ≠ some b ∧ (v'.ownBlock = v.ownBlock ∨ ∀ g, v'.ownBlock = some g → w.heap.size ≤ g) ∧ Rest b v.ownBlock w w' ∧ Below B w w' ∧ w.heap.size ≤ w'.heap.size := by
  have L := Tryd.laysB166
  have X := Tryd.laysB_extra
  obtain ⟨i0, hi, hz0, hz1, hz2⟩ := info_parts X.infoByte
  have mixed := L.mixed
  have u72 := run_underlying L.t72; have u70 := run_underlying L.t70; have u37 := run_underlying L.t37; have u3 := run_underlying L.t3
  have u9 := run_underlying L.t9; have u4 := run_underlying L.t4; have u164 := run_underlying L.t164; have u5 := run_underlying X.t5
  have a72 := L.a72; have z72 := L.z72; have v72 := L.v72; have t72 := L.t72
  have a70 := L.a70; have z70 := L.z70; have v70 := L.v70; have t70 := L.t70
  have a37 := L.a37; have z37 := L.z37; have v37 := L.v37; have t37 := L.t37
  have a3 := L.a3; have z3 := L.z3; have v3 := L.v3; have t3 := L.t3
  have a9 := L.a9; have z9 := L.z9; have v9 := L.v9; have t9 := L.t9
  have a5 := X.a5; have z5 := X.z5; have v5 := X.v5; have t5 := X.t5
  have e240 : ∀ args w, (callFunc (Tryd.laysB_ren.f 240) args).run Tryd.prog w = .ok (.enter (Tryd.laysB_ren.f 240) args) w := enters_of L.f240 (by kernel_rfl) rfl
  go_enter L.f166, Body.n166_ntmps Tryd.laysB_ren
  go_wp2_with (go_at_fn (Tryd.laysB_ren.f 240); refine (Tryd.check_exact B b p v bs _ hp hB hbk hown hne).mono ?_)
  rintro e w1 ⟨rfl, hbk1, hown1, hk1, hs1, hb1⟩
  have c0 : w1.cell? ⟨b, 0, none⟩ = some (.pointer (some ⟨b, 0, none⟩)) := by rw [Lib.cell_of_heap hbk1]; rfl
  have c1 : w1.cell? ⟨b, 1, none⟩ = some v := by rw [Lib.cell_of_heap hbk1]; rfl
  go_wp2_with (at_builtin; refine wp_append_place rfl _ _ (Tryd.laysB_ren.t 37) (Tryd.laysB_ren.t 9) rfl B (Tryd.laysB_ren.t 5) i0 L.t37 L.t9 hi hz0 hz1 hz2 _ _ _ rfl hown1 s rfl ?c3 ?c4 ?c5 ?_)
  case c3 => unfold maxLen; omega
  case c4 => omega
  case c5 => omega
  intro v' w2 hown' hgrow hplace
  have hlt : b < w1.heap.size := by
    rcases Nat.lt_or_ge b w1.heap.size with h' | h'
    · exact h'
    · simp [Array.getElem?_eq_none h'] at hbk1
  have hb2 : w2.heap[b]? = some (.cells #[.pointer (some ⟨b, 0, none⟩), v] (Tryd.laysB_ren.t 72) (0, 0)) := by
    rw [hgrow.block b hlt (fun e => hne e.symm)]; exact hbk1
  have d0 : w2.cell? ⟨b, 0, none⟩ = some (.pointer (some ⟨b, 0, none⟩)) := by rw [Lib.cell_of_heap hb2]; rfl
  have d1 : w2.cell? ⟨b, 1, none⟩ = some v := by rw [Lib.cell_of_heap hb2]; rfl
  have f1 : w2.frozen? ⟨b, 1, none⟩ = false := Lib.frozen_of_heap hb2 1
  have hne' : v'.ownBlock ≠ some b := by
    rcases hplace with h | h
    · rw [h]; exact hne
    · intro e
      have := h b e
      omega
  obtain ⟨ao, n', cap, rfl⟩ : ∃ ao n' cap, v' = .slice ao n' cap := by
    rcases hown'.2 with ⟨hv, _⟩ | ⟨g, cap, cur, hv, _⟩
    · exact ⟨_, _, _, hv⟩
    · exact ⟨_, _, _, hv⟩
  go_wp2
  go_ret2
  have hput := Lib.BuilderAt.put (T := (Tryd.laysB_ren.t 72)) (e := (Tryd.laysB_ren.t 5)) hB hb2 (bs' := bs ++ Lib.strCells s) (by simpa [Lib.strCells_length] using hown') X.neB5
  obtain ⟨_, v2, hv2, hown2, hne2⟩ := hput
  have hv3 : (w2.setCell ⟨b, 1, none⟩ (.slice ao n' cap)).heap[b]? = some (.cells #[.pointer (some ⟨b, 0, none⟩), .slice ao n' cap] (Tryd.laysB_ren.t 72) (0, 0)) := by
    simp [World.setCell, Array.getElem?_modify, hb2]
  rw [hv3] at hv2
  have e3 : (.slice ao n' cap : Value) = v2 := by simp at hv2; exact hv2
  subst e3
  refine ⟨rfl, _, hv3, hown2, hne', ?_, fun k hk hkb hrow => ?_, ?_, ?_⟩
  · exact hplace
  · have hkb' : b ≠ k := fun e => hkb e.symm
    have e4 : (w2.setCell ⟨b, 1, none⟩ (.slice ao n' cap)).heap[k]? = w2.heap[k]? := by simp [World.setCell, Array.getElem?_modify, hkb']
    rw [e4, hgrow.block k (by omega) (fun e => hrow e.symm), hk1 k hkb]
  · exact (hb1.grown hgrow (by omega) (fun k hk => (hown1.lt k hk).1)).setCell (p := ⟨b, 1, none⟩) hB _
  · have := hgrow.size
    have e5 : (w2.setCell ⟨b, 1, none⟩ (.slice ao n' cap)).heap.size = w2.heap.size := by simp [World.setCell]
    omega
end Go.Proofs

/- strings.Builder in a view: a text is written. -/
set_option linter.unusedVariables false
set_option linter.unusedSimpArgs false
namespace Go.Proofs.YtkblkdnnncklgaaDoor
open Go Go.Av Go.RowKit

/-- A builder in rows of our own, and the bytes that it holds. -/
def BV (w0 : World) (σ : Vw) (b : Nat) (F : List Nat) (bs : List Value) : Prop :=
  w0.heap.size ≤ b ∧ ∃ p v, (p = .pointer none ∨ p = .pointer (some ⟨b, 0, none⟩)) ∧ σ b = some ⟨Tryd.laysB_ren.t 72, [p, v], 2, (0, 0)⟩ ∧
    ((v = .slice none 0 0 ∧ bs = [] ∧ F = [b]) ∨ ∃ q cap, v = .slice (some ⟨q, 0, none⟩) bs.length cap ∧ w0.heap.size ≤ q ∧ q ≠ b ∧ σ q = some ⟨Tryd.laysB_ren.t 5, bs, cap, (0, 0)⟩ ∧ bs.length ≤ cap ∧ cap ≤ maxLen ∧ F = [b, q])

section
variable {w0 : World} {σ : Vw}

theorem BV.new {b : Nat} (hb : w0.heap.size ≤ b) : BV w0 (σ.put b ⟨Tryd.laysB_ren.t 72, [.pointer none, .slice none 0 0], 2, (0, 0)⟩) b [b] [] :=
  ⟨hb, _, _, .inl rfl, put_at, .inl ⟨rfl, rfl, rfl⟩⟩
theorem BV.frame {σ' : Vw} {b : Nat} {F : List Nat} {bs : List Value} (h : BV w0 σ b F bs) (hF : ∀ i, i ∈ F → σ' i = σ i) : BV w0 σ' b F bs := by
  obtain ⟨hb, p, v, hp, hr, ⟨rfl, rfl, rfl⟩ | ⟨q, cap, rfl, h1, h2, h3, h4, h5, rfl⟩⟩ := h
  · exact ⟨hb, p, _, hp, (hF b (by simp)).trans hr, .inl ⟨rfl, rfl, rfl⟩⟩
  · exact ⟨hb, p, _, hp, (hF b (by simp)).trans hr, .inr ⟨q, cap, rfl, h1, h2, (hF q (by simp)).trans h3, h4, h5, rfl⟩⟩
theorem BV.dom {b : Nat} {F : List Nat} {bs : List Value} (h : BV w0 σ b F bs) : ∀ i, i ∈ F → w0.heap.size ≤ i ∧ σ i ≠ none := by
  obtain ⟨hb, p, v, hp, hr, ⟨rfl, rfl, rfl⟩ | ⟨q, cap, rfl, h1, h2, h3, h4, h5, rfl⟩⟩ := h
  · intro i hi; rw [List.mem_singleton.1 hi]; exact ⟨hb, by rw [hr]; simp⟩
  · intro i hi
    simp at hi
    rcases hi with rfl | rfl
    · exact ⟨hb, by rw [hr]; simp⟩
    · exact ⟨h1, by rw [h3]; simp⟩

theorem write_view {b : Nat} {F : List Nat} {bs : List Value} {s : ByteArray} (h : BV w0 σ b F bs) (hlen : bs.length + s.size ≤ 140737488355328) {R : Value → Vw → Prop}
    (hR : ∀ F' σ', KeepsBut F σ σ' → BV w0 σ' b F' (bs ++ Lib.strCells s) → (∀ i, i ∈ F' → i ∈ F ∨ σ i = none) → R (.tuple ⟨[.int .i64 s.size, .nilIface]⟩) σ') :
    AC Tryd.prog w0 n_p_strings_Builder_WriteString [.pointer (some ⟨b, 0, none⟩), .string s] σ R := by
  refine ⟨is_p_strings_Builder_WriteString, fun w hw => ?_⟩
  obtain ⟨hb, p, v, hp, hr, hv⟩ := h
  have hbk : w.heap[b]? = some (.cells #[p, v] (Tryd.laysB_ren.t 72) (0, 0)) := by
    obtain ⟨_, cur, hc, hpre, hcap, _⟩ := hw.row b _ hr
    simp only at hc hpre hcap
    have hl : cur.toList = [p, v] := by
      obtain ⟨t, ht⟩ := hpre
      have := congrArg List.length ht
      simp only [List.length_append, List.length_cons, List.length_nil, Array.length_toList, hcap] at this
      have ht0 : t = [] := List.eq_nil_of_length_eq_zero (by omega)
      rw [ht0] at ht
      simpa using ht.symm
    have hc2 : cur = #[p, v] := by apply Array.ext'; simpa using hl
    rw [← hc2]; exact hc
  have hown : w.ownsRow w0.heap.size (Tryd.laysB_ren.t 5) 1 v bs.length bs ∧ v.ownBlock ≠ some b ∧ (∀ i, v.ownBlock = some i → i ∈ F) ∧ b ∈ F := by
    rcases hv with ⟨rfl, rfl, rfl⟩ | ⟨q, cap, rfl, h1, h2, h3, h4, h5, rfl⟩
    · exact ⟨⟨rfl, .inl ⟨rfl, rfl⟩⟩, nofun, nofun, by simp⟩
    · obtain ⟨_, cur, hc, hpre, hcap, _⟩ := hw.row q _ h3
      simp only at hc hpre hcap
      refine ⟨⟨by simp, .inr ⟨q, cap, cur, rfl, h1, hc, h4, h5, by omega, ?_⟩⟩, fun e => h2 (by cases e; rfl), fun i e => by cases e; simp, by simp⟩
      have := List.prefix_iff_eq_take.1 hpre
      rw [Nat.mul_one]; exact this.symm
  obtain ⟨hown, hne, hin, hbF⟩ := hown
  refine (Tryd.write_exact w0.heap.size b p v bs s w hp hb hbk hown hne hlen hw.bel.size).mono ?_
  rintro e w' ⟨rfl, v', hbk', hown', hne', hplace, hrest, hbel, hsize⟩
  have hlt : b < w.heap.size := hw.lt hr
  -- the new view
  obtain ⟨hl', hv'⟩ := hown'
  have key : ∀ (σ' : Vw) (F' : List Nat), σ' b = some ⟨Tryd.laysB_ren.t 72, [.pointer (some ⟨b, 0, none⟩), v'], 2, (0, 0)⟩ → BV w0 σ' b F' (bs ++ Lib.strCells s) →
      (∀ i, i ≠ b → v'.ownBlock ≠ some i → σ' i = if v.ownBlock = some i then none else σ i) → (∀ g, v'.ownBlock = some g → ∃ cap cur, σ' g = some ⟨Tryd.laysB_ren.t 5, bs ++ Lib.strCells s, cap, (0, 0)⟩ ∧ w0.heap.size ≤ g ∧ w'.heap[g]? = some (.cells cur (Tryd.laysB_ren.t 5) (0, 0)) ∧ cur.size = cap ∧ (bs ++ Lib.strCells s) <+: cur.toList) →
      (∀ i, i ∈ F' → i = b ∨ v'.ownBlock = some i) → ∃ v σ', (Ending.returned (.tuple #[.int .i64 s.size, .nilIface])) = .returned v ∧ R v σ' ∧ Aft w0 σ w σ' w' := by
    intro σ' F' hσb hBV hσo hσg hF'
    have hgF : ∀ i, v'.ownBlock = some i → i ∈ F ∨ w.heap.size ≤ i := fun i hi => by
      rcases hplace with h | h
      · exact .inl (hin i (by rw [← h]; exact hi))
      · exact .inr (h i hi)
    have hnone : ∀ i, w.heap.size ≤ i → σ i = none := fun i hi => by
      cases hs : σ i with
      | none => rfl
      | some r => exact absurd (hw.lt hs) (by omega)
    refine ⟨_, σ', rfl, hR F' σ' (fun i r hi hiF => ?_) hBV (fun i hi => ?_), ⟨⟨hw.bel.trans hbel, fun i r hi => ?_⟩, hsize, fun i hi hn => ?_, fun i r hi => ?_⟩⟩
    · have h1 : i ≠ b := fun e => hiF (e ▸ hbF)
      have h2 : v'.ownBlock ≠ some i := fun e => by
        rcases hgF i e with h | h
        · exact hiF h
        · rw [hnone i h] at hi; cases hi
      rw [hσo i h1 h2, if_neg (fun e => hiF (hin i e))]; exact hi
    · rcases hF' i hi with rfl | h
      · exact .inl hbF
      · rcases hgF i h with h | h
        · exact .inl h
        · exact .inr (hnone i h)
    · by_cases h1 : i = b
      · subst h1
        rw [hσb] at hi; cases hi
        exact ⟨hb, _, hbk', by simp, by simp, by simp⟩
      · by_cases h2 : v'.ownBlock = some i
        · obtain ⟨cap, cur, q1, q2, q3, q4, q5⟩ := hσg i h2
          rw [q1] at hi; cases hi
          exact ⟨q2, cur, q3, q5, q4, by simp⟩
        · rw [hσo i h1 h2] at hi
          split at hi
          · cases hi
          · rename_i h3
            obtain ⟨g1, cur, g2, g3⟩ := hw.row i r hi
            exact ⟨g1, cur, (hrest i (hw.lt hi) h1 h3).trans g2, g3⟩
    · have h1 : i ≠ b := fun e => by rw [e, hr] at hn; cases hn
      refine hrest i hi h1 fun e => ?_
      rcases hv with ⟨rfl, _⟩ | ⟨q, cap, rfl, _, _, h3, _⟩
      · cases e
      · cases e; rw [h3] at hn; cases hn
    · by_cases h1 : i = b
      · exact .inl (by rw [h1, hr]; simp)
      · by_cases h2 : v'.ownBlock = some i
        · rcases hgF i h2 with h | h
          · refine .inl ?_
            rcases hv with ⟨rfl, _, rfl⟩ | ⟨q, cap, rfl, _, _, h3, _, _, rfl⟩
            · exact absurd (List.mem_singleton.1 h) h1
            · simp at h
              rcases h with h | h
              · exact absurd h h1
              · rw [h, h3]; simp
          · exact .inr h
        · rw [hσo i h1 h2] at hi
          split at hi
          · cases hi
          · exact .inl (by rw [hi]; simp)
  rcases hv' with ⟨rfl, hn⟩ | ⟨g, cap, cur, rfl, q1, q2, q3, q4, q5, q6⟩
  · have hz : bs ++ Lib.strCells s = [] := List.eq_nil_of_length_eq_zero (by omega)
    refine key (fun i => if i = b then some ⟨Tryd.laysB_ren.t 72, [.pointer (some ⟨b, 0, none⟩), .slice none 0 0], 2, (0, 0)⟩ else if v.ownBlock = some i then none else σ i) [b] (by simp) ?_ (fun i h1 _ => by simp [h1]) nofun (fun i hi => .inl (List.mem_singleton.1 hi))
    exact ⟨hb, _, _, .inr rfl, by simp, .inl ⟨rfl, hz, rfl⟩⟩
  · have hgb : g ≠ b := fun e => hne' (by rw [e]; rfl)
    have hpre : (bs ++ Lib.strCells s) <+: cur.toList := by
      rw [Nat.mul_one] at q6
      rw [← q6]; exact List.take_prefix _ _
    refine key (fun i => if i = b then some ⟨Tryd.laysB_ren.t 72, [.pointer (some ⟨b, 0, none⟩), .slice (some ⟨g, 0, none⟩) (bs ++ Lib.strCells s).length cap], 2, (0, 0)⟩ else if g = i then some ⟨Tryd.laysB_ren.t 5, bs ++ Lib.strCells s, cap, (0, 0)⟩ else if v.ownBlock = some i then none else σ i) [b, g] (by simp) ?_ (fun i h1 h2 => ?_) (fun g' hg' => ?_) (fun i hi => ?_)
    · exact ⟨hb, _, _, .inr rfl, by simp, .inr ⟨g, cap, rfl, q1, hgb, by simp [hgb], q3, q4, rfl⟩⟩
    · have : ¬ g = i := fun e => h2 (by rw [e]; rfl)
      simp [h1, this]
    · have : g = g' := by cases hg'; rfl
      subst this
      exact ⟨cap, cur, by simp [hgb], q1, q2, by omega, hpre⟩
    · simp at hi
      rcases hi with h | h
      · exact .inl h
      · exact .inr (by rw [h]; rfl)
end
end Go.Proofs.YtkblkdnnncklgaaDoor

/- strings.Builder: its text is taken. -/
set_option linter.unusedVariables false
set_option linter.unusedSimpArgs false
namespace Go.Proofs
open Go.Shelf Go.RowKit

set_option maxHeartbeats 4000000 in
set_option maxRecDepth 100000 in
theorem Tryd.string_exact (b g cap : Nat) (p : Value) (l : List UInt8) (cur : Array Value) (w : World) (h0 : l ≠ []) (hbk : w.heap[b]? = some (.cells #[p, .slice (some ⟨g, 0, none⟩) l.length cap] (Tryd.lays169_ren.t 72) (0, 0))) (hg : w.heap[g]? = some (.cells cur (Tryd.lays169_ren.t 5) (0, 0)))
    (hnc : l.length ≤ cap) (hcm : cap ≤ maxLen) (hcs : cur.size = cap) (htake : cur.toList.take l.length = Lib.byteCells l) :
    Calls Tryd.prog (Tryd.lays169_ren.f 169) #[.pointer (some ⟨b, 0, none⟩)] w fun e w' => e = .returned (.string ⟨l.toArray⟩) ∧ w' = w.drew.freeze ⟨g, 0, none⟩ l.length := by
  have L := Tryd.lays169
  have X := Tryd.Builder_Extra_169
  have hl0 : l.length ≠ 0 := by simpa using h0
  have c1 : w.drew.cell? ⟨b, 1, none⟩ = some (.slice (some ⟨g, 0, none⟩) l.length cap) := by
    have : w.drew.heap[b]? = some (.cells #[p, .slice (some ⟨g, 0, none⟩) l.length cap] (Tryd.lays169_ren.t 72) (0, 0)) := hbk
    rw [Lib.cell_of_heap this]; rfl
  have hSD : (Builtin.unsafeSliceData_ #[(Tryd.lays169_ren.t 37)] (Tryd.lays169_ren.t 127) #[.slice (some ⟨g, 0, none⟩) l.length cap]).run Tryd.prog w.drew = .ok (.pointer (some ⟨g, 0, none⟩)) w.drew :=
    Lib.run_unsafeSliceData_row _ _ _ _ _ _ (by omega)
  have hown : w.ownsRow 0 (Tryd.lays169_ren.t 5) 1 (.slice (some ⟨g, 0, none⟩) l.length cap) l.length (Lib.byteCells l) := ⟨by simp [Lib.byteCells], .inr ⟨g, cap, cur, rfl, Nat.zero_le _, hg, hnc, hcm, by omega, by rw [Nat.mul_one]; exact htake⟩⟩
  have hUS : (Builtin.unsafeString_ #[(Tryd.lays169_ren.t 127), (Tryd.lays169_ren.t 3)] (Tryd.lays169_ren.t 9) #[.pointer (some ⟨g, 0, none⟩), .int .i64 l.length]).run Tryd.prog w.drew = .ok (.string ⟨l.toArray⟩) (w.drew.freeze ⟨g, 0, none⟩ l.length) := by
    refine Lib.run_unsafeString_row w.drew (Tryd.lays169_ren.t 127) (Tryd.lays169_ren.t 3) (Tryd.lays169_ren.t 9) (Tryd.lays169_ren.t 5) L.t127 X.cellsByte g cur.size (by have hg' : w.drew.heap[g]? = some (.cells cur (Tryd.lays169_ren.t 5) (0, 0)) := hg; simp [World.shape?, hg']) l h0 (by omega) (by unfold maxLen at hcm; omega) ?_
    intro j x hx
    have := hown.cells (g := g) rfl j (.int .u8 x.toNat) (by simp [Lib.byteCells, hx])
    exact this
  have mixed := L.mixed
  have t72 := L.t72; have a72 := L.a72; have z72 := L.z72; have v72 := L.v72; have u72 := run_underlying L.t72
  have t70 := L.t70; have a70 := L.a70; have z70 := L.z70; have v70 := L.v70; have u70 := run_underlying L.t70
  have t37 := L.t37; have a37 := L.a37; have z37 := L.z37; have v37 := L.v37; have u37 := run_underlying L.t37
  have t127 := L.t127; have a127 := L.a127; have z127 := L.z127; have v127 := L.v127; have u127 := run_underlying L.t127
  have t3 := L.t3; have a3 := L.a3; have z3 := L.z3; have v3 := L.v3; have u3 := run_underlying L.t3
  have t9 := L.t9; have a9 := L.a9; have z9 := L.z9; have v9 := L.v9; have u9 := run_underlying L.t9
  have t5 := X.t5; have a5 := X.a5; have z5 := X.z5; have v5 := X.v5; have u5 := run_underlying X.t5
  go_enter L.f169, Body.n169_ntmps Tryd.lays169_ren
  go_wp2
  go_region_o
  all_goals (go_wp2; go_ret; exact ⟨rfl, rfl⟩)
end Go.Proofs
namespace Go.Proofs.YtkblkdnnncklgaaDoor
open Go Go.Av Go.RowKit

section
variable {w0 : World} {σ : Vw}

theorem heap_two {w : World} {b T : Nat} {p v : Value} (hw : Sat w0 σ w) (hr : σ b = some ⟨T, [p, v], 2, (0, 0)⟩) : w.heap[b]? = some (.cells #[p, v] T (0, 0)) := by
  obtain ⟨_, cur, hc, hpre, hcap, _⟩ := hw.row b _ hr
  simp only at hc hpre hcap
  have hl : cur.toList = [p, v] := by
    obtain ⟨t, ht⟩ := hpre
    have := congrArg List.length ht
    simp only [List.length_append, List.length_cons, List.length_nil, Array.length_toList, hcap] at this
    have ht0 : t = [] := List.eq_nil_of_length_eq_zero (by omega)
    rw [ht0] at ht
    simpa using ht.symm
  have hc2 : cur = #[p, v] := by apply Array.ext'; simpa using hl
  rw [← hc2]; exact hc

theorem string_view {b : Nat} {F : List Nat} {l : List UInt8} (h : BV w0 σ b F (Lib.byteCells l)) {R : Value → Vw → Prop} (hR : ∀ σ', KeepsBut F σ σ' → R (.string ⟨l.toArray⟩) σ') :
    AC Tryd.prog w0 n_p_strings_Builder_String [.pointer (some ⟨b, 0, none⟩)] σ R := by
  refine ⟨is_p_strings_Builder_String, fun w hw => ?_⟩
  obtain ⟨hb, p, v, hp, hr, hv⟩ := h
  have hbk := heap_two hw hr
  have full : ∀ {w' : World}, Below w.heap.size w w' → R (.string ⟨l.toArray⟩) σ → ∃ u σ', (Ending.returned (.string ⟨l.toArray⟩)) = .returned u ∧ R u σ' ∧ Aft w0 σ w σ' w' := fun k hRσ => ⟨_, σ, rfl, hRσ, Aft.below hw k⟩
  have hRσ := hR σ (KeepsBut.refl _ _)
  cases l with
  | nil =>
    rcases hv with ⟨rfl, _, rfl⟩ | ⟨q, cap, rfl, h1, h2, h3, h4, h5, rfl⟩
    · refine (Any.Builder_String_nil Tryd.lays169 Tryd.Builder_Extra_169 w.heap.size b p w hbk).mono ?_
      rintro e w' ⟨rfl, k⟩
      exact full k hRσ
    · obtain ⟨_, cur, hc, hpre, hcap, _⟩ := hw.row q _ h3
      simp only at hc hpre hcap
      by_cases hc0 : cap = 0
      · subst hc0
        refine (Any.Builder_String_noroom Tryd.lays169 Tryd.Builder_Extra_169 w.heap.size b q p cur w (Nat.le_refl _) hbk hc).mono ?_
        rintro e w' ⟨rfl, k⟩
        exact full k hRσ
      · refine (Any.Builder_String_room Tryd.lays169 Tryd.Builder_Extra_169 w.heap.size b q cap p w hc0 hbk).mono ?_
        rintro e w' ⟨rfl, k⟩
        exact full k hRσ
  | cons x l =>
    rcases hv with ⟨_, h0, _⟩ | ⟨q, cap, rfl, h1, h2, h3, h4, h5, rfl⟩
    · simp [Lib.byteCells] at h0
    obtain ⟨_, cur, hc, hpre, hcap, _⟩ := hw.row q _ h3
    simp only at hc hpre hcap
    have hlen : (Lib.byteCells (x :: l)).length = (x :: l).length := by simp [Lib.byteCells]
    rw [hlen] at hbk h4
    refine (Tryd.string_exact b q cap p (x :: l) cur w (by simp) hbk hc h4 h5 (by omega) ?_).mono ?_
    · have := List.prefix_iff_eq_take.1 hpre
      rw [hlen] at this; exact this.symm
    rintro e w' ⟨rfl, rfl⟩
    have hk : ∀ k, k ≠ q → (w.drew.freeze ⟨q, 0, none⟩ (x :: l).length).heap[k]? = w.heap[k]? := fun k hk => by
      have hk' : ¬ q = k := fun e => hk e.symm
      have e1 : w.drew.heap = w.heap := rfl
      simp [World.freeze, Array.getElem?_modify, hk', e1]
    have hs : (w.drew.freeze ⟨q, 0, none⟩ (x :: l).length).heap.size = w.heap.size := by
      have e1 : w.drew.heap = w.heap := rfl
      simp [World.freeze, e1]
    have hbl : Below w0.heap.size w (w.drew.freeze ⟨q, 0, none⟩ (x :: l).length) := Lib.below_freeze (Below.drew (Below.refl _ _)) (p := ⟨q, 0, none⟩) h1 _
    refine ⟨_, fun i => if i = q then none else σ i, rfl, hR _ (fun i r hi hF => ?_), ⟨⟨hw.bel.trans hbl, fun i r hi => ?_⟩, by rw [hs]; exact Nat.le_refl _, fun i hi hn => ?_, fun i r hi => ?_⟩⟩
    · have : i ≠ q := fun e => hF (by simp [e])
      simp only [this, if_false]; exact hi
    · by_cases e : i = q
      · simp [e] at hi
      · simp only [e, if_false] at hi
        obtain ⟨g1, cur', g2, g3⟩ := hw.row i r hi
        exact ⟨g1, cur', (hk i e).trans g2, g3⟩
    · exact hk i fun e => by rw [e, h3] at hn; cases hn
    · by_cases e : i = q
      · simp [e] at hi
      · simp only [e, if_false] at hi
        exact .inl (by rw [hi]; simp)
end
end Go.Proofs.YtkblkdnnncklgaaDoor

/- 'TreeShow': each part of a tree is written into a builder; the law. -/
set_option linter.unusedVariables false
set_option linter.unusedSimpArgs false
namespace Go.Proofs.YtkblkdnnncklgaaDoor
open Go Go.Av Go.RowKit

theorem none_at {σ s : Vw} (k : Keeps σ s) {i : Nat} (h : s i = none) : σ i = none := by
  cases hs : σ i with
  | none => rfl
  | some r => rw [k i r hs] at h; cases h
theorem strCells_app (a b : ByteArray) : Lib.strCells (a ++ b) = Lib.strCells a ++ Lib.strCells b := by
  have e : ∀ s : ByteArray, Lib.strCells s = (bl s).map fun b => Value.int .u8 b.toNat := fun _ => rfl
  rw [e, e, e, bl_append, List.map_append]
theorem cat_assoc (a b c : ByteArray) : a ++ b ++ c = a ++ (b ++ c) := by apply bl_inj; simp [bl_append]

section
variable {w0 : World} {σ : Vw}

theorem nil_path : OStrs w0 σ [] (.slice none 0 0) [] := ⟨by simp, by simp, .inl ⟨rfl, rfl, rfl⟩⟩
theorem impl_below {v : Value} {ps : List ByteArray} {y : ByteArray} (h : RSl 1 RS (Av.get w0 σ) v ps) (hl : ps.length ≤ 1000000) (hy : y.size ≤ 1000000) {R : Value → Vw → Prop}
    (hR : ∀ v' F σ', Keeps σ σ' → OStrs w0 σ' F v' (ps ++ [y]) → (∀ b, b ∈ F → σ b = none) → R v' σ') : AC Tryd.prog w0 n_impl_below [v, .string y] σ R := by
  refine ac_impl_below ?_
  unfold vc_impl_below
  intro b h1 h2
  have kb : Keeps σ (σ.put b ⟨t_string, [], 0, (0, 0)⟩) := Keeps.put h2
  have hb0 : ∀ i, i ∈ [b] → σ i = none := fun i hi => by rw [List.mem_singleton.1 hi]; exact h2
  refine (OAcc.new (w0 := w0) (σ := σ) (ety := t_string) (n := 1) (O := OStr) h1).all (ok_str w0) h kb.le (fun es y hy => ⟨rfl, hy⟩) (by simp; omega) (by omega) fun v1 F1 s1 k1 o1 f1 => ?_
  rw [List.nil_append] at o1
  have K1 := k1.old kb hb0
  have hF1 := fresh_in kb hb0 f1
  rw [pVal1 rfl]
  refine o1.one (ok_str w0) (f := []) (y := y) ⟨rfl, rfl, by omega⟩ (by simp) (by omega) (by omega) fun v2 F2 s2 k2 o2 f2 => ?_
  refine hR v2 F2 s2 (k2.old K1 hF1) o2.osl (fresh_in K1 hF1 fun j hj => ?_)
  rcases f2 j hj with h | h | h
  · exact .inl h
  · cases h
  · exact .inr h

/-- The box of the builder's address. -/
def boxR (b : Nat) (r : Row) : Prop := r.cells = [.pointer (some ⟨b, 0, none⟩)]
theorem box_load {s : Vw} {n2 b : Nat} {r : Row} (hn : w0.heap.size ≤ n2) (hr : s n2 = some r) (hb : boxR b r) {K : (Nat → Value) → Prop} (hK : ∀ g : Nat → Value, g 0 = .pointer (some ⟨b, 0, none⟩) → K g) : pLoad w0 1 (.pointer (some ⟨n2, 0, none⟩)) s K := by
  refine ⟨⟨n2, 0, none⟩, fun _ => .pointer (some ⟨b, 0, none⟩), rfl, fun i hi => ?_, hK _ rfl⟩
  have e : i = 0 := by omega
  subst e
  rw [addr_add, get_row hn hr, hb]; rfl

theorem show_one (tab : Tab w0) {n : Nat} {σ0 s : Vw} {b n2 : Nat} {r2 : Row} {F : List Nat} {bs : List Value} {ps : List ByteArray} {v : Value} {es : List Value} {x : Tr} {R : Value → Vw → Prop}
    (h : RT n (Av.get w0 σ0) es x) (hx : shortT n x) (k0 : Keeps σ0 s) (hB : BV w0 s b F bs) (hn2 : w0.heap.size ≤ n2) (hr2 : s n2 = some r2) (hbox : boxR b r2) (hv : RSl 1 RS (Av.get w0 s) v ps) (hps : ps.length + sumS ps ≤ 1000000)
    (hlen : bs.length + 2000000 ≤ 140737488355328)
    (hR : ∀ F' s', KeepsBut F s s' → BV w0 s' b F' (bs ++ Lib.strCells (lineT (pathT ps) x)) → (∀ i, i ∈ F' → i ∈ F ∨ s i = none) → R (.tuple ⟨[]⟩) s') :
    AC Tryd.prog w0 n_impl_Tree_show_c1 [v, .agg ⟨es⟩, .pointer (some ⟨n2, 0, none⟩)] s R := by
  obtain ⟨e0, e1, e2, e3, e4, rfl, _, hpv⟩ := RT.five h
  refine ac_impl_Tree_show_c1 ?_
  unfold vc_impl_Tree_show_c1
  rw [hpv]
  simp only [cellOf_agg, List.getD_cons_zero, List.getD_cons_succ]
  refine box_load hn2 hr2 hbox fun g hg => ?_
  refine impl_Tree_line tab (mono_rt n _ _ _ _ k0.le h) hx hv hps fun s1 k1 => ⟨k1.stay, ?_⟩
  rw [hg]
  have hls := line_size hx (pathT ps)
  have hpt := pathT_size ps
  have hB1 := hB.frame (k1.but_at fun i hi => (hB.dom i hi).2)
  refine write_view hB1 (by omega) fun F' s2 k2 hB2 hF2 => ?_
  refine hR F' s2 (fun i r hi hF => k2 i r (k1 i r hi) hF) hB2 fun i hi => ?_
  rcases hF2 i hi with h | h
  · exact .inl h
  · exact .inr (none_at k1 h)

set_option maxRecDepth 20000 in
theorem impl_each (tab : Tab w0) : ∀ (n : Nat) {σ0 s : Vw} {b n2 : Nat} {r2 : Row} {F P : List Nat} {bs : List Value} {ps : List ByteArray} {v : Value} {es : List Value} {x : Tr} {R : Value → Vw → Prop},
    RT n (Av.get w0 σ0) es x → shortT n x → cntT n x ≤ 100000 → Keeps σ0 s → (∀ i, i ∈ F → σ0 i = none) → BV w0 s b F bs → w0.heap.size ≤ n2 → s n2 = some r2 → boxR b r2 → n2 ∉ F → OStrs w0 s P v ps → (∀ i, i ∈ P → i ∉ F) → ps.length + sumS ps + 6 * n ≤ 1000000 →
    bs.length + 2000000 * cntT n x + 2000000 ≤ 140737488355328 →
    (∀ F' s', KeepsBut F s s' → BV w0 s' b F' (bs ++ Lib.strCells (lineT (pathT ps) x ++ belowT n (shN ps) x)) → (∀ i, i ∈ F' → i ∈ F ∨ s i = none) → R (.tuple ⟨[]⟩) s') →
    AC Tryd.prog w0 n_impl_Tree_each [.agg ⟨es⟩, v, .func (.func n_impl_Tree_show_c1) ⟨[]⟩ ⟨[.pointer (some ⟨n2, 0, none⟩)]⟩] s R := by
  intro n
  induction n with
  | zero => intro σ0 s b n2 r2 F P bs ps v es x R h; exact h.elim
  | succ n ih =>
    intro σ0 s b n2 r2 F P bs ps v es x R h hx hc k0 hF0 hB hn2 hr2 hbox hnF hP hPF hps hlen hR
    obtain ⟨d, m, t, ns, ks⟩ := x
    have h0 := h
    have hx0 := hx
    obtain ⟨u, w, rfl, h2, h3, h4, h5⟩ := h
    obtain ⟨hm, ht, hl, hns, hks⟩ := hx
    have hcnt : cntT (n + 1) (.mk d m t ns ks) = ks.length + sumBy (cntT n) ks := rfl
    refine ac_impl_Tree_each ?_
    unfold vc_impl_Tree_each
    rw [pVal_5 rfl rfl rfl h4.one h5.one]
    simp only [cellOf_agg, List.getD_cons_zero, List.getD_cons_succ]
    refine ⟨n_impl_Tree_show_c1, [], [.pointer (some ⟨n2, 0, none⟩)], rfl, ?_⟩
    have hl2 : bs.length + 2000000 ≤ 140737488355328 := by
      generalize cntT (n + 1) (.mk d m t ns ks) = cc at hlen
      omega
    have hps2 : ps.length + sumS ps ≤ 1000000 := by omega
    refine show_one tab h0 hx0 k0 hB hn2 hr2 hbox (hP.rel (ok_str w0)) hps2 hl2 fun F1 s1 k1 hB1 hF1 => ?_
    rw [h4.len]
    have hls := line_size hx0 (pathT ps)
    have hpt := pathT_size ps
    have hF1σ : ∀ i, i ∈ F1 → σ0 i = none := fun i hi => by
      rcases hF1 i hi with h | h
      · exact hF0 i h
      · exact none_at k0 h
    have r1 : s1 n2 = some r2 := k1 n2 r2 hr2 hnF
    have n1 : n2 ∉ F1 := fun h => by
      rcases hF1 n2 h with h | h
      · exact hnF h
      · rw [hr2] at h; cases h
    have hP1 := hP.frame (ok_str w0) (k1.at (fun i hi => (hP.dom (ok_str w0) i hi).2) hPF)
    have hPF1 : ∀ i, i ∈ P → i ∉ F1 := fun i hi hi' => by
      rcases hF1 i hi' with h | h
      · exact hPF i hi h
      · exact (hP.dom (ok_str w0) i hi).2 h
    have hl4 := h4.le
    rw [belowT_step] at hR
    refine loop_rule (m := ns.length) (fun c l st => ∃ (j : Nat) (F' : List Nat), c + j = ns.length ∧ KeepsBut F s st ∧ Keeps σ0 st ∧ (∀ i, i ∈ F' → i ∈ F ∨ s i = none) ∧
        BV w0 st b F' (bs ++ Lib.strCells (lineT (pathT ps) (.mk d m t ns ks) ++ catB (((ns.zip ks).take j).map fun y => lineT (kidP (shN ps) y.1) y.2 ++ belowT n (kidP (shN ps) y.1) y.2))) ∧ OStrs w0 st P v ps ∧ (∀ i, i ∈ P → i ∉ F') ∧
        l = [v, .func (.func n_impl_Tree_show_c1) ⟨[]⟩ ⟨[.pointer (some ⟨n2, 0, none⟩)]⟩, u, .int .i64 (ns.length : Nat), .int .i64 (j : Nat), .bool d, .int .i64 m, .string t, u, w]) ?_
      ⟨0, F1, by omega, k1, k1.old k0 hF0, hF1, (by rw [List.take_zero, List.map_nil, catB, show lineT (pathT ps) (.mk d m t ns ks) ++ (⟨#[]⟩ : ByteArray) = lineT (pathT ps) (.mk d m t ns ks) from by apply bl_inj; simp [bl_append]]; exact hB1), hP1, hPF1, rfl⟩
    rintro c l st L ⟨j, F', hcj, kst, k0st, hF', hB', hP', hPF', rfl⟩ hL
    simp only [vget, List.getD_cons_zero, List.getD_cons_succ]
    rw [pBin_lt, pIf_d]
    refine ⟨fun hi => ?_, fun hi => ?_⟩
    · have hx1 := List.getElem?_eq_getElem (show j < ns.length by omega)
      have hx2 := List.getElem?_eq_getElem (show j < ks.length by omega)
      generalize hxi : ns[j]'(by omega) = y1 at hx1
      generalize hxk : ks[j]'(by omega) = y2 at hx2
      have h5y := hns _ (List.mem_of_getElem? hx1)
      have hky := hks _ (List.mem_of_getElem? hx2)
      have hz : (ns.zip ks)[j]? = some (y1, y2) := by rw [List.getElem?_zip_eq_some]; exact ⟨hx1, hx2⟩
      have hcy := sumBy_mem (f := cntT n) (List.mem_of_getElem? hx2)
      refine RSl.at1 (h4.mono k0st.le fun _ _ h => h) hx1 fun g hg hgs => ?_
      have h5b : RSl 5 (RB (RT n) (Av.get w0 σ0)) (Av.get w0 st) w ks := by
        obtain ⟨A, cap, e1, e2, e3⟩ := h5
        refine ⟨A, cap, e1, e2, fun j x hj => ?_⟩
        obtain ⟨a, es, q1, q2, q3, q4⟩ := e3 j x hj
        refine ⟨a, es, q1, q2, fun i hi => ?_, q4⟩
        have := q3 i hi
        rw [List.getElem?_eq_getElem (by omega)] at this ⊢
        exact k0st.le _ _ this
      refine RSl.atp h5b hx2 fun p2 g2 hg2 => ?_
      rw [hg]
      refine impl_below (hP'.rel (ok_str w0)) (by omega) (by omega) fun pv PF s2 k2 op fp => ⟨k2.stay, ?_⟩
      have hB2 := hB'.frame (k2.but_at fun i hi => (hB'.dom i hi).2)
      have hP2 := hP'.frame (ok_str w0) (k2.but_at fun i hi => (hP'.dom (ok_str w0) i hi).2)
      have hr2' : s2 n2 = some r2 := k2 n2 r2 (kst n2 r2 hr2 hnF)
      have hn2' : n2 ∉ F' := fun h => by
        rcases hF' n2 h with h | h
        · exact hnF h
        · rw [hr2] at h; cases h
      have hF'σ : ∀ i, i ∈ F' → st i ≠ none := fun i hi => (hB'.dom i hi).2
      have hsum : sumS (ps ++ [y1]) = sumS ps + y1.size := by
        have e : ∀ l : List ByteArray, sumS (l ++ [y1]) = sumS l + y1.size := by
          intro l
          induction l with
          | nil => simp [sumS]
          | cons a r ih => simp only [List.cons_append, sumS, ih]; omega
        exact e ps
      have hkp : kidP (shN ps) y1 = shN (ps ++ [y1]) := by rw [shN_snoc]; rfl
      have hkt : pathT (ps ++ [y1]) = shN (ps ++ [y1]) := by rw [pathT, if_neg (by simp)]
      have hpz : (pathT ps).size ≤ 1 + ps.length + sumS ps := hpt
      have hbb : (Lib.strCells (lineT (pathT ps) (.mk d m t ns ks) ++ catB (((ns.zip ks).take j).map fun y => lineT (kidP (shN ps) y.1) y.2 ++ belowT n (kidP (shN ps) y.1) y.2))).length + 2000000 * cntT n y2 ≤ 2000000 * cntT (n + 1) (.mk d m t ns ks) := by
        have hsh := shN_size ps
        have hone : ∀ (y : ByteArray × Tr), y ∈ ns.zip ks → (lineT (kidP (shN ps) y.1) y.2 ++ belowT n (kidP (shN ps) y.1) y.2).size ≤ 1000060 + 1000060 * cntT n y.2 := fun y hy => by
          obtain ⟨z1, z2⟩ := y
          have hmz := List.of_mem_zip hy
          have q5 := hns _ hmz.1
          have qk := hks _ hmz.2
          have hpk : (kidP (shN ps) z1).size = (shN ps).size + 1 + z1.size := by unfold kidP; rw [ByteArray.size_append, ByteArray.size_append]; rfl
          have q6 := below_size n z2 (kidP (shN ps) z1) qk (by omega)
          have q7 := line_size qk (kidP (shN ps) z1)
          rw [ByteArray.size_append]
          simp only
          omega
        have hc1 : (catB (((ns.zip ks).take j).map fun y => lineT (kidP (shN ps) y.1) y.2 ++ belowT n (kidP (shN ps) y.1) y.2)).size ≤ sumBy (fun y : ByteArray × Tr => 1000060 + 1000060 * cntT n y.2) ((ns.zip ks).take j) := catB_size fun y hy => hone y (List.mem_of_mem_take hy)
        have ht1 := sumBy_take (f := fun y : ByteArray × Tr => 1000060 + 1000060 * cntT n y.2) hz
        have ht2 := sumBy_le (f := fun y : ByteArray × Tr => 1000060 + 1000060 * cntT n y.2) (xs := ns.zip ks) (j + 1)
        have ht3 := sumBy_zip (f := cntT n) (c := 1000060) (ns := ns) (ks := ks)
        rw [Lib.strCells_length, ByteArray.size_append]
        simp only at ht1
        omega
      refine ih (P := PF) hg2 hky (by omega) (k0st.trans k2) (fun i hi => ?_) hB2 hn2 hr2' hbox hn2' op (fun i hi hi' => hF'σ i hi' (fp i hi)) (by rw [List.length_append, hsum]; simp only [List.length_cons, List.length_nil]; omega) (by rw [List.length_append]; omega) fun F3 s3 k3 hB3 hF3 => ?_
      · rcases hF' i hi with h | h
        · exact hF0 i h
        · exact none_at k0 h
      rw [pBin_add (by omega)]
      have hn : ∀ i, i ∈ F3 → i ∈ F ∨ s i = none := fun i hi => by
        rcases hF3 i hi with h | h
        · exact hF' i h
        · have hst : st i = none := none_at k2 h
          by_cases hiF : i ∈ F
          · exact .inl hiF
          · refine .inr ?_
            cases hs : s i with
            | none => rfl
            | some r => rw [kst i r hs hiF] at hst; cases hst
      refine hL _ _ (c - 1) (by omega) ⟨j + 1, F3, by omega, fun i r hi hiF => ?_, fun i r hi => ?_, hn, ?_, hP2.frame (ok_str w0) (k3.at (fun i hi => (hP2.dom (ok_str w0) i hi).2) hPF'), fun i hi hi' => ?_, by simp⟩
      · have h1 := k2 i r (kst i r hi hiF)
        exact k3 i r h1 fun h => by
          rcases hF' i h with h | h
          · exact hiF h
          · rw [hi] at h; cases h
      · have h1 := k2 i r (k0st i r hi)
        refine k3 i r h1 fun h => ?_
        rcases hF' i h with h | h
        · rw [hF0 i h] at hi; cases hi
        · rw [k0 i r hi] at h; cases h
      · rw [List.take_add_one, hz, Option.toList_some, List.map_append, List.map_cons, List.map_nil, catB_snoc, hkp, ← cat_assoc, strCells_app, ← List.append_assoc]
        rw [hkt] at hB3
        exact hB3
      · rcases hF3 i hi' with h | h
        · exact hPF' i hi h
        · exact (hP2.dom (ok_str w0) i hi).2 h
    · have e : j = ns.length := by omega
      subst e
      rw [List.take_of_length_le (by rw [List.length_zip]; omega)] at hB'
      exact hR F' st kst hB' hF'

theorem sound_down : ∀ (m n : Nat) (x : Tr) (k : Int), soundB n x k = true → 5 ≤ k + (m : Int) → (∀ rd es, RT n rd es x → RT m rd es x) ∧ shortT m x ∧ cntT m x ≤ cntT n x
  | m, 0, x, k, h, _ => by simp [soundB] at h
  | 0, n + 1, .mk d mo t ns ks, k, h, hk => by
    simp only [soundB, Bool.and_eq_true, decide_eq_true_eq] at h
    exact absurd h.2.1 (by omega)
  | m + 1, n + 1, .mk d mo t ns ks, k, h, hk => by
    have hs := sound_short (n + 1) _ k h
    simp only [soundB, Bool.and_eq_true, decide_eq_true_eq] at h
    have ih : ∀ y, y ∈ ks → (∀ rd es, RT n rd es y → RT m rd es y) ∧ shortT m y ∧ cntT m y ≤ cntT n y := fun y hy => by
      obtain ⟨j, hj⟩ := List.getElem?_of_mem hy
      exact sound_down m n y (k + 1) (allB_iff.1 h.2.2 j y hj) (by omega)
    refine ⟨fun rd es hr => ?_, ⟨hs.1, hs.2.1, hs.2.2.1, hs.2.2.2.1, fun y hy => (ih y hy).2.1⟩, ?_⟩
    · obtain ⟨u, w, h1, h2, h3, h4, A, cap, e1, e2, e3⟩ := hr
      refine ⟨u, w, h1, h2, h3, h4, A, cap, e1, e2, fun j y hj => ?_⟩
      obtain ⟨a, es', q1, q2, q3, q4⟩ := e3 j y hj
      exact ⟨a, es', q1, q2, q3, (ih y (List.mem_of_getElem? hj)).1 _ _ q4⟩
    · have := sumBy_mono (f := cntT m) (g := cntT n) (xs := ks) fun y hy => (ih y hy).2.2
      show ks.length + sumBy (cntT m) ks ≤ ks.length + sumBy (cntT n) ks
      omega
noncomputable def showX (n : Nat) (x : Tr) : ByteArray := if treeOk n x = true then lineT ⟨#[47]⟩ x ++ belowT 5 ⟨#[]⟩ x else ⟨#[]⟩
theorem ok_parts {n : Nat} {x : Tr} (h : treeOk n x = true) : (∀ rd es, RT n rd es x → RT 5 rd es x) ∧ shortT 5 x ∧ cntT 5 x ≤ 30 := by
  simp only [treeOk, Bool.and_eq_true, decide_eq_true_eq] at h
  obtain ⟨h1, h2, h3⟩ := sound_down 5 n x 0 h.2.1 (by omega)
  exact ⟨h1, h2, by omega⟩

theorem impl_Tree_show (tab : Tab w0) {n : Nat} {es : List Value} {x : Tr} (h : RT n (Av.get w0 σ) es x) (hn : n ≤ 100000) (hx : shortT n x) (hc : cntT n x ≤ 100000) {R : Value → Vw → Prop} (hR : ∀ σ', Keeps σ σ' → R (.string (lineT ⟨#[47]⟩ x ++ belowT n ⟨#[]⟩ x)) σ') : AC Tryd.prog w0 n_impl_Tree_show [.agg ⟨es⟩] σ R := by
  have h0 := h
  obtain ⟨e0, e1, e2, e3, e4, rfl, _, hpv⟩ := RT.five h
  refine ac_impl_Tree_show ?_
  unfold vc_impl_Tree_show
  rw [hpv, pVal_2 rfl rfl]
  simp only [cellOf_agg, List.getD_cons_zero, List.getD_cons_succ]
  intro b hb1 hb2
  have kb : Keeps σ (σ.put b ⟨Tryd.laysB_ren.t 72, [.pointer none, .slice none 0 0], 2, (0, 0)⟩) := Keeps.put hb2
  intro n2 hn1 hn2
  refine elem_store (A := []) (C := []) (x := .pointer none) put_at rfl rfl rfl ?_
  simp only [List.nil_append, List.append_nil]
  rw [put_put]
  have hnb : n2 ≠ b := fun e => by rw [e] at hn2; simp [Vw.put] at hn2
  generalize hs4 : Vw.put _ n2 _ = s4
  have kb4 : Keeps (σ.put b ⟨Tryd.laysB_ren.t 72, [.pointer none, .slice none 0 0], 2, (0, 0)⟩) s4 := by rw [← hs4]; exact Keeps.put hn2
  have hbox : ∃ r2, s4 n2 = some r2 ∧ boxR b r2 := by rw [← hs4]; exact ⟨_, put_at, rfl⟩
  clear hs4
  obtain ⟨r2, hr2, hbox⟩ := hbox
  have hB := (BV.new (w0 := w0) (σ := σ) hb1).frame (σ' := s4) (kb4.but_at fun i hi => ((BV.new (w0 := w0) (σ := σ) hb1).dom i hi).2)
  refine impl_each tab n (P := []) (ps := []) h0 hx hc (kb.trans kb4) (fun i hi => by rw [List.mem_singleton.1 hi]; exact hb2) hB hn1 hr2 hbox (fun h => hnb (List.mem_singleton.1 h)) nil_path (by simp) (by simp only [List.length_nil, sumS]; omega) (by simp only [List.length_nil]; omega) fun F' s' k' hB' hF' => ?_
  have hr2' : s' n2 = some r2 := k' n2 r2 hr2 fun h => hnb (List.mem_singleton.1 h)
  refine box_load hn1 hr2' hbox fun g hg => ?_
  rw [hg]
  have e : ([] : List Value) ++ Lib.strCells (lineT (pathT []) x ++ belowT n (shN []) x) = Lib.byteCells (bl (lineT ⟨#[47]⟩ x ++ belowT n ⟨#[]⟩ x)) := rfl
  rw [e] at hB'
  refine string_view hB' fun s2 k2 => ?_
  have e2 : (⟨(bl (lineT ⟨#[47]⟩ x ++ belowT n ⟨#[]⟩ x)).toArray⟩ : ByteArray) = lineT ⟨#[47]⟩ x ++ belowT n ⟨#[]⟩ x := ofL_bl _
  rw [e2]
  refine hR s2 fun i r hi => ?_
  have hib : i ≠ b := fun e => by rw [e, hb2] at hi; cases hi
  have h1 := k' i r ((kb.trans kb4) i r hi) fun h => hib (List.mem_singleton.1 h)
  refine k2 i r h1 fun h => ?_
  rcases hF' i h with h | h
  · exact hib (List.mem_singleton.1 h)
  · rw [(kb.trans kb4) i r hi] at h; cases h

theorem spec_TreeShow {n : Nat} {es : List Value} {x : Tr} (h : RT n (Av.get w0 σ) es x) (hb : cntT n x ≤ 1000000000000) {R : Value → Vw → Prop} (hR : ∀ σ', Keeps σ σ' → R (.string (showX n x)) σ') : AC Tryd.prog w0 n_spec_TreeShow [.agg ⟨es⟩] σ R := by
  have h0 := h
  obtain ⟨e0, e1, e2, e3, e4, rfl, _, hpv⟩ := RT.five h
  refine ac_spec_TreeShow ?_
  unfold vc_spec_TreeShow
  rw [hpv]
  simp only [cellOf_agg, List.getD_cons_zero, List.getD_cons_succ]
  refine spec_TreeOk h0 hb ?_
  rw [pUn_not, pIf_b]
  refine ⟨fun hno => ?_, fun hyes => ?_⟩
  · have := hR σ (Keeps.refl _)
    rw [showX, if_neg (by simp at hno; rw [hno]; simp)] at this; exact this
  have hok : treeOk n x = true := by simpa using hyes
  obtain ⟨hdn, hx, hc⟩ := ok_parts hok
  have a1 : (⟨#[47]⟩ : ByteArray).size = 1 := rfl
  have a0 : (⟨#[]⟩ : ByteArray).size = 0 := rfl
  have hls := line_size hx ⟨#[47]⟩
  have hbs := below_size 5 x ⟨#[]⟩ hx (by omega)
  have h5 := hdn _ _ h0
  refine spec_l1Line h5 hx (by omega) fun s1 k1 => ?_
  refine spec_l1Show 5 (mono_rt 5 _ _ _ _ k1.le h5) hx (by omega) (by omega) fun s2 k2 => ?_
  rw [pBin_cat (by omega)]
  have := hR s2 (k1.trans k2)
  rw [showX, if_pos hok] at this; exact this
theorem impl_TreeShow (tab : Tab w0) {n : Nat} {es : List Value} {x : Tr} (h : RT n (Av.get w0 σ) es x) (hb : cntT n x ≤ 1000000000000) {R : Value → Vw → Prop} (hR : ∀ σ', Keeps σ σ' → R (.string (showX n x)) σ') : AC Tryd.prog w0 n_impl_TreeShow [.agg ⟨es⟩] σ R := by
  have h0 := h
  obtain ⟨e0, e1, e2, e3, e4, rfl, _, hpv⟩ := RT.five h
  refine ac_impl_TreeShow ?_
  unfold vc_impl_TreeShow
  rw [hpv]
  simp only [cellOf_agg, List.getD_cons_zero, List.getD_cons_succ]
  refine impl_TreeOk h0 hb ?_
  rw [pUn_not, pIf_b]
  refine ⟨fun hno => ?_, fun hyes => ?_⟩
  · have := hR σ (Keeps.refl _)
    rw [showX, if_neg (by simp at hno; rw [hno]; simp)] at this; exact this
  have hok : treeOk n x = true := by simpa using hyes
  obtain ⟨hdn, hx, hc⟩ := ok_parts hok
  refine impl_Tree_show tab (hdn _ _ h0) (by omega) hx (by omega) fun s1 k1 => ?_
  have := hR s1 k1
  rw [showX, if_pos hok] at this; exact this

theorem law_TreeShow (tab : Tab w0) {n : Nat} {es : List Value} {x : Tr} (h : RT n (Av.get w0 σ) es x) {R : Value → Vw → Prop} (hR : ∀ σ', R (.bool true) σ') : AC Tryd.prog w0 n_laws_FnExactTreeShow [.agg ⟨es⟩] σ R := by
  have h0 := h
  obtain ⟨e0, e1, e2, e3, e4, rfl, _, hpv⟩ := RT.five h
  refine ac_laws_FnExactTreeShow ?_
  unfold vc_laws_FnExactTreeShow
  rw [hpv]
  simp only [cellOf_agg, List.getD_cons_zero, List.getD_cons_succ]
  refine szTree n h0 (by omega) ?_
  rw [pBin_lt, pIf_d]
  refine ⟨fun _ => hR _, fun hb => ?_⟩
  rw [Av.left_neg] at hb
  have hsz : szT n x ≤ 1048576 := by omega
  have hfit := fit_of n x (by omega)
  have hcnt : cntT n x ≤ 1000000000000 := Nat.le_trans (cnt_le n x) (by omega)
  have ok := ok_rt w0 n
  refine toTree n h0 hfit fun es1 F1 s1 k1 o1 f1 => ?_
  refine spec_TreeShow (ok.rel _ _ _ _ o1) hcnt fun s2 k2 => ?_
  have K2 := k1.trans k2
  refine toTree n (mono_rt n _ _ _ _ K2.le h0) hfit fun es2 F2 s3 k3 o2 f2 => ?_
  have r2 := ok.rel _ _ _ _ o2
  obtain ⟨a2, b2, c2, d2, e2, rfl, _, hp2⟩ := RT.five r2
  rw [hp2]
  simp only [cellOf_agg, List.getD_cons_zero, List.getD_cons_succ]
  refine impl_TreeShow tab r2 hcnt fun s4 k4 => ?_
  rw [pBin_sne, pIf_d]
  refine ⟨fun h => absurd rfl h, fun _ => ?_⟩
  have K4 := (K2.trans k3).trans k4
  refine toTree n (mono_rt n _ _ _ _ K4.le h0) hfit fun es3 F3 s5 k5 o3 f3 => ?_
  refine eqTree n (mono_rt n _ _ _ _ (k4.trans k5).le r2) (ok.rel _ _ _ _ o3) ?_
  rw [pUn_not, pIf_b]
  exact ⟨fun h => by simp at h, fun _ => hR _⟩
end
end Go.Proofs.YtkblkdnnncklgaaDoor

/- 'TableId': the number of a tree's text, by either hand; the law. -/
set_option linter.unusedVariables false
set_option linter.unusedSimpArgs false
namespace Go.Proofs.YtkblkdnnncklgaaDoor
open Go Go.Av Go.RowKit

def idL : List UInt8 → Nat → Nat
  | [], a => a
  | b :: r, a => idL r ((a * 131 + b.toNat) % 1000000007)
theorem idL_snoc : ∀ (l : List UInt8) (b : UInt8) (a : Nat), idL (l ++ [b]) a = (idL l a * 131 + b.toNat) % 1000000007
  | [], b, a => rfl
  | c :: l, b, a => by simp only [List.cons_append, idL]; exact idL_snoc l b _
theorem idL_lt : ∀ (l : List UInt8) (a : Nat), a < 1000000007 → idL l a < 1000000007
  | [], a, h => h
  | c :: l, a, h => idL_lt l _ (Nat.mod_lt _ (by omega))
def idB (s : ByteArray) : Nat := idL (bl s) 7

section
variable {w0 : World} {σ : Vw}

theorem spec_l31Id {s : ByteArray} (hs : s.size ≤ 1000000000000) {R : Value → Vw → Prop} (hR : R (.int .i64 (idB s : Nat)) σ) : AC Tryd.prog w0 n_spec_l31Id [.string s] σ R := by
  refine ac_spec_l31Id ?_
  unfold vc_spec_l31Id
  have hlen : (bl s).length = s.size := size_bl s
  refine loop_rule (m := s.size) (fun m l st => ∃ i : Nat, m + i = s.size ∧ st = σ ∧ l = [.string s, .int .i64 (idL ((bl s).take i) 7 : Nat), .int .i64 (i : Nat)]) ?_ ⟨0, by omega, rfl, rfl⟩
  rintro m l st L ⟨i, hm, rfl, rfl⟩ hL
  simp only [vget, List.getD_cons_zero, List.getD_cons_succ]
  rw [pLenS_s, pBin_lt, pIf_d]
  refine ⟨fun hi => ?_, fun hi => ?_⟩
  · have hi' : i < s.size := by omega
    have hget := bl_get s i hi'
    generalize hx : s[i]'hi' = x at hget
    have hx2 : x.toNat < 256 := x.toNat_lt
    have hid := idL_lt ((bl s).take i) 7 (by omega)
    rw [pBin_mul (by omega)]
    refine pIndexStr_s hi' ?_
    rw [hx, pConv_i64 (by omega), pBin_add (by omega), pBin_rem (by omega), pBin_add (by omega)]
    refine hL _ _ (m - 1) (by omega) ⟨i + 1, by omega, rfl, ?_⟩
    rw [List.take_add_one, hget, Option.toList_some, idL_snoc]; simp
  · have e : i = s.size := by omega
    subst e
    rw [List.take_of_length_le (by omega)]
    exact hR

theorem impl_Tree_id (tab : Tab w0) {n : Nat} {es : List Value} {x : Tr} (h : RT n (Av.get w0 σ) es x) (hn : n ≤ 100000) (hx : shortT n x) (hc : cntT n x ≤ 100000) {R : Value → Vw → Prop} (hR : ∀ σ', Keeps σ σ' → R (.int .i64 (idB (lineT ⟨#[47]⟩ x ++ belowT n ⟨#[]⟩ x) : Nat)) σ') : AC Tryd.prog w0 n_impl_Tree_id [.agg ⟨es⟩] σ R := by
  have h0 := h
  obtain ⟨e0, e1, e2, e3, e4, rfl, _, hpv⟩ := RT.five h
  have a1 : (⟨#[47]⟩ : ByteArray).size = 1 := rfl
  have a0 : (⟨#[]⟩ : ByteArray).size = 0 := rfl
  have hls := line_size hx ⟨#[47]⟩
  have hbs := below_size n x ⟨#[]⟩ hx (by omega)
  refine ac_impl_Tree_id ?_
  unfold vc_impl_Tree_id
  rw [hpv]
  simp only [cellOf_agg, List.getD_cons_zero, List.getD_cons_succ]
  refine impl_Tree_show tab h0 hn hx hc fun s1 k1 => ?_
  have hsz : (lineT ⟨#[47]⟩ x ++ belowT n ⟨#[]⟩ x).size ≤ 1000000000000 := by rw [ByteArray.size_append]; omega
  generalize lineT ⟨#[47]⟩ x ++ belowT n ⟨#[]⟩ x = s at hR hsz
  have hlen : (bl s).length = s.size := size_bl s
  rw [pLenS_s]
  refine loop_rule (m := s.size) (fun m l st => ∃ i : Nat, m + i = s.size ∧ st = s1 ∧ l = [.int .i64 (idL ((bl s).take i) 7 : Nat), .string s, .int .i64 (s.size : Nat), .int .i64 (i : Nat)]) ?_ ⟨0, by omega, rfl, rfl⟩
  rintro m l st L ⟨i, hm, rfl, rfl⟩ hL
  simp only [vget, List.getD_cons_zero, List.getD_cons_succ]
  rw [pBin_lt, pIf_d]
  refine ⟨fun hi => ?_, fun hi => ?_⟩
  · have hi' : i < s.size := by omega
    have hget := bl_get s i hi'
    generalize hx : s[i]'hi' = x at hget
    have hx2 : x.toNat < 256 := x.toNat_lt
    have hid := idL_lt ((bl s).take i) 7 (by omega)
    rw [pBin_mul (by omega)]
    refine pIndexStr_s hi' ?_
    rw [hx, pConv_i64 (by omega), pBin_add (by omega), pBin_rem (by omega), pBin_add (by omega)]
    refine hL _ _ (m - 1) (by omega) ⟨i + 1, by omega, rfl, ?_⟩
    rw [List.take_add_one, hget, Option.toList_some, idL_snoc]
    simp only [List.cons.injEq, Value.int.injEq, true_and, and_true]
    refine ⟨by omega, by omega⟩
  · have e : i = s.size := by omega
    subst e
    rw [List.take_of_length_le (by omega)]
    exact hR st k1

noncomputable def idX (n : Nat) (x : Tr) : Int := if treeOk n x = true then (idB (lineT ⟨#[47]⟩ x ++ belowT 5 ⟨#[]⟩ x) : Nat) else -1
theorem spec_TableId {n : Nat} {es : List Value} {x : Tr} (h : RT n (Av.get w0 σ) es x) (hb : cntT n x ≤ 1000000000000) {R : Value → Vw → Prop} (hR : ∀ σ', Keeps σ σ' → R (.int .i64 (idX n x)) σ') : AC Tryd.prog w0 n_spec_TableId [.agg ⟨es⟩] σ R := by
  have h0 := h
  obtain ⟨e0, e1, e2, e3, e4, rfl, _, hpv⟩ := RT.five h
  refine ac_spec_TableId ?_
  unfold vc_spec_TableId
  rw [hpv]
  simp only [cellOf_agg, List.getD_cons_zero, List.getD_cons_succ]
  refine spec_TreeOk h0 hb ?_
  rw [pUn_not, pIf_b]
  refine ⟨fun hno => ?_, fun hyes => ?_⟩
  · have := hR σ (Keeps.refl _)
    rw [idX, if_neg (by simp at hno; rw [hno]; simp)] at this; exact this
  have hok : treeOk n x = true := by simpa using hyes
  obtain ⟨hdn, hx, hc⟩ := ok_parts hok
  have a1 : (⟨#[47]⟩ : ByteArray).size = 1 := rfl
  have a0 : (⟨#[]⟩ : ByteArray).size = 0 := rfl
  have hls := line_size hx ⟨#[47]⟩
  have hbs := below_size 5 x ⟨#[]⟩ hx (by omega)
  have h5 := hdn _ _ h0
  refine ac_spec_l31Of ?_
  unfold vc_spec_l31Of
  rw [hpv]
  simp only [cellOf_agg, List.getD_cons_zero, List.getD_cons_succ]
  refine spec_l1Line h5 hx (by omega) fun s1 k1 => ?_
  refine spec_l1Show 5 (mono_rt 5 _ _ _ _ k1.le h5) hx (by omega) (by omega) fun s2 k2 => ?_
  rw [pBin_cat (by omega)]
  refine spec_l31Id (by rw [ByteArray.size_append]; omega) ?_
  have := hR s2 (k1.trans k2)
  rw [idX, if_pos hok] at this; exact this
theorem impl_TableId (tab : Tab w0) {n : Nat} {es : List Value} {x : Tr} (h : RT n (Av.get w0 σ) es x) (hb : cntT n x ≤ 1000000000000) {R : Value → Vw → Prop} (hR : ∀ σ', Keeps σ σ' → R (.int .i64 (idX n x)) σ') : AC Tryd.prog w0 n_impl_TableId [.agg ⟨es⟩] σ R := by
  have h0 := h
  obtain ⟨e0, e1, e2, e3, e4, rfl, _, hpv⟩ := RT.five h
  refine ac_impl_TableId ?_
  unfold vc_impl_TableId
  rw [hpv]
  simp only [cellOf_agg, List.getD_cons_zero, List.getD_cons_succ]
  refine impl_TreeOk h0 hb ?_
  rw [pUn_not, pIf_b]
  refine ⟨fun hno => ?_, fun hyes => ?_⟩
  · have := hR σ (Keeps.refl _)
    rw [idX, if_neg (by simp at hno; rw [hno]; simp)] at this; exact this
  have hok : treeOk n x = true := by simpa using hyes
  obtain ⟨hdn, hx, hc⟩ := ok_parts hok
  refine impl_Tree_id tab (hdn _ _ h0) (by omega) hx (by omega) fun s1 k1 => ?_
  have := hR s1 k1
  rw [idX, if_pos hok] at this; exact this

theorem law_TableId (tab : Tab w0) {n : Nat} {es : List Value} {x : Tr} (h : RT n (Av.get w0 σ) es x) {R : Value → Vw → Prop} (hR : ∀ σ', R (.bool true) σ') : AC Tryd.prog w0 n_laws_FnExactTableId [.agg ⟨es⟩] σ R := by
  have h0 := h
  obtain ⟨e0, e1, e2, e3, e4, rfl, _, hpv⟩ := RT.five h
  refine ac_laws_FnExactTableId ?_
  unfold vc_laws_FnExactTableId
  rw [hpv]
  simp only [cellOf_agg, List.getD_cons_zero, List.getD_cons_succ]
  refine szTree n h0 (by omega) ?_
  rw [pBin_lt, pIf_d]
  refine ⟨fun _ => hR _, fun hb => ?_⟩
  rw [Av.left_neg] at hb
  have hsz : szT n x ≤ 1048576 := by omega
  have hfit := fit_of n x (by omega)
  have hcnt : cntT n x ≤ 1000000000000 := Nat.le_trans (cnt_le n x) (by omega)
  have ok := ok_rt w0 n
  refine toTree n h0 hfit fun es1 F1 s1 k1 o1 f1 => ?_
  refine spec_TableId (ok.rel _ _ _ _ o1) hcnt fun s2 k2 => ?_
  have K2 := k1.trans k2
  refine toTree n (mono_rt n _ _ _ _ K2.le h0) hfit fun es2 F2 s3 k3 o2 f2 => ?_
  have r2 := ok.rel _ _ _ _ o2
  obtain ⟨a2, b2, c2, d2, e2, rfl, _, hp2⟩ := RT.five r2
  rw [hp2]
  simp only [cellOf_agg, List.getD_cons_zero, List.getD_cons_succ]
  refine impl_TableId tab r2 hcnt fun s4 k4 => ?_
  rw [pBin_ne, pIf_d]
  refine ⟨fun h => absurd rfl h, fun _ => ?_⟩
  have K4 := (K2.trans k3).trans k4
  refine toTree n (mono_rt n _ _ _ _ K4.le h0) hfit fun es3 F3 s5 k5 o3 f3 => ?_
  refine eqTree n (mono_rt n _ _ _ _ (k4.trans k5).le r2) (ok.rel _ _ _ _ o3) ?_
  rw [pUn_not, pIf_b]
  exact ⟨fun h => by simp at h, fun _ => hR _⟩
end
end Go.Proofs.YtkblkdnnncklgaaDoor

/- The law FnExactTableId holds: it returns true, and the input reads as it did. No condition. -/
namespace Go.Proofs.YtkblkdnnncklgaaDoor.fnExactTableId
open Go.ChangeShapes Go.WideShapes Go.ChangeAt Go.RowKit Go.Av
set_option linter.unusedVariables false
set_option linter.unusedSimpArgs false
theorem own : ownKnob Tryd.prog.godebug = none := by kernel_rfl
theorem laidOut : laidOutB Tryd.prog = true := by kernel_rfl
abbrev laidL : List (String × DataW Unit) := [("math/bits.deBruijn32tab", Rows.laid_math_bits_deBruijn32tab), ("math/bits.deBruijn64tab", Rows.laid_math_bits_deBruijn64tab), ("internal/strconv.uint64pow10", Rows.laid_internal_strconv_uint64pow10)]
theorem door_met (os : Os) (args : Array Value) : laidMetH Tryd.prog laidL ((World.doorLaid Tryd.prog 400 os).forCall (fun _ _ => 0) ⟨#[], args, []⟩).memory :=
  laidMetH_of_parts3 (fuel := 8) (laidMet_of_run' 8 (by kernel_rfl) (by kernel_rfl)) (by kernel_rfl) (by kernel_rfl)
theorem gPow : Tryd.prog.globalNamed "internal/strconv.uint64pow10" = some 3 := by kernel_rfl
theorem tab_of {W : World} (h : laidMetH Tryd.prog laidL W) : Tab W := by
  rw [MakeChecks.laidMetH_plain _ _ _ (by kernel_rfl)] at h
  have h3 := laidMet.tail (laidMet.tail h)
  have e : (Rows.laid_internal_strconv_uint64pow10 : DataW Unit) = Lib.tabData .u64 Lib.pow10Tab := by kernel_rfl
  rw [e] at h3
  have ht : Lib.TabIs Tryd.prog W "internal/strconv.uint64pow10" .u64 Lib.pow10Tab := Lib.tabIs_of_head (n := 20) (t := 159) (e := 144) gPow (by kernel_rfl) (by kernel_rfl) (by kernel_rfl) (by kernel_rfl) (by kernel_rfl) h3
  intro w hw
  refine var?_below hw gPow ?_ ht
  rcases Nat.lt_or_ge 3 W.heap.size with h' | h'
  · exact h'
  · simp [Lib.TabIs, World.var?, gPow, Array.getElem?_eq_none h'] at ht
set_option maxRecDepth 100000 in
theorem lifted (os : Os) (started : os.Started) (H : Type) (enc : TypeId × Value → H) :
    ReturnsInHanded {} Tryd.checked os 5 .any (fun w args => (Rows.fnExactTableIdSpec.pre enc Tryd.prog Tryd.f5 [] false w args ∧ laidMetH Tryd.prog laidL w) ∧ sizedMet enc Tryd.prog Tryd.f5 (OpenSpec.ofChange Rows.fnExactTableIdSpec) false w args)
      (Rows.fnExactTableIdSpec.post enc Tryd.prog Tryd.f5 false true false false) := by
  refine returnsInHanded_of_change_and (C := Tryd.checked) (X := fun w _ => laidMetH Tryd.prog laidL w) (fun _ _ _ hh h => h.of_heap hh) own started (by kernel_rfl) Tryd.func5
    (ChangeSpec.witness_shaped (enc := enc) (C := Tryd.checked) (os := os) (X := fun w _ => laidMetH Tryd.prog laidL w) false (World.doorLaid Tryd.prog 400 os) #[.agg #[.bool false, .int .i64 0, .string ⟨#[]⟩, .slice none 0 0, .slice none 0 0]] 8 rfl (World.shaped_of_RefB (by kernel_rfl) (by kernel_rfl)) (by kernel_rfl) (by kernel_rfl) (by kernel_rfl) (door_met os _)) ?_
  intro W base args ds gs before hval0 hW _ _ hL _
  have hval : ∀ (j : Nat) t v, Tryd.f5.params[j]? = some t → args[j]? = some v → Value.okWide Tryd.prog W .any base t v := hval0
  have hW' := hW
  obtain ⟨p, q, hA0, hV, rfl, hfz, hnd⟩ := hW
  have hA : DataW.TrodAll enc Tryd.prog W 0 (fun _ => true) true Tryd.f5.params.toList args.toList ds p := hA0
  rw [Tryd.params5] at hA hval
  obtain ⟨v0, d0, rfl, rfl, h0⟩ := trodAll_one hA
  obtain ⟨rfl, rfl⟩ := trodVars_none hV
  have hT0 : Tryd.prog.underlying 25 = some (.struct (fsOf Tryd.prog 25)) := by kernel_rfl
  obtain ⟨c0, rfl, hc0⟩ := okWide_struct hT0 (hval 0 25 v0 rfl rfl)
  have h0k := h0
  obtain ⟨fuel0, hf0⟩ := h0
  clear hA0 hval0
  simp only [List.append_nil] at hW'
  have hlt : ∀ x ∈ p, x.block < W.heap.size := fun x hx => by simpa using hW'.lt x hx
  have hargs0 : ∀ (W' : World), Below W.heap.size W W' → DataW.Trod enc Tryd.prog W' 0 (fun b => decide (b < W.heap.size)) true 25 (.agg c0) d0 p :=
    fun W' hn => Below.trod laidOut (by kernel_rfl) (of_decide_eq_true (by kernel_rfl)) h0k hn hlt
  have hl0 : c0.toList.length = 5 := by rw [Array.length_toList, hc0]; kernel_rfl
  obtain ⟨x0, r0⟩ := open_tree fuel0 c0.toList _ hf0 hl0
  refine ((law_TableId (tab_of hL) (R := fun v _ => v = .bool true) r0 (by intros; rfl)).calls).mono fun e W' ⟨v, σ', he, hv, bel⟩ => ?_
  subst he hv
  exact ⟨_, rfl, _, _, _, [], _, [], hW', trodAll_mk1 (shut_bool Tryd.underlying4 _), trodAll_mk1 (hargs0 W' bel), rfl, bel.frame _, fun h => by cases h⟩
theorem over : Rows.fnExactTableIdRow.holds Tryd.pinned (OpenSpec.ofChange Rows.fnExactTableIdSpec) :=
  OpenClaim.holds_of_wide 5 Tryd.f5 rfl rfl rfl rfl rfl rfl rfl ⟨rfl, rfl, rfl, rfl, rfl⟩ rfl rfl rfl rfl rfl (by kernel_rfl) Tryd.func5 (by kernel_rfl)
    (of_decide_eq_true (by kernel_rfl)) (by unfold Func.isWrapper; first | (rw [if_pos (by decide +kernel)]; kernel_rfl) | (rw [if_neg (by decide +kernel)]; exact ⟨rfl, rfl⟩))
    (fun os started H enc _ => lifted os started H enc)
/-- THE TIED CARD. -/
theorem proved : Rows.FnExactTableIdCardSaid :=
  Claim7.holds_tied_plain_at .later [] [.data, .data, .data] true (true, "097b56b96c0da62133800e6a83bc0040b4730432f7edb09c50e5d5cc86776feb") true
    over (fun _ h => by cases h) (by kernel_rfl) (fun _ h => by cases h) fnExactTableId_row_tie rfl ⟨rfl, rfl⟩ (by kernel_rfl) rfl
    (fun f fn hf hfn => by
      obtain rfl : f = 5 := Option.some.inj ((show Tryd.prog.funcNamed "loop.example/changetrail/laws.FnExactTableId" = some 5 by kernel_rfl).symm.trans hf) |>.symm
      obtain rfl : fn = Tryd.f5 := (Option.some.inj (Tryd.func5.symm.trans hfn)).symm
      exact ⟨by kernel_rfl, fun j t ht => by
        rw [Tryd.params5] at ht
        have hm : t ∈ [25] := by simpa using Array.mem_of_getElem? ht
        have hall : ([25].all fun u => !Tryd.prog.wantsStandIn u) = true := by kernel_rfl
        exact (show Tryd.prog.wantsStandIn t = false by simpa using List.all_eq_true.1 hall t hm)⟩)
    (by kernel_rfl)
end Go.Proofs.YtkblkdnnncklgaaDoor.fnExactTableId
namespace Go.Proofs.YtkblkdnnncklgaaDoor
/-- The row, under a short name, for the claim. -/
theorem fnExactTableId_holds : Rows.FnExactTableIdCardSaid := fnExactTableId.proved
end Go.Proofs.YtkblkdnnncklgaaDoor
