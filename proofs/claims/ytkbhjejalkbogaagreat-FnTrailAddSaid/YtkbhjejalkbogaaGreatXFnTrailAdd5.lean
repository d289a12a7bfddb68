/- The law FnTrailAdd holds: it returns true, and the input reads as it did. No condition. This is part 5 of 5 of its proof. -/
import Derived.Test.YtkbhjejalkbogaaGreatXFnTrailAdd4
import Derived.Below
import Derived.Test.YtkbhjejalkbogaaGreatRows
import Derived.WalkKit
import Derived.ProofKit
import Derived.OpenShut
import Derived.ShutString
import Derived.ChangeOld
import Derived.Carry
import Derived.SizedLaws

/- What the laws on trees draw; trees and lists of texts compared; all paths of a tree. -/
set_option linter.unusedVariables false
set_option linter.unusedSimpArgs false
set_option maxRecDepth 20000
namespace Go.Proofs.YtkbhjejalkbogaaGreat
open Go Go.Av Go.RowKit

abbrev Bytes (w0 : World) (u : Value) (bs : List Nat) : Prop := RSl 1 RU8 (Av.get w0 (fun _ => none)) u bs
theorem Bytes.len {w0 : World} {u : Value} {bs : List Nat} (h : Bytes w0 u bs) {K : Value → Prop} : pLen u K ↔ K (.int .i64 (bs.length : Nat)) := RSl.len h

section
variable {w0 : World} {σ : Vw}

theorem draw_keeps {b : Nat} {s1 s : Vw} (h1 : s1.del b = σ) (k : Keeps (s1.del b) (s.del b)) : Keeps σ s := by rw [h1] at k; exact k.trans del_keeps
theorem wtTexts {v v' : Value} {xs ys : List ByteArray} (h : RSl 1 RS (Av.get w0 σ) v xs) (h' : RSl 1 RS (Av.get w0 σ) v' ys) {R : Value → Vw → Prop} (hR : R (.bool (decide (xs = ys))) σ) : AC Tryz.prog w0 n_laws_wtTexts [v, v'] σ R := by
  refine ac_laws_wtTexts ?_
  unfold vc_laws_wtTexts
  have hl : xs.length ≤ 9223372036854775807 := h.le
  rw [h.len, h'.len, pBin_ne, pIf_d]
  refine ⟨fun hne => ?_, fun heq => ?_⟩
  · have : xs ≠ ys := fun e => hne (by rw [e])
    simpa [this] using hR
  · have hlen : xs.length = ys.length := by omega
    refine loop_rule (m := xs.length) (fun m l s => ∃ j, s = σ ∧ m + j = xs.length ∧ xs.take j = ys.take j ∧ l = [v, v', .bool false, .int .i64 (j : Nat)]) ?_ ⟨0, rfl, by omega, by simp, rfl⟩
    rintro m l s L ⟨j, rfl, hm, ht, rfl⟩ hL
    simp only [vget, List.getD_cons_zero, List.getD_cons_succ]
    rw [h.len, pBin_lt, pIf_d]
    refine ⟨fun hj => ?_, fun hj => ?_⟩
    · have hx := List.getElem?_eq_getElem (show j < xs.length by omega)
      have hy := List.getElem?_eq_getElem (show j < ys.length by omega)
      refine RSl.at1 h hx fun g hg _ => ?_
      refine RSl.at1 h' hy fun g' hg' _ => ?_
      rw [hg, hg', pBin_sne, pIf_d]
      refine ⟨fun hne => ?_, fun heq => ?_⟩
      · have : xs ≠ ys := fun e => by subst e; exact hne rfl
        simpa [this] using hR
      · rw [pBin_add (by omega)]
        refine hL _ _ (m - 1) (by omega) ⟨j + 1, rfl, by omega, ?_, rfl⟩
        rw [List.take_add_one, List.take_add_one, hx, hy, ht, Decidable.not_not.1 heq]
    · have hj' : j = xs.length := by omega
      subst hj'
      rw [List.take_length, hlen, List.take_length] at ht
      subst ht
      simpa using hR

end
end Go.Proofs.YtkbhjejalkbogaaGreat

/- How a code is opened that came with the call. -/
set_option linter.unusedVariables false
set_option linter.unusedSimpArgs false
namespace Go.Proofs.YtkbhjejalkbogaaGreat
open Go Go.Av Go.RowKit

theorem open_byte {H : Type} {enc : TypeId × Value → H} {W : World} {spare : Nat → Bool} (fuel : Nat) (es : List Value) (y : DataW H × List MemPlace) (h : DataW.trod enc Tryz.prog W 0 spare true fuel t_uint8 es = some y) (hl : es.length = 1) : ∃ x, RU8 (Av.get W σ0) es x := by
  have hT : Tryz.prog.underlying t_uint8 = some (.int .u8) := by kernel_rfl
  obtain ⟨n, rfl, _, hw⟩ := DataW.trod_int hT h
  have e1 : IntKind.u8.min = 0 := by decide
  have e2 : IntKind.u8.max = 255 := by decide
  simp only [Lit.wf, Bool.and_eq_true, decide_eq_true_eq, e1, e2] at hw
  exact ⟨n.toNat, by rw [Int.toNat_of_nonneg hw.1], by omega⟩
end Go.Proofs.YtkbhjejalkbogaaGreat

/- 'DiffWalk': two trees in step, by either hand; the law. -/
set_option linter.unusedVariables false
set_option linter.unusedSimpArgs false
set_option maxRecDepth 20000
namespace Go.Proofs.YtkbhjejalkbogaaGreat
open Go Go.Av

section
variable {w0 : World} {σ : Vw}

end
end Go.Proofs.YtkbhjejalkbogaaGreat

/- Marks put in their order; the deepest of them made coarser: the pure part of 'TrailAdd'. -/
set_option linter.unusedVariables false
set_option linter.unusedSimpArgs false
namespace Go.Proofs.YtkbhjejalkbogaaGreat
open Go Go.Av

/-! ### The order of paths -/
theorem lexLt_irrefl : ∀ a : List ByteArray, lexLt a a = false
  | [] => rfl
  | a :: r => by simp [lexLt, lexLt_irrefl r]
theorem lexLt_trans : ∀ {a b c : List ByteArray}, lexLt a b = true → lexLt b c = true → lexLt a c = true
  | _, [], _, h, _ => by simp [lexLt] at h
  | _, _ :: _, [], _, h => by simp [lexLt] at h
  | [], _ :: _, _ :: _, _, _ => by simp [lexLt]
  | x :: a, y :: b, z :: c, h, h' => by
    simp only [lexLt] at h h' ⊢
    by_cases e : x = y
    · subst e
      rw [if_pos rfl] at h
      by_cases e2 : x = z
      · subst e2; rw [if_pos rfl] at h' ⊢; exact lexLt_trans h h'
      · rw [if_neg e2] at h' ⊢; exact h'
    · rw [if_neg e] at h
      by_cases e2 : y = z
      · subst e2; rw [if_neg e]; exact h
      · rw [if_neg e2] at h'
        have h3 := strLt_trans h h'
        rw [if_neg (strLt_ne h3)]; exact h3
theorem lexLt_total : ∀ {a b : List ByteArray}, lexLt a b = false → lexLt b a = false → a = b
  | [], [], _, _ => rfl
  | [], _ :: _, h, _ => by simp [lexLt] at h
  | _ :: _, [], _, h => by simp [lexLt] at h
  | x :: a, y :: b, h, h' => by
    simp only [lexLt] at h h'
    by_cases e : x = y
    · subst e
      rw [if_pos rfl] at h h'
      rw [lexLt_total h h']
    · rw [if_neg e] at h
      rw [if_neg fun h => e h.symm] at h'
      exact absurd (strLt_total h h') e

/-! ### What lies within what -/
theorem within_iff {b a : List ByteArray} : within b a = true ↔ a <+: b := by
  unfold within
  rw [decide_eq_true_iff, List.prefix_iff_eq_take]
  constructor
  · rintro ⟨_, h⟩; exact h.symm
  · intro h; exact ⟨by have := congrArg List.length h; rw [List.length_take] at this; omega, h.symm⟩
theorem within_self (a : List ByteArray) : within a a = true := within_iff.2 (List.prefix_refl a)
theorem within_trans {a b c : List ByteArray} (h : within a b = true) (h' : within b c = true) : within a c = true := within_iff.2 ((within_iff.1 h').trans (within_iff.1 h))
theorem within_len {a b : List ByteArray} (h : within b a = true) : a.length ≤ b.length := (within_iff.1 h).length_le
theorem lt_app : ∀ (a c : List ByteArray), c ≠ [] → lexLt a (a ++ c) = true
  | [], [], h => absurd rfl h
  | [], _ :: _, _ => rfl
  | x :: a, c, h => by
    rw [List.cons_append]
    simp only [lexLt, if_true]
    exact lt_app a c h
theorem within_lt {a b : List ByteArray} (h : within b a = true) : a = b ∨ lexLt a b = true := by
  obtain ⟨c, rfl⟩ := within_iff.1 h
  by_cases e : c = []
  · left; rw [e]; simp
  · exact .inr (lt_app a c e)

/-! ### A mark put in -/
def insF (m : Mk) : List Mk → List Mk
  | [] => [m]
  | x :: r => if lexLt m.1 x.1 = true then m :: x :: r else x :: insF m r
def keepM (m x : Mk) : Bool := !(m.2 && within x.1 m.1)
def markedB (l : List Mk) (p : List ByteArray) : Bool := underB l p || l.any fun x => decide (x.1 = p)
def putM (l : List Mk) (m : Mk) : List Mk := if (underB l m.1 || (!m.2 && markedB l m.1)) = true then l else insF m (l.filter (keepM m))
def AscM (l : List Mk) : Prop := l.Pairwise fun a b => lexLt a.1 b.1 = true
def NoUn (l : List Mk) : Prop := ∀ x, x ∈ l → ∀ y, y ∈ l → x.2 = true → within y.1 x.1 = true → x = y
def sumP (l : List Mk) : Nat := sumBy (fun x : Mk => x.1.length) l

theorem ins_mem {m x : Mk} : ∀ {l : List Mk}, x ∈ insF m l ↔ x = m ∨ x ∈ l
  | [] => by simp [insF]
  | y :: r => by
    simp only [insF]
    split
    · simp
    · simp only [List.mem_cons, ins_mem (l := r)]
      constructor
      · rintro (h | h | h)
        · exact .inr (.inl h)
        · exact .inl h
        · exact .inr (.inr h)
      · rintro (h | h | h)
        · exact .inr (.inl h)
        · exact .inl h
        · exact .inr (.inr h)
theorem ins_len {m : Mk} : ∀ {l : List Mk}, (insF m l).length = l.length + 1
  | [] => rfl
  | y :: r => by simp only [insF]; split <;> simp [ins_len (l := r)]
theorem ins_sum {m : Mk} : ∀ {l : List Mk}, sumP (insF m l) = m.1.length + sumP l
  | [] => by simp [insF, sumP, sumBy]
  | y :: r => by
    have := ins_sum (m := m) (l := r)
    simp only [sumP] at this
    simp only [insF]
    split
    · simp [sumP, sumBy]
    · simp only [sumP, sumBy, this]; omega
theorem ins_asc {m : Mk} : ∀ {l : List Mk}, AscM l → (∀ x, x ∈ l → x.1 ≠ m.1) → AscM (insF m l)
  | [], _, _ => by simp [insF, AscM]
  | y :: r, h, hn => by
    have h1 := List.pairwise_cons.1 h
    simp only [insF]
    by_cases c : lexLt m.1 y.1 = true
    · rw [if_pos c]
      refine List.pairwise_cons.2 ⟨fun x hx => ?_, h⟩
      rcases List.mem_cons.1 hx with e | e
      · rw [e]; exact c
      · exact lexLt_trans c (h1.1 x e)
    · rw [if_neg c]
      refine List.pairwise_cons.2 ⟨fun x hx => ?_, ins_asc h1.2 fun x hx => hn x (List.mem_cons_of_mem _ hx)⟩
      rcases ins_mem.1 hx with e | e
      · rw [e]
        cases c2 : lexLt y.1 m.1 with
        | true => rfl
        | false => exact absurd (lexLt_total c2 (by simpa using c)) (hn y List.mem_cons_self)
      · exact h1.1 x e
/-- Where the mark goes to. -/
theorem ins_at {m : Mk} : ∀ {l : List Mk} {j : Nat}, j ≤ l.length → (∀ x, x ∈ l.take j → lexLt m.1 x.1 = false) → (∀ x, x ∈ l.drop j → lexLt m.1 x.1 = true) → insF m l = l.take j ++ m :: l.drop j
  | [], j, _, _, _ => by simp [insF]
  | y :: r, 0, _, _, h => by
    simp only [insF, List.take_zero, List.drop_zero, List.nil_append]
    rw [if_pos (h y (by simp))]
  | y :: r, j + 1, hj, h1, h2 => by
    simp only [List.take_succ_cons, List.drop_succ_cons, List.cons_append] at *
    simp only [insF]
    rw [if_neg (by rw [h1 y List.mem_cons_self]; simp), ins_at (j := j) (by simpa using hj) (fun x hx => h1 x (List.mem_cons_of_mem _ hx)) h2]
theorem take_no {m : Mk} {l : List Mk} {j : Nat} {y : Mk} (h : AscM l) (hj : l[j]? = some y) (hy : lexLt m.1 y.1 = false) : ∀ x, x ∈ l.take (j + 1) → lexLt m.1 x.1 = false := by
  intro x hx
  rw [List.take_add_one, hj, List.mem_append] at hx
  rcases hx with hx | hx
  · obtain ⟨i, hi⟩ := List.getElem?_of_mem hx
    have hij : i < j := by have := (List.getElem?_eq_some_iff.1 hi).1; rw [List.length_take] at this; omega
    rw [List.getElem?_take_of_lt hij] at hi
    have hl := (List.getElem?_eq_some_iff.1 hi)
    have hl2 := (List.getElem?_eq_some_iff.1 hj)
    obtain ⟨a1, a2⟩ := hl
    obtain ⟨b1, b2⟩ := hl2
    have := List.pairwise_iff_getElem.1 h i j a1 b1 hij
    rw [a2, b2] at this
    cases c : lexLt m.1 x.1 with
    | false => rfl
    | true => rw [lexLt_trans c this] at hy; cases hy
  · simp at hx; rw [hx]; exact hy

theorem keep_sub {m : Mk} {l : List Mk} : ∀ x, x ∈ l.filter (keepM m) → x ∈ l := fun x hx => (List.mem_filter.1 hx).1
theorem sum_filter {p : Mk → Bool} : ∀ {l : List Mk}, sumP (l.filter p) ≤ sumP l
  | [] => by simp
  | y :: r => by
    have := sum_filter (p := p) (l := r)
    simp only [sumP] at this
    rw [List.filter_cons]
    split <;> simp only [sumP, sumBy] <;> omega

/-- What a trail keeps. -/
def TrP (l : List Mk) : Prop := AscM l ∧ NoUn l
theorem put_un {l : List Mk} {m : Mk} (h : ¬ (underB l m.1 || (!m.2 && markedB l m.1)) = true) : underB l m.1 = false ∧ (m.2 = false → ∀ x, x ∈ l → x.1 ≠ m.1) := by
  simp only [Bool.or_eq_true, not_or] at h
  refine ⟨by simpa using h.1, fun hm x hx e => h.2 ?_⟩
  simp only [hm, Bool.not_false, Bool.true_and, markedB, Bool.or_eq_true, List.any_eq_true]
  exact .inr ⟨x, hx, by simp [e]⟩
theorem TrP.put {l : List Mk} {m : Mk} (h : TrP l) : TrP (putM l m) := by
  unfold putM
  split
  · exact h
  · rename_i hc
    obtain ⟨hu, hs⟩ := put_un hc
    refine ⟨ins_asc (h.1.sublist List.filter_sublist) fun x hx => ?_, fun x hx y hy h2 hw => ?_⟩
    · obtain ⟨x1, x2⟩ := List.mem_filter.1 hx
      cases hm : m.2 with
      | false => exact hs hm x x1
      | true =>
        intro e
        simp [keepM, hm, e, within_self] at x2
    · rcases ins_mem.1 hx with e | e <;> rcases ins_mem.1 hy with e' | e'
      · rw [e, e']
      · exfalso
        rw [e] at h2 hw
        have := (List.mem_filter.1 e').2
        simp [keepM, h2, hw] at this
      · exfalso
        rw [e'] at hw
        obtain ⟨j, hj⟩ := List.getElem?_of_mem (keep_sub x e)
        rw [under_hit hj h2 hw] at hu; cases hu
      · exact h.2 x (keep_sub x e) y (keep_sub y e') h2 hw
theorem put_len {l : List Mk} {m : Mk} : (putM l m).length ≤ l.length + 1 := by
  unfold putM
  split
  · omega
  · rw [ins_len]; have := List.length_filter_le (keepM m) l; omega
theorem put_mem {l : List Mk} {m x : Mk} (h : x ∈ putM l m) : x = m ∨ x ∈ l := by
  unfold putM at h
  split at h
  · exact .inr h
  · rcases ins_mem.1 h with e | e
    · exact .inl e
    · exact .inr (keep_sub x e)
theorem put_sum {l : List Mk} {m : Mk} : sumP (putM l m) ≤ sumP l + m.1.length := by
  unfold putM
  split
  · omega
  · rw [ins_sum]; have := sum_filter (p := keepM m) (l := l); omega

/-! ### The deepest of the marks -/
def lenAt (l : List Mk) (j : Nat) : Nat := match l[j]? with
  | some x => x.1.length
  | none => 0
def bestTo (l : List Mk) : Nat → Nat
  | 0 => 0
  | k + 1 => if lenAt l (bestTo l k) ≤ lenAt l k then k else bestTo l k
theorem best_lt {l : List Mk} (h : l ≠ []) : ∀ {k : Nat}, k ≤ l.length → bestTo l k < l.length
  | 0, _ => by have := List.length_pos_iff.2 h; simpa [bestTo] using this
  | k + 1, hk => by
    simp only [bestTo]
    split
    · omega
    · exact best_lt h (by omega)
theorem best_ge {l : List Mk} : ∀ {k j : Nat}, j < k → lenAt l j ≤ lenAt l (bestTo l k)
  | 0, _, h => by omega
  | k + 1, j, h => by
    simp only [bestTo]
    by_cases e : j = k
    · subst e
      split
      · exact Nat.le_refl _
      · omega
    · have := best_ge (l := l) (k := k) (j := j) (by omega)
      split <;> omega
theorem best_one {l : List Mk} : bestTo l 1 = 0 := by simp [bestTo]
def bestM (l : List Mk) : Mk := (l[bestTo l l.length]?).getD ([], false)
theorem best_at {l : List Mk} (h : l ≠ []) : l[bestTo l l.length]? = some (bestM l) := by
  have := best_lt h (Nat.le_refl _)
  rw [bestM, List.getElem?_eq_getElem this]; rfl
theorem best_pos {l : List Mk} (ha : AscM l) (hl : 2 ≤ l.length) : 0 < (bestM l).1.length := by
  have hne : l ≠ [] := fun e => by simp [e] at hl
  have h1 := best_ge (l := l) (k := l.length) (j := 1) (by omega)
  have hb := best_at hne
  have h01 := List.pairwise_iff_getElem.1 ha 0 1 (by omega) (by omega) (by omega)
  have hx := List.getElem?_eq_getElem (show 1 < l.length by omega)
  rw [lenAt, lenAt, hx, hb] at h1
  simp only at h1
  have : (l[1]).1 ≠ [] := fun e => by
    rw [e] at h01
    simp [lexLt] at h01
  have := List.length_pos_iff.2 this
  omega
def upM (x : Mk) : Mk := (x.1.take (x.1.length - 1), true)
def coarseM (l : List Mk) : List Mk := putM l (upM (bestM l))
def delBest (l : List Mk) : List Mk := l.take (bestTo l l.length) ++ l.drop (bestTo l l.length + 1)
theorem del_split {l : List Mk} (h : l ≠ []) : l = l.take (bestTo l l.length) ++ bestM l :: l.drop (bestTo l l.length + 1) := by
  have h1 := best_at h
  obtain ⟨h2, h3⟩ := List.getElem?_eq_some_iff.1 h1
  have := List.take_append_drop (bestTo l l.length) l
  rw [List.drop_eq_getElem_cons h2, h3] at this
  exact this.symm
theorem del_mem {l : List Mk} : ∀ x, x ∈ delBest l → x ∈ l := fun x hx => by
  rcases List.mem_append.1 hx with h | h
  · exact List.mem_of_mem_take h
  · exact List.mem_of_mem_drop h
theorem sumP_app {a b : List Mk} : sumP (a ++ b) = sumP a + sumP b := by
  induction a with
  | nil => simp [sumP, sumBy]
  | cons x r ih => simp only [sumP] at ih; simp only [List.cons_append, sumP, sumBy, ih]; omega
theorem del_sum {l : List Mk} (h : l ≠ []) : sumP l = sumP (delBest l) + (bestM l).1.length := by
  conv => lhs; rw [del_split h]
  rw [delBest, sumP_app, sumP_app]
  simp only [sumP, sumBy]; omega
theorem del_len {l : List Mk} (h : l ≠ []) : (delBest l).length + 1 = l.length := by
  have := congrArg List.length (del_split h)
  simp only [delBest, List.length_append, List.length_cons] at *
  omega
theorem TrP.del {l : List Mk} (h : TrP l) (hne : l ≠ []) : TrP (delBest l) := by
  refine ⟨h.1.sublist ?_, fun x hx y hy => h.2 x (del_mem x hx) y (del_mem y hy)⟩
  conv => rhs; rw [del_split hne]
  exact List.Sublist.append (List.Sublist.refl _) (List.sublist_cons_self _ _)
theorem up_within {x : Mk} : within x.1 (upM x).1 = true := within_iff.2 (List.take_prefix _ _)
theorem up_len {x : Mk} (h : 0 < x.1.length) : (upM x).1.length + 1 = x.1.length := by simp only [upM, List.length_take]; omega

theorem coarse_under {l : List Mk} (h : TrP l) (hl : 2 ≤ l.length) : underB l (upM (bestM l)).1 = false := by
  have hne : l ≠ [] := fun e => by simp [e] at hl
  have hp := best_pos h.1 hl
  cases c : underB l (upM (bestM l)).1 with
  | false => rfl
  | true =>
    exfalso
    simp only [underB, List.any_eq_true, Bool.and_eq_true] at c
    obtain ⟨y, hy, y2, yw⟩ := c
    have := h.2 y hy _ (List.mem_of_getElem? (best_at hne)) y2 (within_trans up_within yw)
    subst this
    have := within_len yw
    have := up_len hp
    omega
theorem coarse_eq {l : List Mk} (h : TrP l) (hl : 2 ≤ l.length) : coarseM l = putM (delBest l) (upM (bestM l)) := by
  have hne : l ≠ [] := fun e => by simp [e] at hl
  have hu := coarse_under h hl
  have hu2 : underB (delBest l) (upM (bestM l)).1 = false := by
    cases c : underB (delBest l) (upM (bestM l)).1 with
    | false => rfl
    | true =>
      simp only [underB, List.any_eq_true] at c
      obtain ⟨y, hy, hc⟩ := c
      simp only [Bool.and_eq_true] at hc
      obtain ⟨j, hj⟩ := List.getElem?_of_mem (del_mem y hy)
      rw [under_hit hj hc.1 hc.2] at hu; cases hu
  have hk : keepM (upM (bestM l)) (bestM l) = false := by simp [keepM, up_within, show (upM (bestM l)).2 = true from rfl]
  unfold coarseM putM
  rw [hu, hu2]
  simp only [show (upM (bestM l)).2 = true from rfl, Bool.not_true, Bool.false_and, Bool.or_self]
  rw [if_neg (by simp), if_neg (by simp)]
  have hf : l.filter (keepM (upM (bestM l))) = (delBest l).filter (keepM (upM (bestM l))) := by
    have h1 := congrArg (fun z => z.filter (keepM (upM (bestM l)))) (del_split hne)
    simp only [List.filter_append, List.filter_cons, hk] at h1
    rw [delBest, List.filter_append]
    exact h1
  rw [hf]
theorem coarse_sum {l : List Mk} (h : TrP l) (hl : 2 ≤ l.length) : sumP (coarseM l) < sumP l := by
  have hne : l ≠ [] := fun e => by simp [e] at hl
  rw [coarse_eq h hl]
  have h1 := put_sum (l := delBest l) (m := upM (bestM l))
  have h2 := del_sum hne
  have h3 := up_len (best_pos h.1 hl)
  omega

/-- Coarser and coarser, till it is not too long. -/
inductive Lp : List Mk → List Mk → Prop
  | stop {l : List Mk} (h : l.length ≤ 6) : Lp l l
  | step {l r : List Mk} (h : 6 < l.length) (h' : Lp (coarseM l) r) : Lp l r
theorem Lp.det {l r r' : List Mk} (h : Lp l r) (h' : Lp l r') : r = r' := by
  induction h with
  | stop h =>
    cases h' with
    | stop _ => rfl
    | step k _ => omega
  | step h _ ih =>
    cases h' with
    | stop k => omega
    | step _ k => exact ih k

theorem trail_TrP {l : List Mk} (h : trailOk l = true) : TrP l ∧ l.length ≤ 6 ∧ ∀ x, x ∈ l → markOkB x = true := by
  unfold trailOk at h
  simp only [Bool.and_eq_true, decide_eq_true_iff] at h
  obtain ⟨hg, hl⟩ := h
  have each : ∀ (j : Nat) (x : Mk), l[j]? = some x → markOkB x = true ∧ afterB l j x = true ∧ underB (l.take j) x.1 = false := fun j x hx => by
    have := hg j x hx
    simp only [goodAt, Bool.and_eq_true] at this
    exact ⟨this.1, this.2.1, by simpa using this.2.2⟩
  have asc : AscM l := by
    have : ∀ (j : Nat) (x y : Mk), l[j]? = some x → l[j + 1]? = some y → lexLt x.1 y.1 = true := fun j x y hx hy => by
      have := (each (j + 1) y hy).2.1
      simpa [afterB, hx] using this
    clear hg hl each
    induction l with
    | nil => exact List.Pairwise.nil
    | cons a r ih =>
      have ih' := ih fun j x y hx hy => this (j + 1) x y (by simpa using hx) (by simpa using hy)
      refine List.pairwise_cons.2 ⟨fun z hz => ?_, ih'⟩
      cases r with
      | nil => cases hz
      | cons b r =>
        have hab := this 0 a b rfl rfl
        rcases List.mem_cons.1 hz with e | e
        · rw [e]; exact hab
        · exact lexLt_trans hab ((List.pairwise_cons.1 ih').1 z e)
  refine ⟨⟨asc, fun x hx y hy h2 hw => ?_⟩, by omega, fun x hx => ?_⟩
  · obtain ⟨i, hi⟩ := List.getElem?_of_mem hx
    obtain ⟨j, hj⟩ := List.getElem?_of_mem hy
    by_cases e : i = j
    · subst e; rw [hi] at hj; cases hj; rfl
    · exfalso
      obtain ⟨a1, a2⟩ := List.getElem?_eq_some_iff.1 hi
      obtain ⟨b1, b2⟩ := List.getElem?_eq_some_iff.1 hj
      by_cases hij : i < j
      · have h1 := (each j y hj).2.2
        rw [under_hit (j := i) (x := x) (by rw [List.getElem?_take_of_lt hij]; exact hi) h2 hw] at h1
        cases h1
      · have h1 := List.pairwise_iff_getElem.1 asc j i b1 a1 (by omega)
        rw [a2, b2] at h1
        rcases within_lt hw with e' | e'
        · rw [e', lexLt_irrefl] at h1; cases h1
        · have := lexLt_trans h1 e'
          rw [lexLt_irrefl] at this; cases this
  · obtain ⟨i, hi⟩ := List.getElem?_of_mem hx
    exact (each i x hi).1
end Go.Proofs.YtkbhjejalkbogaaGreat

/- Marks: what is under, what is marked, by either hand; the sort of marks of which only the last stands wrong. -/
set_option linter.unusedVariables false
set_option linter.unusedSimpArgs false
namespace Go.Proofs.YtkbhjejalkbogaaGreat
open Go Go.Av

def markedS (l : List Mk) (p : List ByteArray) : Bool := l.any fun x => decide (x.1 = p) || (x.2 && within p x.1)
theorem markedS_eq : ∀ {l : List Mk} {p : List ByteArray}, markedS l p = markedB l p
  | [], _ => rfl
  | x :: r, p => by
    have := markedS_eq (l := r) (p := p)
    simp only [markedS, markedB, underB] at this
    simp only [markedS, markedB, underB, List.any_cons, this]
    cases decide (x.1 = p) <;> cases (x.2 && within p x.1) <;> simp
theorem markedS_take {ms : List Mk} {p : List ByteArray} {j : Nat} {x : Mk} (h : ms[j]? = some x) : markedS (ms.take (j + 1)) p = (markedS (ms.take j) p || (decide (x.1 = p) || (x.2 && within p x.1))) := by
  rw [List.take_add_one, h]
  simp [markedS, List.any_append]
theorem markedS_hit {ms : List Mk} {p : List ByteArray} {j : Nat} {x : Mk} (h : ms[j]? = some x) (h1 : (decide (x.1 = p) || (x.2 && within p x.1)) = true) : markedS ms p = true := by
  simp only [markedS, List.any_eq_true]
  exact ⟨x, List.mem_of_getElem? h, h1⟩
theorem rok_mk : ROk 2 RMk := ⟨fun rd rd' es x hl h => mono_mk hl h, fun rd es x h => by obtain ⟨v, rfl, _⟩ := h; rfl, fun rd es x h c hc => by
  obtain ⟨v, rfl, hv⟩ := h
  simp at hc
  rcases hc with rfl | rfl
  · exact hv.one
  · rfl⟩

section
variable {w0 : World} {σ : Vw}

theorem spec_l11Same {v v' : Value} {xs ys : List ByteArray} (h : RSl 1 RS (Av.get w0 σ) v xs) (h' : RSl 1 RS (Av.get w0 σ) v' ys) {R : Value → Vw → Prop} (hR : R (.bool (decide (xs = ys))) σ) : AC Tryz.prog w0 n_spec_l11Same [v, v'] σ R := by
  refine ac_spec_l11Same ?_
  unfold vc_spec_l11Same
  rw [h.len, h'.len, pBin_eq, pIf_d]
  refine ⟨fun e => spec_Within h h' ?_, fun e => ?_⟩
  · have : within xs ys = decide (xs = ys) := by
      rw [Bool.eq_iff_iff, within_iff, decide_eq_true_iff]
      constructor
      · intro hp; exact (hp.eq_of_length (by omega)).symm
      · intro he; rw [he]; exact List.prefix_refl _
    rw [this]; exact hR
  · rw [decide_eq_false fun e' => e (by rw [e'])] at hR; exact hR

theorem spec_l11Under {v v' : Value} {ms : List Mk} {p : List ByteArray} (h : RSl 2 RMk (Av.get w0 σ) v ms) (h' : RSl 1 RS (Av.get w0 σ) v' p) {R : Value → Vw → Prop} (hR : R (.bool (underB ms p)) σ) : AC Tryz.prog w0 n_spec_l11Under [v, v'] σ R := by
  refine ac_spec_l11Under ?_
  unfold vc_spec_l11Under
  have hl := h.le
  refine loop_rule (m := ms.length) (fun m l t => ∃ j, t = σ ∧ m + j = ms.length ∧ underB (ms.take j) p = false ∧ l = [v, v', .bool false, .int .i64 (j : Nat)]) ?_ ⟨0, rfl, by omega, rfl, rfl⟩
  rintro m l t L ⟨j, rfl, hm, ht, rfl⟩ hL
  simp only [vget, List.getD_cons_zero, List.getD_cons_succ]
  rw [h.len, pBin_lt, pIf_d]
  refine ⟨fun hj => ?_, fun hj => ?_⟩
  · have hx := List.getElem?_eq_getElem (show j < ms.length by omega)
    generalize ms[j] = x at hx
    have hstep := underB_take (p := p) hx
    have next : underB (ms.take (j + 1)) p = false → L [v, v', .bool false, .int .i64 ((j : Int) + 1)] t := fun hf => hL _ _ (m - 1) (by omega) ⟨j + 1, rfl, by omega, hf, rfl⟩
    refine RSl.fld h hx (by omega) fun g1 es hes he => ?_
    obtain ⟨u1, rfl, hu1⟩ := hes
    simp at he
    rw [← he, pIf_b]
    refine ⟨fun h2 => ?_, fun h2 => ?_⟩
    · refine RSl.fld h hx (by omega) fun g2 es hes he => ?_
      obtain ⟨u2, rfl, hu2⟩ := hes
      simp at he
      rw [← he]
      refine spec_Within h' hu2 (pIf_b.2 ⟨fun hw => ?_, fun hw => ?_⟩)
      · rw [under_hit hx h2 hw] at hR; exact hR
      · rw [pBin_add (by omega)]
        exact next (by rw [hstep, ht, hw]; simp)
    · rw [pBin_add (by omega)]
      exact next (by rw [hstep, ht, h2]; simp)
  · have hj' : j = ms.length := by omega
    subst hj'
    rw [List.take_length] at ht
    rw [ht] at hR; exact hR

theorem spec_l11Marked {v v' : Value} {ms : List Mk} {p : List ByteArray} (h : RSl 2 RMk (Av.get w0 σ) v ms) (h' : RSl 1 RS (Av.get w0 σ) v' p) {R : Value → Vw → Prop} (hR : R (.bool (markedB ms p)) σ) : AC Tryz.prog w0 n_spec_l11Marked [v, v'] σ R := by
  rw [← markedS_eq] at hR
  refine ac_spec_l11Marked ?_
  unfold vc_spec_l11Marked
  have hl := h.le
  refine loop_rule (m := ms.length) (fun m l t => ∃ j, t = σ ∧ m + j = ms.length ∧ markedS (ms.take j) p = false ∧ l = [v, v', .bool false, .int .i64 (j : Nat)]) ?_ ⟨0, rfl, by omega, rfl, rfl⟩
  rintro m l t L ⟨j, rfl, hm, ht, rfl⟩ hL
  simp only [vget, List.getD_cons_zero, List.getD_cons_succ]
  rw [h.len, pBin_lt, pIf_d]
  refine ⟨fun hj => ?_, fun hj => ?_⟩
  · have hx := List.getElem?_eq_getElem (show j < ms.length by omega)
    generalize ms[j] = x at hx
    have hstep := markedS_take (p := p) hx
    have next : markedS (ms.take (j + 1)) p = false → L [v, v', .bool false, .int .i64 ((j : Int) + 1)] t := fun hf => hL _ _ (m - 1) (by omega) ⟨j + 1, rfl, by omega, hf, rfl⟩
    have hit : (decide (x.1 = p) || (x.2 && within p x.1)) = true → R (.bool true) t := fun hh => by rw [markedS_hit hx hh] at hR; exact hR
    refine RSl.fld h hx (by omega) fun g1 es hes he => ?_
    obtain ⟨u1, rfl, hu1⟩ := hes
    simp at he
    rw [← he]
    refine spec_l11Same hu1 h' (pIf_b.2 ⟨fun hw => hit (by rw [hw]; rfl), fun hw => ?_⟩)
    refine RSl.fld h hx (by omega) fun g2 es hes he => ?_
    obtain ⟨u2, rfl, hu2⟩ := hes
    simp at he
    rw [← he, pIf_b]
    refine ⟨fun h2 => ?_, fun h2 => ?_⟩
    · refine RSl.fld h hx (by omega) fun g3 es hes he => ?_
      obtain ⟨u3, rfl, hu3⟩ := hes
      simp at he
      rw [← he]
      refine spec_Within h' hu3 (pIf_b.2 ⟨fun hw2 => hit (by rw [h2, hw2]; simp), fun hw2 => ?_⟩)
      rw [pBin_add (by omega)]
      exact next (by rw [hstep, ht, hw, hw2]; simp)
    · rw [pBin_add (by omega)]
      exact next (by rw [hstep, ht, hw, h2]; simp)
  · have hj' : j = ms.length := by omega
    subst hj'
    rw [List.take_length] at ht
    rw [ht] at hR; exact hR

theorem slices_Eq {v v' : Value} {xs ys : List ByteArray} (h : RSl 1 RS (Av.get w0 σ) v xs) (h' : RSl 1 RS (Av.get w0 σ) v' ys) {R : Value → Vw → Prop} (hR : R (.bool (decide (xs = ys))) σ) : AC Tryz.prog w0 n_slices_Equal_string_string [v, v'] σ R := by
  refine ac_slices_Equal_string_string ?_
  unfold vc_slices_Equal_string_string
  have hl := h.le
  rw [h.len, h'.len, pBin_ne, pIf_d]
  refine ⟨fun e => ?_, fun e => ?_⟩
  · rw [decide_eq_false fun e' => e (by rw [e'])] at hR; exact hR
  have hlen : xs.length = ys.length := by have := Decidable.not_not.1 e; omega
  rw [h.len]
  refine loop_rule (m := xs.length) (fun m l t => ∃ j, t = σ ∧ m + j = xs.length ∧ xs.take j = ys.take j ∧ l = [v, v', .bool false, .int .i64 (xs.length : Nat), .int .i64 (j : Nat)]) ?_ ⟨0, rfl, by omega, by simp, rfl⟩
  rintro m l t L ⟨j, rfl, hm, ht, rfl⟩ hL
  simp only [vget, List.getD_cons_zero, List.getD_cons_succ]
  rw [pBin_lt, pIf_d]
  refine ⟨fun hj => ?_, fun hj => ?_⟩
  · have hx := List.getElem?_eq_getElem (show j < xs.length by omega)
    have hy := List.getElem?_eq_getElem (show j < ys.length by omega)
    refine RSl.at1 h hx fun g hg _ => ?_
    refine RSl.at1 h' hy fun g' hg' _ => ?_
    rw [hg, hg', pBin_sne, pIf_d]
    refine ⟨fun hne => ?_, fun heq => ?_⟩
    · rw [decide_eq_false fun e' => hne (by subst e'; rfl)] at hR; exact hR
    · rw [pBin_add (by omega)]
      exact hL _ _ (m - 1) (by omega) ⟨j + 1, rfl, by omega, by rw [List.take_add_one, List.take_add_one, hx, hy, ht, Decidable.not_not.1 heq], rfl⟩
  · have hj' : j = xs.length := by omega
    subst hj'
    rw [List.take_length, List.take_of_length_le (by omega)] at ht
    rw [decide_eq_true ht] at hR; exact hR

theorem marked_c1 {es : List Value} {x : Mk} {b : Nat} {r : Row} {u : Value} {p : List ByteArray} (h : RMk (Av.get w0 σ) es x) (hb : w0.heap.size ≤ b) (hr : σ b = some r) (hc : r.cells = [u]) (hu : RSl 1 RS (Av.get w0 σ) u p) {R : Value → Vw → Prop} (hR : R (.bool (decide (x.1 = p))) σ) :
    AC Tryz.prog w0 n_impl_marked_c1 [.agg ⟨es⟩, .pointer (some (Addr.mk b 0 none))] σ R := by
  obtain ⟨v, rfl, hv⟩ := h
  refine ac_impl_marked_c1 ?_
  unfold vc_impl_marked_c1
  rw [pVal_2 hv.one rfl]
  simp only [cellOf_agg, List.getD_cons_zero, List.getD_cons_succ]
  refine ⟨⟨b, 0, none⟩, fun _ => u, rfl, fun i hi => ?_, slices_Eq hv hu hR⟩
  have e : i = 0 := by omega
  subst e
  rw [addr_add, get_row hb hr, hc]; rfl

theorem impl_marked {v u : Value} {ms : List Mk} {p : List ByteArray} (h : RSl 2 RMk (Av.get w0 σ) v ms) (hu : RSl 1 RS (Av.get w0 σ) u p) {R : Value → Vw → Prop} (hR : ∀ σ', Keeps σ σ' → R (.bool (markedB ms p)) σ') : AC Tryz.prog w0 n_impl_marked [v, u] σ R := by
  refine ac_impl_marked ?_
  unfold vc_impl_marked
  rw [pVal1 hu.one]
  intro b h1 h2
  have kb : Keeps σ (σ.put b ⟨t_s_string, [u], 1, (0, 0)⟩) := Keeps.put h2
  have hl := h.le
  have h := h.mono kb.le fun es x => mono_mk kb.le
  have hu := hu.mono kb.le fun _ _ h => h
  have hR := hR _ kb
  refine ⟨⟨b, 0, none⟩, fun _ => u, rfl, fun i hi => ?_, ?_⟩
  · have e : i = 0 := by omega
    subst e
    rw [addr_add, get_row h1 put_at]; rfl
  refine impl_under h hu (pIf_b.2 ⟨fun e => ?_, fun e => ?_⟩)
  · have : markedB ms p = true := by simp [markedB, e]
    rw [this] at hR; exact hR
  have em : markedB ms p = ms.any fun x => decide (x.1 = p) := by simp [markedB, e]
  rw [em] at hR
  clear e em
  refine ac_slices_ContainsFunc_impl_Mark_impl_Mark ?_
  unfold vc_slices_ContainsFunc_impl_Mark_impl_Mark
  refine ac_slices_IndexFunc_impl_Mark_impl_Mark ?_
  unfold vc_slices_IndexFunc_impl_Mark_impl_Mark
  rw [h.len]
  refine loop_rule (m := ms.length) (fun m l t => ∃ j : Nat, t = σ.put b ⟨t_s_string, [u], 1, (0, 0)⟩ ∧ m + j = ms.length ∧ (ms.take j).any (fun x => decide (x.1 = p)) = false ∧ l = [v, .func (.func n_impl_marked_c1) ⟨[]⟩ ⟨[.pointer (some (Addr.mk b 0 none))]⟩, .int .i64 0, .int .i64 (ms.length : Nat), .int .i64 (j : Nat)]) ?_ ⟨0, rfl, by omega, rfl, rfl⟩
  rintro m l t L ⟨j, rfl, hm, ht, rfl⟩ hL
  simp only [vget, List.getD_cons_zero, List.getD_cons_succ]
  rw [pBin_lt, pIf_d]
  refine ⟨fun hj => ?_, fun hj => ?_⟩
  · have hx := List.getElem?_eq_getElem (show j < ms.length by omega)
    generalize ms[j] = x at hx
    refine h.at hx fun g hg => ?_
    simp only [expl] at hg
    refine ⟨n_impl_marked_c1, [], _, rfl, ?_⟩
    simp only [List.nil_append, List.cons_append]
    refine marked_c1 hg h1 put_at rfl hu (pIf_b.2 ⟨fun e => ?_, fun e => ?_⟩)
    · show pBin Tryz.prog 3 .geq (.int .i64 (j : Nat)) (.int .i64 0) _
      rw [pBin_ge, decide_eq_true (by omega)]
      have : (ms.any fun x => decide (x.1 = p)) = true := List.any_eq_true.2 ⟨x, List.mem_of_getElem? hx, e⟩
      rw [this] at hR; exact hR
    · rw [pBin_add (by omega)]
      refine hL _ _ (m - 1) (by omega) ⟨j + 1, rfl, by omega, ?_, rfl⟩
      rw [List.take_add_one, hx]
      simp only [Option.toList_some, List.any_append, ht, List.any_cons, List.any_nil, e]; rfl
  · have hj' : j = ms.length := by omega
    subst hj'
    show pBin Tryz.prog 3 .geq (.int .i64 (-1)) (.int .i64 0) _
    rw [pBin_ge, decide_eq_false (by omega)]
    rw [List.take_length] at ht
    rw [ht] at hR; exact hR

/-! ### The sort -/
theorem add_c1 {es es' : List Value} {x y : Mk} (h : RMk (Av.get w0 σ) es x) (h' : RMk (Av.get w0 σ) es' y) {R : Value → Vw → Prop} (hR : ∀ c : Int, (c < 0 ↔ lexLt x.1 y.1 = true) → R (.int .i64 c) σ) : AC Tryz.prog w0 n_impl_add_c1 [.agg ⟨es⟩, .agg ⟨es'⟩] σ R := by
  obtain ⟨v, rfl, hv⟩ := h
  obtain ⟨v', rfl, hv'⟩ := h'
  refine ac_impl_add_c1 ?_
  unfold vc_impl_add_c1
  rw [pVal_2 hv.one rfl, pVal_2 hv'.one rfl]
  simp only [cellOf_agg, List.getD_cons_zero, List.getD_cons_succ]
  exact Compare hv hv' hR

theorem store_mk {rd0 : Addr → Option Value} {F : List Nat} {v : Value} {xs : List Mk} (h : OSl w0 2 (OB RMk rd0) σ F v xs) {j : Nat} {x y : Mk} {a b : Value} (hj : xs[j]? = some x) (hy : RMk rd0 [a, b] y) {K : Vw → Prop}
    (hK : ∀ σ', KeepsBut F σ σ' → OSl w0 2 (OB RMk rd0) σ' F v (xs.set j y) → K σ') : pIndexAddr 2 v (.int .i64 j) fun p => pVal true 2 (.agg ⟨[a, b]⟩) (pStore p [a, b] σ K) := by
  have h1 := rok_mk.one _ _ _ hy
  have e : (fun p => pVal true 2 (.agg ⟨[a, b]⟩) (pStore p [a, b] σ K)) = fun p => pStore p [a, b] σ K := by
    funext p
    rw [pVal_2 (h1 a (by simp)) (h1 b (by simp))]
  rw [e]
  exact h.store (ok_base rok_mk w0 rd0) hj (fun f c σ' ho => ⟨ho.1, hy⟩) rfl hK

def dn (P : List Mk) (e : Mk) (Q : List Mk) (j : Nat) : List Mk := P.take j ++ e :: (P.drop j ++ Q)
theorem dn_at {P Q : List Mk} {e : Mk} {j : Nat} (h : j ≤ P.length) : (dn P e Q j)[j]? = some e := by
  have : (P.take j).length = j := by rw [List.length_take]; omega
  rw [dn, List.getElem?_append_right (by omega), this, Nat.sub_self]; rfl
theorem dn_before {P Q : List Mk} {e x : Mk} {j : Nat} (hx : P[j]? = some x) : (dn P e Q (j + 1))[j]? = some x := by
  have hj := (List.getElem?_eq_some_iff.1 hx).1
  rw [dn, List.getElem?_append_left (by rw [List.length_take]; omega), List.getElem?_take_of_lt (by omega)]; exact hx
theorem dn_swap {P Q : List Mk} {e x : Mk} {j : Nat} (hx : P[j]? = some x) : ((dn P e Q (j + 1)).set (j + 1) x).set j e = dn P e Q j := by
  obtain ⟨hj, hx'⟩ := List.getElem?_eq_some_iff.1 hx
  have hl : (P.take j).length = j := by rw [List.length_take]; omega
  have h1 : P.take (j + 1) = P.take j ++ [x] := by rw [List.take_add_one, hx]; rfl
  have h2 : P.drop j = x :: P.drop (j + 1) := by rw [List.drop_eq_getElem_cons hj, hx']
  unfold dn
  rw [h1, h2, List.append_assoc, List.set_append_right _ _ (by omega), hl, show j + 1 - j = 1 by omega]
  rw [List.set_append_right _ _ (by omega), hl, Nat.sub_self]
  rfl

set_option maxHeartbeats 1000000 in
theorem ins_sort {σ0 : Vw} {F : List Nat} {v : Value} {ys : List Mk} {m : Mk} (ha : AscM ys) (hl : ys.length ≤ 1000) (h : OSl w0 2 (OB RMk (Av.get w0 σ0)) σ F v (ys ++ [m])) (k0 : Keeps σ0 σ) (hF : ∀ b, b ∈ F → σ0 b = none) {R : Value → Vw → Prop}
    (hR : ∀ σ', KeepsBut F σ σ' → OSl w0 2 (OB RMk (Av.get w0 σ0)) σ' F v (insF m ys) → R (.tuple ⟨[]⟩) σ') :
    AC Tryz.prog w0 n_slices_insertionSortCmpFunc_impl_Mark [v, .int .i64 0, .int .i64 ((ys.length + 1 : Nat) : Int), .func (.func n_impl_add_c1) ⟨[]⟩ ⟨[]⟩] σ R := by
  refine ac_slices_insertionSortCmpFunc_impl_Mark ?_
  unfold vc_slices_insertionSortCmpFunc_impl_Mark
  have okb := ok_base rok_mk w0 (Av.get w0 σ0)
  rw [pBin_add (by omega)]
  refine loop_rule (m := ys.length) (fun c l s => ∃ i : Nat, c + i = ys.length + 1 ∧ 1 ≤ i ∧ i ≤ ys.length + 1 ∧ KeepsBut F σ s ∧ OSl w0 2 (OB RMk (Av.get w0 σ0)) s F v (if i ≤ ys.length then ys ++ [m] else insF m ys) ∧ l = [v, .int .i64 0, .int .i64 ((ys.length + 1 : Nat) : Int), .func (.func n_impl_add_c1) ⟨[]⟩ ⟨[]⟩, .int .i64 (i : Nat)]) ?_ ⟨1, by omega, by omega, by omega, KeepsBut.refl _ _, ?_, rfl⟩
  rotate_left
  · cases ys with
    | nil => simpa [insF] using h
    | cons a r => simpa using h
  rintro c l s L ⟨i, hc, hi1, hi2, ks, ho, rfl⟩ hL
  simp only [vget, List.getD_cons_zero, List.getD_cons_succ]
  rw [pBin_lt, pIf_d]
  refine ⟨fun hi => ?_, fun hi => ?_⟩
  rotate_left
  · have e : i = ys.length + 1 := by omega
    subst e
    rw [if_neg (by omega)] at ho
    exact hR s ks ho
  have hiy : i ≤ ys.length := by omega
  rw [if_pos hiy] at ho
  -- the element that is moved down, what stands ahead of it, what behind
  obtain ⟨e, Q, hd, hend⟩ : ∃ (e : Mk) (Q : List Mk), ys ++ [m] = dn (ys.take i) e Q i ∧ ∀ j, j ≤ (ys.take i).length → (∀ x, x ∈ (ys.take i).take j → lexLt e.1 x.1 = false) → (∀ x, x ∈ (ys.take i).drop j → lexLt e.1 x.1 = true) → dn (ys.take i) e Q j = (if i + 1 ≤ ys.length then ys ++ [m] else insF m ys) := by
    have hti : (ys.take i).length = i := by rw [List.length_take]; omega
    by_cases hlt : i < ys.length
    · have hx := List.getElem?_eq_getElem hlt
      have e1 : ys ++ [m] = dn (ys.take i) ys[i] (ys.drop (i + 1) ++ [m]) i := by
        unfold dn
        rw [List.take_of_length_le (by omega), List.drop_of_length_le (by omega), List.nil_append]
        have := List.take_append_drop i ys
        rw [List.drop_eq_getElem_cons hlt] at this
        exact (congrArg (· ++ [m]) this).symm.trans (List.append_assoc _ _ _)
      refine ⟨ys[i], ys.drop (i + 1) ++ [m], e1, fun j hj h1 h2 => ?_⟩
      rw [if_pos (by omega), e1]
      -- nothing ahead of it is greater
      have : (ys.take i).drop j = [] := by
        refine List.eq_nil_iff_forall_not_mem.2 fun x hx => ?_
        obtain ⟨k, hk⟩ := List.getElem?_of_mem (List.mem_of_mem_drop hx)
        have hki : k < i := by have := (List.getElem?_eq_some_iff.1 hk).1; omega
        rw [List.getElem?_take_of_lt hki] at hk
        obtain ⟨k1, k2⟩ := List.getElem?_eq_some_iff.1 hk
        have h3 := List.pairwise_iff_getElem.1 ha k i k1 hlt hki
        rw [k2] at h3
        have h4 := lexLt_trans h3 (h2 x hx)
        rw [lexLt_irrefl] at h4; cases h4
      have hji : j = i := by
        have := congrArg List.length this
        rw [List.length_drop, hti] at this
        simp at this; omega
      rw [hji]
    · have hiy' : i = ys.length := by omega
      subst hiy'
      rw [List.take_length]
      refine ⟨m, [], by simp [dn], fun j hj h1 h2 => ?_⟩
      rw [if_neg (by omega), ins_at (by simpa using hj) h1 h2]
      simp [dn]
  rw [hd] at ho
  have haT : AscM (ys.take i) := ha.sublist (List.take_sublist _ _)
  have hTl : (ys.take i).length = i := by rw [List.length_take]; omega
  generalize ys.take i = T at *
  -- the end of the rounds within
  have fin : ∀ (j : Nat) (s' : Vw) (z : Value), j ≤ T.length → KeepsBut F σ s' → OSl w0 2 (OB RMk (Av.get w0 σ0)) s' F v (dn T e Q j) → (∀ x, x ∈ T.take j → lexLt e.1 x.1 = false) → (∀ x, x ∈ T.drop j → lexLt e.1 x.1 = true) →
      pBin Tryz.prog 3 .add (.int .i64 (i : Nat)) (.int .i64 1) (fun v37 => L [v, .int .i64 0, .int .i64 ((ys.length + 1 : Nat) : Int), .func (.func n_impl_add_c1) ⟨[]⟩ ⟨[]⟩, v37] s') := fun j s' z hj kb ho h1 h2 => by
    rw [pBin_add (by omega)]
    refine hL _ _ (c - 1) (by omega) ⟨i + 1, by omega, by omega, by omega, kb, ?_, rfl⟩
    rw [← hend j hj h1 h2]; exact ho
  refine loop_rule (m := T.length) (fun c l s' => ∃ j : Nat, c = j ∧ j ≤ T.length ∧ KeepsBut F σ s' ∧ OSl w0 2 (OB RMk (Av.get w0 σ0)) s' F v (dn T e Q j) ∧ (∀ x, x ∈ T.drop j → lexLt e.1 x.1 = true) ∧ l = [v, .int .i64 0, .int .i64 ((ys.length + 1 : Nat) : Int), .func (.func n_impl_add_c1) ⟨[]⟩ ⟨[]⟩, .int .i64 (i : Nat), .int .i64 (j : Nat)]) ?_
    ⟨T.length, rfl, Nat.le_refl _, ks, by rw [hTl]; exact ho, by simp, by rw [hTl]⟩
  rintro c' l' s' L' ⟨j, rfl, hj, ks', ho', hgt, rfl⟩ hL'
  simp only [vget, List.getD_cons_zero, List.getD_cons_succ]
  rw [pBin_gt, pIf_d]
  refine ⟨fun hpos => ?_, fun h0 => ?_⟩
  rotate_left
  · have e0 : c' = 0 := by omega
    subst e0
    exact fin 0 s' undef (by omega) ks' ho' (by simp) hgt
  obtain ⟨j, rfl⟩ : ∃ j, c' = j + 1 := ⟨c' - 1, by omega⟩
  have hx := List.getElem?_eq_getElem (show j < T.length by omega)
  generalize T[j]'(by omega) = x at hx
  have Ks := ks'.old k0 hF
  have hrel := ho'.rel okb
  have hbd := dn_before (e := e) (Q := Q) hx
  have hat := dn_at (P := T) (e := e) (Q := Q) hj
  refine hrel.at hat fun g hg => ?_
  simp only [expl] at hg
  rw [pBin_sub (by omega), show ((j + 1 : Nat) : Int) - 1 = (j : Nat) by omega]
  refine hrel.at hbd fun g' hg' => ?_
  simp only [expl] at hg'
  refine ⟨n_impl_add_c1, [], [], rfl, ?_⟩
  simp only [List.nil_append, List.append_nil]
  refine add_c1 (mono_mk Ks.le hg) (mono_mk Ks.le hg') fun q hq => ?_
  rw [pBin_lt, pIf_d]
  refine ⟨fun hneg => ?_, fun hno => ?_⟩
  · have hlt := hq.1 hneg
    rw [pBin_sub (by omega), pBin_sub (by omega), show ((j + 1 : Nat) : Int) - 1 = (j : Nat) by omega]
    refine hrel.at hbd fun g1 hg1 => ?_
    refine hrel.at hat fun g2 hg2 => ?_
    simp only [expl] at hg1 hg2
    refine store_mk ho' hat hg1 fun s1 k1 o1 => ?_
    refine store_mk o1 (x := x) (j := j) (by rw [List.getElem?_set_ne (by omega)]; exact hbd) hg2 fun s2 k2 o2 => ?_
    rw [dn_swap hx] at o2
    rw [pBin_sub (by omega), show ((j + 1 : Nat) : Int) - 1 = (j : Nat) by omega]
    refine hL' _ _ j rfl ⟨j, rfl, by omega, (ks'.trans k1).trans k2, o2, fun z hz => ?_, rfl⟩
    have : T.drop j = x :: T.drop (j + 1) := by
      obtain ⟨h1, h2⟩ := List.getElem?_eq_some_iff.1 hx
      rw [List.drop_eq_getElem_cons h1, h2]
    rw [this] at hz
    rcases List.mem_cons.1 hz with e1 | e1
    · rw [e1]; exact hlt
    · exact hgt z e1
  · refine fin (j + 1) s' undef hj ks' ho' (take_no haT hx ?_) hgt
    cases c : lexLt e.1 x.1 with
    | false => rfl
    | true => exact absurd (hq.2 c) hno

set_option maxHeartbeats 1000000 in
theorem SortFunc_mk {σ0 : Vw} {F : List Nat} {v : Value} {ys : List Mk} {m : Mk} (ha : AscM ys) (hl : ys.length ≤ 11) (h : OSl w0 2 (OB RMk (Av.get w0 σ0)) σ F v (ys ++ [m])) (k0 : Keeps σ0 σ) (hF : ∀ b, b ∈ F → σ0 b = none) {R : Value → Vw → Prop}
    (hR : ∀ σ', KeepsBut F σ σ' → OSl w0 2 (OB RMk (Av.get w0 σ0)) σ' F v (insF m ys) → R (.tuple ⟨[]⟩) σ') :
    AC Tryz.prog w0 n_slices_SortFunc_impl_Mark_impl_Mark [v, .func (.func n_impl_add_c1) ⟨[]⟩ ⟨[]⟩] σ R := by
  refine ac_slices_SortFunc_impl_Mark_impl_Mark ?_
  unfold vc_slices_SortFunc_impl_Mark_impl_Mark
  have hlen : (ys ++ [m]).length = ys.length + 1 := by simp
  rw [(h.rel (ok_base rok_mk w0 _)).len, hlen, pConv_u64 (by omega)]
  refine ac_math_bits_Len ?_
  unfold vc_math_bits_Len
  have hb : AC Tryz.prog w0 n_math_bits_Len64 [.int .u64 ((ys.length + 1 : Nat) : Int)] σ (fun v s => s = σ ∧ ∃ q, v = .int .i64 q) := by
    refine AC.of_calls is_math_bits_Len64 fun w hw => ?_
    refine (Tryz.bits_Len64 ((ys.length + 1 : Nat) : Int) w (by omega) (by omega)).mono ?_
    rintro e w' ⟨rfl, rfl⟩
    exact ⟨_, rfl, ⟨rfl, _, rfl⟩, Go.RowKit.Below.refl _ _⟩
  refine hb.mono ?_
  rintro v2 s2 ⟨rfl, q, rfl⟩
  refine ac_slices_pdqsortCmpFunc_impl_Mark ?_
  unfold vc_slices_pdqsortCmpFunc_impl_Mark
  refine loop_rule (m := 0) (fun c l s => c = 0 ∧ s = s2 ∧ l = [v, .int .i64 0, .int .i64 ((ys.length + 1 : Nat) : Int), .int .i64 q, .func (.func n_impl_add_c1) ⟨[]⟩ ⟨[]⟩, .bool true, .bool true]) ?_ ⟨rfl, rfl, rfl⟩
  rintro c l s L ⟨rfl, rfl, rfl⟩ hL
  simp only [vget, List.getD_cons_zero, List.getD_cons_succ]
  refine (pBin_sub (by omega)).2 (pBin_le.2 (pIf_d.2 ⟨fun _ => ?_, fun hno => ?_⟩))
  · exact ins_sort ha (by omega) h k0 hF hR
  · exfalso; omega
end
end Go.Proofs.YtkbhjejalkbogaaGreat

/- How many paths there are in either of two parts; whether all that differs is marked; what a trail leads to: the pure part. -/
set_option linter.unusedVariables false
set_option linter.unusedSimpArgs false
set_option maxRecDepth 20000
namespace Go.Proofs.YtkbhjejalkbogaaGreat
open Go Go.Av

/-- How many paths there are in either of two parts, of which either may not be there. -/
noncomputable def unT : Nat → Option Tr → Option Tr → Nat
  | 0, _, _ => 0
  | _ + 1, none, none => 0
  | n + 1, none, some b => cntT (n + 1) b + 1
  | n + 1, some a, none => cntT (n + 1) a + 1
  | n + 1, some a, some b => 1 + sumBy (fun z : Pr => unT n z.2.1 z.2.2) (mrgK (partsOf a) (partsOf b))
def leadsB (ms : List Mk) (ps : List ByteArray) : Bool := ms.any fun m => within m.1 ps
/-- At how many paths one looks. -/
noncomputable def lookN : Nat → List Mk → List ByteArray → Option Tr → Option Tr → Nat
  | 0, _, _, _, _ => 0
  | _ + 1, _, _, none, none => 0
  | n + 1, _, _, none, some b => cntT (n + 1) b + 1
  | _ + 1, _, _, some _, none => 1
  | n + 1, ms, ps, some a, some b =>
    if isDir a = isDir b then
      if underB ms ps = true then unT (n + 1) (some a) (some b)
      else 1 + sumBy (fun z : Pr => if leadsB ms (ps ++ [z.1]) = true then lookN n ms (ps ++ [z.1]) z.2.1 z.2.2 else 0) (mrgK (partsOf a) (partsOf b))
    else cntT (n + 1) b + 1

end Go.Proofs.YtkbhjejalkbogaaGreat

/- The names of either of two parts, put in one by one; how many paths there are in either: by either hand. -/
set_option linter.unusedVariables false
set_option linter.unusedSimpArgs false
set_option maxRecDepth 20000
namespace Go.Proofs.YtkbhjejalkbogaaGreat
open Go Go.Av

section
variable {w0 : World} {σ : Vw}

end
end Go.Proofs.YtkbhjejalkbogaaGreat

/- Marks put in and made coarser by the reference's hand. -/
set_option linter.unusedVariables false
set_option linter.unusedSimpArgs false
namespace Go.Proofs.YtkbhjejalkbogaaGreat
open Go Go.Av

section
variable {w0 : World} {σ : Vw}

theorem push_mk {rd0 : Addr → Option Value} {F : List Nat} {v : Value} {xs : List Mk} {y : Mk} {a b : Value} (h : OAcc w0 t_impl_Mark 2 (OB RMk rd0) σ F v xs) (hy : RMk rd0 [a, b] y) (hl : xs.length ≤ 100000) {K : Value → Vw → Prop}
    (hK : ∀ v' F' σ', KeepsBut F σ σ' → OAcc w0 t_impl_Mark 2 (OB RMk rd0) σ' F' v' (xs ++ [y]) → (∀ i, i ∈ F' → i ∈ F ∨ σ i = none) → K v' σ') :
    pVal true 2 (.agg ⟨[a, b]⟩) (allOne [a, b] ∧ pAppend w0 t_impl_Mark 2 32 v 1 [a, b] σ K) := by
  have h1 := rok_mk.one _ _ _ hy
  rw [pVal_2 (h1 a (by simp)) (h1 b (by simp))]
  refine h.one (ok_base rok_mk w0 rd0) (f := []) ⟨rfl, hy⟩ (fun i hi => by cases hi) (by omega) (by omega) fun v' F' σ' k o f => hK v' F' σ' k o fun i hi => ?_
  rcases f i hi with e | e | e
  · exact .inl e
  · cases e
  · exact .inr e
theorem rebase {v : Value} {ms : List Mk} (h : RSl 2 RMk (Av.get w0 σ) v ms) : RSl 2 (RB RMk (Av.get w0 σ)) (Av.get w0 σ) v ms := h.imp fun es x hx => hx

/-- What is still to come of a list into which the mark is put. -/
def tlP (m : Mk) (done : Bool) (l : List Mk) : List Mk := if done = true then l.filter (keepM m) else insF m (l.filter (keepM m))
theorem tlP_skip {m x : Mk} {d : Bool} {l : List Mk} (h : keepM m x = false) : tlP m d (x :: l) = tlP m d l := by simp [tlP, List.filter_cons, h]
theorem tlP_here {m x : Mk} {l : List Mk} (h : keepM m x = true) (hl : lexLt m.1 x.1 = true) : tlP m false (x :: l) = m :: x :: tlP m true l := by simp [tlP, List.filter_cons, h, insF, hl]
theorem tlP_far {m x : Mk} {l : List Mk} (h : keepM m x = true) (hl : lexLt m.1 x.1 = false) : tlP m false (x :: l) = x :: tlP m false l := by simp [tlP, List.filter_cons, h, insF, hl]
theorem tlP_done {m x : Mk} {l : List Mk} (h : keepM m x = true) : tlP m true (x :: l) = x :: tlP m true l := by simp [tlP, List.filter_cons, h]

set_option maxHeartbeats 4000000 in
theorem spec_l11Put {v u : Value} {ms : List Mk} {p : List ByteArray} {b : Bool} (h : RSl 2 RMk (Av.get w0 σ) v ms) (hu : RSl 1 RS (Av.get w0 σ) u p) (hl : ms.length ≤ 10000) {R : Value → Vw → Prop}
    (hR : ∀ v' σ', Keeps σ σ' → RSl 2 RMk (Av.get w0 σ') v' (putM ms (p, b)) → R v' σ') : AC Tryz.prog w0 n_spec_l11Put [v, .agg ⟨[u, .bool b]⟩] σ R := by
  refine ac_spec_l11Put ?_
  unfold vc_spec_l11Put
  rw [pVal_2 hu.one rfl]
  simp only [cellOf_agg, List.getD_cons_zero, List.getD_cons_succ]
  have same : (underB ms p || (!b && markedB ms p)) = true → R v σ := fun hc => hR _ _ (Keeps.refl _) (by rw [putM, if_pos hc]; exact h)
  refine spec_l11Under h hu (pIf_b.2 ⟨fun e => same (by rw [e]; rfl), fun hun => ?_⟩)
  have hput : ¬ (underB ms p || (!b && markedB ms p)) = true → ∀ v' σ', Keeps σ σ' → RSl 2 RMk (Av.get w0 σ') v' (tlP (p, b) false ms) → R v' σ' := fun hc v' σ' k hv => hR v' σ' k (by rw [putM, if_neg hc]; exact hv)
  have hTl : (tlP (p, b) false ms).length ≤ ms.length + 1 := by simp only [tlP]; rw [if_neg (by simp), ins_len]; have := List.length_filter_le (keepM (p, b)) ms; omega
  generalize hT : tlP (p, b) false ms = T at *
  have hB := rebase h
  have okb := ok_base rok_mk w0 (Av.get w0 σ)
  rw [pUn_not, pIf_b]
  refine ⟨fun hsub => spec_l11Marked h hu (pIf_b.2 ⟨fun e => same (by rw [e, hsub]; simp), fun hma => ?_⟩), fun hsub => ?_⟩
  case' refine_1 => have hR := hput (by rw [hun, hma]; simp)
  case' refine_2 => have hR := hput (by rw [hun, hsub]; simp)
  all_goals
    intro bk h1 h2
    have kb : Keeps σ (σ.put bk ⟨t_impl_Mark, [], 0, (0, 0)⟩) := Keeps.put h2
    have hb0 : ∀ i, i ∈ [bk] → σ i = none := fun i hi => by rw [List.mem_singleton.1 hi]; exact h2
    refine loop_rule (m := ms.length) (fun m l s => ∃ (j : Nat) (v' : Value) (F : List Nat) (done : Bool) (out : List Mk), m + j = ms.length ∧ Keeps σ s ∧ OAcc w0 t_impl_Mark 2 (OB RMk (Av.get w0 σ)) s F v' out ∧ (∀ i, i ∈ F → σ i = none) ∧
        out ++ tlP (p, b) done (ms.drop j) = T ∧ l = [v, v', .bool done, .int .i64 (j : Nat), u, .bool b]) ?_
      ⟨0, _, [bk], false, [], by omega, kb, OAcc.new h1, hb0, by simpa using hT, rfl⟩
    rintro m l s L ⟨j, v', F, done, out, hm, ks, ho, hF, hout, rfl⟩ hL
    simp only [vget, List.getD_cons_zero, List.getD_cons_succ]
    have hs := hB.mono ks.le fun _ _ h => h
    have hus := hu.mono ks.le fun _ _ h => h
    have hme : RMk (Av.get w0 σ) [u, .bool b] (p, b) := ⟨u, rfl, hu⟩
    have hol : out.length ≤ 10001 := by
      have := congrArg List.length hout
      simp only [List.length_append] at this; omega
    have olds : ∀ {F' : List Nat}, (∀ i, i ∈ F' → i ∈ F ∨ s i = none) → ∀ i, i ∈ F' → σ i = none := fun f i hi => by
      rcases f i hi with e | e
      · exact hF i e
      · exact none_at ks e
    rw [hs.len, pBin_lt, pIf_d]
    refine ⟨fun hi => ?_, fun hi => ?_⟩
    · have hx := List.getElem?_eq_getElem (show j < ms.length by omega)
      have hdrop : ms.drop j = ms[j]'(by omega) :: ms.drop (j + 1) := List.drop_eq_getElem_cons (by omega)
      generalize ms[j]'(by omega) = x at hx hdrop
      rw [hdrop] at hout
      refine hs.at hx fun g hg => ?_
      simp only [expl] at hg
      have hg : RMk (Av.get w0 σ) [g 0, g 1] x := hg
      have g1 := rok_mk.one _ _ _ hg
      rw [pVal_2 (g1 _ (by simp)) (g1 _ (by simp))]
      have hgp : RSl 1 RS (Av.get w0 s) (g 0) x.1 := by
        obtain ⟨u1, hu1, hv⟩ := hg
        simp only [List.cons.injEq, and_true] at hu1
        rw [hu1.1]; exact hv.mono ks.le fun _ _ h => h
      have hkeep : ∀ (hk : keepM (p, b) x = true), pUn .not (.bool done) (fun v17 => pIf v17 (AC Tryz.prog w0 n_spec_l11Less [u, g 0] s (fun v18 s19 => pIf v18 (pVal true 2 (.agg (⟨[u, .bool b]⟩)) ((allOne [u, .bool b]) ∧ (pAppend w0 t_impl_Mark 2 32 v' 1 [u, .bool b] s19 (fun v20 s21 => pVal true 2 (.agg (⟨[g 0, g 1]⟩)) ((allOne [g 0, g 1]) ∧ (pAppend w0 t_impl_Mark 2 32 v20 1 [g 0, g 1] s21 (fun v22 s23 => pBin Tryz.prog 3 .add (.int .i64 (j : Nat)) (.int .i64 1) (fun v24 => L [v, v22, .bool true, v24, u, .bool b] s23)))))))) (pVal true 2 (.agg (⟨[g 0, g 1]⟩)) ((allOne [g 0, g 1]) ∧ (pAppend w0 t_impl_Mark 2 32 v' 1 [g 0, g 1] s19 (fun v25 s26 => pBin Tryz.prog 3 .add (.int .i64 (j : Nat)) (.int .i64 1) (fun v27 => L [v, v25, .bool done, v27, u, .bool b] s26)))))))
          (pVal true 2 (.agg (⟨[g 0, g 1]⟩)) ((allOne [g 0, g 1]) ∧ (pAppend w0 t_impl_Mark 2 32 v' 1 [g 0, g 1] s (fun v28 s29 => pBin Tryz.prog 3 .add (.int .i64 (j : Nat)) (.int .i64 1) (fun v30 => L [v, v28, .bool done, v30, u, .bool b] s29)))))) := fun hk => by
        have app : ∀ (d : Bool), out ++ x :: tlP (p, b) d (ms.drop (j + 1)) = T → pVal true 2 (.agg (⟨[g 0, g 1]⟩)) ((allOne [g 0, g 1]) ∧ (pAppend w0 t_impl_Mark 2 32 v' 1 [g 0, g 1] s (fun v28 s29 => pBin Tryz.prog 3 .add (.int .i64 (j : Nat)) (.int .i64 1) (fun v30 => L [v, v28, .bool d, v30, u, .bool b] s29)))) := fun d hd => by
          refine push_mk ho hg (by omega) fun v2 F2 s2 k2 o2 f2 => ?_
          rw [pBin_add (by omega)]
          exact hL _ _ (m - 1) (by omega) ⟨j + 1, v2, F2, d, _, by omega, k2.old ks hF, o2, olds f2, by simpa using hd, rfl⟩
        rw [pUn_not, pIf_b]
        refine ⟨fun hd => ?_, fun hd => ?_⟩
        · have hd : done = false := by simpa using hd
          subst hd
          refine spec_Less hus hgp (pIf_b.2 ⟨fun hlt => ?_, fun hlt => ?_⟩)
          · rw [tlP_here hk hlt] at hout
            refine push_mk ho hme (by omega) fun v2 F2 s2 k2 o2 f2 => ?_
            refine push_mk o2 hg (by simp; omega) fun v3 F3 s3 k3 o3 f3 => ?_
            rw [pBin_add (by omega)]
            have K2 := k2.old ks hF
            refine hL _ _ (m - 1) (by omega) ⟨j + 1, v3, F3, true, _, by omega, k3.old K2 (olds f2), o3, fun i hi => ?_, by simpa using hout, rfl⟩
            rcases f3 i hi with e | e
            · exact olds f2 i e
            · exact none_at K2 e
          · rw [tlP_far hk hlt] at hout
            exact app false hout
        · have hd : done = true := by simpa using hd
          subst hd
          rw [tlP_done hk] at hout
          exact app true hout
      rw [pIf_b]
      refine ⟨fun hb => ?_, fun hb => hkeep (by simp [keepM, hb])⟩
      refine spec_Within hgp hus (pIf_b.2 ⟨fun hw => ?_, fun hw => hkeep (by simp [keepM, hw])⟩)
      rw [pBin_add (by omega)]
      exact hL _ _ (m - 1) (by omega) ⟨j + 1, v', F, done, out, by omega, ks, ho, hF, by rw [tlP_skip (by simp [keepM, hb, hw])] at hout; exact hout, rfl⟩
    · have e : j = ms.length := by omega
      subst e
      rw [List.drop_length] at hout
      show pUn .not (.bool done) _
      rw [pUn_not, pIf_b]
      refine ⟨fun hd => ?_, fun hd => ?_⟩
      · have hd : done = false := by simpa using hd
        subst hd
        refine push_mk ho hme (by omega) fun v2 F2 s2 k2 o2 f2 => ?_
        have K2 := k2.old ks hF
        refine hR _ _ K2 ?_
        rw [show tlP (p, b) false [] = [(p, b)] from rfl] at hout
        rw [hout] at o2
        exact (o2.osl.rel okb).unbase rok_mk K2.le
      · have hd : done = true := by simpa using hd
        subst hd
        refine hR _ _ ks ?_
        rw [show tlP (p, b) true [] = [] from rfl, List.append_nil] at hout
        rw [hout] at ho
        exact (ho.osl.rel okb).unbase rok_mk ks.le
end
end Go.Proofs.YtkbhjejalkbogaaGreat

/- The trail to which a mark is added, by the reference's hand. -/
set_option linter.unusedVariables false
set_option linter.unusedSimpArgs false
namespace Go.Proofs.YtkbhjejalkbogaaGreat
open Go Go.Av

/-- What an addition gives. -/
def AddR (ms : List Mk) (x : Mk) (r : List Mk) : Prop :=
  (trailOk ms = false ∧ r = []) ∨ (trailOk ms = true ∧ markOkB x = false ∧ r = ms) ∨ (trailOk ms = true ∧ markOkB x = true ∧ r.length ≤ 6 ∧ Lp (putM ms x) r)
theorem AddR.det {ms r r' : List Mk} {x : Mk} (h : AddR ms x r) (h' : AddR ms x r') : r = r' := by
  rcases h with ⟨h1, h2⟩ | ⟨h1, h2, h3⟩ | ⟨h1, h2, _, h3⟩ <;> rcases h' with ⟨k1, k2⟩ | ⟨k1, k2, k3⟩ | ⟨k1, k2, _, k3⟩ <;> first | exact h3.det k3 | simp_all
theorem markOk_len {x : Mk} (h : markOkB x = true) : x.1.length ≤ 4 := by
  unfold markOkB at h
  split at h
  · rename_i e; rw [e]; simp
  · simp only [Bool.and_eq_true, inB, decide_eq_true_iff] at h
    omega
theorem coarse_small {ms : List Mk} {n : Nat} (hne : ms ≠ []) (h : ∀ m, m ∈ ms → m.1.length ≤ n) : ∀ m, m ∈ coarseM ms → m.1.length ≤ n := fun m hm => by
  rcases put_mem hm with e | e
  · rw [e]
    have := h _ (List.mem_of_getElem? (best_at hne))
    simp only [upM, List.length_take]; omega
  · exact h m e
theorem Lp.small {ms r : List Mk} {n : Nat} (hl : Lp ms r) (h : ∀ m, m ∈ ms → m.1.length ≤ n) : ∀ m, m ∈ r → m.1.length ≤ n := by
  induction hl with
  | stop _ => exact h
  | step k _ ih => exact ih (coarse_small (fun e => by simp [e] at k) h)
theorem AddR.small {ms r : List Mk} {x : Mk} (h : AddR ms x r) : r.length ≤ 6 ∧ ∀ m, m ∈ r → m.1.length ≤ 4 := by
  rcases h with ⟨h1, rfl⟩ | ⟨h1, h2, rfl⟩ | ⟨h1, h2, h3, h4⟩
  · simp
  · have := trail_TrP h1
    exact ⟨this.2.1, fun m hm => markOk_len (this.2.2 m hm)⟩
  · have := trail_TrP h1
    refine ⟨h3, h4.small fun m hm => ?_⟩
    rcases put_mem hm with e | e
    · rw [e]; exact markOk_len h2
    · exact markOk_len (this.2.2 m e)

section
variable {w0 : World} {σ : Vw}

theorem lenAt_some {l : List Mk} {j : Nat} {x : Mk} (h : l[j]? = some x) : lenAt l j = x.1.length := by simp [lenAt, h]
theorem bestTo_step {l : List Mk} {j : Nat} {x y : Mk} (hx : l[j]? = some x) (hy : l[bestTo l j]? = some y) : bestTo l (j + 1) = if y.1.length ≤ x.1.length then j else bestTo l j := by
  simp only [bestTo, lenAt_some hx, lenAt_some hy]

theorem spec_copyM {v : Value} {ms : List Mk} (h : RSl 2 RMk (Av.get w0 σ) v ms) (hl : ms.length ≤ 1000000) (hp : ∀ m, m ∈ ms → m.1.length ≤ 1000000) {R : Value → Vw → Prop}
    (hR : ∀ v' F σ', Keeps σ σ' → OAcc w0 t_impl_Mark 2 (OMk w0) σ' F v' ms → (∀ b, b ∈ F → σ b = none) → R v' σ') : AC Tryz.prog w0 n_spec_l11Copy [v] σ R := by
  refine ac_spec_l11Copy ?_
  unfold vc_spec_l11Copy
  intro b h1 h2
  have kb : Keeps σ (σ.put b ⟨t_impl_Mark, [], 0, (0, 0)⟩) := Keeps.put h2
  have hb0 : ∀ i, i ∈ [b] → σ i = none := fun i hi => by rw [List.mem_singleton.1 hi]; exact h2
  refine loop_rule (m := ms.length) (fun m l s => ∃ (j : Nat) (v' : Value) (F : List Nat), m + j = ms.length ∧ Keeps σ s ∧ OAcc w0 t_impl_Mark 2 (OMk w0) s F v' (ms.take j) ∧ (∀ i, i ∈ F → σ i = none) ∧ l = [v, v', .int .i64 (j : Nat)]) ?_
    ⟨0, _, [b], by omega, kb, OAcc.new h1, hb0, rfl⟩
  rintro m l s L ⟨j, v', F, hm, ks, ho, hF, rfl⟩ hL
  simp only [vget, List.getD_cons_zero, List.getD_cons_succ]
  have h' := h.mono ks.le fun es x => mono_mk ks.le
  rw [h'.len, pBin_lt, pIf_d]
  refine ⟨fun hi => ?_, fun hi => ?_⟩
  · have hx := List.getElem?_eq_getElem (show j < ms.length by omega)
    generalize hxi : ms[j]'(by omega) = y at hx
    have hyl := hp y (List.mem_of_getElem? hx)
    refine h'.atfp hx 0 (by omega) fun q0 es g hg0 hg => ?_
    obtain ⟨u, rfl, hu⟩ := hg0
    simp only [List.getElem?_cons_zero, List.getElem?_cons_succ, Option.some.injEq] at hg
    refine h'.atfp hx 1 (by omega) fun q1 es g' hg1 hg' => ?_
    obtain ⟨u', rfl, hu'⟩ := hg1
    simp only [List.getElem?_cons_zero, List.getElem?_cons_succ, Option.some.injEq] at hg'
    rw [← hg, ← hg']
    intro c h3 h4
    have kc : Keeps s (s.put c ⟨t_string, [], 0, (0, 0)⟩) := Keeps.put h4
    have hc0 : ∀ i, i ∈ [c] → s i = none := fun i hi => by rw [List.mem_singleton.1 hi]; exact h4
    refine ⟨kc.stay, kc.stay, ?_⟩
    refine (OAcc.new (w0 := w0) (σ := s) (ety := t_string) (n := 1) (O := OStr) h3).allX (ok_str w0) hu kc.le (fun es y hy => ⟨rfl, hy⟩) (by simp; omega) (by omega) fun u2 F1 s1 hext k1 o1 g1 => ⟨fun a g _ hc j hj => Ext.le hext _ _ (hc j hj), ?_⟩
    rw [List.nil_append] at o1
    have K1 := k1.old kc hc0
    have hF1 := fresh_in kc hc0 g1
    rw [pVal1 (OSl.one' o1.osl), pVal1 rfl, pVal_2 (OSl.one' o1.osl) rfl]
    have ho1 := ho.frame (ok_mk w0) (K1.but_at fun b hb => (ho.dom (ok_mk w0) b hb).2)
    refine ho1.one (ok_mk w0) (f := F1) (y := y) ⟨u2, rfl, o1.osl⟩ (fun i hi hi' => (ho.dom (ok_mk w0) i hi').2 (hF1 i hi)) (by rw [List.length_take]; omega) (by omega) fun v4 F4 s4 k4 o4 g4 => ?_
    rw [pBin_add (by omega)]
    have KS := ks.trans K1
    refine hL _ _ (m - 1) (by omega) ⟨j + 1, v4, F4, by omega, k4.old KS hF, ?_, fun i hi => ?_, by simp⟩
    · rw [List.take_add_one, hx]; exact o4
    · rcases g4 i hi with h | h | h
      · exact hF i h
      · exact none_at ks (hF1 i h)
      · exact none_at KS h
  · have e : j = ms.length := by omega
    subst e
    rw [List.take_length] at ho
    exact hR v' F s ks ho hF

set_option maxHeartbeats 1000000 in
theorem spec_l11Coarser {v : Value} {ms : List Mk} (h : RSl 2 RMk (Av.get w0 σ) v ms) (hl : ms.length ≤ 10000) (h2 : 2 ≤ ms.length) (ha : AscM ms) (hp : ∀ m, m ∈ ms → m.1.length ≤ 1000000) {R : Value → Vw → Prop}
    (hR : ∀ v' σ', Keeps σ σ' → RSl 2 RMk (Av.get w0 σ') v' (coarseM ms) → R v' σ') : AC Tryz.prog w0 n_spec_l11Coarser [v] σ R := by
  refine ac_spec_l11Coarser ?_
  unfold vc_spec_l11Coarser
  have hne : ms ≠ [] := fun e => by simp [e] at h2
  refine loop_rule (m := ms.length) (fun m l t => ∃ j, t = σ ∧ m + j = ms.length + 1 ∧ 1 ≤ j ∧ j ≤ ms.length ∧ l = [v, .int .i64 (bestTo ms j : Nat), .int .i64 (j : Nat)]) ?_ ⟨1, rfl, rfl, by omega, by omega, by rw [best_one]; rfl⟩
  rintro m l t L ⟨j, rfl, hm, hj1, hj2, rfl⟩ hL
  simp only [vget, List.getD_cons_zero, List.getD_cons_succ]
  rw [h.len, pBin_lt, pIf_d]
  have hbl := best_lt (k := j) hne (by omega)
  refine ⟨fun hj => ?_, fun hj => ?_⟩
  · have hx := List.getElem?_eq_getElem (show j < ms.length by omega)
    have hy := List.getElem?_eq_getElem hbl
    generalize ms[j]'(by omega) = x at hx
    generalize ms[bestTo ms j] = y at hy
    have hst := bestTo_step hx hy
    refine RSl.fld h hx (by omega) fun g1 es hes he => ?_
    obtain ⟨u1, rfl, hu1⟩ := hes
    simp at he
    rw [← he, hu1.len]
    refine RSl.fld h hy (by omega) fun g2 es hes he => ?_
    obtain ⟨u2, rfl, hu2⟩ := hes
    simp at he
    rw [← he, hu2.len, pBin_ge, pIf_d]
    refine ⟨fun hge => ?_, fun hlt => ?_⟩
    · rw [pBin_add (by omega)]
      refine hL _ _ (m - 1) (by omega) ⟨j + 1, rfl, by omega, by omega, by omega, ?_⟩
      rw [hst, if_pos (by omega)]; rfl
    · rw [pBin_add (by omega)]
      refine hL _ _ (m - 1) (by omega) ⟨j + 1, rfl, by omega, by omega, by omega, ?_⟩
      rw [hst, if_neg (by omega)]; rfl
  · have e : j = ms.length := by omega
    subst e
    have hb := best_at hne
    have hpos := best_pos ha h2
    have hpl := hp _ (List.mem_of_getElem? hb)
    refine RSl.fld h hb (by omega) fun g1 es hes he => ?_
    obtain ⟨u1, rfl, hu1⟩ := hes
    simp at he
    rw [← he]
    intro c h3 h4
    have kc : Keeps t (t.put c ⟨t_string, [], 0, (0, 0)⟩) := Keeps.put h4
    have hc0 : ∀ i, i ∈ [c] → t i = none := fun i hi => by rw [List.mem_singleton.1 hi]; exact h4
    rw [hu1.len, pBin_sub (by omega), show (((bestM ms).1.length : Nat) : Int) - 1 = (((bestM ms).1.length - 1 : Nat) : Int) by omega]
    refine RSl.take hu1 (by omega) fun v' hv' => ?_
    refine (OAcc.new (w0 := w0) (σ := t) (ety := t_string) (n := 1) (O := OStr) h3).all (ok_str w0) hv' kc.le (fun es y hy => ⟨rfl, hy⟩) (by simp; omega) (by omega) fun u' F1 s1 k1 o1 g1 => ?_
    rw [List.nil_append] at o1
    have K1 := k1.old kc hc0
    rw [pVal1 (OSl.one' o1.osl), pVal1 rfl]
    exact spec_l11Put (h.mono K1.le fun es x => mono_mk K1.le) (o1.osl.rel (ok_str w0)) hl fun v2 s2 k2 r2 => hR v2 s2 (K1.trans k2) r2

theorem spec_TrailAdd {v : Value} {ms : List Mk} {es : List Value} {x : Mk} (h : RSl 2 RMk (Av.get w0 σ) v ms) (hx : RMk (Av.get w0 σ) es x) {R : Value → Vw → Prop}
    (hR : ∀ r, AddR ms x r → OutM w0 σ r R) : AC Tryz.prog w0 n_spec_TrailAdd [v, .agg ⟨es⟩] σ R := by
  refine ac_spec_TrailAdd ?_
  unfold vc_spec_TrailAdd
  have hx0 := hx
  obtain ⟨u, rfl, hu⟩ := hx
  rw [pVal_2 hu.one rfl]
  simp only [cellOf_agg, List.getD_cons_zero, List.getD_cons_succ]
  refine spec_TrailOk h ?_
  rw [pUn_not, pIf_b]
  refine ⟨fun e => marks_none (hR [] (.inl ⟨by simpa using e, rfl⟩)), fun e => ?_⟩
  have hok : trailOk ms = true := by simpa using e
  obtain ⟨ht, hl, hmk⟩ := trail_TrP hok
  refine spec_copyM h (by omega) (fun m hm => by have := markOk_len (hmk m hm); omega) fun v1 F1 s1 k1 o1 f1 => ?_
  have r1 := o1.osl.rel (ok_mk w0)
  refine spec_MarkOk (mono_mk k1.le hx0) ?_
  rw [pUn_not, pIf_b]
  refine ⟨fun e => hR ms (.inr (.inl ⟨hok, by simpa using e, rfl⟩)) _ _ _ k1 o1.osl f1, fun e => ?_⟩
  have hme : markOkB x = true := by simpa using e
  have hxl := markOk_len hme
  refine spec_l11Put (p := x.1) (b := x.2) r1 (hu.mono k1.le fun _ _ h => h) (by omega) fun v2 s2 k2 r2 => ?_
  have hpl := put_len (l := ms) (m := x)
  refine loop_rule (m := sumP (putM ms x)) (fun c l s => ∃ (v' : Value) (L : List Mk), sumP L ≤ c ∧ Keeps σ s ∧ TrP L ∧ L.length ≤ 10000 ∧ (∀ m, m ∈ L → m.1.length ≤ 4) ∧ (∀ r, Lp L r → Lp (putM ms x) r) ∧ RSl 2 RMk (Av.get w0 s) v' L ∧ l = [v']) ?_
    ⟨v2, _, Nat.le_refl _, k1.trans k2, ht.put, by omega, fun m hm => by
      rcases put_mem hm with e | e
      · rw [e]; exact hxl
      · exact markOk_len (hmk m e), fun r hr => hr, r2, rfl⟩
  rintro c l s L' ⟨v', L, hc, ks, htL, hlL, hpL, hst, hr, rfl⟩ hL
  simp only [vget, List.getD_cons_zero, List.getD_cons_succ]
  rw [hr.len, pBin_gt, pIf_d]
  refine ⟨fun h6 => ?_, fun h6 => ?_⟩
  · have hlt := coarse_sum htL (by omega)
    have hne : L ≠ [] := fun e => by simp [e] at h6
    refine spec_l11Coarser hr hlL (by omega) htL.1 (fun m hm => by have := hpL m hm; omega) fun v3 s3 k3 r3 => ?_
    refine hL _ _ (c - 1) (by omega) ⟨v3, coarseM L, by omega, ks.trans k3, htL.put, ?_, coarse_small hne hpL, fun r hr => hst r (.step (by omega) hr), r3, rfl⟩
    rw [coarse_eq htL (by omega)]
    have := put_len (l := delBest L) (m := upM (bestM L))
    have := del_len hne
    omega
  · show AC Tryz.prog w0 n_spec_l11Copy [v'] s _
    refine spec_copyM hr (by omega) (fun m hm => by have := hpL m hm; omega) fun v4 F4 s4 k4 o4 f4 => ?_
    exact hR L (.inr (.inr ⟨hok, hme, by omega, hst L (.stop (by omega))⟩)) _ _ _ (ks.trans k4) o4.osl fun b hb => none_at ks (f4 b hb)
end
end Go.Proofs.YtkbhjejalkbogaaGreat

/- The trail to which a mark is added, by the program's hand. -/
set_option linter.unusedVariables false
set_option linter.unusedSimpArgs false
namespace Go.Proofs.YtkbhjejalkbogaaGreat
open Go Go.Av

section
variable {w0 : World} {σ : Vw}

theorem del_mk {rd0 : Addr → Option Value} {F : List Nat} {v : Value} {xs : List Mk} {j : Nat} (h : OSl w0 2 (OB RMk rd0) σ F v xs) (hj : j < xs.length) {R : Value → Vw → Prop}
    (hR : ∀ v' σ', KeepsBut F σ σ' → RSl 2 (RB RMk rd0) (Av.get w0 σ') v' (xs.take j ++ xs.drop (j + 1)) → R v' σ') : AC Tryz.prog w0 n_slices_Delete_impl_Mark_impl_Mark [v, .int .i64 (j : Nat), .int .i64 ((j : Int) + 1)] σ R := by
  refine ac_slices_Delete_impl_Mark_impl_Mark ?_
  unfold vc_slices_Delete_impl_Mark_impl_Mark
  show VDel Tryz.prog w0 3 t_impl_Mark 2 32 [.slice none 0 0, .bool false] v (.int .i64 (j : Nat)) (.int .i64 ((j : Int) + 1)) σ R
  exact h.del (ok_base rok_mk w0 rd0) (fun s s' f es y ho => ⟨ho.1, ho⟩) rfl (by intro c hc; simp at hc; rcases hc with rfl | rfl <;> rfl) (by omega) hj hR

set_option maxHeartbeats 8000000 in
theorem impl_add : ∀ (N : Nat) {σ0 σ : Vw} {v u : Value} {ms : List Mk} {p : List ByteArray} {b : Bool}, sumP ms + p.length < N → RSl 2 (RB RMk (Av.get w0 σ0)) (Av.get w0 σ) v ms → RSl 1 RS (Av.get w0 σ0) u p → Keeps σ0 σ → TrP ms → ms.length ≤ 6 → (∀ m, m ∈ ms → m.1.length ≤ 1000000) → p.length ≤ 1000000 →
    ∀ {R : Value → Vw → Prop}, (∀ v' σ' r, Keeps σ σ' → Lp (putM ms (p, b)) r → r.length ≤ 6 → RSl 2 (RB RMk (Av.get w0 σ0)) (Av.get w0 σ') v' r → R v' σ') → AC Tryz.prog w0 n_impl_add [v, .agg ⟨[u, .bool b]⟩] σ R
  | 0, _, _, _, _, _, _, _, hN, _, _, _, _, _, _, _, _, _ => by omega
  | N + 1, σ0, σ, v, u, ms, p, b, hN, hB, hu0, k0, ht, hl, hpm, hpp, R, hR => by
    refine ac_impl_add ?_
    unfold vc_impl_add
    have hu := hu0.mono k0.le fun _ _ h => h
    have h := hB.unbase rok_mk k0.le
    rw [pVal_2 hu.one rfl]
    simp only [cellOf_agg, List.getD_cons_zero, List.getD_cons_succ]
    have same : ∀ s, Keeps σ s → (underB ms p || (!b && markedB ms p)) = true → R v s := fun s ks hc => hR _ _ ms ks (by rw [putM, if_pos hc]; exact .stop hl) hl (hB.mono ks.le fun _ _ h => h)
    refine impl_under h hu (pIf_b.2 ⟨fun e => same _ (Keeps.refl _) (by rw [e]; rfl), fun hun => ?_⟩)
    have okb := ok_base rok_mk w0 (Av.get w0 σ0)
    have hme : RMk (Av.get w0 σ0) [u, .bool b] (p, b) := ⟨u, rfl, hu0⟩
    have hput : ¬ (underB ms p || (!b && markedB ms p)) = true → putM ms (p, b) = insF (p, b) (ms.filter (keepM (p, b))) := fun hc => if_neg hc
    have hfl := List.length_filter_le (keepM (p, b)) ms
    have htp : TrP (putM ms (p, b)) := ht.put
    have hps := put_sum (l := ms) (m := (p, b))
    have hpl := put_len (l := ms) (m := (p, b))
    have hpb : ∀ m, m ∈ putM ms (p, b) → m.1.length ≤ 1000000 := fun m hm => by
      rcases put_mem hm with e | e
      · rw [e]; exact hpp
      · exact hpm m e
    rw [pUn_not, pIf_b]
    refine ⟨fun hsub => impl_marked h hu fun s1 k1 => pIf_b.2 ⟨fun e => same _ k1 (by rw [e, hsub]; simp), fun hma => ?_⟩, fun hsub => ?_⟩
    case' refine_1 => have hput := hput (by rw [hun, hma]; simp)
    case' refine_2 =>
      have hput := hput (by rw [hun, hsub]; simp)
      obtain ⟨s1, k1, hs1⟩ : ∃ s1, Keeps σ s1 ∧ σ = s1 := ⟨σ, Keeps.refl σ, rfl⟩
      rw [hs1]
    all_goals
      intro bk h1 h2
      have kb : Keeps s1 (s1.put bk ⟨t_impl_Mark, [], 0, (0, 0)⟩) := Keeps.put h2
      have hb0 : ∀ i, i ∈ [bk] → σ i = none := fun i hi => by rw [List.mem_singleton.1 hi]; exact none_at k1 h2
      rw [h.len]
      refine loop_rule (m := ms.length) (fun m l s => ∃ (j : Nat) (v' : Value) (F : List Nat), m + j = ms.length ∧ Keeps σ s ∧ OAcc w0 t_impl_Mark 2 (OB RMk (Av.get w0 σ0)) s F v' ((ms.take j).filter (keepM (p, b))) ∧ (∀ i, i ∈ F → σ i = none) ∧
          l = [v', v, .int .i64 (ms.length : Nat), .int .i64 (j : Nat), u, .bool b]) ?_
        ⟨0, _, [bk], by omega, k1.trans kb, OAcc.new h1, hb0, rfl⟩
      rintro m l s L ⟨j, v', F, hm, ks, ho, hF, rfl⟩ hL
      simp only [vget, List.getD_cons_zero, List.getD_cons_succ]
      have hs := hB.mono ks.le fun _ _ h => h
      have hus := hu.mono ks.le fun _ _ h => h
      have olds : ∀ {F' : List Nat}, (∀ i, i ∈ F' → i ∈ F ∨ s i = none) → ∀ i, i ∈ F' → σ i = none := fun f i hi => by
        rcases f i hi with e | e
        · exact hF i e
        · exact none_at ks e
      have hol : ((ms.take j).filter (keepM (p, b))).length ≤ 6 := by
        have := List.length_filter_le (keepM (p, b)) (ms.take j)
        rw [List.length_take] at this; omega
      rw [pBin_lt, pIf_d]
      refine ⟨fun hi => ?_, fun hi => ?_⟩
      · have hx := List.getElem?_eq_getElem (show j < ms.length by omega)
        generalize ms[j]'(by omega) = x at hx
        refine hs.at hx fun g hg => ?_
        simp only [expl] at hg
        have hg : RMk (Av.get w0 σ0) [g 0, g 1] x := hg
        have g1 := rok_mk.one _ _ _ hg
        rw [pVal_2 (g1 _ (by simp)) (g1 _ (by simp))]
        have hgp : RSl 1 RS (Av.get w0 s) (g 0) x.1 := by
          obtain ⟨u1, hu1, hv⟩ := hg
          simp only [List.cons.injEq, and_true] at hu1
          rw [hu1.1]; exact hv.mono (k0.trans ks).le fun _ _ h => h
        have app : keepM (p, b) x = true → pVal true 2 (.agg (⟨[g 0, g 1]⟩)) ((allOne [g 0, g 1]) ∧ (pAppend w0 t_impl_Mark 2 32 v' 1 [g 0, g 1] s (fun v15 s16 => pBin Tryz.prog 3 .add (.int .i64 (j : Nat)) (.int .i64 1) (fun v17 => L [v15, v, .int .i64 (ms.length : Nat), v17, u, .bool b] s16)))) := fun hk => by
          refine push_mk ho hg (by omega) fun v2 F2 s2 k2 o2 f2 => ?_
          rw [pBin_add (by omega)]
          refine hL _ _ (m - 1) (by omega) ⟨j + 1, v2, F2, by omega, k2.old ks hF, ?_, olds f2, rfl⟩
          rw [List.take_add_one, hx]
          simp only [Option.toList_some, List.filter_append, List.filter_cons, hk, List.filter_nil, if_true]
          exact o2
        rw [pUn_not, pIf_b]
        refine ⟨fun hb => app (by simp at hb; simp [keepM, hb]), fun hb => ?_⟩
        have hb : b = true := by simpa using hb
        refine impl_begins hgp hus ?_
        rw [pUn_not, pIf_b]
        refine ⟨fun hw => app (by simp at hw; simp [keepM, hw]), fun hw => ?_⟩
        have hw : within x.1 p = true := by simpa using hw
        rw [pBin_add (by omega)]
        refine hL _ _ (m - 1) (by omega) ⟨j + 1, v', F, by omega, ks, ?_, hF, rfl⟩
        rw [List.take_add_one, hx]
        simp only [Option.toList_some, List.filter_append, List.filter_cons, List.filter_nil]
        rw [if_neg (by simp [keepM, hb, hw]), List.append_nil]
        exact ho
      · have e : j = ms.length := by omega
        subst e
        rw [List.take_length] at ho hol
        show pVal true 2 (.agg ⟨[u, .bool b]⟩) _
        refine push_mk ho hme (by omega) fun v28 F28 s29 k28 o28 f28 => ?_
        have K29 := k28.old ks hF
        have hF28 := olds f28
        refine SortFunc_mk (ht.1.sublist List.filter_sublist) (by omega) o28.osl (k0.trans K29) (fun i hi => none_at k0 (hF28 i hi)) fun s31 k31 o31 => ?_
        have K31 := k31.old K29 hF28
        rw [← hput] at o31
        generalize hT : putM ms (p, b) = T at *
        have hrel := o31.rel okb
        refine loop_rule (m := 1) (fun c l s => (c = 1 ∧ s = s31 ∧ l = [v28]) ∨ (c = 0 ∧ ∃ (v' : Value) (r : List Mk), Keeps σ s ∧ Lp T r ∧ r.length ≤ 6 ∧ RSl 2 (RB RMk (Av.get w0 σ0)) (Av.get w0 s) v' r ∧ l = [v'])) ?_ (.inl ⟨rfl, rfl, rfl⟩)
        rintro c l s L' hI hL'
        rcases hI with ⟨rfl, rfl, rfl⟩ | ⟨rfl, v', r, ks', hlp, hr6, hr, rfl⟩
        · simp only [vget, List.getD_cons_zero, List.getD_cons_succ]
          rw [hrel.len, pBin_gt, pIf_d]
          refine ⟨fun h6 => ?_, fun h6 => hR v28 s T K31 (.stop (by omega)) (by omega) hrel⟩
          have hne : T ≠ [] := fun e => by simp [e] at h6
          rw [hrel.len]
          refine loop_rule (m := T.length) (fun c l t => ∃ k, t = s ∧ c + k = T.length ∧ l = [v28, .int .i64 (bestTo T k : Nat), v28, .int .i64 (T.length : Nat), .int .i64 (k : Nat)]) ?_ ⟨0, rfl, by omega, rfl⟩
          rintro c2 l2 t L2 ⟨k, rfl, hk, rfl⟩ hL2
          simp only [vget, List.getD_cons_zero, List.getD_cons_succ]
          rw [pBin_lt, pIf_d]
          refine ⟨fun hkl => ?_, fun hkl => ?_⟩
          · have hbl := best_lt (k := k) hne (by omega)
            have hx := List.getElem?_eq_getElem (show k < T.length by omega)
            have hy := List.getElem?_eq_getElem hbl
            generalize T[k]'(by omega) = x at hx
            generalize T[bestTo T k] = y at hy
            have hst := bestTo_step hx hy
            refine hrel.at hx fun g hg => ?_
            simp only [expl] at hg
            have hg : RMk (Av.get w0 σ0) [g 0, g 1] x := hg
            have g1 := rok_mk.one _ _ _ hg
            rw [pVal_2 (g1 _ (by simp)) (g1 _ (by simp))]
            obtain ⟨u1, hu1, hv1⟩ := hg
            simp only [List.cons.injEq, and_true] at hu1
            rw [hu1.1, hv1.len]
            refine RSl.fld hrel hy (by omega) fun g2 es hes he => ?_
            obtain ⟨u2, rfl, hu2⟩ := hes
            simp at he
            rw [← he, hu2.len, pBin_ge, pIf_d]
            refine ⟨fun hge => ?_, fun hlt => ?_⟩
            · rw [pBin_add (by omega)]
              refine hL2 _ _ (c2 - 1) (by omega) ⟨k + 1, rfl, by omega, ?_⟩
              rw [hst, if_pos (by omega)]; rfl
            · rw [pBin_add (by omega)]
              refine hL2 _ _ (c2 - 1) (by omega) ⟨k + 1, rfl, by omega, ?_⟩
              rw [hst, if_neg (by omega)]; rfl
          · have e : k = T.length := by omega
            subst e
            have hb := best_at hne
            have hpos := best_pos htp.1 (by omega)
            have hbl := best_lt (k := T.length) hne (Nat.le_refl _)
            have hbp := hpb _ (List.mem_of_getElem? hb)
            have hup := up_len hpos
            have hds := del_sum hne
            have hdl := del_len hne
            show pIndexAddr 2 v28 (.int .i64 (bestTo T T.length : Nat)) _
            refine RSl.fld hrel hb (by omega) fun g1 es hes he => ?_
            obtain ⟨u1, rfl, hu1⟩ := hes
            simp at he
            show pBin Tryz.prog 3 .add (.int .i64 (bestTo T T.length : Nat)) (.int .i64 1) _
            rw [pBin_add (by omega)]
            refine del_mk o31 hbl fun v59 s60 k60 r60 => ?_
            have K60 := k60.old K31 hF28
            rw [← he, hu1.len, pBin_sub (by omega), show (((bestM T).1.length : Nat) : Int) - 1 = (((bestM T).1.length - 1 : Nat) : Int) by omega]
            refine RSl.take (σ := σ0) hu1 (by omega) fun v63 hv63 => ?_
            rw [pVal1 hv63.one, pVal1 rfl]
            refine impl_add N (σ0 := σ0) (ms := delBest T) (p := (upM (bestM T)).1) (b := true) (by simp only at hps; omega) r60 hv63 (k0.trans K60) (htp.del hne) (by omega) (fun m hm => hpb m (del_mem m hm)) (by omega) fun v' s' r ks' hlp h6' hr => ?_
            refine hL' _ _ 0 rfl (.inr ⟨rfl, v', r, K60.trans ks', .step (by omega) ?_, h6', hr, rfl⟩)
            rw [coarse_eq htp (by omega)]; exact hlp
        · simp only [vget, List.getD_cons_zero, List.getD_cons_succ]
          rw [hr.len, pBin_gt, pIf_d]
          exact ⟨fun h6 => by omega, fun _ => hR v' s r ks' hlp hr6 hr⟩

theorem impl_TrailAdd {v : Value} {ms : List Mk} {es : List Value} {x : Mk} (h : RSl 2 RMk (Av.get w0 σ) v ms) (hx : RMk (Av.get w0 σ) es x) {R : Value → Vw → Prop}
    (hR : ∀ r, AddR ms x r → OutM w0 σ r R) : AC Tryz.prog w0 n_impl_TrailAdd [v, .agg ⟨es⟩] σ R := by
  refine ac_impl_TrailAdd ?_
  unfold vc_impl_TrailAdd
  have hx0 := hx
  obtain ⟨u, rfl, hu⟩ := hx
  rw [pVal_2 hu.one rfl]
  simp only [cellOf_agg, List.getD_cons_zero, List.getD_cons_succ]
  refine impl_TrailOk h ?_
  rw [pUn_not, pIf_b]
  refine ⟨fun e => marks_none (hR [] (.inl ⟨by simpa using e, rfl⟩)), fun e => ?_⟩
  have hok : trailOk ms = true := by simpa using e
  obtain ⟨ht, hl, hmk⟩ := trail_TrP hok
  have hp4 : ∀ m, m ∈ ms → m.1.length ≤ 1000000 := fun m hm => by have := markOk_len (hmk m hm); omega
  refine impl_markOk hx0 ?_
  rw [pUn_not, pIf_b]
  refine ⟨fun e => ?_, fun e => ?_⟩
  · refine impl_cloneMarks h (by omega) (fun m hm => by have := hp4 m hm; omega) fun v1 F1 s1 k1 o1 f1 => ?_
    exact hR ms (.inr (.inl ⟨hok, by simpa using e, rfl⟩)) _ _ _ k1 o1.osl f1
  have hme : markOkB x = true := by simpa using e
  have hxl := markOk_len hme
  refine impl_cloneMarks h (by omega) (fun m hm => by have := hp4 m hm; omega) fun v1 F1 s1 k1 o1 f1 => ?_
  have r1 := o1.osl.rel (ok_mk w0)
  refine impl_add (sumP ms + x.1.length + 1) (σ0 := s1) (p := x.1) (b := x.2) (by omega) (rebase r1) (hu.mono k1.le fun _ _ h => h) (Keeps.refl _) ht hl hp4 (by omega) fun v2 s2 r k2 hlp h6 hr => ?_
  have ha : AddR ms x r := .inr (.inr ⟨hok, hme, h6, hlp⟩)
  have hsm := ha.small.2
  refine impl_cloneMarks (hr.unbase rok_mk k2.le) (by omega) (fun m hm => by have := hsm m hm; omega) fun v3 F3 s3 k3 o3 f3 => ?_
  exact hR r ha _ _ _ ((k1.trans k2).trans k3) o3.osl fun b hb => none_at (k1.trans k2) (f3 b hb)
end
end Go.Proofs.YtkbhjejalkbogaaGreat

/- The law 'TrailAdd', of the functions alone. -/
set_option linter.unusedVariables false
set_option linter.unusedSimpArgs false
namespace Go.Proofs.YtkbhjejalkbogaaGreat
open Go Go.Av

section
variable {w0 : World} {σ : Vw}

end
end Go.Proofs.YtkbhjejalkbogaaGreat

/- How many paths there are in either of two parts, by the program's hand; 'TrailBelow' and its law. -/
set_option linter.unusedVariables false
set_option linter.unusedSimpArgs false
set_option maxRecDepth 20000
namespace Go.Proofs.YtkbhjejalkbogaaGreat
open Go Go.Av

section
variable {w0 : World} {σ : Vw}

end
end Go.Proofs.YtkbhjejalkbogaaGreat

/- Trails that are drawn: calls played with a trail, marks, trails. -/
set_option linter.unusedVariables false
set_option linter.unusedSimpArgs false
set_option maxRecDepth 20000
namespace Go.Proofs.YtkbhjejalkbogaaGreat
open Go Go.Av Go.RowKit

section
variable {w0 : World} {σ : Vw}

/-- A short trail. -/
def smallM (k : Nat) (ms : List Mk) : Prop := ms.length ≤ k ∧ ∀ m, m ∈ ms → m.1.length ≤ k
theorem smallM.more {k k' : Nat} {ms : List Mk} (h : smallM k ms) (hk : k ≤ k') : smallM k' ms := ⟨by have := h.1; omega, fun m hm => by have := h.2 m hm; omega⟩
theorem small_nil {k : Nat} : smallM k [] := ⟨by simp, fun m h => by cases h⟩
theorem nil_marks {rd : Addr → Option Value} {A : Option Addr} : RSl 2 RMk rd (.slice A 0 0) [] := ⟨A, 0, rfl, by simp, fun j x h => by simp at h⟩
theorem nil_path {rd : Addr → Option Value} {A : Option Addr} : RSl 1 RS rd (.slice A 0 0) [] := ⟨A, 0, rfl, by simp, fun j x h => by simp at h⟩
theorem small_of_ok {ms : List Mk} (h : trailOk ms = true) : smallM 6 ms := ⟨(trail_TrP h).2.1, fun m hm => by have := markOk_len ((trail_TrP h).2.2 m hm); omega⟩
theorem small_add {ms r : List Mk} {x : Mk} (h : AddR ms x r) : smallM 6 r := ⟨h.small.1, fun m hm => by have := h.small.2 m hm; omega⟩

/-- What a drawn trail is. -/
abbrev OutMR (w0 : World) (σ : Vw) (b p k : Nat) (R : Value → Vw → Prop) : Prop := ∀ v ms s, RD w0 s b p → Keeps (σ.del b) (s.del b) → RSl 2 RMk (Av.get w0 (s.del b)) v ms → smallM k ms → R v s
theorem TrailAdd_rd {b p : Nat} {es : List Value} {v : Value} {ms : List Mk} {x : Mk} (h : RD w0 σ b p) (hv : RSl 2 RMk (Av.get w0 (σ.del b)) v ms) (hx : RMk (Av.get w0 (σ.del b)) es x) {R : Value → Vw → Prop} (hR : OutMR w0 σ b p 6 R) : AC Tryz.prog w0 n_spec_TrailAdd [v, .agg ⟨es⟩] σ R :=
  h.hide (R := fun w s => Keeps (σ.del b) s ∧ ∃ ms', RSl 2 RMk (Av.get w0 s) w ms' ∧ smallM 6 ms')
    (spec_TrailAdd hv hx fun r hr w F s k o f => ⟨k, r, o.rel (ok_mk w0), small_add hr⟩)
    (fun w s k hrd ⟨_, r, r1, r2⟩ => hR w r s hrd k r1 r2) fun v s h => h.1

theorem spec_l13Mark {b p n : Nat} {es : List Value} {x : Tr} (h : RD w0 σ b p) (hp : p ≤ 900000) (ht : RT n (Av.get w0 (σ.del b)) es x) (hs : szT n x ≤ 1000000000) {R : Value → Vw → Prop} (hR : ∀ cs (m : Mk) s, RD w0 s b (p + 30) → Keeps (σ.del b) (s.del b) → RMk (Av.get w0 (s.del b)) cs m → m.1.length ≤ 4 → R (.agg ⟨cs⟩) s) : AC Tryz.prog w0 n_spec_l13Mark [ptr b, .agg ⟨es⟩] σ R := by
  have ht0 := ht
  obtain ⟨c0, c1, c2, c3, c4, rfl, hp5⟩ := ht.shape
  refine ac_spec_l13Mark ?_
  unfold vc_spec_l13Mark
  rw [hp5]
  simp only [cellOf_agg, List.getD_cons_zero, List.getD_cons_succ]
  refine spec_l4Path h (by omega) ht0 hs fun pv ps s1 hrd1 k1 hv hpl => ?_
  refine spec_pick (n := 4) hrd1 (by omega) (by omega) fun j s2 hj hrd2 hd2 _ => ?_
  have k2 : Keeps (s1.del b) (s2.del b) := by rw [hd2]; exact Keeps.refl _
  rw [pBin_eq, pVal1 hv.one, pVal1 rfl, pVal_2 hv.one rfl]
  refine spec_pick (n := 20) hrd2 (by omega) (by omega) fun j2 s3 hj2 hrd3 hd3 _ => ?_
  have k3 : Keeps (s2.del b) (s3.del b) := by rw [hd3]; exact Keeps.refl _
  have K3 := (k1.trans k2).trans k3
  rw [pBin_eq, pIf_d]
  refine ⟨fun _ => ?_, fun _ => ?_⟩
  · intro n1 g1 g2
    obtain ⟨hne, hrd4, kk⟩ := hrd3.new (r := ⟨t_string, [], 0, (0, 0)⟩) g2
    rw [pVal1 rfl, pVal_2 rfl rfl]
    exact hR _ ([], _) _ (hrd4.more (by omega)) (K3.trans kk) ⟨_, rfl, nil_path⟩ (by simp)
  rw [pBin_eq, pIf_d]
  refine ⟨fun _ => ?_, fun _ => ?_⟩
  · rw [pVal1 rfl, pVal1 rfl, pVal1 rfl]
    have hsz : ∀ x, x ∈ [(⟨#[]⟩ : ByteArray), ⟨#[65]⟩, ⟨#[97]⟩] → x.size ≤ 7 := by
      intro x hx
      simp at hx
      rcases hx with rfl | rfl | rfl <;> decide
    refine of_lit (xs := [(⟨#[]⟩ : ByteArray), ⟨#[65]⟩, ⟨#[97]⟩]) hrd3 (by omega) (by simp) (fun x hx => by have := hsz x hx; omega) rfl rfl fun x s4 hx hrd4 k4 => ?_
    have hxs := hsz x hx
    rw [pVal1 rfl]
    intro n1 g1 g2
    obtain ⟨hne, hrd5, kk⟩ := hrd4.new (r := ⟨t_string, [.string x], 1, (0, 0)⟩) g2
    rw [pVal1 rfl, pVal_2 rfl rfl]
    have hrow := row_strs (xs := [x]) (k := 1) (s := (s4.put n1 ⟨t_string, [.string x], 1, (0, 0)⟩).del b) g1 (by rw [del_ne hne]; exact put_at) (fun y hy => by rw [List.mem_singleton.1 hy]; omega) (by simp)
    exact hR _ ([x], _) _ (hrd5.more (by omega)) ((K3.trans k4).trans kk) ⟨_, rfl, hrow⟩ (by simp)
  · have hv3 := hv.mono (k2.trans k3).le fun _ _ h => h
    rw [pVal_2 hv.one rfl]
    exact hR _ (ps, _) s3 (hrd3.more (by omega)) K3 ⟨pv, rfl, hv3⟩ hpl.2

theorem spec_l13Trail {b p n : Nat} {es : List Value} {x : Tr} (h : RD w0 σ b p) (hp : p ≤ 800000) (ht : RT n (Av.get w0 (σ.del b)) es x) (hs : szT n x ≤ 1000000000) {R : Value → Vw → Prop} (hR : OutMR w0 σ b (p + 300) 6 R) : AC Tryz.prog w0 n_spec_l13Trail [ptr b, .agg ⟨es⟩] σ R := by
  have ht0 := ht
  obtain ⟨c0, c1, c2, c3, c4, rfl, hp5⟩ := ht.shape
  refine ac_spec_l13Trail ?_
  unfold vc_spec_l13Trail
  rw [hp5]
  simp only [cellOf_agg, List.getD_cons_zero, List.getD_cons_succ]
  intro n1 g1 g2
  obtain ⟨hne, hrd0, kk⟩ := h.new (r := ⟨t_impl_Mark, [], 0, (0, 0)⟩) g2
  refine spec_pick (n := 9) hrd0 (by omega) (by omega) fun k s1 hk hrd1 hd1 _ => ?_
  have k1 : Keeps ((σ.put n1 ⟨t_impl_Mark, [], 0, (0, 0)⟩).del b) (s1.del b) := by rw [hd1]; exact Keeps.refl _
  refine loop_rule (m := k) (fun m l s => ∃ (i q : Nat) (v : Value) (ms : List Mk), m = i ∧ i ≤ k ∧ q + 30 * i ≤ p + 1 + 30 * k ∧ RD w0 s b q ∧ Keeps (σ.del b) (s.del b) ∧ RSl 2 RMk (Av.get w0 (s.del b)) v ms ∧ smallM 6 ms ∧
      l = [ptr b, v, .int .i64 (i : Nat), c0, c1, c2, c3, c4]) ?_
    ⟨k, p + 1, _, [], rfl, Nat.le_refl _, Nat.le_refl _, hrd1, kk.trans k1, nil_marks, small_nil, rfl⟩
  rintro m l s L ⟨i, q, v, ms, rfl, hi, hq, hrd, ks, hv, hvs, rfl⟩ hL
  simp only [vget, List.getD_cons_zero, List.getD_cons_succ]
  rw [pBin_gt, pIf_d]
  refine ⟨fun hpos => ?_, fun _ => ?_⟩
  · refine spec_l13Mark hrd (by omega) (mono_rt _ _ _ _ _ ks.le ht0) hs fun cs mk s2 hrd2 k2 hmk hml => ?_
    refine TrailAdd_rd hrd2 (hv.mono k2.le fun _ _ => mono_mk k2.le) hmk fun v' ms' s3 hrd3 k3 hv' hvs' => ?_
    rw [pBin_sub (by omega)]
    exact hL _ _ (m - 1) (by omega) ⟨m - 1, q + 30, v', ms', rfl, by omega, by omega, hrd3, (ks.trans k2).trans k3, hv', hvs', by rw [show ((m : Nat) : Int) - 1 = ((m - 1 : Nat) : Int) by omega]⟩
  · exact hR v ms s (hrd.more (by omega)) ks hv hvs
end
end Go.Proofs.YtkbhjejalkbogaaGreat

/- Trails that are drawn and spoilt; what the laws on trails draw. -/
set_option linter.unusedVariables false
set_option linter.unusedSimpArgs false
set_option maxRecDepth 20000
namespace Go.Proofs.YtkbhjejalkbogaaGreat
open Go Go.Av Go.RowKit

section
variable {w0 : World} {σ : Vw}

/-- A mark whose path may grow. -/
def OMkA (w0 : World) (σ : Vw) (F : List Nat) (es : List Value) (m : Mk) : Prop := ∃ v, es = [v, .bool m.2] ∧ OAcc w0 t_string 1 OStr σ F v m.1
theorem OMkA.weak {F : List Nat} {es : List Value} {m : Mk} (h : OMkA w0 σ F es m) : OMk w0 σ F es m := by
  obtain ⟨v, e, o⟩ := h; exact ⟨v, e, o.osl⟩
theorem ok_mkA (w0 : World) : OOk w0 2 RMk (OMkA w0) := by
  refine ⟨?_, ?_, ?_, ?_, ?_, ?_⟩
  · rintro σ F es x h; exact (ok_mk w0).rel _ _ _ _ h.weak
  · rintro σ σ' F es x ⟨v, e, o⟩ hF; exact ⟨v, e, o.frame (ok_str w0) hF⟩
  · rintro σ F es x h; exact (ok_mk w0).dom _ _ _ _ h.weak
  · rintro σ F es x h; exact (ok_mk w0).nodup _ _ _ _ h.weak
  · rintro σ F es x h; exact (ok_mk w0).len _ _ _ _ h.weak
  · rintro σ F es x h; exact (ok_mk w0).one _ _ _ _ h.weak

theorem spec_copyMA {v : Value} {ms : List Mk} (h : RSl 2 RMk (Av.get w0 σ) v ms) (hl : ms.length ≤ 1000000) (hp : ∀ m, m ∈ ms → m.1.length ≤ 1000000) {R : Value → Vw → Prop}
    (hR : ∀ v' F σ', Keeps σ σ' → OAcc w0 t_impl_Mark 2 (OMkA w0) σ' F v' ms → (∀ b, b ∈ F → σ b = none) → R v' σ') : AC Tryz.prog w0 n_spec_l11Copy [v] σ R := by
  refine ac_spec_l11Copy ?_
  unfold vc_spec_l11Copy
  intro b h1 h2
  have kb : Keeps σ (σ.put b ⟨t_impl_Mark, [], 0, (0, 0)⟩) := Keeps.put h2
  have hb0 : ∀ i, i ∈ [b] → σ i = none := fun i hi => by rw [List.mem_singleton.1 hi]; exact h2
  refine loop_rule (m := ms.length) (fun m l s => ∃ (j : Nat) (v' : Value) (F : List Nat), m + j = ms.length ∧ Keeps σ s ∧ OAcc w0 t_impl_Mark 2 (OMkA w0) s F v' (ms.take j) ∧ (∀ i, i ∈ F → σ i = none) ∧ l = [v, v', .int .i64 (j : Nat)]) ?_
    ⟨0, _, [b], by omega, kb, OAcc.new h1, hb0, rfl⟩
  rintro m l s L ⟨j, v', F, hm, ks, ho, hF, rfl⟩ hL
  simp only [vget, List.getD_cons_zero, List.getD_cons_succ]
  have h' := h.mono ks.le fun es x => mono_mk ks.le
  rw [h'.len, pBin_lt, pIf_d]
  refine ⟨fun hi => ?_, fun hi => ?_⟩
  · have hx := List.getElem?_eq_getElem (show j < ms.length by omega)
    generalize hxi : ms[j]'(by omega) = y at hx
    have hyl := hp y (List.mem_of_getElem? hx)
    refine h'.atfp hx 0 (by omega) fun q0 es g hg0 hg => ?_
    obtain ⟨u, rfl, hu⟩ := hg0
    simp only [List.getElem?_cons_zero, List.getElem?_cons_succ, Option.some.injEq] at hg
    refine h'.atfp hx 1 (by omega) fun q1 es g' hg1 hg' => ?_
    obtain ⟨u', rfl, hu'⟩ := hg1
    simp only [List.getElem?_cons_zero, List.getElem?_cons_succ, Option.some.injEq] at hg'
    rw [← hg, ← hg']
    intro c h3 h4
    have kc : Keeps s (s.put c ⟨t_string, [], 0, (0, 0)⟩) := Keeps.put h4
    have hc0 : ∀ i, i ∈ [c] → s i = none := fun i hi => by rw [List.mem_singleton.1 hi]; exact h4
    refine ⟨kc.stay, kc.stay, ?_⟩
    refine (OAcc.new (w0 := w0) (σ := s) (ety := t_string) (n := 1) (O := OStr) h3).allX (ok_str w0) hu kc.le (fun es y hy => ⟨rfl, hy⟩) (by simp; omega) (by omega) fun u2 F1 s1 hext k1 o1 g1 => ⟨fun a g _ hc j hj => Ext.le hext _ _ (hc j hj), ?_⟩
    rw [List.nil_append] at o1
    have K1 := k1.old kc hc0
    have hF1 := fresh_in kc hc0 g1
    rw [pVal1 (OSl.one' o1.osl), pVal1 rfl, pVal_2 (OSl.one' o1.osl) rfl]
    have ho1 := ho.frame (ok_mkA w0) (K1.but_at fun b hb => (ho.dom (ok_mkA w0) b hb).2)
    refine ho1.one (ok_mkA w0) (f := F1) (y := y) ⟨u2, rfl, o1⟩ (fun i hi hi' => (ho.dom (ok_mkA w0) i hi').2 (hF1 i hi)) (by rw [List.length_take]; omega) (by omega) fun v4 F4 s4 k4 o4 g4 => ?_
    rw [pBin_add (by omega)]
    have KS := ks.trans K1
    refine hL _ _ (m - 1) (by omega) ⟨j + 1, v4, F4, by omega, k4.old KS hF, ?_, fun i hi => ?_, by simp⟩
    · rw [List.take_add_one, hx]; exact o4
    · rcases g4 i hi with h | h | h
      · exact hF i h
      · exact none_at ks (hF1 i h)
      · exact none_at KS h
  · have e : j = ms.length := by omega
    subst e
    rw [List.take_length] at ho
    exact hR v' F s ks ho hF

theorem stay_at {s s' : Vw} {b o n : Nat} (h : s' b = s b) : Stay w0 s s' (.pointer (some ⟨b, o, none⟩)) n := fun a g e hc j hj => by
  cases e
  have := hc j hj
  rw [addr_add] at this ⊢
  have e2 : Av.get w0 s' ⟨b, o + j, none⟩ = Av.get w0 s ⟨b, o + j, none⟩ := by simp [Av.get, h]
  rw [e2]; exact this

theorem field_ldp {b o off : Nat} {r : Row} {A c C : List Value} {y : Value} {K : Value → (Nat → Value) → Prop} (hb : w0.heap.size ≤ b) (hr : σ b = some r) (hc : r.cells = A ++ (c ++ C)) (hA : A.length = o) (hoff : c[off]? = some y)
    (hK : ∀ g : Nat → Value, g 0 = y → K (.pointer (some ⟨b, o + off, none⟩)) g) : pField off (.pointer (some ⟨b, o, none⟩)) fun q => pLoad w0 1 q σ (K q) := by
  rw [pField_s, addr_add]
  refine ⟨_, fun _ => y, rfl, fun j hj => ?_, hK _ rfl⟩
  have e : j = 0 := by omega
  subst e
  rw [addr_add, get_row hb hr, Nat.add_zero, hc, ← hA, List.getElem?_append_right (by omega), Nat.add_sub_cancel_left, List.getElem?_append_left (List.getElem?_eq_some_iff.1 hoff).1]
  exact hoff

/-- A mark in a list of our own: where it lies, and what the list is once it is written. -/
theorem mark_at {F : List Nat} {v : Value} {ms : List Mk} {k : Nat} {m : Mk} (h : OAcc w0 t_impl_Mark 2 (OMkA w0) σ F v ms) (hk : ms[k]? = some m) :
    ∃ (bl o : Nat) (f : List Nat) (u : Value) (r : Row) (A C : List Value), (∀ K : Value → Prop, K (.pointer (some ⟨bl, o, none⟩)) → pIndexAddr 2 v (.int .i64 (k : Nat)) K) ∧ w0.heap.size ≤ bl ∧ σ bl = some r ∧ r.cells = A ++ ([u, .bool m.2] ++ C) ∧ A.length = o ∧ OAcc w0 t_string 1 OStr σ f u m.1 ∧ bl ∈ F ∧ (∀ i, i ∈ f → i ∈ F ∧ i ≠ bl) ∧
      ∀ (σ' : Vw) (u' : Value) (d' : Bool) (p' : List ByteArray) (r' : Row), σ' bl = some r' → r'.cells = A ++ ([u', .bool d'] ++ C) → RSl 1 RS (Av.get w0 σ') u' p' → (∀ i, i ∈ F → i ≠ bl → i ∉ f → σ' i = σ i) → RSl 2 RMk (Av.get w0 σ') v (ms.set k (p', d')) := by
  obtain ⟨h1, h2, ⟨rfl, rfl, rfl⟩ | ⟨bl, cap, css, Fs, rfl, g2, g3, g4, g5, g6, rfl, g8⟩⟩ := h
  · simp at hk
  have hlt : k < ms.length := (List.getElem?_eq_some_iff.1 hk).1
  have hc := List.getElem?_eq_getElem (show k < css.length by omega)
  have hf := List.getElem?_eq_getElem (show k < Fs.length by omega)
  generalize css[k]'(by omega) = c at hc
  generalize Fs[k]'(by omega) = f at hf
  obtain ⟨u, rfl, ho⟩ := g8 k c m f hc hk hf
  have hnd := List.nodup_cons.1 h2
  have hcl : ∀ c, c ∈ css → c.length = 2 := fun c hc' => by
    obtain ⟨j, hj⟩ := List.getElem?_of_mem hc'
    have hjl := (List.getElem?_eq_some_iff.1 hj).1
    have := g8 j c _ _ hj (List.getElem?_eq_getElem (show j < ms.length by omega)) (List.getElem?_eq_getElem (show j < Fs.length by omega))
    obtain ⟨_, e, _⟩ := this
    rw [e]; rfl
  have hA : (css.take k).flatten.length = k * 2 := by
    rw [flat_len (n := 2) _ fun c hc' => hcl c (List.mem_of_mem_take hc'), List.length_take]
    congr 1; omega
  have hfF : ∀ i, i ∈ f → i ∈ Fs.flatten := fun i hi => List.mem_flatten.2 ⟨f, List.mem_of_getElem? hf, hi⟩
  refine ⟨bl, k * 2, f, u, _, (css.take k).flatten, (css.drop (k + 1)).flatten, fun K hK => ?_, g3, g4, split_at hc, hA, ho, List.mem_cons_self, fun i hi => ⟨List.mem_cons_of_mem _ (hfF i hi), fun e => hnd.1 (e ▸ hfF i hi)⟩, fun σ' u' d' p' r' hr' hcells hu' hfr => ?_⟩
  · refine ⟨⟨bl, 0, none⟩, ms.length, cap, .i64, (k : Nat), rfl, rfl, by omega, by omega, ?_⟩
    rw [addr_add, Int.toNat_natCast, Nat.zero_add]; exact hK
  · have hl : (ms.set k (p', d')).length = ms.length := List.length_set
    rw [← hl]
    refine RSl.own (cs := css.set k [u', .bool d']) (tail := []) g3 hr' ?_ (fun c hc' => ?_) (by rw [List.length_set, hl]; exact g5) (by rw [hl]; exact g2) fun j c x hj hx => ?_
    · rw [hcells, List.append_nil, split_at (l := css.set k [u', .bool d']) (j := k) (c := [u', .bool d']) (by rw [List.getElem?_set_self (by omega)]), List.take_set_of_le (Nat.le_refl _), List.drop_set_of_lt (by omega)]
    · rcases List.mem_or_eq_of_mem_set hc' with e | e
      · exact hcl c e
      · rw [e]; rfl
    · by_cases e : k = j
      · subst e
        rw [List.getElem?_set_self (by omega)] at hj hx
        cases hj; cases hx
        exact ⟨u', rfl, hu'⟩
      · rw [List.getElem?_set_ne e] at hj hx
        have hjl := (List.getElem?_eq_some_iff.1 hx).1
        have hfj := List.getElem?_eq_getElem (show j < Fs.length by omega)
        have hO := g8 j c x _ hj hx hfj
        have hmem : ∀ i, i ∈ Fs[j]'(by omega) → i ∈ Fs.flatten := fun i hi => List.mem_flatten.2 ⟨_, List.getElem_mem (by omega), hi⟩
        exact (ok_mkA w0).rel _ _ _ _ ((ok_mkA w0).frame _ σ' _ _ _ hO fun i hi => hfr i (List.mem_cons_of_mem _ (hmem i hi)) (fun e2 => hnd.1 (e2 ▸ hmem i hi)) (nodup_at hnd.2 hfj hf (fun e3 => e e3.symm) i hi))

/-- Marks in rows of our own, beside a reader. -/
def SM (w0 : World) (σ : Vw) (b q : Nat) (s : Vw) (v : Value) (ms : List Mk) : Prop := ∃ F, RD w0 s b q ∧ Keeps (σ.del b) (s.del b) ∧ (∀ i, i ∈ F → (σ.del b) i = none ∧ i ≠ b) ∧ OAcc w0 t_impl_Mark 2 (OMkA w0) s F v ms
theorem SM.next {b q q' : Nat} {s s' : Vw} {v : Value} {ms : List Mk} (h : SM w0 σ b q s v ms) (hrd : RD w0 s' b q') (k : Keeps (s.del b) (s'.del b)) : SM w0 σ b q' s' v ms := by
  obtain ⟨F, h1, h2, h3, h4⟩ := h
  refine ⟨F, hrd, h2.trans k, h3, h4.frame (ok_mkA w0) fun i hi => ?_⟩
  cases hs : s i with
  | none => exact absurd hs (h4.dom (ok_mkA w0) i hi).2
  | some r => exact keeps_out k (h3 i hi).2 hs
theorem SM.rd {b q : Nat} {s : Vw} {v : Value} {ms : List Mk} (h : SM w0 σ b q s v ms) : RD w0 s b q := by obtain ⟨F, h1, _⟩ := h; exact h1
theorem SM.read {b q : Nat} {s : Vw} {v : Value} {ms : List Mk} (h : SM w0 σ b q s v ms) : RSl 2 RMk (Av.get w0 (s.del b)) v ms := by
  obtain ⟨F, h1, h2, h3, h4⟩ := h
  exact (OAcc.osl (OAcc.frame (σ' := s.del b) (ok_mkA w0) h4 fun i hi => del_ne (h3 i hi).2)).rel (ok_mkA w0)
theorem SM.keeps {b q : Nat} {s : Vw} {v : Value} {ms : List Mk} (h : SM w0 σ b q s v ms) : Keeps (σ.del b) (s.del b) := by obtain ⟨F, h1, h2, _⟩ := h; exact h2

/-- Marks are added until there are too many. -/
def VMF (w0 : World) (a0 v0 : Value) (s1 : Vw) (R : Value → Vw → Prop) : Prop :=
  pLoop (fun l4 K5 s6 => pLen (vget l4 1) (fun v7 => AC Tryz.prog w0 n_p_spec_l1Rd_pick [vget l4 0, .int .i64 2] s6 (fun v8 s9 => pBin Tryz.prog 3 .add (.int .i64 6) v8 (fun v10 => pBin Tryz.prog 3 .lss v7 v10 (fun v11 => pIf v11 (pBin Tryz.prog 3 .add (.int .i64 100) (vget l4 2) (fun v12 => AC Tryz.prog w0 n_spec_l1Dec [v12] s9 (fun v13 s14 => pBin Tryz.prog t_string .add (.string ({ data := #[122] })) v13 (fun v15 => pVal false 1 v15 (pNew w0 t_string [v15] s14 (fun n16 s17 => pVal false 1 (.slice (some (Addr.mk n16 0 none)) 1 1) (pVal true 2 (.agg (⟨[.slice (some (Addr.mk n16 0 none)) 1 1, .bool false]⟩)) ((allOne [.slice (some (Addr.mk n16 0 none)) 1 1, .bool false]) ∧ (pAppend w0 t_impl_Mark 2 32 (vget l4 1) 1 [.slice (some (Addr.mk n16 0 none)) 1 1, .bool false] s17 (fun v18 s19 => pBin Tryz.prog 3 .add (vget l4 2) (.int .i64 1) (fun v20 => K5 AX.normal [vget l4 0, v18, v20] s19))))))))))) (K5 (AX.exit 0) [vget l4 0, vget l4 1, vget l4 2] s9)))))) [a0, v0, .int .i64 0] s1 (fun x21 l22 s23 => match x21 with | .normal => R (vget l22 1) s23 | .ret => False | .exit i24 => (match Nat.beq i24 0 with | true => R (vget l22 1) s23 | false => False))
theorem marks_fill {b q : Nat} {s : Vw} {v : Value} {ms : List Mk} (h : SM w0 σ b q s v ms) (hq : q ≤ 900000) (hs : smallM 6 ms) {R : Value → Vw → Prop} (hR : OutMR w0 σ b (q + 10) 8 R) : VMF w0 (ptr b) v s R := by
  unfold VMF
  refine loop_rule (m := 7) (fun m l st => ∃ (i q' : Nat) (v' : Value) (ms' : List Mk), m + i = 7 ∧ q' ≤ q + i ∧ i ≤ ms'.length ∧ SM w0 σ b q' st v' ms' ∧ smallM 7 ms' ∧ l = [ptr b, v', .int .i64 (i : Nat)]) ?_
    ⟨0, q, v, ms, rfl, by omega, by omega, h, hs.more (by omega), rfl⟩
  rintro m l st L ⟨i, q', v', ms', hm, hq', hil, hsm, hss, rfl⟩ hL
  simp only [vget, List.getD_cons_zero, List.getD_cons_succ]
  rw [hsm.read.len]
  refine spec_pick (n := 2) hsm.rd (by omega) (by omega) fun j s1 hj hrd1 hd1 _ => ?_
  have k1 : Keeps (st.del b) (s1.del b) := by rw [hd1]; exact Keeps.refl _
  have h1 := hsm.next hrd1 k1
  have hl7 := hss.1
  rw [pBin_add (by omega), pBin_lt, pIf_d]
  refine ⟨fun hlt => ?_, fun _ => ?_⟩
  · rw [pBin_add (by omega), show (100 : Int) + (i : Nat) = ((100 + i : Nat) : Int) by omega]
    refine spec_l1Dec (by omega) fun s2 k2 => ?_
    have h2 := h1.next (h1.rd.kept k2) (keeps_del k2)
    have hz10 := decZ_nat (100 + i)
    have hszd := (decN_size (100 + i)).2
    have e1 : (⟨#[122]⟩ : ByteArray).size = 1 := rfl
    rw [pBin_cat (by rw [hz10, e1]; omega), pVal1 rfl]
    have hnsz : ((⟨#[122]⟩ : ByteArray) ++ decZ ((100 + i : Nat) : Int)).size ≤ 1000000 := by rw [ByteArray.size_append, hz10, e1]; omega
    generalize (⟨#[122]⟩ : ByteArray) ++ decZ ((100 + i : Nat) : Int) = nm at hnsz
    intro n1 g1 g2
    obtain ⟨hne, hrd3, k3⟩ := h2.rd.new (r := ⟨t_string, [.string nm], 1, (0, 0)⟩) g2
    have kput : Keeps s2 (s2.put n1 ⟨t_string, [.string nm], 1, (0, 0)⟩) := Keeps.put g2
    have op := OAcc.single (w0 := w0) (σ := s2) (ok_str w0) (ety := t_string) (n := 1) (es := [.string nm]) (f := []) (y := nm) g1 g2 ⟨rfl, rfl, by omega⟩
    rw [pVal1 rfl, pVal_2 rfl rfl]
    obtain ⟨F, q1, q2, q3, q4⟩ := h2
    have q4' := q4.frame (ok_mkA w0) (kput.but_at fun i hi => (q4.dom (ok_mkA w0) i hi).2)
    refine q4'.one (ok_mkA w0) (f := [n1]) (y := ([nm], false)) ⟨_, rfl, op⟩ (fun i hi hi' => (q4.dom (ok_mkA w0) i hi').2 (by rw [List.mem_singleton.1 hi]; exact g2)) (by omega) (by omega) fun v4 F4 s4 k4 o4 f4 => ?_
    rw [pBin_add (by omega)]
    have hbF : b ∉ F := fun hb => (q3 b hb).2 rfl
    have hsb : s4 b = (s2.put n1 ⟨t_string, [.string nm], 1, (0, 0)⟩ : Vw) b := by
      cases hb : (s2.put n1 ⟨t_string, [.string nm], 1, (0, 0)⟩ : Vw) b with
      | none => exact absurd hb hrd3.at
      | some r => exact k4 b r hb hbF
    have K3 := q2.trans k3
    have K4 : Keeps (σ.del b) (s4.del b) := fun i r hi => by
      obtain ⟨e1', e2'⟩ := del_some hi
      have e3' := K3 i r hi
      rw [del_ne e1'] at e3' ⊢
      exact k4 i r e3' fun hf => by rw [(q3 i hf).1] at hi; cases hi
    have hn1 : (σ.del b) n1 = none ∧ n1 ≠ b := by
      refine ⟨?_, hne⟩
      rw [del_ne hne]; exact none_out q2 hne g2
    refine hL _ _ (m - 1) (by omega) ⟨i + 1, q' + 1, v4, ms' ++ [([nm], false)], by omega, by omega, by rw [List.length_append]; simp only [List.length_singleton]; omega, ⟨F4, hrd3.keep hsb, K4, fun z hz => ?_, o4⟩, ⟨by rw [List.length_append]; simp only [List.length_singleton]; omega, fun mm hmm => ?_⟩, by simp⟩
    · rcases f4 z hz with e | e | e
      · exact q3 z e
      · rw [List.mem_singleton.1 e]; exact hn1
      · have hzb : z ≠ b := fun e' => hrd3.at (e' ▸ e)
        refine ⟨?_, hzb⟩
        rw [del_ne hzb]; exact none_out K3 hzb e
    · rcases List.mem_append.1 hmm with e | e
      · exact hss.2 mm e
      · rw [List.mem_singleton.1 e]; simp
  · exact hR v' ms' s1 (hrd1.more (by omega)) h1.keeps h1.read (hss.more (by omega))
set_option maxHeartbeats 4000000 in
theorem spec_l13Spoil {b p : Nat} {v : Value} {ms : List Mk} (h : RD w0 σ b p) (hp : p ≤ 800000) (hv : RSl 2 RMk (Av.get w0 (σ.del b)) v ms) (hs : smallM 6 ms) {R : Value → Vw → Prop} (hR : OutMR w0 σ b (p + 20) 8 R) : AC Tryz.prog w0 n_spec_l13Spoil [ptr b, v] σ R := by
  refine ac_spec_l13Spoil ?_
  unfold vc_spec_l13Spoil
  refine h.hide (R := fun w s => Keeps (σ.del b) s ∧ ∃ F, OAcc w0 t_impl_Mark 2 (OMkA w0) s F w ms ∧ ∀ i, i ∈ F → (σ.del b) i = none)
    (spec_copyMA hv (by have := hs.1; omega) (fun m hm => by have := hs.2 m hm; omega) fun w F s k o f => ⟨k, F, o, f⟩) (fun w s k hrd ⟨_, F, o, f⟩ => ?_) fun w s h => h.1
  have hFb : ∀ i, i ∈ F → i ≠ b := fun i hi e => (o.dom (ok_mkA w0) i hi).2 (by rw [e]; exact del_at)
  have hsm : SM w0 σ b p s w ms := ⟨F, hrd, k, fun i hi => ⟨f i hi, hFb i hi⟩, o.frame (ok_mkA w0) fun i hi => (del_ne (hFb i hi)).symm⟩
  clear o f hFb k hrd
  have fill : ∀ (s' : Vw) (q : Nat), SM w0 σ b q s' w ms → q + 10 ≤ p + 20 → VMF w0 (ptr b) w s' R := fun s' q h' hq => marks_fill h' (by omega) hs fun v' ms' s'' r1 r2 r3 r4 => hR v' ms' s'' (r1.more (by omega)) r2 r3 r4
  have hl6 := hs.1
  rw [hsm.read.len, pBin_eq, pIf_d]
  refine ⟨fun _ => fill s p hsm (by omega), fun hne => ?_⟩
  refine spec_pick (n := 4) hsm.rd (by omega) (by omega) fun j s1 hj hrd1 hd1 _ => ?_
  have k1 : Keeps (s.del b) (s1.del b) := by rw [hd1]; exact Keeps.refl _
  have h1 := hsm.next hrd1 k1
  rw [pBin_eq, pIf_d]
  refine ⟨fun _ => fill s1 (p + 1) h1 (by omega), fun _ => ?_⟩
  rw [h1.read.len]
  refine spec_pick hrd1 (by omega) (by omega) fun kk s2 hkk hrd2 hd2 _ => ?_
  have k2 : Keeps (s1.del b) (s2.del b) := by rw [hd2]; exact Keeps.refl _
  refine spec_pick (n := 4) hrd2 (by omega) (by omega) fun j3 s3 hj3 hrd3 hd3 _ => ?_
  have k3 : Keeps (s2.del b) (s3.del b) := by rw [hd3]; exact Keeps.refl _
  have h3 := (h1.next hrd2 k2).next hrd3 k3
  have hmk := List.getElem?_eq_getElem hkk
  generalize ms[kk]'hkk = mk at hmk
  have hmkl := hs.2 mk (List.mem_of_getElem? hmk)
  have h30 := h3
  obtain ⟨F, q1, q2, q3, q4⟩ := h3
  obtain ⟨bl, o, f, u, r, A, C, hix, hbl, hr, hcells, hA, ho, hblF, hfF, hput⟩ := mark_at q4 hmk
  have hblb : bl ≠ b := (q3 bl hblF).2
  -- what is handed back once the mark is written
  have fin : ∀ (s' : Vw) (q : Nat) (u' : Value) (d' : Bool) (p' : List ByteArray) (r' : Row), RD w0 s' b q → q ≤ p + 20 → Keeps (σ.del b) (s'.del b) → s' bl = some r' → r'.cells = A ++ ([u', .bool d'] ++ C) → RSl 1 RS (Av.get w0 (s'.del b)) u' p' → p'.length ≤ 8 → (∀ i, i ∈ F → i ≠ bl → i ∉ f → s' i = s3 i) → R w s' := by
    intro s' q u' d' p' r' t1 t2 t3 t4 t5 t6 t7 t8
    refine hR w (ms.set kk (p', d')) s' (t1.more t2) t3 (hput (s'.del b) u' d' p' r' (by rw [del_ne hblb]; exact t4) t5 t6 fun i hi h1 h2 => by rw [del_ne (q3 i hi).2]; exact t8 i hi h1 h2) ⟨by rw [List.length_set]; omega, fun m hm => ?_⟩
    rcases List.mem_or_eq_of_mem_set hm with e | e
    · have := hs.2 m e; omega
    · rw [e]; exact t7
  have husF : ∀ s' : Vw, (∀ i, i ∈ f → s' i = s3 i) → RSl 1 RS (Av.get w0 (s'.del b)) u mk.1 := fun s' hf => (OSl.frame (σ' := s'.del b) (ok_str w0) ho.osl fun i hi => by rw [del_ne (q3 i (hfF i hi).1).2]; exact hf i hi).rel (ok_str w0)
  -- a store into the mark's row
  have stK : ∀ (s' : Vw) (c : List Value), Keeps (σ.del b) (s'.del b) → Keeps (σ.del b) ((s'.put bl ⟨r.ety, A ++ (c ++ C), r.cap, r.fz⟩).del b) := fun s' c k i x hi => by
    obtain ⟨e1, e2⟩ := del_some hi
    have e3 := k i x hi
    rw [del_ne e1] at e3 ⊢
    have e4 : i ≠ bl := fun e => by rw [e, (q3 bl hblF).1] at hi; cases hi
    rw [put_ne e4]; exact e3
  rw [pBin_eq, pIf_d]
  refine ⟨fun _ => ?_, fun _ => ?_⟩
  · refine hix _ ?_
    refine field_load (c := [u, .bool mk.2]) hbl hr hcells hA (by rfl) fun g hg => ?_
    rw [hg, pUn_not]
    refine hix _ ?_
    refine field_store (c := [u, .bool mk.2]) hr hcells hA (by simp) rfl ?_
    simp only [List.set_cons_succ, List.set_cons_zero]
    exact fin _ (p + 1 + 1 + 1) u (!mk.2) mk.1 ⟨r.ety, A ++ ([u, .bool (!mk.2)] ++ C), r.cap, r.fz⟩ (q1.keep (put_ne hblb.symm)) (by omega) (stK s3 _ q2) put_at rfl (husF _ fun i hi => put_ne (hfF i hi).2) (by omega) fun i hi e1 e2 => put_ne e1
  rw [pBin_eq, pIf_d]
  refine ⟨fun _ => ?_, fun _ => ?_⟩
  · refine hix _ ?_
    refine field_ldp (c := [u, .bool mk.2]) hbl hr hcells hA (by rfl) fun g hg => ?_
    rw [hg, pVal1 rfl, pVal1 rfl, pVal1 rfl]
    intro n1 g1 g2
    have hsz : ∀ x, x ∈ [(⟨#[97]⟩ : ByteArray), ⟨#[]⟩, ⟨#[120]⟩] → x.size ≤ 7 := by
      intro x hx
      simp at hx
      rcases hx with rfl | rfl | rfl <;> decide
    have kput := Keeps.put (r := ⟨t_string, [.string ⟨#[97]⟩, .string ⟨#[]⟩, .string ⟨#[120]⟩], 3, (0, 0)⟩) g2
    obtain ⟨hne, hrd4, k4⟩ := q1.new (r := ⟨t_string, [.string ⟨#[97]⟩, .string ⟨#[]⟩, .string ⟨#[120]⟩], 3, (0, 0)⟩) g2
    refine ⟨kput.stay, ?_⟩
    have hrow := row_strs (xs := [(⟨#[97]⟩ : ByteArray), ⟨#[]⟩, ⟨#[120]⟩]) (k := 3) (s := (s3.put n1 ⟨t_string, [.string ⟨#[97]⟩, .string ⟨#[]⟩, .string ⟨#[120]⟩], 3, (0, 0)⟩).del b) g1 (by rw [del_ne hne]; exact put_at) (fun x hx => by have := hsz x hx; omega) (by simp)
    have hs4 : ∀ i, s3 i ≠ none → (s3.put n1 ⟨t_string, [.string ⟨#[97]⟩, .string ⟨#[]⟩, .string ⟨#[120]⟩], 3, (0, 0)⟩ : Vw) i = s3 i := fun i hi => put_ne fun e => hi (e ▸ g2)
    refine spec_of hrd4 (by omega) hrow (by simp) fun x s5 hx hrd5 hd5 ho5 => ?_
    have hxs := hsz x hx
    have h35 : ∀ i, i ≠ b → s3 i ≠ none → s5 i = s3 i := fun i h1 h2 => by rw [ho5 i h1]; exact hs4 i h2
    refine ⟨stay_at (ho5 bl hblb), ?_⟩
    rw [pVal1 rfl]
    have ho' := ho.frame (σ' := s5) (ok_str w0) fun i hi => h35 i (q3 i (hfF i hi).1).2 (ho.dom (ok_str w0) i hi).2
    refine ho'.one (ok_str w0) (f := []) (y := x) ⟨rfl, rfl, by omega⟩ (fun i hi => by cases hi) (by omega) (by omega) fun v7 f7 s7 k7 o7 g7 => ?_
    have hr5 : s5 bl = some r := by rw [h35 bl hblb (by rw [hr]; simp)]; exact hr
    have hblf : bl ∉ f := fun h => (hfF bl h).2 rfl
    have hr7 : s7 bl = some r := k7 bl r hr5 hblf
    have hbf : b ∉ f := fun h => (q3 b (hfF b h).1).2 rfl
    have hs7b : s7 b = s5 b := by
      cases hb : s5 b with
      | none => exact absurd hb hrd5.at
      | some rr => exact k7 b rr hb hbf
    have K5 : Keeps (σ.del b) (s5.del b) := by rw [hd5]; exact q2.trans k4
    have K7 : Keeps (σ.del b) (s7.del b) := fun i rr hi => by
      obtain ⟨e1, e2⟩ := del_some hi
      have e3 := K5 i rr hi
      rw [del_ne e1] at e3 ⊢
      exact k7 i rr e3 fun hf => by rw [(q3 i (hfF i hf).1).1] at hi; cases hi
    refine hix _ ?_
    refine field_store (c := [u, .bool mk.2]) hr7 hcells hA (by simp) (OSl.one' o7.osl) ?_
    simp only [List.set_cons_succ, List.set_cons_zero]
    have hf7 : ∀ i, i ∈ f7 → i ≠ bl ∧ i ≠ b := fun i hi => by
      rcases g7 i hi with e | e | e
      · exact ⟨(hfF i e).2, (q3 i (hfF i e).1).2⟩
      · cases e
      · exact ⟨fun e' => (by rw [e', hr5] at e; cases e), fun e' => hrd5.at (e' ▸ e)⟩
    refine fin _ (p + 1 + 1 + 1 + 1) v7 mk.2 (mk.1 ++ [x]) ⟨r.ety, A ++ ([v7, .bool mk.2] ++ C), r.cap, r.fz⟩ ((hrd5.keep hs7b).keep (put_ne hblb.symm)) (by omega) (stK s7 _ K7) put_at rfl ?_ (by rw [List.length_append]; simp only [List.length_singleton]; omega) fun i hi e1 e2 => ?_
    · exact (OSl.frame (σ' := (s7.put bl ⟨r.ety, A ++ ([v7, .bool mk.2] ++ C), r.cap, r.fz⟩).del b) (ok_str w0) o7.osl fun i hi => by rw [del_ne (hf7 i hi).2, put_ne (hf7 i hi).1]).rel (ok_str w0)
    · rw [put_ne e1]
      have h3n := (q4.dom (ok_mkA w0) i hi).2
      have e5 := h35 i (q3 i hi).2 h3n
      cases hs3 : s3 i with
      | none => exact absurd hs3 h3n
      | some rr => exact k7 i rr (by rw [e5]; exact hs3) e2
  rw [pBin_eq, pIf_d]
  refine ⟨fun _ => ?_, fun _ => ?_⟩
  · obtain ⟨F2, hF2, o2⟩ := OAcc.to_base (ok_mkA w0) (D := [b]) q4 fun i hi h => (q3 i hi).2 (List.mem_singleton.1 h)
    have okB := ok_base rok_mk w0 (Av.get w0 (s3.delF ([b] ++ F2)))
    refine ((OAcc.osl o2).rel okB).at hmk fun g hg => ?_
    have hg0 : RMk (Av.get w0 (s3.delF ([b] ++ F2))) (expl g 0 2) mk := hg
    obtain ⟨uu, hgu, ru⟩ := hg
    simp only [expl, List.cons.injEq, and_true] at hgu
    rw [hgu.1, hgu.2, pVal_2 ru.one rfl]
    refine o2.one okB (f := []) (y := mk) ⟨rfl, ⟨uu, rfl, ru⟩⟩ (fun i hi => by cases hi) (by omega) (by omega) fun v7 F7 s7 k7 o7 g7 => ?_
    have hbF2 : b ∉ F2 := fun h => (q3 b (hF2 b h)).2 rfl
    have hs7b : s7 b = s3 b := by
      cases hb : s3 b with
      | none => exact absurd hb q1.at
      | some rr => exact k7 b rr hb hbF2
    have K7 : Keeps (σ.del b) (s7.del b) := fun i rr hi => by
      obtain ⟨e1, e2⟩ := del_some hi
      have e3 := q2 i rr hi
      rw [del_ne e1] at e3 ⊢
      exact k7 i rr e3 fun hf => by rw [(q3 i (hF2 i hf)).1] at hi; cases hi
    have hF7b : ∀ i, i ∈ F7 → i ≠ b := fun i hi e => by
      rcases g7 i hi with e' | e' | e'
      · exact hbF2 (e ▸ e')
      · cases e'
      · exact q1.at (e ▸ e')
    refine hR v7 _ s7 ((q1.keep hs7b).more (by omega)) K7 (RSl.unbase rok_mk ((OSl.frame (σ' := s7.del b) okB (OAcc.osl o7) fun i hi => del_ne (hF7b i hi)).rel okB) (Keeps.le fun i rr hi => ?_)) ⟨by rw [List.length_append]; simp only [List.length_singleton]; omega, fun m hm => ?_⟩
    · obtain ⟨e1, e2⟩ := delF_some hi
      have e3 : i ≠ b := fun e => e1 (by simp [e])
      rw [del_ne e3]
      exact k7 i rr e2 fun h => e1 (by simp [h])
    · rcases List.mem_append.1 hm with e | e
      · have := hs.2 m e; omega
      · rw [List.mem_singleton.1 e]; omega
  · intro n1 g1 g2
    have hs4 : ∀ i, s3 i ≠ none → (s3.put n1 ⟨t_string, [], 0, (0, 0)⟩ : Vw) i = s3 i := fun i hi => put_ne fun e => hi (e ▸ g2)
    obtain ⟨hne, hrd4, k4⟩ := q1.new (r := ⟨t_string, [], 0, (0, 0)⟩) g2
    have hr4 : (s3.put n1 ⟨t_string, [], 0, (0, 0)⟩ : Vw) bl = some r := by rw [hs4 bl (by rw [hr]; simp)]; exact hr
    refine hix _ ?_
    refine field_store (c := [u, .bool mk.2]) hr4 hcells hA (by simp) rfl ?_
    simp only [List.set_cons_succ, List.set_cons_zero]
    refine fin _ (p + 1 + 1 + 1) _ mk.2 [] ⟨r.ety, A ++ ([.slice (some ⟨n1, 0, none⟩) 0 0, .bool mk.2] ++ C), r.cap, r.fz⟩ (hrd4.keep (put_ne hblb.symm)) (by omega) (stK _ _ (q2.trans k4)) put_at rfl nil_path (by simp) fun i hi e1 e2 => ?_
    rw [put_ne e1]
    exact hs4 i (q4.dom (ok_mkA w0) i hi).2

theorem spec_l13Any {b p n : Nat} {es : List Value} {x : Tr} (h : RD w0 σ b p) (hp : p ≤ 700000) (ht : RT n (Av.get w0 (σ.del b)) es x) (hs : szT n x ≤ 1000000000) {R : Value → Vw → Prop} (hR : OutMR w0 σ b (p + 400) 8 R) : AC Tryz.prog w0 n_spec_l13Any [ptr b, .agg ⟨es⟩] σ R := by
  have ht0 := ht
  obtain ⟨c0, c1, c2, c3, c4, rfl, hp5⟩ := ht.shape
  refine ac_spec_l13Any ?_
  unfold vc_spec_l13Any
  rw [hp5]
  simp only [cellOf_agg, List.getD_cons_zero, List.getD_cons_succ]
  refine spec_l13Trail h (by omega) ht0 hs fun v ms s1 hrd1 k1 hv hvs => ?_
  refine spec_pick (n := 20) hrd1 (by omega) (by omega) fun j s2 hj hrd2 hd2 _ => ?_
  have k2 : Keeps (s1.del b) (s2.del b) := by rw [hd2]; exact Keeps.refl _
  have hv2 := hv.mono k2.le fun _ _ => mono_mk k2.le
  rw [pBin_eq, pIf_d]
  refine ⟨fun _ => ?_, fun _ => hR v ms s2 (hrd2.more (by omega)) (k1.trans k2) hv2 (hvs.more (by omega))⟩
  exact spec_l13Spoil hrd2 (by omega) hv2 hvs fun v' ms' s3 r1 r2 r3 r4 => hR v' ms' s3 (r1.more (by omega)) ((k1.trans k2).trans r2) r3 r4
end
end Go.Proofs.YtkbhjejalkbogaaGreat

/- Whether all that differs is marked, by either hand; 'TrailCovers' and its law. -/
set_option linter.unusedVariables false
set_option linter.unusedSimpArgs false
set_option maxRecDepth 20000
namespace Go.Proofs.YtkbhjejalkbogaaGreat
open Go Go.Av

section
variable {w0 : World} {σ : Vw}

end
end Go.Proofs.YtkbhjejalkbogaaGreat

/- What a trail leads to, by the program's hand. -/
set_option linter.unusedVariables false
set_option linter.unusedSimpArgs false
set_option maxRecDepth 20000
namespace Go.Proofs.YtkbhjejalkbogaaGreat
open Go Go.Av

section
variable {w0 : World} {σ : Vw}

end
end Go.Proofs.YtkbhjejalkbogaaGreat

/- What a trail leads to, by the reference's hand: a row of its own that holds the entries and the looks. -/
set_option linter.unusedVariables false
set_option linter.unusedSimpArgs false
set_option maxRecDepth 20000
namespace Go.Proofs.YtkbhjejalkbogaaGreat
open Go Go.Av

section
variable {w0 : World} {σ : Vw}

end
end Go.Proofs.YtkbhjejalkbogaaGreat

/- 'TrailDiff' by either hand, and its law. -/
set_option linter.unusedVariables false
set_option linter.unusedSimpArgs false
set_option maxRecDepth 20000
namespace Go.Proofs.YtkbhjejalkbogaaGreat
open Go Go.Av

section
variable {w0 : World} {σ : Vw}

end
end Go.Proofs.YtkbhjejalkbogaaGreat

/- What is marked stays marked; a trail that covers leads to all that differs: pure. -/
set_option linter.unusedVariables false
set_option linter.unusedSimpArgs false
set_option maxRecDepth 20000
namespace Go.Proofs.YtkbhjejalkbogaaGreat
open Go Go.Av

/-! ### Marks are not forgotten -/
theorem under_iff {l : List Mk} {p : List ByteArray} : underB l p = true ↔ ∃ x, x ∈ l ∧ x.2 = true ∧ x.1 <+: p := by
  unfold underB
  rw [List.any_eq_true]
  refine ⟨fun ⟨x, hx, h⟩ => ?_, fun ⟨x, hx, h1, h2⟩ => ⟨x, hx, by rw [h1, within_iff.2 h2]; rfl⟩⟩
  rw [Bool.and_eq_true] at h
  exact ⟨x, hx, h.1, within_iff.1 h.2⟩
theorem marked_iff {l : List Mk} {p : List ByteArray} : markedB l p = true ↔ (∃ x, x ∈ l ∧ x.2 = true ∧ x.1 <+: p) ∨ ∃ x, x ∈ l ∧ x.1 = p := by
  unfold markedB
  rw [Bool.or_eq_true, under_iff, List.any_eq_true]
  refine or_congr Iff.rfl ⟨fun ⟨x, hx, h⟩ => ⟨x, hx, of_decide_eq_true h⟩, fun ⟨x, hx, h⟩ => ⟨x, hx, decide_eq_true h⟩⟩
theorem put_or {l : List Mk} {m x : Mk} (h : x ∈ l) : x ∈ putM l m ∨ (m ∈ putM l m ∧ m.2 = true ∧ m.1 <+: x.1) := by
  unfold putM
  split
  · exact .inl h
  · by_cases hk : keepM m x = true
    · exact .inl (ins_mem.2 (.inr (List.mem_filter.2 ⟨h, hk⟩)))
    · have : m.2 = true ∧ within x.1 m.1 = true := by
        unfold keepM at hk
        simpa using hk
      exact .inr ⟨ins_mem.2 (.inl rfl), this.1, within_iff.1 this.2⟩
theorem put_under {l : List Mk} {m : Mk} {p : List ByteArray} (h : underB l p = true) : underB (putM l m) p = true := by
  obtain ⟨x, hx, h1, h2⟩ := under_iff.1 h
  rcases put_or (m := m) hx with e | ⟨e, e1, e2⟩
  · exact under_iff.2 ⟨x, e, h1, h2⟩
  · exact under_iff.2 ⟨m, e, e1, e2.trans h2⟩
theorem put_marked {l : List Mk} {m : Mk} {p : List ByteArray} (h : markedB l p = true) : markedB (putM l m) p = true := by
  rcases marked_iff.1 h with hu | ⟨x, hx, rfl⟩
  · exact marked_iff.2 (.inl (under_iff.1 (put_under (under_iff.2 hu))))
  · rcases put_or (m := m) hx with e | ⟨e, e1, e2⟩
    · exact marked_iff.2 (.inr ⟨x, e, rfl⟩)
    · exact marked_iff.2 (.inl ⟨m, e, e1, e2⟩)
theorem put_new {l : List Mk} {m : Mk} : (m.2 = true → underB (putM l m) m.1 = true) ∧ markedB (putM l m) m.1 = true := by
  by_cases hc : (underB l m.1 || (!m.2 && markedB l m.1)) = true
  · have e : putM l m = l := by unfold putM; rw [if_pos hc]
    rw [e]
    rw [Bool.or_eq_true] at hc
    rcases hc with hc | hc
    · exact ⟨fun _ => hc, marked_iff.2 (.inl (under_iff.1 hc))⟩
    · rw [Bool.and_eq_true] at hc
      exact ⟨fun h => by rw [h] at hc; simp at hc, hc.2⟩
  · have e : putM l m = insF m (l.filter (keepM m)) := by unfold putM; rw [if_neg hc]
    have hm : m ∈ putM l m := by rw [e]; exact ins_mem.2 (.inl rfl)
    exact ⟨fun h => under_iff.2 ⟨m, hm, h, List.prefix_refl _⟩, marked_iff.2 (.inr ⟨m, hm, rfl⟩)⟩
theorem Lp.under {l r : List Mk} {p : List ByteArray} (h : Lp l r) (hu : underB l p = true) : underB r p = true := by
  induction h with
  | stop h => exact hu
  | step h h' ih => exact ih (put_under hu)
theorem Lp.marked {l r : List Mk} {p : List ByteArray} (h : Lp l r) (hu : markedB l p = true) : markedB r p = true := by
  induction h with
  | stop h => exact hu
  | step h h' ih => exact ih (put_marked hu)
theorem AddR.marked {ms r : List Mk} {x : Mk} (h : AddR ms x r) (hok : trailOk ms = true) {p : List ByteArray} (hp : markedB ms p = true) : markedB r p = true := by
  rcases h with ⟨h1, _⟩ | ⟨_, _, rfl⟩ | ⟨_, _, _, h4⟩
  · rw [hok] at h1; cases h1
  · exact hp
  · exact h4.marked (put_marked hp)
theorem AddR.new {ms r : List Mk} {x : Mk} (h : AddR ms x r) (hok : trailOk ms = true) (hx : markOkB x = true) : (x.2 = true → underB r x.1 = true) ∧ markedB r x.1 = true := by
  rcases h with ⟨h1, _⟩ | ⟨_, h2, _⟩ | ⟨_, _, _, h4⟩
  · rw [hok] at h1; cases h1
  · rw [hx] at h2; cases h2
  · exact ⟨fun h => h4.under (put_new.1 h), h4.marked put_new.2⟩
theorem Lp.len {l r : List Mk} (h : Lp l r) : r.length ≤ 6 := by
  induction h with
  | stop h => exact h
  | step _ _ ih => exact ih
/-- The other way round: when a trail is sound. -/
theorem trail_of {l : List Mk} (h : TrP l) (hl : l.length ≤ 6) (hm : ∀ x, x ∈ l → markOkB x = true) : trailOk l = true := by
  have hg : allGood l := fun j x hj => by
    unfold goodAt
    rw [hm x (List.mem_of_getElem? hj), Bool.true_and, Bool.and_eq_true]
    obtain ⟨hjl, hje⟩ := List.getElem?_eq_some_iff.1 hj
    refine ⟨?_, ?_⟩
    · cases j with
      | zero => rfl
      | succ i =>
        unfold afterB
        have hi := List.getElem?_eq_getElem (show i < l.length by omega)
        show (match l[i]? with | some y => lexLt y.1 x.1 | none => true) = true
        rw [hi]
        simp only
        have := List.pairwise_iff_getElem.1 h.1 i (i + 1) (by omega) hjl (by omega)
        rw [← hje]; exact this
    · cases hu : underB (l.take j) x.1 with
      | false => rfl
      | true =>
        exfalso
        obtain ⟨y, hy, h1, h2⟩ := under_iff.1 hu
        obtain ⟨i, hi⟩ := List.getElem?_of_mem hy
        rw [List.getElem?_take] at hi
        split at hi
        · rename_i hij
          have hyl := List.mem_of_getElem? hi
          have e : y = x := h.2 y hyl x (List.mem_of_getElem? hj) h1 (within_iff.2 h2)
          obtain ⟨hil, hie⟩ := List.getElem?_eq_some_iff.1 hi
          have hlt := List.pairwise_iff_getElem.1 h.1 i j hil hjl hij
          rw [hie, hje, e, lexLt_irrefl] at hlt
          cases hlt
        · cases hi
  rw [trail_good hg]
  exact decide_eq_true (by omega)
theorem names_take {xs : List ByteArray} {j : Nat} (h : allNames xs = true) : allNames (xs.take j) = true := by
  rw [allNames_iff] at h ⊢
  intro i x hx
  rw [List.getElem?_take] at hx
  split at hx
  · exact h i x hx
  · cases hx
theorem up_ok {x : Mk} (h : markOkB x = true) : markOkB (upM x) = true := by
  unfold upM markOkB at *
  simp only at h ⊢
  split
  · rfl
  · rename_i hne
    by_cases h0 : x.1 = []
    · rw [h0] at hne; simp at hne
    · rw [if_neg h0] at h
      simp only [Bool.and_eq_true, inB, decide_eq_true_eq] at h ⊢
      have hl : 0 < (x.1.take (x.1.length - 1)).length := List.length_pos_iff.2 hne
      refine ⟨names_take h.1, by omega, ?_⟩
      have := List.length_take_le (x.1.length - 1) x.1
      have := h.2.2
      rw [List.length_take]; omega
theorem best_mem {l : List Mk} (h : l ≠ []) : bestM l ∈ l := List.mem_of_getElem? (best_at h)
theorem Lp.ok {l r : List Mk} (h : Lp l r) (ht : TrP l) (hm : ∀ x, x ∈ l → markOkB x = true) : TrP r ∧ ∀ x, x ∈ r → markOkB x = true := by
  induction h with
  | stop h => exact ⟨ht, hm⟩
  | @step l r h h' ih =>
    refine ih ht.put fun x hx => ?_
    rcases put_mem hx with e | e
    · rw [e]
      exact up_ok (hm _ (best_mem fun e => by rw [e] at h; simp at h))
    · exact hm x e
theorem AddR.ok {ms r : List Mk} {x : Mk} (h : AddR ms x r) (hok : trailOk ms = true) : trailOk r = true := by
  obtain ⟨t1, t2, t3⟩ := trail_TrP hok
  rcases h with ⟨h1, _⟩ | ⟨_, _, rfl⟩ | ⟨_, h2, _, h4⟩
  · rw [hok] at h1; cases h1
  · exact hok
  · obtain ⟨q1, q2⟩ := h4.ok t1.put fun y hy => by
      rcases put_mem hy with e | e
      · rw [e]; exact h2
      · exact t3 y e
    exact trail_of q1 h4.len q2
/-- Marked once more nothing changes. -/
theorem AddR.again {ms r r' : List Mk} {x : Mk} (h : AddR ms x r) (hok : trailOk ms = true) (h' : AddR r x r') : r' = r := by
  have hrok := h.ok hok
  by_cases hx : markOkB x = true
  · obtain ⟨n1, n2⟩ := h.new hok hx
    have e : putM r x = r := by
      unfold putM
      rw [if_pos]
      cases h2 : x.2 with
      | true => rw [n1 h2]; rfl
      | false => rw [n2]; simp
    have hl := (trail_TrP hrok).2.1
    exact h'.det (.inr (.inr ⟨hrok, hx, hl, by rw [e]; exact .stop hl⟩))
  · have hx' : markOkB x = false := by simpa using hx
    exact h'.det (.inr (.inl ⟨hrok, hx', rfl⟩))

/-! ### A trail that covers leads to all that differs -/
end Go.Proofs.YtkbhjejalkbogaaGreat

/- Two trees and a trail that are drawn; a trail and a mark that are drawn; trails compared. -/
set_option linter.unusedVariables false
set_option linter.unusedSimpArgs false
set_option maxRecDepth 20000
namespace Go.Proofs.YtkbhjejalkbogaaGreat
open Go Go.Av Go.RowKit

section
variable {w0 : World} {σ : Vw}

/-- A drawn trail and a mark. -/
abbrev OutAdd (w0 : World) (σ : Vw) (R : Value → Vw → Prop) : Prop := ∀ v ms es (m : Mk) s, Keeps σ s → RSl 2 RMk (Av.get w0 s) v ms → smallM 8 ms → RMk (Av.get w0 s) es m → m.1.length ≤ 4 → R (.tuple ⟨[v, .agg ⟨es⟩]⟩) s
theorem spec_DrawTrailAdd {u : Value} {bs : List Nat} (h : Bytes w0 u bs) {R : Value → Vw → Prop} (hR : OutAdd w0 σ R) : AC Tryz.prog w0 n_spec_DrawTrailAdd [u] σ R := by
  refine ac_spec_DrawTrailAdd ?_
  unfold vc_spec_DrawTrailAdd
  refine spec_l1Open h fun b s1 hrd1 hd1 hb1 => ?_
  refine spec_l4Tree hrd1 (by omega) fun es x s2 hrd2 k2 hx hxs => ?_
  have hx0 := hx
  obtain ⟨f0, f1, f2, f3, f4, rfl, hp5⟩ := hx.shape
  rw [hp5]
  simp only [cellOf_agg, List.getD_cons_zero, List.getD_cons_succ]
  refine spec_l13Any hrd2 (by omega) hx0 (by omega) fun v ms s3 hrd3 k3 hv hvs => ?_
  refine spec_l13Mark hrd3 (by omega) (mono_rt _ _ _ _ _ k3.le hx0) (by omega) fun cs m s4 hrd4 k4 hm hml => ?_
  have hm0 := hm
  obtain ⟨w, rfl, rw'⟩ := hm
  rw [pVal_2 rw'.one rfl]
  simp only [cellOf_agg, List.getD_cons_zero, List.getD_cons_succ]
  exact hR v ms _ m s4 (draw_keeps hd1 ((k2.trans k3).trans k4)) (hv.mono (k4.trans del_keeps).le fun _ _ => mono_mk (k4.trans del_keeps).le) hvs (mono_mk del_le hm0) hml

/-- A drawn tree and a call. -/
abbrev OutTC (w0 : World) (σ : Vw) (R : Value → Vw → Prop) : Prop := ∀ es (x : Tr) cs c s, Keeps σ s → RT 16 (Av.get w0 s) es x → szT 16 x ≤ 50000000 → RCl (Av.get w0 s) cs c → R (.tuple ⟨[.agg ⟨es⟩, .agg ⟨cs⟩]⟩) s
theorem spec_DrawTrailOf {u : Value} {bs : List Nat} (h : Bytes w0 u bs) {R : Value → Vw → Prop} (hR : OutTC w0 σ R) : AC Tryz.prog w0 n_spec_DrawTrailOf [u] σ R := by
  refine ac_spec_DrawTrailOf ?_
  unfold vc_spec_DrawTrailOf
  refine ac_spec_DrawTreeDo ?_
  unfold vc_spec_DrawTreeDo
  refine spec_l1Open h fun b s1 hrd1 hd1 hb1 => ?_
  refine spec_l4Any hrd1 (by omega) fun es x s2 hrd2 k2 hx hxs => ?_
  have hx0 := hx
  obtain ⟨f0, f1, f2, f3, f4, rfl, hp5⟩ := hx.shape
  rw [hp5]
  simp only [cellOf_agg, List.getD_cons_zero, List.getD_cons_succ]
  refine spec_l4Call hrd2 (by omega) hx0 (by omega) fun cs c s3 hrd3 k3 hc hcs => ?_
  have hc0 := hc
  have hc5 := @RCl.five _ _ _ hc
  obtain ⟨c0, c1, c2, c3, c4, rfl⟩ := hc.shape
  simp only [hp5, hc5, cellOf_agg, List.getD_cons_zero, List.getD_cons_succ]
  rw [pExtract_s rfl, pExtract_s rfl, hp5, hc5]
  simp only [cellOf_agg, List.getD_cons_zero, List.getD_cons_succ]
  exact hR _ x _ c s3 (draw_keeps hd1 (k2.trans k3)) (mono_rt _ _ _ _ _ (k3.trans del_keeps).le hx0) hxs (mono_cl del_le hc0)

/-! ### Compared -/
theorem wuMarks {v v' : Value} {ms ms' : List Mk} (h : RSl 2 RMk (Av.get w0 σ) v ms) (h' : RSl 2 RMk (Av.get w0 σ) v' ms') {R : Value → Vw → Prop} (hR : R (.bool (decide (ms = ms'))) σ) : AC Tryz.prog w0 n_laws_wuMarks [v, v'] σ R := by
  refine ac_laws_wuMarks ?_
  unfold vc_laws_wuMarks
  have hl : ms.length ≤ 9223372036854775807 := h.le
  rw [h.len, h'.len, pBin_ne, pIf_d]
  have no : ms ≠ ms' → R (.bool false) σ := fun e => by simpa [e] using hR
  refine ⟨fun hne => no fun e => hne (by rw [e]), fun heq => ?_⟩
  have hlen : ms.length = ms'.length := by omega
  refine loop_rule (m := ms.length) (fun m l s => ∃ j, s = σ ∧ m + j = ms.length ∧ ms.take j = ms'.take j ∧ l = [v, v', .bool false, .int .i64 (j : Nat)]) ?_ ⟨0, rfl, by omega, by simp, rfl⟩
  rintro m l s L ⟨j, rfl, hm, ht, rfl⟩ hL
  simp only [vget, List.getD_cons_zero, List.getD_cons_succ]
  rw [h.len, pBin_lt, pIf_d]
  refine ⟨fun hj => ?_, fun hj => ?_⟩
  · have hx := List.getElem?_eq_getElem (show j < ms.length by omega)
    have hy := List.getElem?_eq_getElem (show j < ms'.length by omega)
    generalize ms[j]'(by omega) = a at hx
    generalize ms'[j]'(by omega) = c at hy
    have nx : ¬ (a = c) → R (.bool false) s := fun e => no fun e' => e (by subst e'; rw [hx] at hy; exact Option.some.inj hy)
    refine h.atfp hx 0 (by omega) fun q0 es g hg0 hg => ?_
    obtain ⟨u, rfl, hu⟩ := hg0
    simp only [List.getElem?_cons_zero, List.getElem?_cons_succ, Option.some.injEq] at hg
    refine h'.atfp hy 0 (by omega) fun q1 es g' hg1 hg' => ?_
    obtain ⟨u', rfl, hu'⟩ := hg1
    simp only [List.getElem?_cons_zero, List.getElem?_cons_succ, Option.some.injEq] at hg'
    rw [← hg, ← hg']
    refine wtTexts hu hu' ?_
    rw [pUn_not, pIf_b]
    refine ⟨fun hne => nx fun e => by subst e; simp at hne, fun he => ?_⟩
    have he : a.1 = c.1 := by simpa using he
    refine h.atfp hx 1 (by omega) fun q0 es g hg0 hg => ?_
    obtain ⟨w, rfl, hw⟩ := hg0
    simp only [List.getElem?_cons_zero, List.getElem?_cons_succ, Option.some.injEq] at hg
    refine h'.atfp hy 1 (by omega) fun q1 es g' hg1 hg' => ?_
    obtain ⟨w', rfl, hw'⟩ := hg1
    simp only [List.getElem?_cons_zero, List.getElem?_cons_succ, Option.some.injEq] at hg'
    rw [← hg, ← hg']
    have eb : ∀ K : Value → Prop, pBin Tryz.prog 4 .neq (.bool a.2) (.bool c.2) K ↔ K (.bool !(a.2 == c.2)) := fun K => pBin_b (by kernel_rfl) rfl
    rw [eb, pIf_b]
    refine ⟨fun hne => nx fun e => by subst e; simp at hne, fun he2 => ?_⟩
    have he2 : a.2 = c.2 := by simpa using he2
    rw [pBin_add (by omega)]
    refine hL _ _ (m - 1) (by omega) ⟨j + 1, rfl, by omega, ?_, by simp⟩
    have e : a = c := by cases a; cases c; simp only at he he2; rw [he, he2]
    rw [List.take_add_one, List.take_add_one, hx, hy, ht, e]
  · have hj' : j = ms.length := by omega
    subst hj'
    rw [List.take_length, hlen, List.take_length] at ht
    subst ht
    simpa using hR
theorem wtHead {v v' : Value} {p q : List ByteArray} (h : RSl 1 RS (Av.get w0 σ) v p) (h' : RSl 1 RS (Av.get w0 σ) v' q) {R : Value → Vw → Prop} (hR : R (.bool (within p q)) σ) : AC Tryz.prog w0 n_laws_wtHead [v, v'] σ R := by
  refine ac_laws_wtHead ?_
  unfold vc_laws_wtHead
  rw [h.len, h'.len, pBin_ge, pIf_d]
  refine ⟨fun hge => ?_, fun hlt => ?_⟩
  · rw [h'.len]
    refine RSl.take h (by omega) fun w hw => ?_
    refine wtTexts hw h' ?_
    have e : within p q = decide (p.take q.length = q) := by
      unfold within
      have : q.length ≤ p.length := by omega
      simp [this]
    rw [← e]; exact hR
  · have e : within p q = false := by
      unfold within
      have : ¬ q.length ≤ p.length := by omega
      simp [this]
    rw [← e]; exact hR
theorem wuMarked {v u : Value} {ms : List Mk} {p : List ByteArray} (h : RSl 2 RMk (Av.get w0 σ) v ms) (hu : RSl 1 RS (Av.get w0 σ) u p) {R : Value → Vw → Prop} (hR : R (.bool (markedB ms p)) σ) : AC Tryz.prog w0 n_laws_wuMarked [v, u] σ R := by
  refine ac_laws_wuMarked ?_
  unfold vc_laws_wuMarked
  have hl : ms.length ≤ 9223372036854775807 := h.le
  have yes : markedB ms p = true → R (.bool true) σ := fun e => by rw [← e]; exact hR
  refine loop_rule (m := ms.length) (fun m l s => ∃ j, s = σ ∧ m + j = ms.length ∧ (∀ i x, i < j → ms[i]? = some x → x.1 ≠ p ∧ (x.2 = true → ¬ x.1 <+: p)) ∧ l = [v, u, .bool false, .int .i64 (j : Nat)]) ?_ ⟨0, rfl, by omega, fun i x hi => absurd hi (by omega), rfl⟩
  rintro m l s L ⟨j, rfl, hm, ht, rfl⟩ hL
  simp only [vget, List.getD_cons_zero, List.getD_cons_succ]
  rw [h.len, pBin_lt, pIf_d]
  refine ⟨fun hj => ?_, fun hj => ?_⟩
  · have hx := List.getElem?_eq_getElem (show j < ms.length by omega)
    generalize ms[j]'(by omega) = a at hx
    have hmem := List.mem_of_getElem? hx
    refine h.atfp hx 0 (by omega) fun q0 es g hg0 hg => ?_
    obtain ⟨w, rfl, hw⟩ := hg0
    simp only [List.getElem?_cons_zero, List.getElem?_cons_succ, Option.some.injEq] at hg
    rw [← hg]
    refine wtTexts hw hu ?_
    rw [pIf_b]
    refine ⟨fun e => yes (marked_iff.2 (.inr ⟨a, hmem, of_decide_eq_true e⟩)), fun hne => ?_⟩
    have hne : a.1 ≠ p := by simpa using hne
    have next : (a.2 = true → ¬ a.1 <+: p) → pBin Tryz.prog 3 .add (.int .i64 (j : Nat)) (.int .i64 1) (fun v18 => L [v, u, .bool false, v18] s) := fun ha => by
      rw [pBin_add (by omega)]
      refine hL _ _ (m - 1) (by omega) ⟨j + 1, rfl, by omega, fun i x hi hxi => ?_, by simp⟩
      by_cases e : i = j
      · subst e; rw [hx] at hxi; cases hxi; exact ⟨hne, ha⟩
      · exact ht i x (by omega) hxi
    refine h.atfp hx 1 (by omega) fun q0 es g' hg0 hg' => ?_
    obtain ⟨w', rfl, hw'⟩ := hg0
    simp only [List.getElem?_cons_zero, List.getElem?_cons_succ, Option.some.injEq] at hg'
    rw [← hg', pIf_b]
    refine ⟨fun ha => ?_, fun ha => next fun e => by rw [e] at ha; cases ha⟩
    refine h.atfp hx 0 (by omega) fun q0 es g'' hg0 hg'' => ?_
    obtain ⟨w'', rfl, hw''⟩ := hg0
    simp only [List.getElem?_cons_zero, List.getElem?_cons_succ, Option.some.injEq] at hg''
    rw [← hg'']
    refine wtHead hu hw'' ?_
    rw [pIf_b]
    refine ⟨fun e => yes (marked_iff.2 (.inl ⟨a, hmem, ha, within_iff.1 e⟩)), fun e => next fun _ e' => ?_⟩
    rw [within_iff.2 e'] at e; cases e
  · have hj' : j = ms.length := by omega
    have e : markedB ms p = false := by
      cases hmk : markedB ms p with
      | false => rfl
      | true =>
        rcases marked_iff.1 hmk with ⟨x, hx, h1, h2⟩ | ⟨x, hx, h1⟩
        · obtain ⟨i, hi⟩ := List.getElem?_of_mem hx
          exact absurd h2 ((ht i x (by have := (List.getElem?_eq_some_iff.1 hi).1; omega) hi).2 h1)
        · obtain ⟨i, hi⟩ := List.getElem?_of_mem hx
          exact absurd h1 (ht i x (by have := (List.getElem?_eq_some_iff.1 hi).1; omega) hi).1
    rw [e] at hR
    exact hR
end
end Go.Proofs.YtkbhjejalkbogaaGreat

/- Entries compared; where there is no difference; the law 'DiffNone', of the functions alone. -/
set_option linter.unusedVariables false
set_option linter.unusedSimpArgs false
set_option maxRecDepth 20000
namespace Go.Proofs.YtkbhjejalkbogaaGreat
open Go Go.Av Go.RowKit

section
variable {w0 : World} {σ : Vw}

end
end Go.Proofs.YtkbhjejalkbogaaGreat

/- The laws TrailMore and TrailAdd. -/
set_option linter.unusedVariables false
set_option linter.unusedSimpArgs false
set_option maxRecDepth 20000
namespace Go.Proofs.YtkbhjejalkbogaaGreat
open Go Go.Av Go.RowKit

section
variable {w0 : World} {σ : Vw}

theorem mark_one {s : Vw} {n' : Nat} {w : Value} {m : Mk} (hn : w0.heap.size ≤ n') (hr : s n' = some ⟨t_impl_Mark, [w, .bool m.2], 2, (0, 0)⟩) (hw : RSl 1 RS (Av.get w0 s) w m.1) : RSl 2 RMk (Av.get w0 s) (.slice (some ⟨n', 0, none⟩) 1 1) [m] := by
  refine RSl.own (xs := [m]) (cs := [[w, .bool m.2]]) (tail := []) hn hr rfl (fun c hc => by rw [List.mem_singleton.1 hc]; rfl) rfl (by simp) fun j c x hj hx => ?_
  cases j with
  | zero => cases hj; cases hx; exact ⟨_, rfl, hw⟩
  | succ j => cases hj
theorem trail_one {m : Mk} : trailOk [m] = true ↔ markOkB m = true := by
  refine ⟨fun h => (trail_TrP h).2.2 m (List.mem_singleton.2 rfl), fun h => ?_⟩
  refine trail_of ⟨List.pairwise_singleton _ _, fun x hx y hy _ _ => by rw [List.mem_singleton.1 hx, List.mem_singleton.1 hy]⟩ (by simp) fun x hx => by rw [List.mem_singleton.1 hx]; exact h

set_option maxHeartbeats 4000000 in
theorem law_TrailAddF {u u' : Value} {bs bs' : List Nat} (h : Bytes w0 u bs) (h' : Bytes w0 u' bs') {R : Value → Vw → Prop} (hR : ∀ s, R (.bool true) s) : AC Tryz.prog w0 n_laws_FnTrailAdd [u, u'] σ R := by
  refine ac_laws_FnTrailAdd ?_
  unfold vc_laws_FnTrailAdd
  rw [h.len, pBin_gt, pIf_d]
  refine ⟨fun _ => hR _, fun _ => ?_⟩
  rw [h'.len, pBin_gt, pIf_d]
  refine ⟨fun _ => hR _, fun _ => ?_⟩
  refine spec_DrawTrailAdd h fun v ms cs m s1 k1 hv hvs hm hml => ?_
  have hm0 := hm
  obtain ⟨w, rfl, rw'⟩ := hm
  rw [pExtract_s rfl, pExtract_s rfl, pVal_2 rw'.one rfl]
  simp only [cellOf_agg, List.getD_cons_zero, List.getD_cons_succ]
  have tv : ∀ {s : Vw}, Keeps s1 s → RSl 2 RMk (Av.get w0 s) v ms := fun k => hv.mono k.le fun _ _ => mono_mk k.le
  have tm : ∀ {s : Vw}, Keeps s1 s → RMk (Av.get w0 s) _ m := fun k => mono_mk k.le hm0
  refine impl_TrailAdd (tv (Keeps.refl _)) (tm (Keeps.refl _)) fun r hr v2 F2 s2 k2 o2 _ => ?_
  refine spec_TrailAdd (tv k2) (tm k2) fun r' hr' v3 F3 s3 k3 o3 _ => ?_
  have er := hr'.det hr
  subst er
  have r2 := o2.rel (ok_mk w0)
  have K3 := k2.trans k3
  refine wuMarks (r2.mono k3.le fun _ _ => mono_mk k3.le) (o3.rel (ok_mk w0)) ?_
  rw [decide_eq_true rfl, pUn_not, pIf_b]
  refine ⟨fun h => by simp at h, fun _ => ?_⟩
  refine impl_TrailOk (tv K3) ?_
  refine spec_TrailOk (tv K3) ?_
  have eb : ∀ (p q : Bool) (K : Value → Prop), pBin Tryz.prog 4 .neq (.bool p) (.bool q) K ↔ K (.bool !(p == q)) := fun p q K => pBin_b (by kernel_rfl) rfl
  rw [eb, pIf_b]
  refine ⟨fun h => by simp at h, fun _ => ?_⟩
  refine spec_DrawTrailOf h' fun es x ce c s4 k4 hx hxs hc => ?_
  have hx0 := hx
  have hc0 := hc
  obtain ⟨f0, f1, f2, f3, f4, rfl, hp5⟩ := hx.shape
  have hc5 := @RCl.five _ _ _ hc
  obtain ⟨c0, c1, c2, c3, c4, rfl⟩ := hc.shape
  rw [pExtract_s rfl, pExtract_s rfl, hp5, hc5]
  simp only [cellOf_agg, List.getD_cons_zero, List.getD_cons_succ]
  refine impl_TrailOf hx0 hc0 (by omega) fun v5 F5 s5 k5 o5 _ => ?_
  refine spec_TrailOf (mono_rt _ _ _ _ _ k5.le hx0) (mono_cl k5.le hc0) (by omega) fun v6 F6 s6 k6 o6 _ => ?_
  refine wuMarks ((o5.rel (ok_mk w0)).mono k6.le fun _ _ => mono_mk k6.le) (o6.rel (ok_mk w0)) ?_
  rw [decide_eq_true rfl, pUn_not, pIf_b]
  refine ⟨fun h => by simp at h, fun _ => ?_⟩
  have k36 := (k4.trans k5).trans k6
  have K6 := K3.trans k36
  have k26 := k3.trans k36
  refine spec_TrailOk (tv K6) ?_
  have r6 := r2.mono k26.le fun _ _ => mono_mk k26.le
  rw [pUn_not, pIf_b]
  refine ⟨fun hno => ?_, fun hok => ?_⟩
  · have hno : trailOk ms = false := by simpa using hno
    have e : r' = [] := by
      rcases hr' with ⟨_, e⟩ | ⟨h1, _⟩ | ⟨h1, _⟩
      · exact e
      · rw [hno] at h1; cases h1
      · rw [hno] at h1; cases h1
    subst e
    rw [r6.len, pBin_eq]
    exact hR _
  · have hok : trailOk ms = true := by simpa using hok
    have hl : ms.length ≤ 9223372036854775807 := hv.le
    have tail : ∀ s, Keeps s6 s → pVal true 2 (.agg (⟨[w, .bool m.2]⟩)) (pNew w0 t_impl_Mark [w, .bool m.2] s (fun n51 s52 => AC Tryz.prog w0 n_spec_TrailOk [.slice (some (Addr.mk n51 0 none)) 1 1] s52 (fun v53 s54 => AC Tryz.prog w0 n_impl_TrailOk [v2] s54 (fun v55 s56 => pIf v55 (pUn UnOp.not v53 (fun v57 => pIf v57 (AC Tryz.prog w0 n_impl_TrailAdd ([v2, .agg (⟨[w, .bool m.2]⟩)]) s56 (fun v58 s59 => AC Tryz.prog w0 n_laws_wuMarks [v58, v2] s59 (fun v60 s61 => R v60 s61))) (AC Tryz.prog w0 n_laws_wuMarked [v2, w] s56 (fun v62 s63 => pIf v62 (AC Tryz.prog w0 n_impl_TrailAdd ([v2, .agg (⟨[w, .bool m.2]⟩)]) s63 (fun v64 s65 => AC Tryz.prog w0 n_laws_wuMarks [v64, v2] s65 (fun v66 s67 => R v66 s67))) (R (.bool false) s63))))) (R (.bool false) s56))))) := fun s ks => by
      rw [pVal_2 rw'.one rfl]
      intro n1 g1 g2
      have kp := Keeps.put (r := ⟨t_impl_Mark, [w, .bool m.2], 2, (0, 0)⟩) g2
      have Ks := (K6.trans ks).trans kp
      have ks2 := ((k26.trans ks).trans kp)
      have r2' := r2.mono ks2.le fun _ _ => mono_mk ks2.le
      have hw1 : RSl 1 RS (Av.get w0 (s.put n1 ⟨t_impl_Mark, [w, .bool m.2], 2, (0, 0)⟩)) w m.1 := rw'.mono Ks.le fun _ _ h => h
      refine spec_TrailOk (mark_one g1 put_at hw1) ?_
      refine impl_TrailOk r2' ?_
      rw [hr'.ok hok, pIf_b]
      refine ⟨fun _ => ?_, fun h => by cases h⟩
      have again : AC Tryz.prog w0 n_impl_TrailAdd ([v2, .agg (⟨[w, .bool m.2]⟩)]) (s.put n1 ⟨t_impl_Mark, [w, .bool m.2], 2, (0, 0)⟩) (fun v58 s59 => AC Tryz.prog w0 n_laws_wuMarks [v58, v2] s59 (fun v60 s61 => R v60 s61)) := by
        refine impl_TrailAdd r2' (tm Ks) fun r2 hr2 v7 F7 s7 k7 o7 _ => ?_
        have e := hr'.again hok hr2
        subst e
        refine wuMarks (o7.rel (ok_mk w0)) (r2'.mono k7.le fun _ _ => mono_mk k7.le) ?_
        rw [decide_eq_true rfl]
        exact hR _
      rw [pUn_not, pIf_b]
      refine ⟨fun _ => again, fun hmk => ?_⟩
      have hmk : trailOk [m] = true := by simpa using hmk
      refine wuMarked r2' hw1 ?_
      rw [(hr'.new hok (trail_one.1 hmk)).2, pIf_b]
      exact ⟨fun _ => again, fun h => by cases h⟩
    refine loop_rule (m := ms.length) (fun c l s => ∃ j, s = s6 ∧ c + j = ms.length ∧ l = [.bool false, v, v2, .int .i64 (j : Nat), w, .bool m.2]) ?_ ⟨0, rfl, by omega, rfl⟩
    rintro c l s L ⟨j, rfl, hc', rfl⟩ hL
    simp only [vget, List.getD_cons_zero, List.getD_cons_succ]
    have hv6 := tv K6
    rw [hv6.len, pBin_lt, pIf_d]
    refine ⟨fun hj => ?_, fun _ => ?_⟩
    · have hxj := List.getElem?_eq_getElem (show j < ms.length by omega)
      generalize ms[j]'(by omega) = a at hxj
      refine hv6.atfp hxj 0 (by omega) fun q0 es g hg0 hg => ?_
      obtain ⟨wa, rfl, hwa⟩ := hg0
      simp only [List.getElem?_cons_zero, List.getElem?_cons_succ, Option.some.injEq] at hg
      rw [← hg]
      refine wuMarked r6 hwa ?_
      have hmk : markedB r' a.1 = true := hr'.marked hok (marked_iff.2 (.inr ⟨a, List.mem_of_getElem? hxj, rfl⟩))
      rw [hmk, pUn_not, pIf_b]
      refine ⟨fun h => by simp at h, fun _ => ?_⟩
      rw [pBin_add (by omega)]
      exact hL _ _ (c - 1) (by omega) ⟨j + 1, rfl, by omega, by simp⟩
    · exact tail s (Keeps.refl _)
end
end Go.Proofs.YtkbhjejalkbogaaGreat

/- The law FnTrailAdd holds: it returns true, and the input reads as it did. No condition. -/
namespace Go.Proofs.YtkbhjejalkbogaaGreat.fnTrailAdd
open Go.ChangeShapes Go.WideShapes Go.ChangeAt Go.RowKit Go.Av
set_option linter.unusedVariables false
set_option linter.unusedSimpArgs false
theorem own : ownKnob Tryz.prog.godebug = none := by kernel_rfl
theorem laidOut : laidOutB Tryz.prog = true := by kernel_rfl
set_option maxRecDepth 100000 in
theorem lifted (os : Os) (started : os.Started) (H : Type) (enc : TypeId × Value → H) :
    ReturnsInHanded {} Tryz.checked os 5 .any (Rows.fnTrailAddSpec.pre6 enc Tryz.prog Tryz.f5 Rows.fnTrailAddRow.domain false) (Rows.fnTrailAddSpec.post enc Tryz.prog Tryz.f5 false true false false) := by
  refine returnsInHanded_of_change_sized (C := Tryz.checked) own started (by kernel_rfl) Tryz.func5
    (ChangeSpec.witness6 (enc := enc) (C := Tryz.checked) false ⟨#[], #[.slice none 0 0, .slice none 0 0], []⟩ 8 (by kernel_rfl) (by kernel_rfl) (by kernel_rfl) (by kernel_rfl)) ?_
  intro W base args ds gs before hval0 hW hcnd hsz0 _
  have hval : ∀ (j : Nat) t v, Tryz.f5.params[j]? = some t → args[j]? = some v → Value.okWide Tryz.prog W .any base t v := hval0
  have hW' := hW
  obtain ⟨p, q, hA0, hV, rfl, hfz, hnd⟩ := hW
  have hA : DataW.TrodAll enc Tryz.prog W 0 (fun _ => true) true Tryz.f5.params.toList args.toList ds p := hA0
  rw [Tryz.params5] at hA hval
  obtain ⟨v0, v1, d0, d1, p0, p1, rfl, rfl, hpp, h0, h1⟩ := trodAll_two hA
  obtain ⟨rfl, rfl⟩ := trodVars_none hV
  obtain ⟨A0, len0, cap0, rfl⟩ := okWide_slice (t := 22) (e := 5) (by kernel_rfl) (hval 0 22 v0 rfl rfl)
  obtain ⟨A1, len1, cap1, rfl⟩ := okWide_slice (t := 22) (e := 5) (by kernel_rfl) (hval 1 22 v1 rfl rfl)
  have h0k := h0
  obtain ⟨fuel0, hf0⟩ := h0
  have h1k := h1
  obtain ⟨fuel1, hf1⟩ := h1
  clear hA0 hval0 hsz0
  simp only [List.append_nil] at hW'
  have hlt : ∀ x ∈ p, x.block < W.heap.size := fun x hx => by simpa using hW'.lt x hx
  have hargs0 : ∀ (W' : World), Below W.heap.size W W' → DataW.Trod enc Tryz.prog W' 0 (fun b => decide (b < W.heap.size)) true 22 (.slice A0 len0 cap0) d0 p0 :=
    fun W' hn => Below.trod laidOut (by kernel_rfl) (of_decide_eq_true (by kernel_rfl)) h0k hn (fun x hx => hlt x (by rw [hpp]; simp [hx]))
  have hargs1 : ∀ (W' : World), Below W.heap.size W W' → DataW.Trod enc Tryz.prog W' 0 (fun b => decide (b < W.heap.size)) true 22 (.slice A1 len1 cap1) d1 p1 :=
    fun W' hn => Below.trod laidOut (by kernel_rfl) (of_decide_eq_true (by kernel_rfl)) h1k hn (fun x hx => hlt x (by rw [hpp]; simp [hx]))
  obtain ⟨u0, x0, hu0, r0⟩ := open_rsl (t := t_s_uint8) (e := t_uint8) (by kernel_rfl) (by kernel_rfl) open_byte hf0
  have hu0' : u0 = .slice A0 len0 cap0 := by
    have : [Value.slice A0 len0 cap0] = [u0] := hu0
    cases this; rfl
  subst hu0'
  obtain ⟨u1, x1, hu1, r1⟩ := open_rsl (t := t_s_uint8) (e := t_uint8) (by kernel_rfl) (by kernel_rfl) open_byte hf1
  have hu1' : u1 = .slice A1 len1 cap1 := by
    have : [Value.slice A1 len1 cap1] = [u1] := hu1
    cases this; rfl
  subst hu1'
  refine ((law_TrailAddF (R := fun v _ => v = .bool true) r0 r1 (by intros; rfl)).calls).mono fun e W' ⟨v, σ', he, hv, bel⟩ => ?_
  subst he hv
  have hW'' := hW'
  rw [hpp] at hW''
  exact ⟨_, rfl, _, _, _, [], _, [], hW'', trodAll_mk1 (shut_bool Tryz.underlying4 _), trodAll_mk2 (hargs0 W' bel) (hargs1 W' bel), rfl, bel.frame _, fun h => by cases h⟩
theorem over : Rows.fnTrailAddRow.holds Tryz.pinned (OpenSpec.ofChange Rows.fnTrailAddSpec) :=
  OpenClaim.holds_of_wide 5 Tryz.f5 rfl rfl rfl rfl rfl rfl rfl ⟨rfl, rfl, rfl, rfl, rfl⟩ rfl rfl rfl rfl rfl (by kernel_rfl) Tryz.func5 (by kernel_rfl)
    (of_decide_eq_true (by kernel_rfl)) (by unfold Func.isWrapper; first | (rw [if_pos (by decide +kernel)]; kernel_rfl) | (rw [if_neg (by decide +kernel)]; exact ⟨rfl, rfl⟩))
    (fun os started H enc _ => lifted os started H enc)
theorem proved : Rows.FnTrailAddSaid := over
end Go.Proofs.YtkbhjejalkbogaaGreat.fnTrailAdd
namespace Go.Proofs.YtkbhjejalkbogaaGreat
/-- The row, under a short name, for the claim. -/
theorem fnTrailAdd_holds : Rows.FnTrailAddSaid := fnTrailAdd.proved
end Go.Proofs.YtkbhjejalkbogaaGreat
